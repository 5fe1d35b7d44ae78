/-
  No cell of these rows narrows 'for every input' (looked for: loops, veiled, ifaces, maps, wideKeys, modest, calm, conditions, laid).
  DERIVED. THE GIVEN ROWS OF THIS SEAT. 7 by the template 'for every input the law returns true; each argument reads behind the call as it read before'; 0 by the template 'total and deterministic' (their statements: YtbmfjpflhbhhdaaTotals.lean).
  GIVEN WITH THE SEED: the statements are not yours to turn. If you find one false, say at which input.
  Laid BY PROGRAM, IN A SANDBOX (cutbox-rows.mjs): the forced cells as the released guide's own fill.sh prints them over the translation 36bfa0e579b3e81a… (all of the seat's roots in one cut). By AI agents, Wed Nov 11 2026. No macro, syntax, notation, axiom, sorry.
-/
import Derived.Test.YtbmfjpflhbhhdaaChecked
import GoSem.Claim
import GoSem.ClaimJoined
import GoSem.ClaimMapViews
import Derived.JoinedTies
import Derived.KernelRfl
namespace Go.Proofs.Ytbmfjpflhbhhdaa
/- THE CELL 'sum', in the pinned program and in every row, IS THE sha256 OF THE DUMP (.gsa) THAT YtbmfjpflhbhhdaaProg.lean LOADS. Nothing in Lean hashes anything: it is a label: what it is worth is what the hold of that sum in a sandbox is worth. -/
noncomputable def Try.pinned : Pinned := { name := "ytbmfjpflhbhhdaa", sum := "36bfa0e579b3e81acfcb1ee26244e56cea073b7b823b1ed4454bcabade4a56a2", checked := Try.checked }
namespace Rows
def none {H : Type} : Left H := { results := [], args := [] }

/-- 'laws.FnExactNewRequester': WHATEVER THE INPUT: true; the input reads as it did. -/
def fnExactNewRequesterSpec : ChangeSpec := { name := "fnExactNewRequester", fn := fun _ => fun
  | [d] => { results := [.lit (.bool true)], args := [d] }
  | _ => none }
def fnExactNewRequesterRow : OpenClaim := { program := "ytbmfjpflhbhhdaa", sum := "36bfa0e579b3e81acfcb1ee26244e56cea073b7b823b1ed4454bcabade4a56a2", func := "loop.example/g00986/laws.FnExactNewRequester", spec := "fnExactNewRequester", apart := false }
def FnExactNewRequesterSaid : Prop := fnExactNewRequesterRow.holds Try.pinned (OpenSpec.ofChange fnExactNewRequesterSpec)

/-- ITS FALSE NEIGHBOUR: 'it returns false'. Refute it at one input. -/
def fnExactNewRequesterWrong : ChangeSpec := { name := "fnExactNewRequester", fn := fun _ => fun
  | [d] => { results := [.lit (.bool false)], args := [d] }
  | _ => none }
def FnExactNewRequesterWrongFalsely : Prop := fnExactNewRequesterRow.holds Try.pinned (OpenSpec.ofChange fnExactNewRequesterWrong)

/-- 'laws.FnExactRequesterOk': WHATEVER THE INPUT: true; the input reads as it did. -/
def fnExactRequesterOkSpec : ChangeSpec := { name := "fnExactRequesterOk", fn := fun _ => fun
  | [d] => { results := [.lit (.bool true)], args := [d] }
  | _ => none }
def fnExactRequesterOkRow : OpenClaim := { program := "ytbmfjpflhbhhdaa", sum := "36bfa0e579b3e81acfcb1ee26244e56cea073b7b823b1ed4454bcabade4a56a2", func := "loop.example/g00986/laws.FnExactRequesterOk", spec := "fnExactRequesterOk", unfollowed := true, recurses := true, apart := false }
def FnExactRequesterOkSaid : Prop := fnExactRequesterOkRow.holds Try.pinned (OpenSpec.ofChange fnExactRequesterOkSpec)

/-- ITS FALSE NEIGHBOUR: 'it returns false'. Refute it at one input. -/
def fnExactRequesterOkWrong : ChangeSpec := { name := "fnExactRequesterOk", fn := fun _ => fun
  | [d] => { results := [.lit (.bool false)], args := [d] }
  | _ => none }
def FnExactRequesterOkWrongFalsely : Prop := fnExactRequesterOkRow.holds Try.pinned (OpenSpec.ofChange fnExactRequesterOkWrong)

/-- 'laws.FnTimeouts': WHATEVER THE INPUT: true; the input reads as it did. -/
def fnTimeoutsSpec : ChangeSpec := { name := "fnTimeouts", fn := fun _ => fun
  | [d] => { results := [.lit (.bool true)], args := [d] }
  | _ => none }
def fnTimeoutsRow : OpenClaim := { program := "ytbmfjpflhbhhdaa", sum := "36bfa0e579b3e81acfcb1ee26244e56cea073b7b823b1ed4454bcabade4a56a2", func := "loop.example/g00986/laws.FnTimeouts", spec := "fnTimeouts", unfollowed := true, recurses := true, apart := false }
def FnTimeoutsSaid : Prop := fnTimeoutsRow.holds Try.pinned (OpenSpec.ofChange fnTimeoutsSpec)

/-- ITS FALSE NEIGHBOUR: 'it returns false'. Refute it at one input. -/
def fnTimeoutsWrong : ChangeSpec := { name := "fnTimeouts", fn := fun _ => fun
  | [d] => { results := [.lit (.bool false)], args := [d] }
  | _ => none }
def FnTimeoutsWrongFalsely : Prop := fnTimeoutsRow.holds Try.pinned (OpenSpec.ofChange fnTimeoutsWrong)

/-- 'laws.FnRequesters': WHATEVER THE INPUT: true; the input reads as it did. -/
def fnRequestersSpec : ChangeSpec := { name := "fnRequesters", fn := fun _ => fun
  | [d] => { results := [.lit (.bool true)], args := [d] }
  | _ => none }
def fnRequestersRow : OpenClaim := { program := "ytbmfjpflhbhhdaa", sum := "36bfa0e579b3e81acfcb1ee26244e56cea073b7b823b1ed4454bcabade4a56a2", func := "loop.example/g00986/laws.FnRequesters", spec := "fnRequesters", unfollowed := true, recurses := true, apart := false }
def FnRequestersSaid : Prop := fnRequestersRow.holds Try.pinned (OpenSpec.ofChange fnRequestersSpec)

/-- ITS FALSE NEIGHBOUR: 'it returns false'. Refute it at one input. -/
def fnRequestersWrong : ChangeSpec := { name := "fnRequesters", fn := fun _ => fun
  | [d] => { results := [.lit (.bool false)], args := [d] }
  | _ => none }
def FnRequestersWrongFalsely : Prop := fnRequestersRow.holds Try.pinned (OpenSpec.ofChange fnRequestersWrong)

/-- 'laws.FnExactPassTime': WHATEVER THE INPUT: true; the input reads as it did. -/
def fnExactPassTimeSpec : ChangeSpec := { name := "fnExactPassTime", fn := fun _ => fun
  | [d1, d2] => { results := [.lit (.bool true)], args := [d1, d2] }
  | _ => none }
def fnExactPassTimeRow : OpenClaim := { program := "ytbmfjpflhbhhdaa", sum := "36bfa0e579b3e81acfcb1ee26244e56cea073b7b823b1ed4454bcabade4a56a2", func := "loop.example/g00986/laws.FnExactPassTime", spec := "fnExactPassTime", unfollowed := true, recurses := true, apart := false }
def FnExactPassTimeSaid : Prop := fnExactPassTimeRow.holds Try.pinned (OpenSpec.ofChange fnExactPassTimeSpec)

/-- ITS FALSE NEIGHBOUR: 'it returns false'. Refute it at one input. -/
def fnExactPassTimeWrong : ChangeSpec := { name := "fnExactPassTime", fn := fun _ => fun
  | [d1, d2] => { results := [.lit (.bool false)], args := [d1, d2] }
  | _ => none }
def FnExactPassTimeWrongFalsely : Prop := fnExactPassTimeRow.holds Try.pinned (OpenSpec.ofChange fnExactPassTimeWrong)

/-- 'laws.FnExactBeginRead': WHATEVER THE INPUT: true; the input reads as it did. -/
def fnExactBeginReadSpec : ChangeSpec := { name := "fnExactBeginRead", fn := fun _ => fun
  | [d1, d2, d3] => { results := [.lit (.bool true)], args := [d1, d2, d3] }
  | _ => none }
def fnExactBeginReadRow : OpenClaim := { program := "ytbmfjpflhbhhdaa", sum := "36bfa0e579b3e81acfcb1ee26244e56cea073b7b823b1ed4454bcabade4a56a2", func := "loop.example/g00986/laws.FnExactBeginRead", spec := "fnExactBeginRead", unfollowed := true, recurses := true, apart := false }
def FnExactBeginReadSaid : Prop := fnExactBeginReadRow.holds Try.pinned (OpenSpec.ofChange fnExactBeginReadSpec)

/-- ITS FALSE NEIGHBOUR: 'it returns false'. Refute it at one input. -/
def fnExactBeginReadWrong : ChangeSpec := { name := "fnExactBeginRead", fn := fun _ => fun
  | [d1, d2, d3] => { results := [.lit (.bool false)], args := [d1, d2, d3] }
  | _ => none }
def FnExactBeginReadWrongFalsely : Prop := fnExactBeginReadRow.holds Try.pinned (OpenSpec.ofChange fnExactBeginReadWrong)

/-- 'laws.FnExactHandleAnswer': WHATEVER THE INPUT: true; the input reads as it did. -/
def fnExactHandleAnswerSpec : ChangeSpec := { name := "fnExactHandleAnswer", fn := fun _ => fun
  | [d1, d2] => { results := [.lit (.bool true)], args := [d1, d2] }
  | _ => none }
def fnExactHandleAnswerRow : OpenClaim := { program := "ytbmfjpflhbhhdaa", sum := "36bfa0e579b3e81acfcb1ee26244e56cea073b7b823b1ed4454bcabade4a56a2", func := "loop.example/g00986/laws.FnExactHandleAnswer", spec := "fnExactHandleAnswer", unfollowed := true, recurses := true, apart := false }
def FnExactHandleAnswerSaid : Prop := fnExactHandleAnswerRow.holds Try.pinned (OpenSpec.ofChange fnExactHandleAnswerSpec)

/-- ITS FALSE NEIGHBOUR: 'it returns false'. Refute it at one input. -/
def fnExactHandleAnswerWrong : ChangeSpec := { name := "fnExactHandleAnswer", fn := fun _ => fun
  | [d1, d2] => { results := [.lit (.bool false)], args := [d1, d2] }
  | _ => none }
def FnExactHandleAnswerWrongFalsely : Prop := fnExactHandleAnswerRow.holds Try.pinned (OpenSpec.ofChange fnExactHandleAnswerWrong)

/- THE SECOND FORM. 'bulk': how many values and letters a reading holds, each counted each time it is reached (what is shared counts as often as it is met; a slice's spare places count too). A statement '..UptoSaid' is the law's where the arguments, and the package variables that the reading takes, are together of bulk at most 1048576: NARROWER than '..Said'. Prove '..Said' where nothing that the law and all that it calls make is longer than what came in: it says more and counts as full. Else prove '..UptoSaid'. A law counts once. -/
mutual
def uptoBulk {H : Type} : DataW H → Nat
  | .lit (.string bytes) => bytes.length + 1
  | .lit _ => 1
  | .nil => 1
  | .ptr d => uptoBulk d + 1
  | .slice elems spare => uptoBulkAll elems + uptoBulkAll spare + 1
  | .agg parts => uptoBulkAll parts + 1
  | .iface _ d => uptoBulk d + 1
  | .map entries => uptoBulkEntries entries + 1
  | .held _ => 1
def uptoBulkAll {H : Type} : List (DataW H) → Nat
  | [] => 0
  | d :: r => uptoBulk d + uptoBulkAll r
def uptoBulkEntries {H : Type} : List (Lit × DataW H) → Nat
  | [] => 0
  | x :: r => uptoBulkEntry x + uptoBulkEntries r
def uptoBulkEntry {H : Type} : Lit × DataW H → Nat
  | (.string bytes, d) => bytes.length + uptoBulk d + 1
  | (_, d) => uptoBulk d + 1
 end
def uptoSmall : (H : Type) → List (DataW H) → Bool := fun _ ds => decide (uptoBulkAll ds ≤ 1048576)
def OpenSpec.upto (s : _root_.Go.ChangeSpec) : _root_.Go.OpenSpec := { _root_.Go.OpenSpec.ofChange s with cond := some uptoSmall }

/-- 'laws.FnExactNewRequester', WHERE WHAT IT READS IS OF BULK AT MOST 1048576: true; the input reads as it did. -/
def fnExactNewRequesterUptoRow : OpenClaim := { program := "ytbmfjpflhbhhdaa", sum := "36bfa0e579b3e81acfcb1ee26244e56cea073b7b823b1ed4454bcabade4a56a2", func := "loop.example/g00986/laws.FnExactNewRequester", spec := "fnExactNewRequester", apart := false, narrowed := true }
def FnExactNewRequesterUptoSaid : Prop := fnExactNewRequesterUptoRow.holds Try.pinned (OpenSpec.upto fnExactNewRequesterSpec)

/-- 'laws.FnExactRequesterOk', WHERE WHAT IT READS IS OF BULK AT MOST 1048576: true; the input reads as it did. -/
def fnExactRequesterOkUptoRow : OpenClaim := { program := "ytbmfjpflhbhhdaa", sum := "36bfa0e579b3e81acfcb1ee26244e56cea073b7b823b1ed4454bcabade4a56a2", func := "loop.example/g00986/laws.FnExactRequesterOk", spec := "fnExactRequesterOk", unfollowed := true, recurses := true, apart := false, narrowed := true }
def FnExactRequesterOkUptoSaid : Prop := fnExactRequesterOkUptoRow.holds Try.pinned (OpenSpec.upto fnExactRequesterOkSpec)

/-- 'laws.FnTimeouts', WHERE WHAT IT READS IS OF BULK AT MOST 1048576: true; the input reads as it did. -/
def fnTimeoutsUptoRow : OpenClaim := { program := "ytbmfjpflhbhhdaa", sum := "36bfa0e579b3e81acfcb1ee26244e56cea073b7b823b1ed4454bcabade4a56a2", func := "loop.example/g00986/laws.FnTimeouts", spec := "fnTimeouts", unfollowed := true, recurses := true, apart := false, narrowed := true }
def FnTimeoutsUptoSaid : Prop := fnTimeoutsUptoRow.holds Try.pinned (OpenSpec.upto fnTimeoutsSpec)

/-- 'laws.FnRequesters', WHERE WHAT IT READS IS OF BULK AT MOST 1048576: true; the input reads as it did. -/
def fnRequestersUptoRow : OpenClaim := { program := "ytbmfjpflhbhhdaa", sum := "36bfa0e579b3e81acfcb1ee26244e56cea073b7b823b1ed4454bcabade4a56a2", func := "loop.example/g00986/laws.FnRequesters", spec := "fnRequesters", unfollowed := true, recurses := true, apart := false, narrowed := true }
def FnRequestersUptoSaid : Prop := fnRequestersUptoRow.holds Try.pinned (OpenSpec.upto fnRequestersSpec)

/-- 'laws.FnExactPassTime', WHERE WHAT IT READS IS OF BULK AT MOST 1048576: true; the input reads as it did. -/
def fnExactPassTimeUptoRow : OpenClaim := { program := "ytbmfjpflhbhhdaa", sum := "36bfa0e579b3e81acfcb1ee26244e56cea073b7b823b1ed4454bcabade4a56a2", func := "loop.example/g00986/laws.FnExactPassTime", spec := "fnExactPassTime", unfollowed := true, recurses := true, apart := false, narrowed := true }
def FnExactPassTimeUptoSaid : Prop := fnExactPassTimeUptoRow.holds Try.pinned (OpenSpec.upto fnExactPassTimeSpec)

/-- 'laws.FnExactBeginRead', WHERE WHAT IT READS IS OF BULK AT MOST 1048576: true; the input reads as it did. -/
def fnExactBeginReadUptoRow : OpenClaim := { program := "ytbmfjpflhbhhdaa", sum := "36bfa0e579b3e81acfcb1ee26244e56cea073b7b823b1ed4454bcabade4a56a2", func := "loop.example/g00986/laws.FnExactBeginRead", spec := "fnExactBeginRead", unfollowed := true, recurses := true, apart := false, narrowed := true }
def FnExactBeginReadUptoSaid : Prop := fnExactBeginReadUptoRow.holds Try.pinned (OpenSpec.upto fnExactBeginReadSpec)

/-- 'laws.FnExactHandleAnswer', WHERE WHAT IT READS IS OF BULK AT MOST 1048576: true; the input reads as it did. -/
def fnExactHandleAnswerUptoRow : OpenClaim := { program := "ytbmfjpflhbhhdaa", sum := "36bfa0e579b3e81acfcb1ee26244e56cea073b7b823b1ed4454bcabade4a56a2", func := "loop.example/g00986/laws.FnExactHandleAnswer", spec := "fnExactHandleAnswer", unfollowed := true, recurses := true, apart := false, narrowed := true }
def FnExactHandleAnswerUptoSaid : Prop := fnExactHandleAnswerUptoRow.holds Try.pinned (OpenSpec.upto fnExactHandleAnswerSpec)

end Rows
end Go.Proofs.Ytbmfjpflhbhhdaa

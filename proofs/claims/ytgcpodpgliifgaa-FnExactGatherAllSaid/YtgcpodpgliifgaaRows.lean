/-
  No cell of these rows narrows 'for every input' (looked for: loops, veiled, ifaces, maps, wideKeys, modest, calm, conditions, laid).
  DERIVED. THE GIVEN ROWS OF THIS SEAT. 5 by the template 'for every input the law returns true; each argument reads behind the call as it read before'; 0 by the template 'total and deterministic' (their statements: YtgcpodpgliifgaaTotals.lean).
  GIVEN WITH THE SEED: the statements are not yours to turn. If you find one false, say at which input.
  Laid BY PROGRAM, IN A SANDBOX (cutbox-rows.mjs): the forced cells as the released guide's own fill.sh prints them over the translation 07fda9706f2fbe80… (all of the seat's roots in one cut). By AI agents, Wed Nov 11 2026. No macro, syntax, notation, axiom, sorry.
-/
import Derived.Test.YtgcpodpgliifgaaChecked
import GoSem.Claim
import GoSem.ClaimJoined
import GoSem.ClaimMapViews
import Derived.JoinedTies
import Derived.KernelRfl
namespace Go.Proofs.Ytgcpodpgliifgaa
/- THE CELL 'sum', in the pinned program and in every row, IS THE sha256 OF THE DUMP (.gsa) THAT YtgcpodpgliifgaaProg.lean LOADS. Nothing in Lean hashes anything: it is a label: what it is worth is what the hold of that sum in a sandbox is worth. -/
noncomputable def Try.pinned : Pinned := { name := "ytgcpodpgliifgaa", sum := "07fda9706f2fbe80aecf99490c88f3832897d93442841c7ae62a563abae92078", checked := Try.checked }
namespace Rows
def none {H : Type} : Left H := { results := [], args := [] }

/-- 'laws.FnExactGatherOk': WHATEVER THE INPUT: true; the input reads as it did. -/
def fnExactGatherOkSpec : ChangeSpec := { name := "fnExactGatherOk", fn := fun _ => fun
  | [d] => { results := [.lit (.bool true)], args := [d] }
  | _ => none }
def fnExactGatherOkRow : OpenClaim := { program := "ytgcpodpgliifgaa", sum := "07fda9706f2fbe80aecf99490c88f3832897d93442841c7ae62a563abae92078", func := "loop.example/g00986/laws.FnExactGatherOk", spec := "fnExactGatherOk", unfollowed := true, recurses := true, apart := false }
def FnExactGatherOkSaid : Prop := fnExactGatherOkRow.holds Try.pinned (OpenSpec.ofChange fnExactGatherOkSpec)

/-- ITS FALSE NEIGHBOUR: 'it returns false'. Refute it at one input. -/
def fnExactGatherOkWrong : ChangeSpec := { name := "fnExactGatherOk", fn := fun _ => fun
  | [d] => { results := [.lit (.bool false)], args := [d] }
  | _ => none }
def FnExactGatherOkWrongFalsely : Prop := fnExactGatherOkRow.holds Try.pinned (OpenSpec.ofChange fnExactGatherOkWrong)

/-- 'laws.FnGathers': WHATEVER THE INPUT: true; the input reads as it did. -/
def fnGathersSpec : ChangeSpec := { name := "fnGathers", fn := fun _ => fun
  | [d] => { results := [.lit (.bool true)], args := [d] }
  | _ => none }
def fnGathersRow : OpenClaim := { program := "ytgcpodpgliifgaa", sum := "07fda9706f2fbe80aecf99490c88f3832897d93442841c7ae62a563abae92078", func := "loop.example/g00986/laws.FnGathers", spec := "fnGathers", unfollowed := true, recurses := true, apart := false }
def FnGathersSaid : Prop := fnGathersRow.holds Try.pinned (OpenSpec.ofChange fnGathersSpec)

/-- ITS FALSE NEIGHBOUR: 'it returns false'. Refute it at one input. -/
def fnGathersWrong : ChangeSpec := { name := "fnGathers", fn := fun _ => fun
  | [d] => { results := [.lit (.bool false)], args := [d] }
  | _ => none }
def FnGathersWrongFalsely : Prop := fnGathersRow.holds Try.pinned (OpenSpec.ofChange fnGathersWrong)

/-- 'laws.FnExactNewGather': WHATEVER THE INPUT: true; the input reads as it did. -/
def fnExactNewGatherSpec : ChangeSpec := { name := "fnExactNewGather", fn := fun _ => fun
  | [d] => { results := [.lit (.bool true)], args := [d] }
  | _ => none }
def fnExactNewGatherRow : OpenClaim := { program := "ytgcpodpgliifgaa", sum := "07fda9706f2fbe80aecf99490c88f3832897d93442841c7ae62a563abae92078", func := "loop.example/g00986/laws.FnExactNewGather", spec := "fnExactNewGather", unfollowed := true, recurses := true, apart := false }
def FnExactNewGatherSaid : Prop := fnExactNewGatherRow.holds Try.pinned (OpenSpec.ofChange fnExactNewGatherSpec)

/-- ITS FALSE NEIGHBOUR: 'it returns false'. Refute it at one input. -/
def fnExactNewGatherWrong : ChangeSpec := { name := "fnExactNewGather", fn := fun _ => fun
  | [d] => { results := [.lit (.bool false)], args := [d] }
  | _ => none }
def FnExactNewGatherWrongFalsely : Prop := fnExactNewGatherRow.holds Try.pinned (OpenSpec.ofChange fnExactNewGatherWrong)

/-- 'laws.FnExactTakeAnswer': WHATEVER THE INPUT: true; the input reads as it did. -/
def fnExactTakeAnswerSpec : ChangeSpec := { name := "fnExactTakeAnswer", fn := fun _ => fun
  | [d1, d2] => { results := [.lit (.bool true)], args := [d1, d2] }
  | _ => none }
def fnExactTakeAnswerRow : OpenClaim := { program := "ytgcpodpgliifgaa", sum := "07fda9706f2fbe80aecf99490c88f3832897d93442841c7ae62a563abae92078", func := "loop.example/g00986/laws.FnExactTakeAnswer", spec := "fnExactTakeAnswer", unfollowed := true, recurses := true, apart := false }
def FnExactTakeAnswerSaid : Prop := fnExactTakeAnswerRow.holds Try.pinned (OpenSpec.ofChange fnExactTakeAnswerSpec)

/-- ITS FALSE NEIGHBOUR: 'it returns false'. Refute it at one input. -/
def fnExactTakeAnswerWrong : ChangeSpec := { name := "fnExactTakeAnswer", fn := fun _ => fun
  | [d1, d2] => { results := [.lit (.bool false)], args := [d1, d2] }
  | _ => none }
def FnExactTakeAnswerWrongFalsely : Prop := fnExactTakeAnswerRow.holds Try.pinned (OpenSpec.ofChange fnExactTakeAnswerWrong)

/-- 'laws.FnExactGatherAll': WHATEVER THE INPUT: true; the input reads as it did. -/
def fnExactGatherAllSpec : ChangeSpec := { name := "fnExactGatherAll", fn := fun _ => fun
  | [d1, d2] => { results := [.lit (.bool true)], args := [d1, d2] }
  | _ => none }
def fnExactGatherAllRow : OpenClaim := { program := "ytgcpodpgliifgaa", sum := "07fda9706f2fbe80aecf99490c88f3832897d93442841c7ae62a563abae92078", func := "loop.example/g00986/laws.FnExactGatherAll", spec := "fnExactGatherAll", unfollowed := true, recurses := true, apart := false }
def FnExactGatherAllSaid : Prop := fnExactGatherAllRow.holds Try.pinned (OpenSpec.ofChange fnExactGatherAllSpec)

/-- ITS FALSE NEIGHBOUR: 'it returns false'. Refute it at one input. -/
def fnExactGatherAllWrong : ChangeSpec := { name := "fnExactGatherAll", fn := fun _ => fun
  | [d1, d2] => { results := [.lit (.bool false)], args := [d1, d2] }
  | _ => none }
def FnExactGatherAllWrongFalsely : Prop := fnExactGatherAllRow.holds Try.pinned (OpenSpec.ofChange fnExactGatherAllWrong)

/- THE SECOND FORM. 'bulk': how many values and letters a reading holds, each counted each time it is reached (what is shared counts as often as it is met; a slice's spare places count too). A statement '..UptoSaid' is the law's where the arguments, and the package variables that the reading takes, are together of bulk at most 1048576: NARROWER than '..Said'. Prove '..Said' where nothing that the law and all that it calls make is longer than what came in: it says more and counts as full. Else prove '..UptoSaid'. A law counts once. -/
mutual
def uptoBulk {H : Type} : DataW H → Nat
  | .lit (.string bytes) => bytes.length + 1
  | .lit _ => 1
  | .nil => 1
  | .ptr d => uptoBulk d + 1
  | .slice elems spare => uptoBulkAll elems + uptoBulkAll spare + 1
  | .agg parts => uptoBulkAll parts + 1
  | .iface _ d => uptoBulk d + 1
  | .map entries => uptoBulkEntries entries + 1
  | .held _ => 1
def uptoBulkAll {H : Type} : List (DataW H) → Nat
  | [] => 0
  | d :: r => uptoBulk d + uptoBulkAll r
def uptoBulkEntries {H : Type} : List (Lit × DataW H) → Nat
  | [] => 0
  | x :: r => uptoBulkEntry x + uptoBulkEntries r
def uptoBulkEntry {H : Type} : Lit × DataW H → Nat
  | (.string bytes, d) => bytes.length + uptoBulk d + 1
  | (_, d) => uptoBulk d + 1
 end
def uptoSmall : (H : Type) → List (DataW H) → Bool := fun _ ds => decide (uptoBulkAll ds ≤ 1048576)
def OpenSpec.upto (s : _root_.Go.ChangeSpec) : _root_.Go.OpenSpec := { _root_.Go.OpenSpec.ofChange s with cond := some uptoSmall }

/-- 'laws.FnExactGatherOk', WHERE WHAT IT READS IS OF BULK AT MOST 1048576: true; the input reads as it did. -/
def fnExactGatherOkUptoRow : OpenClaim := { program := "ytgcpodpgliifgaa", sum := "07fda9706f2fbe80aecf99490c88f3832897d93442841c7ae62a563abae92078", func := "loop.example/g00986/laws.FnExactGatherOk", spec := "fnExactGatherOk", unfollowed := true, recurses := true, apart := false, narrowed := true }
def FnExactGatherOkUptoSaid : Prop := fnExactGatherOkUptoRow.holds Try.pinned (OpenSpec.upto fnExactGatherOkSpec)

/-- 'laws.FnGathers', WHERE WHAT IT READS IS OF BULK AT MOST 1048576: true; the input reads as it did. -/
def fnGathersUptoRow : OpenClaim := { program := "ytgcpodpgliifgaa", sum := "07fda9706f2fbe80aecf99490c88f3832897d93442841c7ae62a563abae92078", func := "loop.example/g00986/laws.FnGathers", spec := "fnGathers", unfollowed := true, recurses := true, apart := false, narrowed := true }
def FnGathersUptoSaid : Prop := fnGathersUptoRow.holds Try.pinned (OpenSpec.upto fnGathersSpec)

/-- 'laws.FnExactNewGather', WHERE WHAT IT READS IS OF BULK AT MOST 1048576: true; the input reads as it did. -/
def fnExactNewGatherUptoRow : OpenClaim := { program := "ytgcpodpgliifgaa", sum := "07fda9706f2fbe80aecf99490c88f3832897d93442841c7ae62a563abae92078", func := "loop.example/g00986/laws.FnExactNewGather", spec := "fnExactNewGather", unfollowed := true, recurses := true, apart := false, narrowed := true }
def FnExactNewGatherUptoSaid : Prop := fnExactNewGatherUptoRow.holds Try.pinned (OpenSpec.upto fnExactNewGatherSpec)

/-- 'laws.FnExactTakeAnswer', WHERE WHAT IT READS IS OF BULK AT MOST 1048576: true; the input reads as it did. -/
def fnExactTakeAnswerUptoRow : OpenClaim := { program := "ytgcpodpgliifgaa", sum := "07fda9706f2fbe80aecf99490c88f3832897d93442841c7ae62a563abae92078", func := "loop.example/g00986/laws.FnExactTakeAnswer", spec := "fnExactTakeAnswer", unfollowed := true, recurses := true, apart := false, narrowed := true }
def FnExactTakeAnswerUptoSaid : Prop := fnExactTakeAnswerUptoRow.holds Try.pinned (OpenSpec.upto fnExactTakeAnswerSpec)

/-- 'laws.FnExactGatherAll', WHERE WHAT IT READS IS OF BULK AT MOST 1048576: true; the input reads as it did. -/
def fnExactGatherAllUptoRow : OpenClaim := { program := "ytgcpodpgliifgaa", sum := "07fda9706f2fbe80aecf99490c88f3832897d93442841c7ae62a563abae92078", func := "loop.example/g00986/laws.FnExactGatherAll", spec := "fnExactGatherAll", unfollowed := true, recurses := true, apart := false, narrowed := true }
def FnExactGatherAllUptoSaid : Prop := fnExactGatherAllUptoRow.holds Try.pinned (OpenSpec.upto fnExactGatherAllSpec)

end Rows
end Go.Proofs.Ytgcpodpgliifgaa

/-
  No cell of these rows narrows 'for every input' (looked for: loops, veiled, ifaces, maps, wideKeys, modest, calm, conditions, laid).
  DERIVED. THE GIVEN ROWS OF THIS SEAT. 6 by the template 'for every input the law returns true; each argument reads behind the call as it read before'; 0 by the template 'total and deterministic' (their statements: YtndnlafnkknodaaTotals.lean).
  GIVEN WITH THE SEED: the statements are not yours to turn. If you find one false, say at which input.
  Laid BY PROGRAM, IN A SANDBOX (cutbox-rows.mjs): the forced cells as the released guide's own fill.sh prints them over the translation ebe77351a6b93078… (all of the seat's roots in one cut). By AI agents, Wed Nov 11 2026. No macro, syntax, notation, axiom, sorry.
-/
import Derived.Test.YtndnlafnkknodaaChecked
import GoSem.Claim
import GoSem.ClaimJoined
import GoSem.ClaimMapViews
import Derived.JoinedTies
import Derived.KernelRfl
namespace Go.Proofs.Ytndnlafnkknodaa
/- THE CELL 'sum', in the pinned program and in every row, IS THE sha256 OF THE DUMP (.gsa) THAT YtndnlafnkknodaaProg.lean LOADS. Nothing in Lean hashes anything: it is a label: what it is worth is what the hold of that sum in a sandbox is worth. -/
noncomputable def Try.pinned : Pinned := { name := "ytndnlafnkknodaa", sum := "ebe77351a6b930782b2e579aed1d26a80442b8862ed29dd7a67c7d8205d5f655", checked := Try.checked }
namespace Rows
def none {H : Type} : Left H := { results := [], args := [] }

/-- 'laws.FnExactPieceCount': WHATEVER THE INPUT: true; the input reads as it did. -/
def fnExactPieceCountSpec : ChangeSpec := { name := "fnExactPieceCount", fn := fun _ => fun
  | [d1, d2, d3] => { results := [.lit (.bool true)], args := [d1, d2, d3] }
  | _ => none }
def fnExactPieceCountRow : OpenClaim := { program := "ytndnlafnkknodaa", sum := "ebe77351a6b930782b2e579aed1d26a80442b8862ed29dd7a67c7d8205d5f655", func := "loop.example/g00986/laws.FnExactPieceCount", spec := "fnExactPieceCount", apart := false }
def FnExactPieceCountSaid : Prop := fnExactPieceCountRow.holds Try.pinned (OpenSpec.ofChange fnExactPieceCountSpec)

/-- ITS FALSE NEIGHBOUR: 'it returns false'. Refute it at one input. -/
def fnExactPieceCountWrong : ChangeSpec := { name := "fnExactPieceCount", fn := fun _ => fun
  | [d1, d2, d3] => { results := [.lit (.bool false)], args := [d1, d2, d3] }
  | _ => none }
def FnExactPieceCountWrongFalsely : Prop := fnExactPieceCountRow.holds Try.pinned (OpenSpec.ofChange fnExactPieceCountWrong)

/-- 'laws.FnSplits': WHATEVER THE INPUT: true; the input reads as it did. -/
def fnSplitsSpec : ChangeSpec := { name := "fnSplits", fn := fun _ => fun
  | [d] => { results := [.lit (.bool true)], args := [d] }
  | _ => none }
def fnSplitsRow : OpenClaim := { program := "ytndnlafnkknodaa", sum := "ebe77351a6b930782b2e579aed1d26a80442b8862ed29dd7a67c7d8205d5f655", func := "loop.example/g00986/laws.FnSplits", spec := "fnSplits", apart := false }
def FnSplitsSaid : Prop := fnSplitsRow.holds Try.pinned (OpenSpec.ofChange fnSplitsSpec)

/-- ITS FALSE NEIGHBOUR: 'it returns false'. Refute it at one input. -/
def fnSplitsWrong : ChangeSpec := { name := "fnSplits", fn := fun _ => fun
  | [d] => { results := [.lit (.bool false)], args := [d] }
  | _ => none }
def FnSplitsWrongFalsely : Prop := fnSplitsRow.holds Try.pinned (OpenSpec.ofChange fnSplitsWrong)

/-- 'laws.FnExactSplitRange': WHATEVER THE INPUT: true; the input reads as it did. -/
def fnExactSplitRangeSpec : ChangeSpec := { name := "fnExactSplitRange", fn := fun _ => fun
  | [d1, d2, d3] => { results := [.lit (.bool true)], args := [d1, d2, d3] }
  | _ => none }
def fnExactSplitRangeRow : OpenClaim := { program := "ytndnlafnkknodaa", sum := "ebe77351a6b930782b2e579aed1d26a80442b8862ed29dd7a67c7d8205d5f655", func := "loop.example/g00986/laws.FnExactSplitRange", spec := "fnExactSplitRange", apart := false }
def FnExactSplitRangeSaid : Prop := fnExactSplitRangeRow.holds Try.pinned (OpenSpec.ofChange fnExactSplitRangeSpec)

/-- ITS FALSE NEIGHBOUR: 'it returns false'. Refute it at one input. -/
def fnExactSplitRangeWrong : ChangeSpec := { name := "fnExactSplitRange", fn := fun _ => fun
  | [d1, d2, d3] => { results := [.lit (.bool false)], args := [d1, d2, d3] }
  | _ => none }
def FnExactSplitRangeWrongFalsely : Prop := fnExactSplitRangeRow.holds Try.pinned (OpenSpec.ofChange fnExactSplitRangeWrong)

/-- 'laws.FnAnswers': WHATEVER THE INPUT: true; the input reads as it did. -/
def fnAnswersSpec : ChangeSpec := { name := "fnAnswers", fn := fun _ => fun
  | [d] => { results := [.lit (.bool true)], args := [d] }
  | _ => none }
def fnAnswersRow : OpenClaim := { program := "ytndnlafnkknodaa", sum := "ebe77351a6b930782b2e579aed1d26a80442b8862ed29dd7a67c7d8205d5f655", func := "loop.example/g00986/laws.FnAnswers", spec := "fnAnswers", unfollowed := true, recurses := true, apart := false }
def FnAnswersSaid : Prop := fnAnswersRow.holds Try.pinned (OpenSpec.ofChange fnAnswersSpec)

/-- ITS FALSE NEIGHBOUR: 'it returns false'. Refute it at one input. -/
def fnAnswersWrong : ChangeSpec := { name := "fnAnswers", fn := fun _ => fun
  | [d] => { results := [.lit (.bool false)], args := [d] }
  | _ => none }
def FnAnswersWrongFalsely : Prop := fnAnswersRow.holds Try.pinned (OpenSpec.ofChange fnAnswersWrong)

/-- 'laws.FnExactAnswersTo': WHATEVER THE INPUT: true; the input reads as it did. -/
def fnExactAnswersToSpec : ChangeSpec := { name := "fnExactAnswersTo", fn := fun _ => fun
  | [d1, d2, d3, d4] => { results := [.lit (.bool true)], args := [d1, d2, d3, d4] }
  | _ => none }
def fnExactAnswersToRow : OpenClaim := { program := "ytndnlafnkknodaa", sum := "ebe77351a6b930782b2e579aed1d26a80442b8862ed29dd7a67c7d8205d5f655", func := "loop.example/g00986/laws.FnExactAnswersTo", spec := "fnExactAnswersTo", unfollowed := true, recurses := true, apart := false }
def FnExactAnswersToSaid : Prop := fnExactAnswersToRow.holds Try.pinned (OpenSpec.ofChange fnExactAnswersToSpec)

/-- ITS FALSE NEIGHBOUR: 'it returns false'. Refute it at one input. -/
def fnExactAnswersToWrong : ChangeSpec := { name := "fnExactAnswersTo", fn := fun _ => fun
  | [d1, d2, d3, d4] => { results := [.lit (.bool false)], args := [d1, d2, d3, d4] }
  | _ => none }
def FnExactAnswersToWrongFalsely : Prop := fnExactAnswersToRow.holds Try.pinned (OpenSpec.ofChange fnExactAnswersToWrong)

/-- 'laws.FnExactRefusalOf': WHATEVER THE INPUT: true; the input reads as it did. -/
def fnExactRefusalOfSpec : ChangeSpec := { name := "fnExactRefusalOf", fn := fun _ => fun
  | [d1, d2, d3] => { results := [.lit (.bool true)], args := [d1, d2, d3] }
  | _ => none }
def fnExactRefusalOfRow : OpenClaim := { program := "ytndnlafnkknodaa", sum := "ebe77351a6b930782b2e579aed1d26a80442b8862ed29dd7a67c7d8205d5f655", func := "loop.example/g00986/laws.FnExactRefusalOf", spec := "fnExactRefusalOf", unfollowed := true, recurses := true, apart := false }
def FnExactRefusalOfSaid : Prop := fnExactRefusalOfRow.holds Try.pinned (OpenSpec.ofChange fnExactRefusalOfSpec)

/-- ITS FALSE NEIGHBOUR: 'it returns false'. Refute it at one input. -/
def fnExactRefusalOfWrong : ChangeSpec := { name := "fnExactRefusalOf", fn := fun _ => fun
  | [d1, d2, d3] => { results := [.lit (.bool false)], args := [d1, d2, d3] }
  | _ => none }
def FnExactRefusalOfWrongFalsely : Prop := fnExactRefusalOfRow.holds Try.pinned (OpenSpec.ofChange fnExactRefusalOfWrong)

/- THE SECOND FORM. 'bulk': how many values and letters a reading holds, each counted each time it is reached (what is shared counts as often as it is met; a slice's spare places count too). A statement '..UptoSaid' is the law's where the arguments, and the package variables that the reading takes, are together of bulk at most 1048576: NARROWER than '..Said'. Prove '..Said' where nothing that the law and all that it calls make is longer than what came in: it says more and counts as full. Else prove '..UptoSaid'. A law counts once. -/
mutual
def uptoBulk {H : Type} : DataW H → Nat
  | .lit (.string bytes) => bytes.length + 1
  | .lit _ => 1
  | .nil => 1
  | .ptr d => uptoBulk d + 1
  | .slice elems spare => uptoBulkAll elems + uptoBulkAll spare + 1
  | .agg parts => uptoBulkAll parts + 1
  | .iface _ d => uptoBulk d + 1
  | .map entries => uptoBulkEntries entries + 1
  | .held _ => 1
def uptoBulkAll {H : Type} : List (DataW H) → Nat
  | [] => 0
  | d :: r => uptoBulk d + uptoBulkAll r
def uptoBulkEntries {H : Type} : List (Lit × DataW H) → Nat
  | [] => 0
  | x :: r => uptoBulkEntry x + uptoBulkEntries r
def uptoBulkEntry {H : Type} : Lit × DataW H → Nat
  | (.string bytes, d) => bytes.length + uptoBulk d + 1
  | (_, d) => uptoBulk d + 1
 end
def uptoSmall : (H : Type) → List (DataW H) → Bool := fun _ ds => decide (uptoBulkAll ds ≤ 1048576)
def OpenSpec.upto (s : _root_.Go.ChangeSpec) : _root_.Go.OpenSpec := { _root_.Go.OpenSpec.ofChange s with cond := some uptoSmall }

/-- 'laws.FnExactPieceCount', WHERE WHAT IT READS IS OF BULK AT MOST 1048576: true; the input reads as it did. -/
def fnExactPieceCountUptoRow : OpenClaim := { program := "ytndnlafnkknodaa", sum := "ebe77351a6b930782b2e579aed1d26a80442b8862ed29dd7a67c7d8205d5f655", func := "loop.example/g00986/laws.FnExactPieceCount", spec := "fnExactPieceCount", apart := false, narrowed := true }
def FnExactPieceCountUptoSaid : Prop := fnExactPieceCountUptoRow.holds Try.pinned (OpenSpec.upto fnExactPieceCountSpec)

/-- 'laws.FnSplits', WHERE WHAT IT READS IS OF BULK AT MOST 1048576: true; the input reads as it did. -/
def fnSplitsUptoRow : OpenClaim := { program := "ytndnlafnkknodaa", sum := "ebe77351a6b930782b2e579aed1d26a80442b8862ed29dd7a67c7d8205d5f655", func := "loop.example/g00986/laws.FnSplits", spec := "fnSplits", apart := false, narrowed := true }
def FnSplitsUptoSaid : Prop := fnSplitsUptoRow.holds Try.pinned (OpenSpec.upto fnSplitsSpec)

/-- 'laws.FnExactSplitRange', WHERE WHAT IT READS IS OF BULK AT MOST 1048576: true; the input reads as it did. -/
def fnExactSplitRangeUptoRow : OpenClaim := { program := "ytndnlafnkknodaa", sum := "ebe77351a6b930782b2e579aed1d26a80442b8862ed29dd7a67c7d8205d5f655", func := "loop.example/g00986/laws.FnExactSplitRange", spec := "fnExactSplitRange", apart := false, narrowed := true }
def FnExactSplitRangeUptoSaid : Prop := fnExactSplitRangeUptoRow.holds Try.pinned (OpenSpec.upto fnExactSplitRangeSpec)

/-- 'laws.FnAnswers', WHERE WHAT IT READS IS OF BULK AT MOST 1048576: true; the input reads as it did. -/
def fnAnswersUptoRow : OpenClaim := { program := "ytndnlafnkknodaa", sum := "ebe77351a6b930782b2e579aed1d26a80442b8862ed29dd7a67c7d8205d5f655", func := "loop.example/g00986/laws.FnAnswers", spec := "fnAnswers", unfollowed := true, recurses := true, apart := false, narrowed := true }
def FnAnswersUptoSaid : Prop := fnAnswersUptoRow.holds Try.pinned (OpenSpec.upto fnAnswersSpec)

/-- 'laws.FnExactAnswersTo', WHERE WHAT IT READS IS OF BULK AT MOST 1048576: true; the input reads as it did. -/
def fnExactAnswersToUptoRow : OpenClaim := { program := "ytndnlafnkknodaa", sum := "ebe77351a6b930782b2e579aed1d26a80442b8862ed29dd7a67c7d8205d5f655", func := "loop.example/g00986/laws.FnExactAnswersTo", spec := "fnExactAnswersTo", unfollowed := true, recurses := true, apart := false, narrowed := true }
def FnExactAnswersToUptoSaid : Prop := fnExactAnswersToUptoRow.holds Try.pinned (OpenSpec.upto fnExactAnswersToSpec)

/-- 'laws.FnExactRefusalOf', WHERE WHAT IT READS IS OF BULK AT MOST 1048576: true; the input reads as it did. -/
def fnExactRefusalOfUptoRow : OpenClaim := { program := "ytndnlafnkknodaa", sum := "ebe77351a6b930782b2e579aed1d26a80442b8862ed29dd7a67c7d8205d5f655", func := "loop.example/g00986/laws.FnExactRefusalOf", spec := "fnExactRefusalOf", unfollowed := true, recurses := true, apart := false, narrowed := true }
def FnExactRefusalOfUptoSaid : Prop := fnExactRefusalOfUptoRow.holds Try.pinned (OpenSpec.upto fnExactRefusalOfSpec)

end Rows
end Go.Proofs.Ytndnlafnkknodaa

/-
  No cell of these rows narrows 'for every input' (looked for: loops, veiled, ifaces, maps, wideKeys, modest, calm, conditions, laid).
  DERIVED. THE GIVEN ROWS OF THIS SEAT. 5 by the template 'for every input the law returns true; each argument reads behind the call as it read before'; 0 by the template 'total and deterministic' (their statements: YtmilhndiocggkaaTotals.lean).
  GIVEN WITH THE SEED: the statements are not yours to turn. If you find one false, say at which input.
  Laid BY PROGRAM, IN A SANDBOX (cutbox-rows.mjs): the forced cells as the released guide's own fill.sh prints them over the translation 2fed6b2230ac771a… (all of the seat's roots in one cut). By AI agents, Wed Nov 11 2026. No macro, syntax, notation, axiom, sorry.
-/
import Derived.Test.YtmilhndiocggkaaChecked
import GoSem.Claim
import GoSem.ClaimJoined
import GoSem.ClaimMapViews
import Derived.JoinedTies
import Derived.KernelRfl
namespace Go.Proofs.Ytmilhndiocggkaa
/- THE CELL 'sum', in the pinned program and in every row, IS THE sha256 OF THE DUMP (.gsa) THAT YtmilhndiocggkaaProg.lean LOADS. Nothing in Lean hashes anything: it is a label: what it is worth is what the hold of that sum in a sandbox is worth. -/
noncomputable def Try.pinned : Pinned := { name := "ytmilhndiocggkaa", sum := "2fed6b2230ac771a5d841143d507d838330a0e719c683a8800fa9109a20c261a", checked := Try.checked }
namespace Rows
def none {H : Type} : Left H := { results := [], args := [] }

/-- 'laws.FnExactVectorsOk': WHATEVER THE INPUT: true; the input reads as it did. -/
def fnExactVectorsOkSpec : ChangeSpec := { name := "fnExactVectorsOk", fn := fun _ => fun
  | [d] => { results := [.lit (.bool true)], args := [d] }
  | _ => none }
def fnExactVectorsOkRow : OpenClaim := { program := "ytmilhndiocggkaa", sum := "2fed6b2230ac771a5d841143d507d838330a0e719c683a8800fa9109a20c261a", func := "loop.example/g00986/laws.FnExactVectorsOk", spec := "fnExactVectorsOk", apart := false }
def FnExactVectorsOkSaid : Prop := fnExactVectorsOkRow.holds Try.pinned (OpenSpec.ofChange fnExactVectorsOkSpec)

/-- ITS FALSE NEIGHBOUR: 'it returns false'. Refute it at one input. -/
def fnExactVectorsOkWrong : ChangeSpec := { name := "fnExactVectorsOk", fn := fun _ => fun
  | [d] => { results := [.lit (.bool false)], args := [d] }
  | _ => none }
def FnExactVectorsOkWrongFalsely : Prop := fnExactVectorsOkRow.holds Try.pinned (OpenSpec.ofChange fnExactVectorsOkWrong)

/-- 'laws.FnExactPendingOf': WHATEVER THE INPUT: true; the input reads as it did. -/
def fnExactPendingOfSpec : ChangeSpec := { name := "fnExactPendingOf", fn := fun _ => fun
  | [d] => { results := [.lit (.bool true)], args := [d] }
  | _ => none }
def fnExactPendingOfRow : OpenClaim := { program := "ytmilhndiocggkaa", sum := "2fed6b2230ac771a5d841143d507d838330a0e719c683a8800fa9109a20c261a", func := "loop.example/g00986/laws.FnExactPendingOf", spec := "fnExactPendingOf", apart := false }
def FnExactPendingOfSaid : Prop := fnExactPendingOfRow.holds Try.pinned (OpenSpec.ofChange fnExactPendingOfSpec)

/-- ITS FALSE NEIGHBOUR: 'it returns false'. Refute it at one input. -/
def fnExactPendingOfWrong : ChangeSpec := { name := "fnExactPendingOf", fn := fun _ => fun
  | [d] => { results := [.lit (.bool false)], args := [d] }
  | _ => none }
def FnExactPendingOfWrongFalsely : Prop := fnExactPendingOfRow.holds Try.pinned (OpenSpec.ofChange fnExactPendingOfWrong)

/-- 'laws.FnVectors': WHATEVER THE INPUT: true; the input reads as it did. -/
def fnVectorsSpec : ChangeSpec := { name := "fnVectors", fn := fun _ => fun
  | [d] => { results := [.lit (.bool true)], args := [d] }
  | _ => none }
def fnVectorsRow : OpenClaim := { program := "ytmilhndiocggkaa", sum := "2fed6b2230ac771a5d841143d507d838330a0e719c683a8800fa9109a20c261a", func := "loop.example/g00986/laws.FnVectors", spec := "fnVectors", unfollowed := true, recurses := true, apart := false }
def FnVectorsSaid : Prop := fnVectorsRow.holds Try.pinned (OpenSpec.ofChange fnVectorsSpec)

/-- ITS FALSE NEIGHBOUR: 'it returns false'. Refute it at one input. -/
def fnVectorsWrong : ChangeSpec := { name := "fnVectors", fn := fun _ => fun
  | [d] => { results := [.lit (.bool false)], args := [d] }
  | _ => none }
def FnVectorsWrongFalsely : Prop := fnVectorsRow.holds Try.pinned (OpenSpec.ofChange fnVectorsWrong)

/-- 'laws.FnExactRaiseVector': WHATEVER THE INPUT: true; the input reads as it did. -/
def fnExactRaiseVectorSpec : ChangeSpec := { name := "fnExactRaiseVector", fn := fun _ => fun
  | [d1, d2, d3] => { results := [.lit (.bool true)], args := [d1, d2, d3] }
  | _ => none }
def fnExactRaiseVectorRow : OpenClaim := { program := "ytmilhndiocggkaa", sum := "2fed6b2230ac771a5d841143d507d838330a0e719c683a8800fa9109a20c261a", func := "loop.example/g00986/laws.FnExactRaiseVector", spec := "fnExactRaiseVector", apart := false }
def FnExactRaiseVectorSaid : Prop := fnExactRaiseVectorRow.holds Try.pinned (OpenSpec.ofChange fnExactRaiseVectorSpec)

/-- ITS FALSE NEIGHBOUR: 'it returns false'. Refute it at one input. -/
def fnExactRaiseVectorWrong : ChangeSpec := { name := "fnExactRaiseVector", fn := fun _ => fun
  | [d1, d2, d3] => { results := [.lit (.bool false)], args := [d1, d2, d3] }
  | _ => none }
def FnExactRaiseVectorWrongFalsely : Prop := fnExactRaiseVectorRow.holds Try.pinned (OpenSpec.ofChange fnExactRaiseVectorWrong)

/-- 'laws.FnExactSetMask': WHATEVER THE INPUT: true; the input reads as it did. -/
def fnExactSetMaskSpec : ChangeSpec := { name := "fnExactSetMask", fn := fun _ => fun
  | [d1, d2, d3, d4] => { results := [.lit (.bool true)], args := [d1, d2, d3, d4] }
  | _ => none }
def fnExactSetMaskRow : OpenClaim := { program := "ytmilhndiocggkaa", sum := "2fed6b2230ac771a5d841143d507d838330a0e719c683a8800fa9109a20c261a", func := "loop.example/g00986/laws.FnExactSetMask", spec := "fnExactSetMask", apart := false }
def FnExactSetMaskSaid : Prop := fnExactSetMaskRow.holds Try.pinned (OpenSpec.ofChange fnExactSetMaskSpec)

/-- ITS FALSE NEIGHBOUR: 'it returns false'. Refute it at one input. -/
def fnExactSetMaskWrong : ChangeSpec := { name := "fnExactSetMask", fn := fun _ => fun
  | [d1, d2, d3, d4] => { results := [.lit (.bool false)], args := [d1, d2, d3, d4] }
  | _ => none }
def FnExactSetMaskWrongFalsely : Prop := fnExactSetMaskRow.holds Try.pinned (OpenSpec.ofChange fnExactSetMaskWrong)

/- THE SECOND FORM. 'bulk': how many values and letters a reading holds, each counted each time it is reached (what is shared counts as often as it is met; a slice's spare places count too). A statement '..UptoSaid' is the law's where the arguments, and the package variables that the reading takes, are together of bulk at most 1048576: NARROWER than '..Said'. Prove '..Said' where nothing that the law and all that it calls make is longer than what came in: it says more and counts as full. Else prove '..UptoSaid'. A law counts once. -/
mutual
def uptoBulk {H : Type} : DataW H → Nat
  | .lit (.string bytes) => bytes.length + 1
  | .lit _ => 1
  | .nil => 1
  | .ptr d => uptoBulk d + 1
  | .slice elems spare => uptoBulkAll elems + uptoBulkAll spare + 1
  | .agg parts => uptoBulkAll parts + 1
  | .iface _ d => uptoBulk d + 1
  | .map entries => uptoBulkEntries entries + 1
  | .held _ => 1
def uptoBulkAll {H : Type} : List (DataW H) → Nat
  | [] => 0
  | d :: r => uptoBulk d + uptoBulkAll r
def uptoBulkEntries {H : Type} : List (Lit × DataW H) → Nat
  | [] => 0
  | x :: r => uptoBulkEntry x + uptoBulkEntries r
def uptoBulkEntry {H : Type} : Lit × DataW H → Nat
  | (.string bytes, d) => bytes.length + uptoBulk d + 1
  | (_, d) => uptoBulk d + 1
 end
def uptoSmall : (H : Type) → List (DataW H) → Bool := fun _ ds => decide (uptoBulkAll ds ≤ 1048576)
def OpenSpec.upto (s : _root_.Go.ChangeSpec) : _root_.Go.OpenSpec := { _root_.Go.OpenSpec.ofChange s with cond := some uptoSmall }

/-- 'laws.FnExactVectorsOk', WHERE WHAT IT READS IS OF BULK AT MOST 1048576: true; the input reads as it did. -/
def fnExactVectorsOkUptoRow : OpenClaim := { program := "ytmilhndiocggkaa", sum := "2fed6b2230ac771a5d841143d507d838330a0e719c683a8800fa9109a20c261a", func := "loop.example/g00986/laws.FnExactVectorsOk", spec := "fnExactVectorsOk", apart := false, narrowed := true }
def FnExactVectorsOkUptoSaid : Prop := fnExactVectorsOkUptoRow.holds Try.pinned (OpenSpec.upto fnExactVectorsOkSpec)

/-- 'laws.FnExactPendingOf', WHERE WHAT IT READS IS OF BULK AT MOST 1048576: true; the input reads as it did. -/
def fnExactPendingOfUptoRow : OpenClaim := { program := "ytmilhndiocggkaa", sum := "2fed6b2230ac771a5d841143d507d838330a0e719c683a8800fa9109a20c261a", func := "loop.example/g00986/laws.FnExactPendingOf", spec := "fnExactPendingOf", apart := false, narrowed := true }
def FnExactPendingOfUptoSaid : Prop := fnExactPendingOfUptoRow.holds Try.pinned (OpenSpec.upto fnExactPendingOfSpec)

/-- 'laws.FnVectors', WHERE WHAT IT READS IS OF BULK AT MOST 1048576: true; the input reads as it did. -/
def fnVectorsUptoRow : OpenClaim := { program := "ytmilhndiocggkaa", sum := "2fed6b2230ac771a5d841143d507d838330a0e719c683a8800fa9109a20c261a", func := "loop.example/g00986/laws.FnVectors", spec := "fnVectors", unfollowed := true, recurses := true, apart := false, narrowed := true }
def FnVectorsUptoSaid : Prop := fnVectorsUptoRow.holds Try.pinned (OpenSpec.upto fnVectorsSpec)

/-- 'laws.FnExactRaiseVector', WHERE WHAT IT READS IS OF BULK AT MOST 1048576: true; the input reads as it did. -/
def fnExactRaiseVectorUptoRow : OpenClaim := { program := "ytmilhndiocggkaa", sum := "2fed6b2230ac771a5d841143d507d838330a0e719c683a8800fa9109a20c261a", func := "loop.example/g00986/laws.FnExactRaiseVector", spec := "fnExactRaiseVector", apart := false, narrowed := true }
def FnExactRaiseVectorUptoSaid : Prop := fnExactRaiseVectorUptoRow.holds Try.pinned (OpenSpec.upto fnExactRaiseVectorSpec)

/-- 'laws.FnExactSetMask', WHERE WHAT IT READS IS OF BULK AT MOST 1048576: true; the input reads as it did. -/
def fnExactSetMaskUptoRow : OpenClaim := { program := "ytmilhndiocggkaa", sum := "2fed6b2230ac771a5d841143d507d838330a0e719c683a8800fa9109a20c261a", func := "loop.example/g00986/laws.FnExactSetMask", spec := "fnExactSetMask", apart := false, narrowed := true }
def FnExactSetMaskUptoSaid : Prop := fnExactSetMaskUptoRow.holds Try.pinned (OpenSpec.upto fnExactSetMaskSpec)

end Rows
end Go.Proofs.Ytmilhndiocggkaa

/-
  No cell of these rows narrows 'for every input' (looked for: loops, veiled, ifaces, maps, wideKeys, modest, calm, conditions, laid).
  DERIVED. THE GIVEN ROWS OF THIS SEAT. 6 by the template 'for every input the law returns true; each argument reads behind the call as it read before'; 0 by the template 'total and deterministic' (their statements: YtlekipjbdldliaaTotals.lean).
  GIVEN WITH THE SEED: the statements are not yours to turn. If you find one false, say at which input.
  Laid BY PROGRAM, IN A SANDBOX (cutbox-rows.mjs): the forced cells as the released guide's own fill.sh prints them over the translation b621aae4ba28e14b… (all of the seat's roots in one cut). By AI agents, Wed Nov 11 2026. No macro, syntax, notation, axiom, sorry.
-/
import Derived.Test.YtlekipjbdldliaaChecked
import GoSem.Claim
import GoSem.ClaimJoined
import GoSem.ClaimMapViews
import Derived.JoinedTies
import Derived.KernelRfl
namespace Go.Proofs.Ytlekipjbdldliaa
/- THE CELL 'sum', in the pinned program and in every row, IS THE sha256 OF THE DUMP (.gsa) THAT YtlekipjbdldliaaProg.lean LOADS. Nothing in Lean hashes anything: it is a label: what it is worth is what the hold of that sum in a sandbox is worth. -/
noncomputable def Try.pinned : Pinned := { name := "ytlekipjbdldliaa", sum := "b621aae4ba28e14b0e52acf0cd9b5db482383a86e4a1b74cac71a74d690749b3", checked := Try.checked }
namespace Rows
def none {H : Type} : Left H := { results := [], args := [] }

/-- 'laws.FnExactIsPayload': WHATEVER THE INPUT: true; the input reads as it did. -/
def fnExactIsPayloadSpec : ChangeSpec := { name := "fnExactIsPayload", fn := fun _ => fun
  | [d] => { results := [.lit (.bool true)], args := [d] }
  | _ => none }
def fnExactIsPayloadRow : OpenClaim := { program := "ytlekipjbdldliaa", sum := "b621aae4ba28e14b0e52acf0cd9b5db482383a86e4a1b74cac71a74d690749b3", func := "loop.example/g00986/laws.FnExactIsPayload", spec := "fnExactIsPayload", apart := false }
def FnExactIsPayloadSaid : Prop := fnExactIsPayloadRow.holds Try.pinned (OpenSpec.ofChange fnExactIsPayloadSpec)

/-- ITS FALSE NEIGHBOUR: 'it returns false'. Refute it at one input. -/
def fnExactIsPayloadWrong : ChangeSpec := { name := "fnExactIsPayload", fn := fun _ => fun
  | [d] => { results := [.lit (.bool false)], args := [d] }
  | _ => none }
def FnExactIsPayloadWrongFalsely : Prop := fnExactIsPayloadRow.holds Try.pinned (OpenSpec.ofChange fnExactIsPayloadWrong)

/-- 'laws.FnExactSeverityName': WHATEVER THE INPUT: true; the input reads as it did. -/
def fnExactSeverityNameSpec : ChangeSpec := { name := "fnExactSeverityName", fn := fun _ => fun
  | [d] => { results := [.lit (.bool true)], args := [d] }
  | _ => none }
def fnExactSeverityNameRow : OpenClaim := { program := "ytlekipjbdldliaa", sum := "b621aae4ba28e14b0e52acf0cd9b5db482383a86e4a1b74cac71a74d690749b3", func := "loop.example/g00986/laws.FnExactSeverityName", spec := "fnExactSeverityName", apart := false }
def FnExactSeverityNameSaid : Prop := fnExactSeverityNameRow.holds Try.pinned (OpenSpec.ofChange fnExactSeverityNameSpec)

/-- ITS FALSE NEIGHBOUR: 'it returns false'. Refute it at one input. -/
def fnExactSeverityNameWrong : ChangeSpec := { name := "fnExactSeverityName", fn := fun _ => fun
  | [d] => { results := [.lit (.bool false)], args := [d] }
  | _ => none }
def FnExactSeverityNameWrongFalsely : Prop := fnExactSeverityNameRow.holds Try.pinned (OpenSpec.ofChange fnExactSeverityNameWrong)

/-- 'laws.FnExactPieceCount': WHATEVER THE INPUT: true; the input reads as it did. -/
def fnExactPieceCountSpec : ChangeSpec := { name := "fnExactPieceCount", fn := fun _ => fun
  | [d1, d2, d3] => { results := [.lit (.bool true)], args := [d1, d2, d3] }
  | _ => none }
def fnExactPieceCountRow : OpenClaim := { program := "ytlekipjbdldliaa", sum := "b621aae4ba28e14b0e52acf0cd9b5db482383a86e4a1b74cac71a74d690749b3", func := "loop.example/g00986/laws.FnExactPieceCount", spec := "fnExactPieceCount", apart := false }
def FnExactPieceCountSaid : Prop := fnExactPieceCountRow.holds Try.pinned (OpenSpec.ofChange fnExactPieceCountSpec)

/-- ITS FALSE NEIGHBOUR: 'it returns false'. Refute it at one input. -/
def fnExactPieceCountWrong : ChangeSpec := { name := "fnExactPieceCount", fn := fun _ => fun
  | [d1, d2, d3] => { results := [.lit (.bool false)], args := [d1, d2, d3] }
  | _ => none }
def FnExactPieceCountWrongFalsely : Prop := fnExactPieceCountRow.holds Try.pinned (OpenSpec.ofChange fnExactPieceCountWrong)

/-- 'laws.FnExactIsDelivered': WHATEVER THE INPUT: true; the input reads as it did. -/
def fnExactIsDeliveredSpec : ChangeSpec := { name := "fnExactIsDelivered", fn := fun _ => fun
  | [d1, d2, d3] => { results := [.lit (.bool true)], args := [d1, d2, d3] }
  | _ => none }
def fnExactIsDeliveredRow : OpenClaim := { program := "ytlekipjbdldliaa", sum := "b621aae4ba28e14b0e52acf0cd9b5db482383a86e4a1b74cac71a74d690749b3", func := "loop.example/g00986/laws.FnExactIsDelivered", spec := "fnExactIsDelivered", apart := false }
def FnExactIsDeliveredSaid : Prop := fnExactIsDeliveredRow.holds Try.pinned (OpenSpec.ofChange fnExactIsDeliveredSpec)

/-- ITS FALSE NEIGHBOUR: 'it returns false'. Refute it at one input. -/
def fnExactIsDeliveredWrong : ChangeSpec := { name := "fnExactIsDelivered", fn := fun _ => fun
  | [d1, d2, d3] => { results := [.lit (.bool false)], args := [d1, d2, d3] }
  | _ => none }
def FnExactIsDeliveredWrongFalsely : Prop := fnExactIsDeliveredRow.holds Try.pinned (OpenSpec.ofChange fnExactIsDeliveredWrong)

/-- 'laws.FnExactTagsOk': WHATEVER THE INPUT: true; the input reads as it did. -/
def fnExactTagsOkSpec : ChangeSpec := { name := "fnExactTagsOk", fn := fun _ => fun
  | [d] => { results := [.lit (.bool true)], args := [d] }
  | _ => none }
def fnExactTagsOkRow : OpenClaim := { program := "ytlekipjbdldliaa", sum := "b621aae4ba28e14b0e52acf0cd9b5db482383a86e4a1b74cac71a74d690749b3", func := "loop.example/g00986/laws.FnExactTagsOk", spec := "fnExactTagsOk", apart := false }
def FnExactTagsOkSaid : Prop := fnExactTagsOkRow.holds Try.pinned (OpenSpec.ofChange fnExactTagsOkSpec)

/-- ITS FALSE NEIGHBOUR: 'it returns false'. Refute it at one input. -/
def fnExactTagsOkWrong : ChangeSpec := { name := "fnExactTagsOk", fn := fun _ => fun
  | [d] => { results := [.lit (.bool false)], args := [d] }
  | _ => none }
def FnExactTagsOkWrongFalsely : Prop := fnExactTagsOkRow.holds Try.pinned (OpenSpec.ofChange fnExactTagsOkWrong)

/-- 'laws.FnExactNewTags': WHATEVER THE INPUT: true; the input reads as it did. -/
def fnExactNewTagsSpec : ChangeSpec := { name := "fnExactNewTags", fn := fun _ => fun
  | [] => { results := [.lit (.bool true)], args := [] }
  | _ => none }
def fnExactNewTagsRow : OpenClaim := { program := "ytlekipjbdldliaa", sum := "b621aae4ba28e14b0e52acf0cd9b5db482383a86e4a1b74cac71a74d690749b3", func := "loop.example/g00986/laws.FnExactNewTags", spec := "fnExactNewTags", apart := false }
def FnExactNewTagsSaid : Prop := fnExactNewTagsRow.holds Try.pinned (OpenSpec.ofChange fnExactNewTagsSpec)

/-- ITS FALSE NEIGHBOUR: 'it returns false'. Refute it at one input. -/
def fnExactNewTagsWrong : ChangeSpec := { name := "fnExactNewTags", fn := fun _ => fun
  | [] => { results := [.lit (.bool false)], args := [] }
  | _ => none }
def FnExactNewTagsWrongFalsely : Prop := fnExactNewTagsRow.holds Try.pinned (OpenSpec.ofChange fnExactNewTagsWrong)

/- THE SECOND FORM. 'bulk': how many values and letters a reading holds, each counted each time it is reached (what is shared counts as often as it is met; a slice's spare places count too). A statement '..UptoSaid' is the law's where the arguments, and the package variables that the reading takes, are together of bulk at most 1048576: NARROWER than '..Said'. Prove '..Said' where nothing that the law and all that it calls make is longer than what came in: it says more and counts as full. Else prove '..UptoSaid'. A law counts once. -/
mutual
def uptoBulk {H : Type} : DataW H → Nat
  | .lit (.string bytes) => bytes.length + 1
  | .lit _ => 1
  | .nil => 1
  | .ptr d => uptoBulk d + 1
  | .slice elems spare => uptoBulkAll elems + uptoBulkAll spare + 1
  | .agg parts => uptoBulkAll parts + 1
  | .iface _ d => uptoBulk d + 1
  | .map entries => uptoBulkEntries entries + 1
  | .held _ => 1
def uptoBulkAll {H : Type} : List (DataW H) → Nat
  | [] => 0
  | d :: r => uptoBulk d + uptoBulkAll r
def uptoBulkEntries {H : Type} : List (Lit × DataW H) → Nat
  | [] => 0
  | x :: r => uptoBulkEntry x + uptoBulkEntries r
def uptoBulkEntry {H : Type} : Lit × DataW H → Nat
  | (.string bytes, d) => bytes.length + uptoBulk d + 1
  | (_, d) => uptoBulk d + 1
 end
def uptoSmall : (H : Type) → List (DataW H) → Bool := fun _ ds => decide (uptoBulkAll ds ≤ 1048576)
def OpenSpec.upto (s : _root_.Go.ChangeSpec) : _root_.Go.OpenSpec := { _root_.Go.OpenSpec.ofChange s with cond := some uptoSmall }

/-- 'laws.FnExactIsPayload', WHERE WHAT IT READS IS OF BULK AT MOST 1048576: true; the input reads as it did. -/
def fnExactIsPayloadUptoRow : OpenClaim := { program := "ytlekipjbdldliaa", sum := "b621aae4ba28e14b0e52acf0cd9b5db482383a86e4a1b74cac71a74d690749b3", func := "loop.example/g00986/laws.FnExactIsPayload", spec := "fnExactIsPayload", apart := false, narrowed := true }
def FnExactIsPayloadUptoSaid : Prop := fnExactIsPayloadUptoRow.holds Try.pinned (OpenSpec.upto fnExactIsPayloadSpec)

/-- 'laws.FnExactSeverityName', WHERE WHAT IT READS IS OF BULK AT MOST 1048576: true; the input reads as it did. -/
def fnExactSeverityNameUptoRow : OpenClaim := { program := "ytlekipjbdldliaa", sum := "b621aae4ba28e14b0e52acf0cd9b5db482383a86e4a1b74cac71a74d690749b3", func := "loop.example/g00986/laws.FnExactSeverityName", spec := "fnExactSeverityName", apart := false, narrowed := true }
def FnExactSeverityNameUptoSaid : Prop := fnExactSeverityNameUptoRow.holds Try.pinned (OpenSpec.upto fnExactSeverityNameSpec)

/-- 'laws.FnExactPieceCount', WHERE WHAT IT READS IS OF BULK AT MOST 1048576: true; the input reads as it did. -/
def fnExactPieceCountUptoRow : OpenClaim := { program := "ytlekipjbdldliaa", sum := "b621aae4ba28e14b0e52acf0cd9b5db482383a86e4a1b74cac71a74d690749b3", func := "loop.example/g00986/laws.FnExactPieceCount", spec := "fnExactPieceCount", apart := false, narrowed := true }
def FnExactPieceCountUptoSaid : Prop := fnExactPieceCountUptoRow.holds Try.pinned (OpenSpec.upto fnExactPieceCountSpec)

/-- 'laws.FnExactIsDelivered', WHERE WHAT IT READS IS OF BULK AT MOST 1048576: true; the input reads as it did. -/
def fnExactIsDeliveredUptoRow : OpenClaim := { program := "ytlekipjbdldliaa", sum := "b621aae4ba28e14b0e52acf0cd9b5db482383a86e4a1b74cac71a74d690749b3", func := "loop.example/g00986/laws.FnExactIsDelivered", spec := "fnExactIsDelivered", apart := false, narrowed := true }
def FnExactIsDeliveredUptoSaid : Prop := fnExactIsDeliveredUptoRow.holds Try.pinned (OpenSpec.upto fnExactIsDeliveredSpec)

/-- 'laws.FnExactTagsOk', WHERE WHAT IT READS IS OF BULK AT MOST 1048576: true; the input reads as it did. -/
def fnExactTagsOkUptoRow : OpenClaim := { program := "ytlekipjbdldliaa", sum := "b621aae4ba28e14b0e52acf0cd9b5db482383a86e4a1b74cac71a74d690749b3", func := "loop.example/g00986/laws.FnExactTagsOk", spec := "fnExactTagsOk", apart := false, narrowed := true }
def FnExactTagsOkUptoSaid : Prop := fnExactTagsOkUptoRow.holds Try.pinned (OpenSpec.upto fnExactTagsOkSpec)

/-- 'laws.FnExactNewTags', WHERE WHAT IT READS IS OF BULK AT MOST 1048576: true; the input reads as it did. -/
def fnExactNewTagsUptoRow : OpenClaim := { program := "ytlekipjbdldliaa", sum := "b621aae4ba28e14b0e52acf0cd9b5db482383a86e4a1b74cac71a74d690749b3", func := "loop.example/g00986/laws.FnExactNewTags", spec := "fnExactNewTags", apart := false, narrowed := true }
def FnExactNewTagsUptoSaid : Prop := fnExactNewTagsUptoRow.holds Try.pinned (OpenSpec.upto fnExactNewTagsSpec)

end Rows
end Go.Proofs.Ytlekipjbdldliaa

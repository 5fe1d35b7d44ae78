/-
  No cell of these rows narrows 'for every input' (looked for: loops, veiled, ifaces, maps, wideKeys, modest, calm, conditions, laid).
  DERIVED. THE GIVEN ROWS OF THIS SEAT. 6 by the template 'for every input the law returns true; each argument reads behind the call as it read before'; 0 by the template 'total and deterministic' (their statements: YtckpkjpcnlampaaTotals.lean).
  GIVEN WITH THE SEED: the statements are not yours to turn. If you find one false, say at which input.
  Laid BY PROGRAM, IN A SANDBOX (cutbox-rows.mjs): the forced cells as the released guide's own fill.sh prints them over the translation 9b0e3c2167570852… (all of the seat's roots in one cut). By AI agents, Wed Nov 11 2026. No macro, syntax, notation, axiom, sorry.
-/
import Derived.Test.YtckpkjpcnlampaaChecked
import GoSem.Claim
import GoSem.ClaimJoined
import GoSem.ClaimMapViews
import Derived.JoinedTies
import Derived.KernelRfl
namespace Go.Proofs.Ytckpkjpcnlampaa
/- THE CELL 'sum', in the pinned program and in every row, IS THE sha256 OF THE DUMP (.gsa) THAT YtckpkjpcnlampaaProg.lean LOADS. Nothing in Lean hashes anything: it is a label: what it is worth is what the hold of that sum in a sandbox is worth. -/
noncomputable def Try.pinned : Pinned := { name := "ytckpkjpcnlampaa", sum := "9b0e3c216757085212050dfcda1dc83a63a8e87cac38a57115f65845e1315145", checked := Try.checked }
namespace Rows
def none {H : Type} : Left H := { results := [], args := [] }

/-- 'laws.FnExactTagsOk': WHATEVER THE INPUT: true; the input reads as it did. -/
def fnExactTagsOkSpec : ChangeSpec := { name := "fnExactTagsOk", fn := fun _ => fun
  | [d] => { results := [.lit (.bool true)], args := [d] }
  | _ => none }
def fnExactTagsOkRow : OpenClaim := { program := "ytckpkjpcnlampaa", sum := "9b0e3c216757085212050dfcda1dc83a63a8e87cac38a57115f65845e1315145", func := "loop.example/g00986/laws.FnExactTagsOk", spec := "fnExactTagsOk", apart := false }
def FnExactTagsOkSaid : Prop := fnExactTagsOkRow.holds Try.pinned (OpenSpec.ofChange fnExactTagsOkSpec)

/-- ITS FALSE NEIGHBOUR: 'it returns false'. Refute it at one input. -/
def fnExactTagsOkWrong : ChangeSpec := { name := "fnExactTagsOk", fn := fun _ => fun
  | [d] => { results := [.lit (.bool false)], args := [d] }
  | _ => none }
def FnExactTagsOkWrongFalsely : Prop := fnExactTagsOkRow.holds Try.pinned (OpenSpec.ofChange fnExactTagsOkWrong)

/-- 'laws.FnExactNewTags': WHATEVER THE INPUT: true; the input reads as it did. -/
def fnExactNewTagsSpec : ChangeSpec := { name := "fnExactNewTags", fn := fun _ => fun
  | [] => { results := [.lit (.bool true)], args := [] }
  | _ => none }
def fnExactNewTagsRow : OpenClaim := { program := "ytckpkjpcnlampaa", sum := "9b0e3c216757085212050dfcda1dc83a63a8e87cac38a57115f65845e1315145", func := "loop.example/g00986/laws.FnExactNewTags", spec := "fnExactNewTags", apart := false }
def FnExactNewTagsSaid : Prop := fnExactNewTagsRow.holds Try.pinned (OpenSpec.ofChange fnExactNewTagsSpec)

/-- ITS FALSE NEIGHBOUR: 'it returns false'. Refute it at one input. -/
def fnExactNewTagsWrong : ChangeSpec := { name := "fnExactNewTags", fn := fun _ => fun
  | [] => { results := [.lit (.bool false)], args := [] }
  | _ => none }
def FnExactNewTagsWrongFalsely : Prop := fnExactNewTagsRow.holds Try.pinned (OpenSpec.ofChange fnExactNewTagsWrong)

/-- 'laws.FnExactCountBusy': WHATEVER THE INPUT: true; the input reads as it did. -/
def fnExactCountBusySpec : ChangeSpec := { name := "fnExactCountBusy", fn := fun _ => fun
  | [d] => { results := [.lit (.bool true)], args := [d] }
  | _ => none }
def fnExactCountBusyRow : OpenClaim := { program := "ytckpkjpcnlampaa", sum := "9b0e3c216757085212050dfcda1dc83a63a8e87cac38a57115f65845e1315145", func := "loop.example/g00986/laws.FnExactCountBusy", spec := "fnExactCountBusy", apart := false }
def FnExactCountBusySaid : Prop := fnExactCountBusyRow.holds Try.pinned (OpenSpec.ofChange fnExactCountBusySpec)

/-- ITS FALSE NEIGHBOUR: 'it returns false'. Refute it at one input. -/
def fnExactCountBusyWrong : ChangeSpec := { name := "fnExactCountBusy", fn := fun _ => fun
  | [d] => { results := [.lit (.bool false)], args := [d] }
  | _ => none }
def FnExactCountBusyWrongFalsely : Prop := fnExactCountBusyRow.holds Try.pinned (OpenSpec.ofChange fnExactCountBusyWrong)

/-- 'laws.FnExactFreeTag': WHATEVER THE INPUT: true; the input reads as it did. -/
def fnExactFreeTagSpec : ChangeSpec := { name := "fnExactFreeTag", fn := fun _ => fun
  | [d1, d2] => { results := [.lit (.bool true)], args := [d1, d2] }
  | _ => none }
def fnExactFreeTagRow : OpenClaim := { program := "ytckpkjpcnlampaa", sum := "9b0e3c216757085212050dfcda1dc83a63a8e87cac38a57115f65845e1315145", func := "loop.example/g00986/laws.FnExactFreeTag", spec := "fnExactFreeTag", apart := false }
def FnExactFreeTagSaid : Prop := fnExactFreeTagRow.holds Try.pinned (OpenSpec.ofChange fnExactFreeTagSpec)

/-- ITS FALSE NEIGHBOUR: 'it returns false'. Refute it at one input. -/
def fnExactFreeTagWrong : ChangeSpec := { name := "fnExactFreeTag", fn := fun _ => fun
  | [d1, d2] => { results := [.lit (.bool false)], args := [d1, d2] }
  | _ => none }
def FnExactFreeTagWrongFalsely : Prop := fnExactFreeTagRow.holds Try.pinned (OpenSpec.ofChange fnExactFreeTagWrong)

/-- 'laws.FnExactTakeTag': WHATEVER THE INPUT: true; the input reads as it did. -/
def fnExactTakeTagSpec : ChangeSpec := { name := "fnExactTakeTag", fn := fun _ => fun
  | [d] => { results := [.lit (.bool true)], args := [d] }
  | _ => none }
def fnExactTakeTagRow : OpenClaim := { program := "ytckpkjpcnlampaa", sum := "9b0e3c216757085212050dfcda1dc83a63a8e87cac38a57115f65845e1315145", func := "loop.example/g00986/laws.FnExactTakeTag", spec := "fnExactTakeTag", apart := false }
def FnExactTakeTagSaid : Prop := fnExactTakeTagRow.holds Try.pinned (OpenSpec.ofChange fnExactTakeTagSpec)

/-- ITS FALSE NEIGHBOUR: 'it returns false'. Refute it at one input. -/
def fnExactTakeTagWrong : ChangeSpec := { name := "fnExactTakeTag", fn := fun _ => fun
  | [d] => { results := [.lit (.bool false)], args := [d] }
  | _ => none }
def FnExactTakeTagWrongFalsely : Prop := fnExactTakeTagRow.holds Try.pinned (OpenSpec.ofChange fnExactTakeTagWrong)

/-- 'laws.FnTags': WHATEVER THE INPUT: true; the input reads as it did. -/
def fnTagsSpec : ChangeSpec := { name := "fnTags", fn := fun _ => fun
  | [d] => { results := [.lit (.bool true)], args := [d] }
  | _ => none }
def fnTagsRow : OpenClaim := { program := "ytckpkjpcnlampaa", sum := "9b0e3c216757085212050dfcda1dc83a63a8e87cac38a57115f65845e1315145", func := "loop.example/g00986/laws.FnTags", spec := "fnTags", apart := false }
def FnTagsSaid : Prop := fnTagsRow.holds Try.pinned (OpenSpec.ofChange fnTagsSpec)

/-- ITS FALSE NEIGHBOUR: 'it returns false'. Refute it at one input. -/
def fnTagsWrong : ChangeSpec := { name := "fnTags", fn := fun _ => fun
  | [d] => { results := [.lit (.bool false)], args := [d] }
  | _ => none }
def FnTagsWrongFalsely : Prop := fnTagsRow.holds Try.pinned (OpenSpec.ofChange fnTagsWrong)

/- THE SECOND FORM. 'bulk': how many values and letters a reading holds, each counted each time it is reached (what is shared counts as often as it is met; a slice's spare places count too). A statement '..UptoSaid' is the law's where the arguments, and the package variables that the reading takes, are together of bulk at most 1048576: NARROWER than '..Said'. Prove '..Said' where nothing that the law and all that it calls make is longer than what came in: it says more and counts as full. Else prove '..UptoSaid'. A law counts once. -/
mutual
def uptoBulk {H : Type} : DataW H → Nat
  | .lit (.string bytes) => bytes.length + 1
  | .lit _ => 1
  | .nil => 1
  | .ptr d => uptoBulk d + 1
  | .slice elems spare => uptoBulkAll elems + uptoBulkAll spare + 1
  | .agg parts => uptoBulkAll parts + 1
  | .iface _ d => uptoBulk d + 1
  | .map entries => uptoBulkEntries entries + 1
  | .held _ => 1
def uptoBulkAll {H : Type} : List (DataW H) → Nat
  | [] => 0
  | d :: r => uptoBulk d + uptoBulkAll r
def uptoBulkEntries {H : Type} : List (Lit × DataW H) → Nat
  | [] => 0
  | x :: r => uptoBulkEntry x + uptoBulkEntries r
def uptoBulkEntry {H : Type} : Lit × DataW H → Nat
  | (.string bytes, d) => bytes.length + uptoBulk d + 1
  | (_, d) => uptoBulk d + 1
 end
def uptoSmall : (H : Type) → List (DataW H) → Bool := fun _ ds => decide (uptoBulkAll ds ≤ 1048576)
def OpenSpec.upto (s : _root_.Go.ChangeSpec) : _root_.Go.OpenSpec := { _root_.Go.OpenSpec.ofChange s with cond := some uptoSmall }

/-- 'laws.FnExactTagsOk', WHERE WHAT IT READS IS OF BULK AT MOST 1048576: true; the input reads as it did. -/
def fnExactTagsOkUptoRow : OpenClaim := { program := "ytckpkjpcnlampaa", sum := "9b0e3c216757085212050dfcda1dc83a63a8e87cac38a57115f65845e1315145", func := "loop.example/g00986/laws.FnExactTagsOk", spec := "fnExactTagsOk", apart := false, narrowed := true }
def FnExactTagsOkUptoSaid : Prop := fnExactTagsOkUptoRow.holds Try.pinned (OpenSpec.upto fnExactTagsOkSpec)

/-- 'laws.FnExactNewTags', WHERE WHAT IT READS IS OF BULK AT MOST 1048576: true; the input reads as it did. -/
def fnExactNewTagsUptoRow : OpenClaim := { program := "ytckpkjpcnlampaa", sum := "9b0e3c216757085212050dfcda1dc83a63a8e87cac38a57115f65845e1315145", func := "loop.example/g00986/laws.FnExactNewTags", spec := "fnExactNewTags", apart := false, narrowed := true }
def FnExactNewTagsUptoSaid : Prop := fnExactNewTagsUptoRow.holds Try.pinned (OpenSpec.upto fnExactNewTagsSpec)

/-- 'laws.FnExactCountBusy', WHERE WHAT IT READS IS OF BULK AT MOST 1048576: true; the input reads as it did. -/
def fnExactCountBusyUptoRow : OpenClaim := { program := "ytckpkjpcnlampaa", sum := "9b0e3c216757085212050dfcda1dc83a63a8e87cac38a57115f65845e1315145", func := "loop.example/g00986/laws.FnExactCountBusy", spec := "fnExactCountBusy", apart := false, narrowed := true }
def FnExactCountBusyUptoSaid : Prop := fnExactCountBusyUptoRow.holds Try.pinned (OpenSpec.upto fnExactCountBusySpec)

/-- 'laws.FnExactFreeTag', WHERE WHAT IT READS IS OF BULK AT MOST 1048576: true; the input reads as it did. -/
def fnExactFreeTagUptoRow : OpenClaim := { program := "ytckpkjpcnlampaa", sum := "9b0e3c216757085212050dfcda1dc83a63a8e87cac38a57115f65845e1315145", func := "loop.example/g00986/laws.FnExactFreeTag", spec := "fnExactFreeTag", apart := false, narrowed := true }
def FnExactFreeTagUptoSaid : Prop := fnExactFreeTagUptoRow.holds Try.pinned (OpenSpec.upto fnExactFreeTagSpec)

/-- 'laws.FnExactTakeTag', WHERE WHAT IT READS IS OF BULK AT MOST 1048576: true; the input reads as it did. -/
def fnExactTakeTagUptoRow : OpenClaim := { program := "ytckpkjpcnlampaa", sum := "9b0e3c216757085212050dfcda1dc83a63a8e87cac38a57115f65845e1315145", func := "loop.example/g00986/laws.FnExactTakeTag", spec := "fnExactTakeTag", apart := false, narrowed := true }
def FnExactTakeTagUptoSaid : Prop := fnExactTakeTagUptoRow.holds Try.pinned (OpenSpec.upto fnExactTakeTagSpec)

/-- 'laws.FnTags', WHERE WHAT IT READS IS OF BULK AT MOST 1048576: true; the input reads as it did. -/
def fnTagsUptoRow : OpenClaim := { program := "ytckpkjpcnlampaa", sum := "9b0e3c216757085212050dfcda1dc83a63a8e87cac38a57115f65845e1315145", func := "loop.example/g00986/laws.FnTags", spec := "fnTags", apart := false, narrowed := true }
def FnTagsUptoSaid : Prop := fnTagsUptoRow.holds Try.pinned (OpenSpec.upto fnTagsSpec)

end Rows
end Go.Proofs.Ytckpkjpcnlampaa

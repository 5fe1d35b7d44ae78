/- The row of FnProducers, out of the contract of its Go function and its pure law. Written by a program of the session (mkti.py), in the shape of the kit's printed rows. -/
import Derived.Test.YtmbmapbdbbnaeaaRows
import Derived.Test.YtmbmapbdbbnaeaaFFnProducers
import Derived.Test.YtmbmapbdbbnaeaaUFnProducers
import Derived.Test.YtmbmapbdbbnaeaaTiBC
import Derived.WalkKit
import Derived.ProofKit
import Derived.OpenShut
import Derived.ShutString
import Derived.ChangeOld
import Derived.Below
import Derived.Carry
import Derived.SizedLaws
namespace Go.Proofs.Ytmbmapbdbbnaeaa.fnProducers
open Go.ChangeShapes Go.WideShapes Go.ChangeAt Go.RowKit Go.Proofs.YtmbmapbdbbnaeaaT
set_option linter.unusedVariables false
theorem own : ownKnob Try.prog.godebug = none := by kernel_rfl
theorem laidOut : laidOutB Try.prog = true := by kernel_rfl
theorem ins : lawIns Try.prog 8 Try.f3.params.toList = some laws_FnProducers.sig.ins := by kernel_rfl
set_option maxRecDepth 100000 in
theorem lifted (os : Os) (started : os.Started) (H : Type) (enc : TypeId × Value → H) :
    ReturnsInHanded {} Try.checked os 3 .any (Rows.fnProducersSpec.pre6 enc Try.prog Try.f3 Rows.fnProducersRow.domain false) (Rows.fnProducersSpec.post enc Try.prog Try.f3 false true false false) := by
  refine returnsInHanded_of_change_sized (C := Try.checked) own started (by kernel_rfl) Try.func3
    (ChangeSpec.witness6 (enc := enc) (C := Try.checked) false ⟨#[], #[.slice none 0 0], []⟩ 8 (by kernel_rfl) (by kernel_rfl) (by kernel_rfl) (by kernel_rfl)) ?_
  intro W base args ds gs before hval0 hW hcnd hsz0 _
  have hval : ∀ (j : Nat) t v, Try.f3.params[j]? = some t → args[j]? = some v → Value.okWide Try.prog W .any base t v := hval0
  have hW' := hW
  obtain ⟨p, q, hA0, hV, rfl, hfz, hnd⟩ := hW
  have hA : DataW.TrodAll enc Try.prog W 0 (fun _ => true) true Try.f3.params.toList args.toList ds p := hA0
  obtain ⟨rfl, rfl⟩ := trodVars_none hV
  obtain ⟨us, hus⟩ := args_are ins hA fun j t v ht hv => hval j t v (by simpa using ht) (by simpa using hv)
  have hcall := law_calls rfl laws_FnProducers.ok hus rfl true (fun E w' v h => val_bool h.2) laws_FnProducers.pure
  refine Calls.mono hcall fun e W' ⟨he, bel⟩ => ?_
  subst he
  have hB := hA
  rw [Try.params3] at hB
  obtain ⟨_, _, d0, ds0, _, _, _, rfl, _, _, r0⟩ := trodAll_cons hB
  obtain ⟨_, rfl, _⟩ := trodAll_nil r0
  exact ⟨_, rfl, _, _, _, [], _, [], hW', trodAll_mk1 (shut_bool Try.underlying4 _), args_stay laidOut bel ins hA, rfl, bel.frame _, fun h => by cases h⟩
theorem over : Rows.fnProducersRow.holds Try.pinned (OpenSpec.ofChange Rows.fnProducersSpec) :=
  OpenClaim.holds_of_wide 3 Try.f3 rfl rfl rfl rfl rfl rfl rfl ⟨rfl, rfl, rfl, rfl, rfl⟩ rfl rfl rfl rfl rfl (by kernel_rfl) Try.func3 (by kernel_rfl)
    (of_decide_eq_true (by kernel_rfl)) (by unfold Func.isWrapper; first | (rw [if_pos (by decide +kernel)]; kernel_rfl) | (rw [if_neg (by decide +kernel)]; exact ⟨rfl, rfl⟩))
    (fun os started H enc _ => lifted os started H enc)
theorem proved : Rows.FnProducersSaid := over
#print axioms proved
end Go.Proofs.Ytmbmapbdbbnaeaa.fnProducers
namespace Go.Proofs.Ytmbmapbdbbnaeaa
/-- The row, under a short name, for the claim. -/
theorem fnProducers_holds : Rows.FnProducersSaid := fnProducers.proved
end Go.Proofs.Ytmbmapbdbbnaeaa

/- The row of FnExactFreeTag, out of the contract of its Go function and its pure statement. Written by a program of the session (mkrow.py), in the shape of the kit's printed rows. -/
import Derived.Test.YtckpkjpcnlampaaRows
import Derived.Test.YtckpkjpcnlampaaPFnExactFreeTagx3
import Derived.Test.YtckpkjpcnlampaaPureFnExactFreeTag
import Derived.Test.YtckpkjpcnlampaaBridge
import Derived.WalkKit
import Derived.ProofKit
import Derived.OpenShut
import Derived.ShutString
import Derived.ChangeOld
import Derived.Below
import Derived.SizedLaws
namespace Go.Proofs.Ytckpkjpcnlampaa.fnExactFreeTag
open Go.ChangeShapes Go.WideShapes Go.ChangeAt Go.RowKit Go.Proofs.YtckpkjpcnlampaaW.PrintWords Go.Proofs.Ytckpkjpcnlampaa.PFnExactFreeTag
open Go.ChangeMaps (open_string shut_string)
set_option linter.unusedVariables false
theorem own : ownKnob Try.prog.godebug = none := by kernel_rfl
theorem laidOut : laidOutB Try.prog = true := by kernel_rfl
set_option maxRecDepth 100000 in
theorem lifted (os : Os) (started : os.Started) (H : Type) (enc : TypeId × Value → H) :
    ReturnsInHanded {} Try.checked os 6 .any (Rows.fnExactFreeTagSpec.pre6 enc Try.prog Try.f6 Rows.fnExactFreeTagRow.domain false) (Rows.fnExactFreeTagSpec.post enc Try.prog Try.f6 false true false false) := by
  refine returnsInHanded_of_change_sized (C := Try.checked) own started (by kernel_rfl) Try.func6
    (ChangeSpec.witness6 (enc := enc) (C := Try.checked) false ⟨#[], #[.agg #[.slice none 0 0], .int .i64 0], []⟩ 8 (by kernel_rfl) (by kernel_rfl) (by kernel_rfl) (by kernel_rfl)) ?_
  intro W base args ds gs before hval0 hW hcnd hsz0 _
  have hval : ∀ (j : Nat) t v, Try.f6.params[j]? = some t → args[j]? = some v → Value.okWide Try.prog W .any base t v := hval0
  have hW' := hW
  obtain ⟨p, q, hA0, hV, rfl, hfz, hnd⟩ := hW
  have hA : DataW.TrodAll enc Try.prog W 0 (fun _ => true) true Try.f6.params.toList args.toList ds p := hA0
  rw [Try.params6] at hA hval
  obtain ⟨v0, vs0, d0, ds0, p0, q0, hargs, rfl, rfl, h0, r0⟩ := trodAll_cons hA
  obtain ⟨v1, vs1, d1, ds1, p1, q1, rfl, rfl, rfl, h1, r1⟩ := trodAll_cons r0
  obtain ⟨rfl, rfl, rfl⟩ := trodAll_nil r1
  obtain rfl : args = #[v0, v1] := by cases args; simp_all
  obtain ⟨rfl, rfl⟩ := trodVars_none hV
  have k0 := h0
  have lt0 : ∀ x ∈ p0, x.block < W.heap.size := by obtain ⟨m, hm⟩ := k0; exact DataW.trod_lt m _ _ _ hm
  obtain ⟨cs0, rfl, hs0⟩ := okWide_struct Try.underlying24 (hval 0 24 v0 rfl rfl)
  obtain ⟨l0_0, K0, w0_0⟩ := Bridge.arg_struct (Bridge.opens_struct (n := 1) Try.underlying24 (by kernel_rfl) (Bridge.flds_one (n := 1) rfl (by kernel_rfl) rfl (Bridge.opens_slice (n := 1) Try.underlying22 (by kernel_rfl) rfl (Bridge.opens_bool Try.underlying4)))) h0
  obtain ⟨A0_0, c0_0, e0, hc0_0, hr0_0⟩ := K0
  obtain rfl : cs0 = #[.slice A0_0 l0_0.length c0_0] := by
    have z := congrArg List.toArray e0
    simpa using z
  obtain ⟨a1, rfl, rfl, rfl, w1⟩ := open_int Try.underlying3 (hval 1 3 v1 rfl rfl) h1
  clear hA0 hval0 hsz0
  obtain ⟨k, hh⟩ := Pure.FnExactFreeTag l0_0 a1 (Kd.C_max hr0_0) w0_0 w1
  have bel0 : Calls Try.prog 6 #[.agg #[.slice A0_0 l0_0.length c0_0], .int .i64 a1] W fun e w' => e = .returned (.bool true) ∧ Below W.heap.size W w' :=
    (laws_FnExactFreeTag.calls k A0_0 c0_0 l0_0 a1 true W hr0_0 hc0_0 hh).mono fun e w' ⟨he, hd⟩ => ⟨he, hd⟩
  refine bel0.mono fun e W' ⟨he, bel⟩ => ?_
  subst he
  exact ⟨_, rfl, _, _, _, [], _, [], hW', trodAll_mk1 (shut_bool Try.underlying4 _), (trodAll_cons_mk (Below.trod laidOut (by kernel_rfl) (of_decide_eq_true (by kernel_rfl)) k0 bel lt0) (trodAll_cons_mk (shut_int Try.underlying3 w1) trodAll_mk0)), rfl, bel.frame _, fun h => by cases h⟩
theorem over : Rows.fnExactFreeTagRow.holds Try.pinned (OpenSpec.ofChange Rows.fnExactFreeTagSpec) :=
  OpenClaim.holds_of_wide 6 Try.f6 rfl rfl rfl rfl rfl rfl rfl ⟨rfl, rfl, rfl, rfl, rfl⟩ rfl rfl rfl rfl rfl (by kernel_rfl) Try.func6 (by kernel_rfl)
    (of_decide_eq_true (by kernel_rfl)) (by unfold Func.isWrapper; first | (rw [if_pos (by decide +kernel)]; kernel_rfl) | (rw [if_neg (by decide +kernel)]; exact ⟨rfl, rfl⟩))
    (fun os started H enc _ => lifted os started H enc)
theorem proved : Rows.FnExactFreeTagSaid := over
#print axioms proved
end Go.Proofs.Ytckpkjpcnlampaa.fnExactFreeTag
namespace Go.Proofs.Ytckpkjpcnlampaa
/-- The row, under a short name, for the claim. -/
theorem fnExactFreeTag_holds : Rows.FnExactFreeTagSaid := fnExactFreeTag.proved
end Go.Proofs.Ytckpkjpcnlampaa

/- The row of FnExactReportError, out of the contract of its Go function and its pure statement. Written by a program of the session (mkrow.py), in the shape of the kit's printed rows. -/
import Derived.Test.YtbfkiggcemlmgaaRows
import Derived.Test.YtbfkiggcemlmgaaPFnExactReportErrorx7
import Derived.Test.YtbfkiggcemlmgaaPureFnExactReportError
import Derived.Test.YtbfkiggcemlmgaaBridge
import Derived.WalkKit
import Derived.ProofKit
import Derived.OpenShut
import Derived.ShutString
import Derived.ChangeOld
import Derived.Below
import Derived.SizedLaws
namespace Go.Proofs.Ytbfkiggcemlmgaa.fnExactReportError
open Go.ChangeShapes Go.WideShapes Go.ChangeAt Go.RowKit Go.Proofs.YtbfkiggcemlmgaaW.PrintWords Go.Proofs.Ytbfkiggcemlmgaa.PFnExactReportError
open Go.ChangeMaps (open_string shut_string)
set_option linter.unusedVariables false
theorem own : ownKnob Try.prog.godebug = none := by kernel_rfl
theorem laidOut : laidOutB Try.prog = true := by kernel_rfl
set_option maxRecDepth 100000 in
theorem lifted (os : Os) (started : os.Started) (H : Type) (enc : TypeId × Value → H) :
    ReturnsInHanded {} Try.checked os 7 .any (Rows.fnExactReportErrorSpec.pre6 enc Try.prog Try.f7 Rows.fnExactReportErrorRow.domain false) (Rows.fnExactReportErrorSpec.post enc Try.prog Try.f7 false true false false) := by
  refine returnsInHanded_of_change_sized (C := Try.checked) own started (by kernel_rfl) Try.func7
    (ChangeSpec.witness6 (enc := enc) (C := Try.checked) false ⟨#[], #[.agg #[.int .i64 0, .int .i64 0, .int .i64 0, .slice none 0 0], .int .i64 0], []⟩ 8 (by kernel_rfl) (by kernel_rfl) (by kernel_rfl) (by kernel_rfl)) ?_
  intro W base args ds gs before hval0 hW hcnd hsz0 _
  have hval : ∀ (j : Nat) t v, Try.f7.params[j]? = some t → args[j]? = some v → Value.okWide Try.prog W .any base t v := hval0
  have hW' := hW
  obtain ⟨p, q, hA0, hV, rfl, hfz, hnd⟩ := hW
  have hA : DataW.TrodAll enc Try.prog W 0 (fun _ => true) true Try.f7.params.toList args.toList ds p := hA0
  rw [Try.params7] at hA hval
  obtain ⟨v0, vs0, d0, ds0, p0, q0, hargs, rfl, rfl, h0, r0⟩ := trodAll_cons hA
  obtain ⟨v1, vs1, d1, ds1, p1, q1, rfl, rfl, rfl, h1, r1⟩ := trodAll_cons r0
  obtain ⟨rfl, rfl, rfl⟩ := trodAll_nil r1
  obtain rfl : args = #[v0, v1] := by cases args; simp_all
  obtain ⟨rfl, rfl⟩ := trodVars_none hV
  have k0 := h0
  have lt0 : ∀ x ∈ p0, x.block < W.heap.size := by obtain ⟨m, hm⟩ := k0; exact DataW.trod_lt m _ _ _ hm
  obtain ⟨cs0, rfl, hs0⟩ := okWide_struct Try.underlying26 (hval 0 26 v0 rfl rfl)
  obtain ⟨⟨a0_0, ⟨a0_1, ⟨a0_2, l0_3⟩⟩⟩, K0, ⟨w0_0, ⟨w0_1, ⟨w0_2, w0_3⟩⟩⟩⟩ := Bridge.arg_struct (Bridge.opens_struct (n := 4) Try.underlying26 (by kernel_rfl) (Bridge.flds_cons (n := 1) rfl (by kernel_rfl) (Bridge.opens_int Try.underlying3) (Bridge.flds_cons (n := 1) rfl (by kernel_rfl) (Bridge.opens_int Try.underlying3) (Bridge.flds_cons (n := 1) rfl (by kernel_rfl) (Bridge.opens_int Try.underlying3) (Bridge.flds_one (n := 1) rfl (by kernel_rfl) rfl (Bridge.opens_slice (n := 1) Try.underlying24 (by kernel_rfl) rfl (Bridge.opens_int Try.underlying3))))))) h0
  obtain ⟨_, _, e0, rfl, ⟨_, _, rfl, rfl, ⟨_, _, rfl, rfl, ⟨A0_3, c0_3, rfl, hc0_3, hr0_3⟩⟩⟩⟩ := K0
  obtain rfl : cs0 = #[.int .i64 a0_0, .int .i64 a0_1, .int .i64 a0_2, .slice A0_3 l0_3.length c0_3] := by
    have z := congrArg List.toArray e0
    simpa using z
  obtain ⟨a1, rfl, rfl, rfl, w1⟩ := open_int Try.underlying3 (hval 1 3 v1 rfl rfl) h1
  clear hA0 hval0 hsz0
  obtain ⟨k, hh⟩ := Pure.FnExactReportError a0_0 a0_1 a0_2 l0_3 a1 w0_0 w0_1 w0_2 (Kd.C_max hr0_3) w0_3 w1
  have bel0 : Calls Try.prog 7 #[.agg #[.int .i64 a0_0, .int .i64 a0_1, .int .i64 a0_2, .slice A0_3 l0_3.length c0_3], .int .i64 a1] W fun e w' => e = .returned (.bool true) ∧ Below W.heap.size W w' :=
    (laws_FnExactReportError.calls k a0_0 a0_1 a0_2 A0_3 c0_3 l0_3 a1 true W hr0_3 hc0_3 hh).mono fun e w' ⟨he, hd⟩ => ⟨he, hd⟩
  refine bel0.mono fun e W' ⟨he, bel⟩ => ?_
  subst he
  exact ⟨_, rfl, _, _, _, [], _, [], hW', trodAll_mk1 (shut_bool Try.underlying4 _), (trodAll_cons_mk (Below.trod laidOut (by kernel_rfl) (of_decide_eq_true (by kernel_rfl)) k0 bel lt0) (trodAll_cons_mk (shut_int Try.underlying3 w1) trodAll_mk0)), rfl, bel.frame _, fun h => by cases h⟩
theorem over : Rows.fnExactReportErrorRow.holds Try.pinned (OpenSpec.ofChange Rows.fnExactReportErrorSpec) :=
  OpenClaim.holds_of_wide 7 Try.f7 rfl rfl rfl rfl rfl rfl rfl ⟨rfl, rfl, rfl, rfl, rfl⟩ rfl rfl rfl rfl rfl (by kernel_rfl) Try.func7 (by kernel_rfl)
    (of_decide_eq_true (by kernel_rfl)) (by unfold Func.isWrapper; first | (rw [if_pos (by decide +kernel)]; kernel_rfl) | (rw [if_neg (by decide +kernel)]; exact ⟨rfl, rfl⟩))
    (fun os started H enc _ => lifted os started H enc)
theorem proved : Rows.FnExactReportErrorSaid := over
#print axioms proved
end Go.Proofs.Ytbfkiggcemlmgaa.fnExactReportError
namespace Go.Proofs.Ytbfkiggcemlmgaa
/-- The row, under a short name, for the claim. -/
theorem fnExactReportError_holds : Rows.FnExactReportErrorSaid := fnExactReportError.proved
end Go.Proofs.Ytbfkiggcemlmgaa

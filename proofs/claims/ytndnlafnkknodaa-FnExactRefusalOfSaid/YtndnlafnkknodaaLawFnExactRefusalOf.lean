/- The row of FnExactRefusalOf, out of the contract of its Go function and its pure statement. Written by a program of the session (mkrow.py), in the shape of the kit's printed rows. -/
import Derived.Test.YtndnlafnkknodaaRows
import Derived.Test.YtndnlafnkknodaaPFnExactRefusalOfx8
import Derived.Test.YtndnlafnkknodaaPureFnExactRefusalOf
import Derived.Test.YtndnlafnkknodaaBridge
import Derived.WalkKit
import Derived.ProofKit
import Derived.OpenShut
import Derived.ShutString
import Derived.ChangeOld
import Derived.Below
import Derived.SizedLaws
namespace Go.Proofs.Ytndnlafnkknodaa.fnExactRefusalOf
open Go.ChangeShapes Go.WideShapes Go.ChangeAt Go.RowKit Go.Proofs.YtndnlafnkknodaaW.PrintWords Go.Proofs.Ytndnlafnkknodaa.PFnExactRefusalOf
open Go.ChangeMaps (open_string shut_string)
set_option linter.unusedVariables false
theorem own : ownKnob Try.prog.godebug = none := by kernel_rfl
theorem laidOut : laidOutB Try.prog = true := by kernel_rfl
set_option maxRecDepth 100000 in
theorem lifted (os : Os) (started : os.Started) (H : Type) (enc : TypeId × Value → H) :
    ReturnsInHanded {} Try.checked os 8 .any (Rows.fnExactRefusalOfSpec.pre6 enc Try.prog Try.f8 Rows.fnExactRefusalOfRow.domain false) (Rows.fnExactRefusalOfSpec.post enc Try.prog Try.f8 false true false false) := by
  refine returnsInHanded_of_change_sized (C := Try.checked) own started (by kernel_rfl) Try.func8
    (ChangeSpec.witness6 (enc := enc) (C := Try.checked) false ⟨#[], #[.agg #[.int .i64 0, .int .i64 0, .int .i64 0, .int .i64 0, .int .i64 0, .int .i64 0, .int .i64 0, .slice none 0 0], .int .i64 0, .int .i64 0], []⟩ 8 (by kernel_rfl) (by kernel_rfl) (by kernel_rfl) (by kernel_rfl)) ?_
  intro W base args ds gs before hval0 hW hcnd hsz0 _
  have hval : ∀ (j : Nat) t v, Try.f8.params[j]? = some t → args[j]? = some v → Value.okWide Try.prog W .any base t v := hval0
  have hW' := hW
  obtain ⟨p, q, hA0, hV, rfl, hfz, hnd⟩ := hW
  have hA : DataW.TrodAll enc Try.prog W 0 (fun _ => true) true Try.f8.params.toList args.toList ds p := hA0
  rw [Try.params8] at hA hval
  obtain ⟨v0, vs0, d0, ds0, p0, q0, hargs, rfl, rfl, h0, r0⟩ := trodAll_cons hA
  obtain ⟨v1, vs1, d1, ds1, p1, q1, rfl, rfl, rfl, h1, r1⟩ := trodAll_cons r0
  obtain ⟨v2, vs2, d2, ds2, p2, q2, rfl, rfl, rfl, h2, r2⟩ := trodAll_cons r1
  obtain ⟨rfl, rfl, rfl⟩ := trodAll_nil r2
  obtain rfl : args = #[v0, v1, v2] := by cases args; simp_all
  obtain ⟨rfl, rfl⟩ := trodVars_none hV
  have k0 := h0
  have lt0 : ∀ x ∈ p0, x.block < W.heap.size := by obtain ⟨m, hm⟩ := k0; exact DataW.trod_lt m _ _ _ hm
  obtain ⟨cs0, rfl, hs0⟩ := okWide_struct Try.underlying44 (hval 0 44 v0 rfl rfl)
  obtain ⟨⟨a0_0, ⟨a0_1, ⟨a0_2, ⟨a0_3, ⟨a0_4, ⟨a0_5, ⟨a0_6, l0_7⟩⟩⟩⟩⟩⟩⟩, K0, ⟨w0_0, ⟨w0_1, ⟨w0_2, ⟨w0_3, ⟨w0_4, ⟨w0_5, ⟨w0_6, w0_7⟩⟩⟩⟩⟩⟩⟩⟩ := Bridge.arg_struct (Bridge.opens_struct (n := 8) Try.underlying44 (by kernel_rfl) (Bridge.flds_cons (n := 1) rfl (by kernel_rfl) (Bridge.opens_int Try.underlying3) (Bridge.flds_cons (n := 1) rfl (by kernel_rfl) (Bridge.opens_int Try.underlying3) (Bridge.flds_cons (n := 1) rfl (by kernel_rfl) (Bridge.opens_int Try.underlying3) (Bridge.flds_cons (n := 1) rfl (by kernel_rfl) (Bridge.opens_int Try.underlying3) (Bridge.flds_cons (n := 1) rfl (by kernel_rfl) (Bridge.opens_int Try.underlying3) (Bridge.flds_cons (n := 1) rfl (by kernel_rfl) (Bridge.opens_int Try.underlying3) (Bridge.flds_cons (n := 1) rfl (by kernel_rfl) (Bridge.opens_int Try.underlying3) (Bridge.flds_one (n := 1) rfl (by kernel_rfl) rfl (Bridge.opens_slice (n := 1) Try.underlying26 (by kernel_rfl) rfl (Bridge.opens_int Try.underlying3))))))))))) h0
  obtain ⟨_, _, e0, rfl, ⟨_, _, rfl, rfl, ⟨_, _, rfl, rfl, ⟨_, _, rfl, rfl, ⟨_, _, rfl, rfl, ⟨_, _, rfl, rfl, ⟨_, _, rfl, rfl, ⟨A0_7, c0_7, rfl, hc0_7, hr0_7⟩⟩⟩⟩⟩⟩⟩⟩ := K0
  obtain rfl : cs0 = #[.int .i64 a0_0, .int .i64 a0_1, .int .i64 a0_2, .int .i64 a0_3, .int .i64 a0_4, .int .i64 a0_5, .int .i64 a0_6, .slice A0_7 l0_7.length c0_7] := by
    have z := congrArg List.toArray e0
    simpa using z
  obtain ⟨a1, rfl, rfl, rfl, w1⟩ := open_int Try.underlying3 (hval 1 3 v1 rfl rfl) h1
  obtain ⟨a2, rfl, rfl, rfl, w2⟩ := open_int Try.underlying3 (hval 2 3 v2 rfl rfl) h2
  clear hA0 hval0 hsz0
  obtain ⟨k, hh⟩ := Pure.FnExactRefusalOf a0_0 a0_1 a0_2 a0_3 a0_4 a0_5 a0_6 l0_7 a1 a2 w0_0 w0_1 w0_2 w0_3 w0_4 w0_5 w0_6 (Kd.C_max hr0_7) w0_7 w1 w2
  have bel0 : Calls Try.prog 8 #[.agg #[.int .i64 a0_0, .int .i64 a0_1, .int .i64 a0_2, .int .i64 a0_3, .int .i64 a0_4, .int .i64 a0_5, .int .i64 a0_6, .slice A0_7 l0_7.length c0_7], .int .i64 a1, .int .i64 a2] W fun e w' => e = .returned (.bool true) ∧ Below W.heap.size W w' :=
    (laws_FnExactRefusalOf.calls k a0_0 a0_1 a0_2 a0_3 a0_4 a0_5 a0_6 A0_7 c0_7 l0_7 a1 a2 W hr0_7 hc0_7 hh).mono fun e w' ⟨he, hd⟩ => ⟨he, hd⟩
  refine bel0.mono fun e W' ⟨he, bel⟩ => ?_
  subst he
  exact ⟨_, rfl, _, _, _, [], _, [], hW', trodAll_mk1 (shut_bool Try.underlying4 _), (trodAll_cons_mk (Below.trod laidOut (by kernel_rfl) (of_decide_eq_true (by kernel_rfl)) k0 bel lt0) (trodAll_cons_mk (shut_int Try.underlying3 w1) (trodAll_cons_mk (shut_int Try.underlying3 w2) trodAll_mk0))), rfl, bel.frame _, fun h => by cases h⟩
theorem over : Rows.fnExactRefusalOfRow.holds Try.pinned (OpenSpec.ofChange Rows.fnExactRefusalOfSpec) :=
  OpenClaim.holds_of_wide 8 Try.f8 rfl rfl rfl rfl rfl rfl rfl ⟨rfl, rfl, rfl, rfl, rfl⟩ rfl rfl rfl rfl rfl (by kernel_rfl) Try.func8 (by kernel_rfl)
    (of_decide_eq_true (by kernel_rfl)) (by unfold Func.isWrapper; first | (rw [if_pos (by decide +kernel)]; kernel_rfl) | (rw [if_neg (by decide +kernel)]; exact ⟨rfl, rfl⟩))
    (fun os started H enc _ => lifted os started H enc)
theorem proved : Rows.FnExactRefusalOfSaid := over
#print axioms proved
end Go.Proofs.Ytndnlafnkknodaa.fnExactRefusalOf
namespace Go.Proofs.Ytndnlafnkknodaa
/-- The row, under a short name, for the claim. -/
theorem fnExactRefusalOf_holds : Rows.FnExactRefusalOfSaid := fnExactRefusalOf.proved
end Go.Proofs.Ytndnlafnkknodaa

/- Began as a text of the kit's print over the program with some leaves' bodies turned; those leaves' own parts are the session's. -/
import Derived.Test.YtbfkiggcemlmgaaPFnLogsx0
import Derived.Test.YtbfkiggcemlmgaaPFnLogsx1
import Derived.Test.YtbfkiggcemlmgaaPFnLogsx2
namespace Go.Proofs.Ytbfkiggcemlmgaa.PFnLogs
open Go.RowKit Go.Proofs.YtbfkiggcemlmgaaW.PrintWords Go.Proofs.YtbfkiggcemlmgaaW.PrintLast Go.Proofs.YtbfkiggcemlmgaaW.PrintMore
attribute [local go_sem] max2_int min2_int max_two min_two max_three min_three max_four min_four   -- for this text's walks alone
set_option linter.unusedVariables false
set_option linter.unusedSimpArgs false

/-! ### spec_ReportError: function 21 -/
def spec_ReportError.j0 : Nat → Int → Bool → Int → Int → Int → List Int → Int → Int → Int → List Int → Option (Int × Int × Int × List Int × Int)
  | 0, _, _, _, _, _, _, _, _, _, _ => none
  | k + 1, x1, x16, x131000, x131001, x131002, x131003, x139000, x139001, x139002, x139003 => if x16 = true then (some (x139000, x139001, x139002, x139003, (-1))) else (if x131000 = 0 then (if 0 ≤ x1 then (if (Go.bits .and .i64 (shr .i64 x131001 x1) 1) = 1 then (some (Go.bits .or .i64 x131000 (shl .i64 1 x1), x139001, x1, x139003, (-1))) else (if x1 < (x131003.length : Int) then (some (Go.bits .or .i64 x131000 (shl .i64 1 x1), x139001, x1, x139003, rd x131003 x1)) else (none))) else (none)) else (if 0 ≤ x1 then (if (Go.bits .and .i64 (shr .i64 x131001 x1) 1) = 1 then (some (Go.bits .or .i64 x131000 (shl .i64 1 x1), x139001, x139002, x139003, (-1))) else (if x1 < (x131003.length : Int) then (some (Go.bits .or .i64 x131000 (shl .i64 1 x1), x139001, x139002, x139003, rd x131003 x1)) else (none))) else (none)))
def spec_ReportError.f (k : Nat) (a0_0 : Int) (a0_1 : Int) (a0_2 : Int) (l0_3 : List Int) (a1 : Int) : Option (Int × Int × Int × List Int × Int) := (spec_l32Copy.f a0_0 a0_1 a0_2 l0_3).bind fun bt132 => ((spec_LogOk.f k a0_0 a0_1 a0_2 l0_3).bind fun t139 => (if t139 = true then ((spec_l01In.f a1 0 15).bind fun t140 => (spec_ReportError.j0 k a1 (!t140) a0_0 a0_1 a0_2 l0_3 bt132.1 bt132.2.1 bt132.2.2.1 bt132.2.2.2)) else (spec_ReportError.j0 k a1 true a0_0 a0_1 a0_2 l0_3 bt132.1 bt132.2.1 bt132.2.2.1 bt132.2.2.2)))
theorem spec_ReportError.mono_l : ∀ k, (∀ y0 y1 y2 y3 y4 y5 y6 y7 y8 y9, LeO (spec_ReportError.j0 k y0 y1 y2 y3 y4 y5 y6 y7 y8 y9) (spec_ReportError.j0 (k + 1) y0 y1 y2 y3 y4 y5 y6 y7 y8 y9))
  | 0 => fun _ _ _ _ _ _ _ _ _ _ r h => by simp [spec_ReportError.j0] at h
  | k + 1 => by
    have ih0 := spec_ReportError.mono_l k
    · intro y0 y1 y2 y3 y4 y5 y6 y7 y8 y9
      unfold spec_ReportError.j0
      repeat' first
      | (with_reducible exact ih0 _ _ _ _ _ _ _ _ _ _)
      | (with_reducible exact spec_LogOk.mono _ _ _ _ _)
      | (with_reducible exact LeO.refl _)
      | (with_reducible exact LeO.none _)
      | (with_reducible refine LeO.ite ?_ ?_)
      | (with_reducible refine LeO.bind ?_ (fun _ => ?_))
      | exact ih0 _ _ _ _ _ _ _ _ _ _
      | exact spec_LogOk.mono _ _ _ _ _
      | exact LeO.none _
      | refine LeO.ite ?_ ?_
      | refine LeO.bind ?_ (fun _ => ?_)
theorem spec_ReportError.mono : ∀ a0 a1 a2 a3 a4 k, LeO (spec_ReportError.f k a0 a1 a2 a3 a4) (spec_ReportError.f (k + 1) a0 a1 a2 a3 a4) := by
  intro a0 a1 a2 a3 a4 k
  have ih0 := spec_ReportError.mono_l k
  unfold spec_ReportError.f
  repeat' first
      | (with_reducible exact ih0 _ _ _ _ _ _ _ _ _ _)
      | (with_reducible exact spec_LogOk.mono _ _ _ _ _)
      | (with_reducible exact LeO.refl _)
      | (with_reducible exact LeO.none _)
      | (with_reducible refine LeO.ite ?_ ?_)
      | (with_reducible refine LeO.bind ?_ (fun _ => ?_))
      | exact ih0 _ _ _ _ _ _ _ _ _ _
      | exact spec_LogOk.mono _ _ _ _ _
      | exact LeO.none _
      | refine LeO.ite ?_ ?_
      | refine LeO.bind ?_ (fun _ => ?_)
def spec_ReportError.T9 : Bool × List (List Nat × List Nat) := (true, [([], []), ([], []), ([1], [1]), ([], []), ([2, 3], [2, 3]), ([4], [4]), ([0, 0], [0]), ([5, 6, 0, 1, 2, 3, 4, 5, 6], [5])])
def spec_ReportError.B9 : List Nat := [0, 0, 2, 0, 14, 30, 1, 127]
theorem spec_ReportError.tab9 : rtab .any (opsOf Try.f21 9) = spec_ReportError.T9 := by kernel_rfl
theorem spec_ReportError.bits9 : waitsOk spec_ReportError.T9.2 spec_ReportError.B9 = true := by kernel_rfl
set_option maxHeartbeats 8000000 in
set_option maxRecDepth 100000 in
theorem spec_ReportError.calls (k : Nat) (a0_0 : Int) (a0_1 : Int) (a0_2 : Int) (A0_3 : Option Addr) (c0_3 : Nat) (l0_3 : List Int) (a1 : Int) (r1 : Int) (r2 : Int) (r3 : Int) (r4 : List Int) (r5 : Int) (w : World) (hr0_3 : Kd.C (Kd.int .i64) w A0_3 l0_3.length l0_3) (hc0_3 : l0_3.length ≤ c0_3) (h : spec_ReportError.f k a0_0 a0_1 a0_2 l0_3 a1 = some (r1, r2, r3, r4, r5)) :
    Calls Try.prog 21 #[.agg #[.int .i64 a0_0, .int .i64 a0_1, .int .i64 a0_2, .slice A0_3 l0_3.length c0_3], .int .i64 a1] w fun e w' => ∃ v3_ : Value, e = .returned (.tuple #[.agg #[.int .i64 r1, .int .i64 r2, .int .i64 r3, v3_], .int .i64 r5]) ∧ Kd.R (Kd.int .i64) 3 w' w.heap.size (fun _ => True) v3_ r4 ∧ Below w.heap.size w w' := by
  have hu29 := Try.underlying29
  have HR0_3 := Aside0.mk hr0_3
  have HC0_3 := Aside0.mk hc0_3
  clear hr0_3 hc0_3
  have HB := Aside0.mk (Below.refl w.heap.size w)
  have H : ((spec_l32Copy.f a0_0 a0_1 a0_2 l0_3).bind fun bt132 => ((spec_LogOk.f k a0_0 a0_1 a0_2 l0_3).bind fun t139 => (if t139 = true then ((spec_l01In.f a1 0 15).bind fun t140 => (spec_ReportError.j0 k a1 (!t140) a0_0 a0_1 a0_2 l0_3 bt132.1 bt132.2.1 bt132.2.2.1 bt132.2.2.2)) else (spec_ReportError.j0 k a1 true a0_0 a0_1 a0_2 l0_3 bt132.1 bt132.2.1 bt132.2.2.1 bt132.2.2.2)))) = some (r1, r2, r3, r4, r5) := h
  clear h
  replace H := Option.bind_eq_some_iff.mp H
  obtain ⟨⟨t132, t133, t134, t135⟩, A30, H⟩ := H
  replace H : ((spec_LogOk.f k a0_0 a0_1 a0_2 l0_3).bind fun t139 => (if t139 = true then ((spec_l01In.f a1 0 15).bind fun t140 => (spec_ReportError.j0 k a1 (!t140) a0_0 a0_1 a0_2 l0_3 t132 t133 t134 t135)) else (spec_ReportError.j0 k a1 true a0_0 a0_1 a0_2 l0_3 t132 t133 t134 t135))) = some (r1, r2, r3, r4, r5) := H
  have A3 := Aside0.mk A30
  clear A30
  have HC4 := Aside0.mk H
  clear H
  go_enter Try.func21, Try.ntmps21
  go_upto_region 2 with (first | ((with_reducible refine gate_dst (N := 2) rfl ?_); refine box_event ?hg (N := 2) ?hd (cs := #[.int .i64 a0_0, .int .i64 a0_1, .int .i64 a0_2, .slice A0_3 l0_3.length c0_3]) (t := 29) ?hr ?_; (case hd => rfl); (case hg => rfl); (case hr => first | (go_simp; done) | (go_simp; rfl)); intro gb130 hg w5 hbox hb; have n0_ := Aside0.mk (below_step (bl_ HB) hb); have n1_ := Aside0.mk (hbox); have n2_ := Aside0.mk ((by rw [hg]; exact (below_size (bl_ HB)) : w.heap.size ≤ gb130)); have n3_ := Aside0.mk ((by rw [hg]; exact (below_size (bl_ HB)) : w.heap.size ≤ gb130)); clear HB; have HB := n0_; have BK130 := n1_; have GW130 := n2_; have GE130 := n3_; clear n0_ n1_ n2_ n3_; clear hb hbox hg) | ((with_reducible refine gate_dst (N := 4) rfl ?_); refine box_event ?hg (N := 4) ?hd (cs := #[.int .i64 0, .int .i64 0, .int .i64 0, .slice none 0 0]) (t := 29) ?hr ?_; (case hd => rfl); (case hg => rfl); (case hr => first | (go_simp; done) | (go_simp; rfl)); intro gb131 hg w6 hbox hb; have n0_ := Aside0.mk (blk_below (g := gb130) (o := .cells #[.int .i64 a0_0, .int .i64 a0_1, .int .i64 a0_2, .slice A0_3 l0_3.length c0_3] 29 (0, 0)) (bu_ BK130) hb); have n1_ := Aside0.mk (below_step (by repeat (first | (with_reducible first | exact HB.out | apply below_alloc | apply pw_below_drewN | apply below_drew1 | refine below_set ?_ GE130.out) | exact HB.out)) hb); have n2_ := Aside0.mk (hbox); have n3_ := Aside0.mk ((by rw [hg]; exact (below_size (by repeat (first | (with_reducible first | exact HB.out | apply below_alloc | apply pw_below_drewN | apply below_drew1 | refine below_set ?_ GE130.out) | exact HB.out))) : w.heap.size ≤ gb131)); have n4_ := Aside0.mk ((by rw [hg]; exact (below_size (by repeat (first | (with_reducible first | exact HB.out | apply below_alloc | apply pw_below_drewN | apply below_drew1 | refine below_set ?_ GE130.out) | exact HB.out))) : w.heap.size ≤ gb131)); have n5_ := Aside0.mk ((by rw [hg]; exact Nat.ne_of_lt (blk_lt (g := gb130) (o := .cells #[.int .i64 a0_0, .int .i64 a0_1, .int .i64 a0_2, .slice A0_3 l0_3.length c0_3] 29 (0, 0)) (bu_ BK130)) : gb130 ≠ gb131)); have n6_ := Aside0.mk ((by rw [hg]; exact Nat.ne_of_gt (blk_lt (g := gb130) (o := .cells #[.int .i64 a0_0, .int .i64 a0_1, .int .i64 a0_2, .slice A0_3 l0_3.length c0_3] 29 (0, 0)) (bu_ BK130)) : gb131 ≠ gb130)); clear BK130; clear HB; have BK130 := n0_; have HB := n1_; have BK131 := n2_; have GW131 := n3_; have GE131 := n4_; have NB130_131 := n5_; have NB131_130 := n6_; clear n0_ n1_ n2_ n3_ n4_ n5_ n6_; clear hb hbox hg; have hnb7 := NB130_131.out; have hnc7 := NB131_130.out; obtain ⟨hcz8_0, hcz8_1, hcz8_2, hcz8_3, hfz8_0, hfz8_1, hfz8_2, hfz8_3⟩ := cf4_ BK130) | ((with_reducible refine gate_callee (f := 38) rfl ?_); refine goesL_ (some 8) rfl rfl Try.func38 (by kernel_rfl) rfl #[.agg #[.int .i64 a0_0, .int .i64 a0_1, .int .i64 a0_2, .slice A0_3 l0_3.length c0_3]] rfl (by (try simp only [List.map_toArray, List.map_cons, List.map_nil]); first | done | rfl | (simp only [List.length_drop, List.length_take]; rfl)) ?_; (with_reducible refine (spec_l32Copy.calls a0_0 a0_1 a0_2 _ _ l0_3 t132 t133 t134 t135 _ ?side1 ?side2 A3.out).mono ?_); (case side1 => exact Kd.C_below HR0_3.out (bl_ HB)); (case side2 => exact HC0_3.out); rintro e w9 ⟨v136, rfl, ho0, hb⟩; refine ⟨_, rfl, ?_⟩; have n0_ := Aside0.mk (Kd.R_lower ho0 (below_size (by repeat (first | (with_reducible first | exact HB.out | apply below_alloc | apply pw_below_drewN | apply below_drew1 | refine below_set ?_ GE130.out | refine below_set ?_ GE131.out) | exact HB.out)))); have n1_ := Aside0.mk (blk_below (g := gb130) (o := .cells #[.int .i64 a0_0, .int .i64 a0_1, .int .i64 a0_2, .slice A0_3 l0_3.length c0_3] 29 (0, 0)) (bu_ BK130) hb); have n2_ := Aside0.mk (blk_below (g := gb131) (o := .cells #[.int .i64 0, .int .i64 0, .int .i64 0, .slice none 0 0] 29 (0, 0)) (bu_ BK131) hb); have n3_ := Aside0.mk (below_step (by repeat (first | (with_reducible first | exact HB.out | apply below_alloc | apply pw_below_drewN | apply below_drew1 | refine below_set ?_ GE130.out | refine below_set ?_ GE131.out) | exact HB.out)) hb); clear BK130; clear BK131; clear HB; have HO137 := n0_; have BK130 := n1_; have BK131 := n2_; have HB := n3_; clear n0_ n1_ n2_ n3_; (try clear hb); (try clear hb2); (try clear hk); (try clear hi); (try clear ho0)) | ((with_reducible refine gate_dst (N := 6) rfl ?_); refine box_event ?hg (N := 6) ?hd (cs := #[.int .i64 0, .int .i64 0, .int .i64 0, .slice none 0 0]) (t := 29) ?hr ?_; (case hd => rfl); (case hg => rfl); (case hr => first | (go_simp; done) | (go_simp; rfl)); intro gb138 hg w10 hbox hb; have n0_ := Aside0.mk (Kd.R_below (by (with_reducible repeat (first | apply ra_ | apply rb_ | apply rc_)); exact HO137.out) hb); have n1_ := Aside0.mk (blk_below (g := gb130) (o := .cells #[.int .i64 a0_0, .int .i64 a0_1, .int .i64 a0_2, .slice A0_3 l0_3.length c0_3] 29 (0, 0)) (bu_ BK130) hb); have n2_ := Aside0.mk (blk_below (g := gb131) (o := .cells #[.int .i64 0, .int .i64 0, .int .i64 0, .slice none 0 0] 29 (0, 0)) (bu_ BK131) hb); have n3_ := Aside0.mk (below_step (by repeat (first | (with_reducible first | exact HB.out | apply below_alloc | apply pw_below_drewN | apply below_drew1 | refine below_set ?_ GE130.out | refine below_set ?_ GE131.out) | exact HB.out)) hb); have n4_ := Aside0.mk (hbox); have n5_ := Aside0.mk ((by rw [hg]; exact (below_size (by repeat (first | (with_reducible first | exact HB.out | apply below_alloc | apply pw_below_drewN | apply below_drew1 | refine below_set ?_ GE130.out | refine below_set ?_ GE131.out) | exact HB.out))) : w.heap.size ≤ gb138)); have n6_ := Aside0.mk ((by rw [hg]; exact (below_size (by repeat (first | (with_reducible first | exact HB.out | apply below_alloc | apply pw_below_drewN | apply below_drew1 | refine below_set ?_ GE130.out | refine below_set ?_ GE131.out) | exact HB.out))) : w.heap.size ≤ gb138)); have n7_ := Aside0.mk ((by rw [hg]; exact Nat.ne_of_lt (blk_lt (g := gb130) (o := .cells #[.int .i64 a0_0, .int .i64 a0_1, .int .i64 a0_2, .slice A0_3 l0_3.length c0_3] 29 (0, 0)) (bu_ BK130)) : gb130 ≠ gb138)); have n8_ := Aside0.mk ((by rw [hg]; exact Nat.ne_of_gt (blk_lt (g := gb130) (o := .cells #[.int .i64 a0_0, .int .i64 a0_1, .int .i64 a0_2, .slice A0_3 l0_3.length c0_3] 29 (0, 0)) (bu_ BK130)) : gb138 ≠ gb130)); have n9_ := Aside0.mk ((by rw [hg]; exact Nat.ne_of_lt (blk_lt (g := gb131) (o := .cells #[.int .i64 0, .int .i64 0, .int .i64 0, .slice none 0 0] 29 (0, 0)) (bu_ BK131)) : gb131 ≠ gb138)); have n10_ := Aside0.mk ((by rw [hg]; exact Nat.ne_of_gt (blk_lt (g := gb131) (o := .cells #[.int .i64 0, .int .i64 0, .int .i64 0, .slice none 0 0] 29 (0, 0)) (bu_ BK131)) : gb138 ≠ gb131)); clear HO137; clear BK130; clear BK131; clear HB; have HO137 := n0_; have BK130 := n1_; have BK131 := n2_; have HB := n3_; have BK138 := n4_; have GW138 := n5_; have GE138 := n6_; have NB130_138 := n7_; have NB138_130 := n8_; have NB131_138 := n9_; have NB138_131 := n10_; clear n0_ n1_ n2_ n3_ n4_ n5_ n6_ n7_ n8_ n9_ n10_; clear hb hbox hg; have hnb11 := NB138_130.out; have hnc11 := NB130_138.out; have hnb12 := NB138_131.out; have hnc12 := NB131_138.out; obtain ⟨hcz13_0, hcz13_1, hcz13_2, hcz13_3, hfz13_0, hfz13_1, hfz13_2, hfz13_3⟩ := cf4_ BK138; obtain ⟨Ao14, co14, eo14⟩ := Kd.R_slice HO137.out; subst eo14))
  (try simp only [Act.put, List.setIfInBounds_toArray, List.set_cons_zero, List.set_cons_succ])
  go_cut [16] (fun v16 wc => ∃ (kq : Nat) (x16_3 : Bool), v16 = .bool x16_3 ∧ Aside0 (spec_ReportError.j0 kq a1 x16_3 a0_0 a0_1 a0_2 l0_3 t132 t133 t134 t135 = some (r1, r2, r3, r4, r5)) ∧ Aside0 (kq ≤ k) ∧ Aside0 (Kd.R (Kd.int .i64) 3 wc w.heap.size (fun _ => True) (.slice Ao14 t135.length co14) t135) ∧ Aside0 (wc.heap[gb130]? = some (.cells #[.int .i64 a0_0, .int .i64 a0_1, .int .i64 a0_2, (.slice A0_3 l0_3.length c0_3)] 29 (0, 0))) ∧ Aside0 (wc.heap[gb131]? = some (.cells #[.int .i64 0, .int .i64 0, .int .i64 0, (.slice none 0 0)] 29 (0, 0))) ∧ Aside0 (wc.heap[gb138]? = some (.cells #[.int .i64 t132, .int .i64 t133, .int .i64 t134, (.slice Ao14 t135.length co14)] 29 (0, 0))) ∧ Aside0 (Below w.heap.size w wc))
  case first =>
    have H := HC4.out
    clear HC4
    replace H := Option.bind_eq_some_iff.mp H
    obtain ⟨t139, A150, H⟩ := H
    replace H : (if t139 = true then ((spec_l01In.f a1 0 15).bind fun t140 => (spec_ReportError.j0 k a1 (!t140) a0_0 a0_1 a0_2 l0_3 t132 t133 t134 t135)) else (spec_ReportError.j0 k a1 true a0_0 a0_1 a0_2 l0_3 t132 t133 t134 t135)) = some (r1, r2, r3, r4, r5) := H
    have A15 := Aside0.mk A150
    clear A150
    by_cases c16 : t139 = true
    · subst c16
      have H1 : ((spec_l01In.f a1 0 15).bind fun t140 => (spec_ReportError.j0 k a1 (!t140) a0_0 a0_1 a0_2 l0_3 t132 t133 t134 t135)) = some (r1, r2, r3, r4, r5) := by rw [if_pos rfl] at H; exact H
      clear H
      have H := H1
      clear H1
      replace H := Option.bind_eq_some_iff.mp H
      obtain ⟨t140, A170, H⟩ := H
      replace H : (spec_ReportError.j0 k a1 (!t140) a0_0 a0_1 a0_2 l0_3 t132 t133 t134 t135) = some (r1, r2, r3, r4, r5) := H
      have A17 := Aside0.mk A170
      clear A170
      have H' := Aside0.mk H
      clear H
      have hnb18 := NB130_131.out
      have hnc18 := NB131_130.out
      have hnb19 := NB130_138.out
      have hnc19 := NB138_130.out
      obtain ⟨hcz20_0, hcz20_1, hcz20_2, hcz20_3, hfz20_0, hfz20_1, hfz20_2, hfz20_3⟩ := cf4_ BK130
      go_wp2_with (first | ((with_reducible refine gate_callee (f := 11) rfl ?_); refine goesL_ (some 10) rfl rfl Try.func11 (by kernel_rfl) rfl #[.agg #[.int .i64 a0_0, .int .i64 a0_1, .int .i64 a0_2, .slice A0_3 l0_3.length c0_3]] rfl (by (try simp only [List.map_toArray, List.map_cons, List.map_nil]); first | done | rfl | (simp only [List.length_drop, List.length_take]; rfl)) ?_; (with_reducible refine (spec_LogOk.calls k a0_0 a0_1 a0_2 _ _ l0_3 true _ ?side1 ?side2 A15.out).mono ?_); (case side1 => exact Kd.C_below HR0_3.out (by repeat (first | (with_reducible first | exact HB.out | apply below_alloc | apply pw_below_drewN | apply below_drew1 | refine below_set ?_ GE130.out | refine below_set ?_ GE131.out | refine below_set ?_ GE138.out) | exact HB.out))); (case side2 => exact HC0_3.out); rintro e w21 ⟨rfl, hb⟩; refine ⟨_, rfl, ?_⟩; have n0_ := Aside0.mk (Kd.R_below (by (with_reducible repeat (first | apply ra_ | apply rb_ | apply rc_)); exact (Kd.R_mono (Kd.R_far (p := ⟨gb138, 3, none⟩) (Kd.R_far (p := ⟨gb138, 2, none⟩) (Kd.R_far (p := ⟨gb138, 1, none⟩) (Kd.R_far (p := ⟨gb138, 0, none⟩) (Kd.R_types HO137.out BK138.out (by decide)) (fun _ hk => hk.2) (.int .i64 t132)) (fun _ hk => hk.2) (.int .i64 t133)) (fun _ hk => hk.2) (.int .i64 t134)) (fun _ hk => hk.2) (.slice Ao14 t135.length co14)) (fun _ h_ => h_.1))) hb); have n1_ := Aside0.mk (blk_below (g := gb130) (o := .cells #[.int .i64 a0_0, .int .i64 a0_1, .int .i64 a0_2, .slice A0_3 l0_3.length c0_3] 29 (0, 0)) (by (with_reducible repeat (first | refine ba_ ?_ _ | refine bb_ ?_ | refine bc_ ?_ _)); refine blk_far ?_ NB130_138.out _; (with_reducible repeat (first | refine ba_ ?_ _ | refine bb_ ?_ | refine bc_ ?_ _)); refine blk_far ?_ NB130_138.out _; (with_reducible repeat (first | refine ba_ ?_ _ | refine bb_ ?_ | refine bc_ ?_ _)); refine blk_far ?_ NB130_138.out _; (with_reducible repeat (first | refine ba_ ?_ _ | refine bb_ ?_ | refine bc_ ?_ _)); refine blk_far ?_ NB130_138.out _; (with_reducible repeat (first | refine ba_ ?_ _ | refine bb_ ?_ | refine bc_ ?_ _)); exact BK130.out) hb); have n2_ := Aside0.mk (blk_below (g := gb131) (o := .cells #[.int .i64 0, .int .i64 0, .int .i64 0, .slice none 0 0] 29 (0, 0)) (by (with_reducible repeat (first | refine ba_ ?_ _ | refine bb_ ?_ | refine bc_ ?_ _)); refine blk_far ?_ NB131_138.out _; (with_reducible repeat (first | refine ba_ ?_ _ | refine bb_ ?_ | refine bc_ ?_ _)); refine blk_far ?_ NB131_138.out _; (with_reducible repeat (first | refine ba_ ?_ _ | refine bb_ ?_ | refine bc_ ?_ _)); refine blk_far ?_ NB131_138.out _; (with_reducible repeat (first | refine ba_ ?_ _ | refine bb_ ?_ | refine bc_ ?_ _)); refine blk_far ?_ NB131_138.out _; (with_reducible repeat (first | refine ba_ ?_ _ | refine bb_ ?_ | refine bc_ ?_ _)); exact BK131.out) hb); have n3_ := Aside0.mk (blk_below (g := gb138) (o := .cells #[.int .i64 t132, .int .i64 t133, .int .i64 t134, .slice Ao14 t135.length co14] 29 (0, 0)) (by (with_reducible repeat (first | refine ba_ ?_ _ | refine bb_ ?_ | refine bc_ ?_ _)); refine blk_put (cs := #[.int .i64 t132, .int .i64 t133, .int .i64 t134, .slice none 0 0]) ?_ 3 _ rfl; (with_reducible repeat (first | refine ba_ ?_ _ | refine bb_ ?_ | refine bc_ ?_ _)); refine blk_put (cs := #[.int .i64 t132, .int .i64 t133, .int .i64 0, .slice none 0 0]) ?_ 2 _ rfl; (with_reducible repeat (first | refine ba_ ?_ _ | refine bb_ ?_ | refine bc_ ?_ _)); refine blk_put (cs := #[.int .i64 t132, .int .i64 0, .int .i64 0, .slice none 0 0]) ?_ 1 _ rfl; (with_reducible repeat (first | refine ba_ ?_ _ | refine bb_ ?_ | refine bc_ ?_ _)); refine blk_put (cs := #[.int .i64 0, .int .i64 0, .int .i64 0, .slice none 0 0]) ?_ 0 _ rfl; (with_reducible repeat (first | refine ba_ ?_ _ | refine bb_ ?_ | refine bc_ ?_ _)); exact BK138.out) hb); have n4_ := Aside0.mk (below_step (by repeat (first | (with_reducible first | exact HB.out | apply below_alloc | apply pw_below_drewN | apply below_drew1 | refine below_set ?_ GE130.out | refine below_set ?_ GE131.out | refine below_set ?_ GE138.out) | exact HB.out)) hb); clear HO137; clear BK130; clear BK131; clear BK138; clear HB; have HO137 := n0_; have BK130 := n1_; have BK131 := n2_; have BK138 := n3_; have HB := n4_; clear n0_ n1_ n2_ n3_ n4_; (try clear hb); (try clear hb2); (try clear hk); (try clear hi)) | (go_at_call 24; (with_reducible refine (spec_l01In.calls a1 0 15 t140 _ A17.out).mono ?_); rintro e w' ⟨rfl, ⟨nd, rfl⟩⟩))
      go_meet
      case rel => exact ⟨_, (!t140), (by first | rfl | (simp; done) | (simp [*]; done)), H', ⟨by first | omega | exact Nat.le_refl _⟩, ⟨by (with_reducible repeat (first | apply ra_ | apply rb_ | apply rc_)); exact HO137.out⟩, ⟨bu_ BK130⟩, ⟨bu_ BK131⟩, ⟨bu_ BK138⟩, ⟨by repeat (first | (with_reducible first | exact HB.out | apply below_alloc | apply pw_below_drewN | apply below_drew1 | refine below_set ?_ GE130.out | refine below_set ?_ GE131.out | refine below_set ?_ GE138.out) | exact HB.out)⟩⟩
    · replace c16 := Bool.eq_false_iff.mpr c16
      subst c16
      have H1 : (spec_ReportError.j0 k a1 true a0_0 a0_1 a0_2 l0_3 t132 t133 t134 t135) = some (r1, r2, r3, r4, r5) := by rw [if_neg (show ¬ (false = true) by decide)] at H; exact H
      clear H
      have H := H1
      clear H1
      have H' := Aside0.mk H
      clear H
      have hnb22 := NB130_131.out
      have hnc22 := NB131_130.out
      have hnb23 := NB130_138.out
      have hnc23 := NB138_130.out
      obtain ⟨hcz24_0, hcz24_1, hcz24_2, hcz24_3, hfz24_0, hfz24_1, hfz24_2, hfz24_3⟩ := cf4_ BK130
      go_wp2_with (first | ((with_reducible refine gate_callee (f := 11) rfl ?_); refine goesL_ (some 10) rfl rfl Try.func11 (by kernel_rfl) rfl #[.agg #[.int .i64 a0_0, .int .i64 a0_1, .int .i64 a0_2, .slice A0_3 l0_3.length c0_3]] rfl (by (try simp only [List.map_toArray, List.map_cons, List.map_nil]); first | done | rfl | (simp only [List.length_drop, List.length_take]; rfl)) ?_; (with_reducible refine (spec_LogOk.calls k a0_0 a0_1 a0_2 _ _ l0_3 false _ ?side1 ?side2 A15.out).mono ?_); (case side1 => exact Kd.C_below HR0_3.out (by repeat (first | (with_reducible first | exact HB.out | apply below_alloc | apply pw_below_drewN | apply below_drew1 | refine below_set ?_ GE130.out | refine below_set ?_ GE131.out | refine below_set ?_ GE138.out) | exact HB.out))); (case side2 => exact HC0_3.out); rintro e w25 ⟨rfl, hb⟩; refine ⟨_, rfl, ?_⟩; have n0_ := Aside0.mk (Kd.R_below (by (with_reducible repeat (first | apply ra_ | apply rb_ | apply rc_)); exact (Kd.R_mono (Kd.R_far (p := ⟨gb138, 3, none⟩) (Kd.R_far (p := ⟨gb138, 2, none⟩) (Kd.R_far (p := ⟨gb138, 1, none⟩) (Kd.R_far (p := ⟨gb138, 0, none⟩) (Kd.R_types HO137.out BK138.out (by decide)) (fun _ hk => hk.2) (.int .i64 t132)) (fun _ hk => hk.2) (.int .i64 t133)) (fun _ hk => hk.2) (.int .i64 t134)) (fun _ hk => hk.2) (.slice Ao14 t135.length co14)) (fun _ h_ => h_.1))) hb); have n1_ := Aside0.mk (blk_below (g := gb130) (o := .cells #[.int .i64 a0_0, .int .i64 a0_1, .int .i64 a0_2, .slice A0_3 l0_3.length c0_3] 29 (0, 0)) (by (with_reducible repeat (first | refine ba_ ?_ _ | refine bb_ ?_ | refine bc_ ?_ _)); refine blk_far ?_ NB130_138.out _; (with_reducible repeat (first | refine ba_ ?_ _ | refine bb_ ?_ | refine bc_ ?_ _)); refine blk_far ?_ NB130_138.out _; (with_reducible repeat (first | refine ba_ ?_ _ | refine bb_ ?_ | refine bc_ ?_ _)); refine blk_far ?_ NB130_138.out _; (with_reducible repeat (first | refine ba_ ?_ _ | refine bb_ ?_ | refine bc_ ?_ _)); refine blk_far ?_ NB130_138.out _; (with_reducible repeat (first | refine ba_ ?_ _ | refine bb_ ?_ | refine bc_ ?_ _)); exact BK130.out) hb); have n2_ := Aside0.mk (blk_below (g := gb131) (o := .cells #[.int .i64 0, .int .i64 0, .int .i64 0, .slice none 0 0] 29 (0, 0)) (by (with_reducible repeat (first | refine ba_ ?_ _ | refine bb_ ?_ | refine bc_ ?_ _)); refine blk_far ?_ NB131_138.out _; (with_reducible repeat (first | refine ba_ ?_ _ | refine bb_ ?_ | refine bc_ ?_ _)); refine blk_far ?_ NB131_138.out _; (with_reducible repeat (first | refine ba_ ?_ _ | refine bb_ ?_ | refine bc_ ?_ _)); refine blk_far ?_ NB131_138.out _; (with_reducible repeat (first | refine ba_ ?_ _ | refine bb_ ?_ | refine bc_ ?_ _)); refine blk_far ?_ NB131_138.out _; (with_reducible repeat (first | refine ba_ ?_ _ | refine bb_ ?_ | refine bc_ ?_ _)); exact BK131.out) hb); have n3_ := Aside0.mk (blk_below (g := gb138) (o := .cells #[.int .i64 t132, .int .i64 t133, .int .i64 t134, .slice Ao14 t135.length co14] 29 (0, 0)) (by (with_reducible repeat (first | refine ba_ ?_ _ | refine bb_ ?_ | refine bc_ ?_ _)); refine blk_put (cs := #[.int .i64 t132, .int .i64 t133, .int .i64 t134, .slice none 0 0]) ?_ 3 _ rfl; (with_reducible repeat (first | refine ba_ ?_ _ | refine bb_ ?_ | refine bc_ ?_ _)); refine blk_put (cs := #[.int .i64 t132, .int .i64 t133, .int .i64 0, .slice none 0 0]) ?_ 2 _ rfl; (with_reducible repeat (first | refine ba_ ?_ _ | refine bb_ ?_ | refine bc_ ?_ _)); refine blk_put (cs := #[.int .i64 t132, .int .i64 0, .int .i64 0, .slice none 0 0]) ?_ 1 _ rfl; (with_reducible repeat (first | refine ba_ ?_ _ | refine bb_ ?_ | refine bc_ ?_ _)); refine blk_put (cs := #[.int .i64 0, .int .i64 0, .int .i64 0, .slice none 0 0]) ?_ 0 _ rfl; (with_reducible repeat (first | refine ba_ ?_ _ | refine bb_ ?_ | refine bc_ ?_ _)); exact BK138.out) hb); have n4_ := Aside0.mk (below_step (by repeat (first | (with_reducible first | exact HB.out | apply below_alloc | apply pw_below_drewN | apply below_drew1 | refine below_set ?_ GE130.out | refine below_set ?_ GE131.out | refine below_set ?_ GE138.out) | exact HB.out)) hb); clear HO137; clear BK130; clear BK131; clear BK138; clear HB; have HO137 := n0_; have BK130 := n1_; have BK131 := n2_; have BK138 := n3_; have HB := n4_; clear n0_ n1_ n2_ n3_ n4_; (try clear hb); (try clear hb2); (try clear hk); (try clear hi)))
      go_meet
      case rel => exact ⟨_, (true), (by first | rfl | (simp; done) | (simp [*]; done)), H', ⟨by first | omega | exact Nat.le_refl _⟩, ⟨by (with_reducible repeat (first | apply ra_ | apply rb_ | apply rc_)); exact HO137.out⟩, ⟨bu_ BK130⟩, ⟨bu_ BK131⟩, ⟨bu_ BK138⟩, ⟨by repeat (first | (with_reducible first | exact HB.out | apply below_alloc | apply pw_below_drewN | apply below_drew1 | refine below_set ?_ GE130.out | refine below_set ?_ GE131.out | refine below_set ?_ GE138.out) | exact HB.out)⟩⟩
  case rest =>
    clear HC4
    try clear c1; try clear c2; try clear p2; try clear c3; try clear c7; try clear c11; try clear c12; try clear c16; try clear c18; try clear c19; try clear c21; try clear c22; try clear c23; try clear hcz13_0; try clear hcz13_1; try clear hcz13_2; try clear hcz13_3; try clear hcz20_0; try clear hcz20_1; try clear hcz20_2; try clear hcz20_3; try clear hcz24_0; try clear hcz24_1; try clear hcz24_2; try clear hcz24_3; try clear hcz8_0; try clear hcz8_1; try clear hcz8_2; try clear hcz8_3; try clear hfz13_0
    try clear hfz13_1; try clear hfz13_2; try clear hfz13_3; try clear hfz20_0; try clear hfz20_1; try clear hfz20_2; try clear hfz20_3; try clear hfz24_0; try clear hfz24_1; try clear hfz24_2; try clear hfz24_3; try clear hfz8_0; try clear hfz8_1; try clear hfz8_2; try clear hfz8_3
    obtain ⟨kq, x16_3, rfl, HA, HJ3, HO_139003, BK130, BK131, BK138, HB⟩ := hcut
    cases kq with
    | zero => exact absurd HA.out (by simp [spec_ReportError.j0])
    | succ kj3 =>
      have H := HA.out
      clear HA
      simp only [spec_ReportError.j0] at H
      by_cases c26 : x16_3 = true
      · subst c26
        have H1 : (some (t132, t133, t134, t135, (-1))) = some (r1, r2, r3, r4, r5) := by rw [if_pos rfl] at H; exact H
        clear H
        have H := H1
        clear H1
        simp only [Option.some.injEq, Prod.mk.injEq] at H
        obtain ⟨rfl, rfl, rfl, rfl, rfl⟩ := H
        have hnb27 := NB138_130.out
        have hnc27 := NB130_138.out
        have hnb28 := NB138_131.out
        have hnc28 := NB131_138.out
        obtain ⟨hcz29_0, hcz29_1, hcz29_2, hcz29_3, hfz29_0, hfz29_1, hfz29_2, hfz29_3⟩ := cf4_ BK138
        have hnb30 := NB131_130.out
        have hnc30 := NB130_131.out
        obtain ⟨hcz31_0, hcz31_1, hcz31_2, hcz31_3, hfz31_0, hfz31_1, hfz31_2, hfz31_3⟩ := cf4_ BK131
        go_wp2
        refine bodyPost_ret (results_ct rfl _ _ gb131 29 #[.int .i64 t132, .int .i64 t133, .int .i64 t134, .slice Ao14 t135.length co14] (0, 0) _ rfl (by (with_reducible repeat (first | refine ba_ ?_ _ | refine bb_ ?_ | refine bc_ ?_ _)); refine blk_put (cs := #[.int .i64 t132, .int .i64 t133, .int .i64 t134, .slice none 0 0]) ?_ 3 _ rfl; (with_reducible repeat (first | refine ba_ ?_ _ | refine bb_ ?_ | refine bc_ ?_ _)); refine blk_put (cs := #[.int .i64 t132, .int .i64 t133, .int .i64 0, .slice none 0 0]) ?_ 2 _ rfl; (with_reducible repeat (first | refine ba_ ?_ _ | refine bb_ ?_ | refine bc_ ?_ _)); refine blk_put (cs := #[.int .i64 t132, .int .i64 0, .int .i64 0, .slice none 0 0]) ?_ 1 _ rfl; (with_reducible repeat (first | refine ba_ ?_ _ | refine bb_ ?_ | refine bc_ ?_ _)); refine blk_put (cs := #[.int .i64 0, .int .i64 0, .int .i64 0, .slice none 0 0]) ?_ 0 _ rfl; (with_reducible repeat (first | refine ba_ ?_ _ | refine bb_ ?_ | refine bc_ ?_ _)); exact BK131.out) Try.underlying29 rfl (by kernel_rfl)) rfl ?_
        exact ⟨_, by first | rfl | (simp [errW_none, errW_some] <;> rfl) | (simp [*, errW_none, errW_some] <;> rfl), by (with_reducible repeat (first | apply ra_ | apply rb_ | apply rc_)); exact Kd.R_mono (Kd.R_far (p := ⟨gb131, 3, none⟩) (Kd.R_far (p := ⟨gb131, 2, none⟩) (Kd.R_far (p := ⟨gb131, 1, none⟩) (Kd.R_far (p := ⟨gb131, 0, none⟩) (Kd.R_types HO_139003.out BK131.out (by decide)) (fun _ hk => hk.2) (.int .i64 t132)) (fun _ hk => hk.2) (.int .i64 t133)) (fun _ hk => hk.2) (.int .i64 t134)) (fun _ hk => hk.2) (.slice Ao14 t135.length co14)) (fun _ hk => trivial), by repeat (first | (with_reducible first | exact HB.out | apply below_alloc | apply pw_below_drewN | apply below_drew1 | refine below_set ?_ GE130.out | refine below_set ?_ GE131.out | refine below_set ?_ GE138.out) | exact HB.out)⟩
      · replace c26 := Bool.eq_false_iff.mpr c26
        subst c26
        have H1 : (if a0_0 = 0 then (if 0 ≤ a1 then (if (Go.bits .and .i64 (shr .i64 a0_1 a1) 1) = 1 then (some (Go.bits .or .i64 a0_0 (shl .i64 1 a1), t133, a1, t135, (-1))) else (if a1 < (l0_3.length : Int) then (some (Go.bits .or .i64 a0_0 (shl .i64 1 a1), t133, a1, t135, rd l0_3 a1)) else (none))) else (none)) else (if 0 ≤ a1 then (if (Go.bits .and .i64 (shr .i64 a0_1 a1) 1) = 1 then (some (Go.bits .or .i64 a0_0 (shl .i64 1 a1), t133, t134, t135, (-1))) else (if a1 < (l0_3.length : Int) then (some (Go.bits .or .i64 a0_0 (shl .i64 1 a1), t133, t134, t135, rd l0_3 a1)) else (none))) else (none))) = some (r1, r2, r3, r4, r5) := by rw [if_neg (show ¬ (false = true) by decide)] at H; exact H
        clear H
        have H := H1
        clear H1
        by_cases c32 : a0_0 = 0
        · rw [if_pos c32] at H
          have c32b0 : (a0_0 == 0) = true := beq_iff_eq.mpr c32
          have c32b1 : (a0_0 != 0) = false := bne_eq_false_iff_eq.mpr c32
          clear c32
          by_cases c33 : 0 ≤ a1
          · rw [if_pos c33] at H
            have c33b0 := eq_true c33
            have c33b1 : decide (0 ≤ a1) = true := decide_eq_true c33
            clear c33
            obtain ⟨ji34, hji34⟩ : ∃ j_ : Int, (shl .i64 1 a1) = j_ := ⟨_, rfl⟩
            replace H : (if (Go.bits .and .i64 (shr .i64 a0_1 a1) 1) = 1 then (some (Go.bits .or .i64 a0_0 (ji34), t133, a1, t135, (-1))) else (if a1 < (l0_3.length : Int) then (some (Go.bits .or .i64 a0_0 (ji34), t133, a1, t135, rd l0_3 a1)) else (none))) = some (r1, r2, r3, r4, r5) := by first | (rw [hji34] at H; exact H) | (simp only [hji34] at H ⊢; exact H)
            have hji34_ : (IntKind.i64.wrap (1 * 2 ^ min a1.toNat 64)) = ji34 := hji34
            have hji34z : a1 ≤ 64 → (IntKind.i64.wrap (1 * 2 ^ a1.toNat)) = ji34 := shl_small hji34
            have hji34u : (IntKind.i64.wrap (2 ^ min a1.toNat 64)) = ji34 := by have h_ := hji34_; rw [Int.one_mul] at h_; exact h_
            have hji34v : a1 ≤ 64 → (IntKind.i64.wrap (2 ^ a1.toNat)) = ji34 := fun hle_ => by have h_ := hji34z hle_; rw [Int.one_mul] at h_; exact h_
            have hji34y : (wrap64 (1 * 2 ^ min a1.toNat 64)) = ji34 := (i64_w _).symm.trans hji34_
            have hji34x : a1 ≤ 64 → (wrap64 (1 * 2 ^ a1.toNat)) = ji34 := fun h_ => (i64_w _).symm.trans (hji34z h_)
            have c35b0 := eq_true (of_decide_eq_true (by first | (with_reducible assumption) | assumption) : 0 ≤ a1)
            obtain ⟨ji36, hji36⟩ : ∃ j_ : Int, (shr .i64 a0_1 a1) = j_ := ⟨_, rfl⟩
            replace H : (if (Go.bits .and .i64 (ji36) 1) = 1 then (some (Go.bits .or .i64 a0_0 (ji34), t133, a1, t135, (-1))) else (if a1 < (l0_3.length : Int) then (some (Go.bits .or .i64 a0_0 (ji34), t133, a1, t135, rd l0_3 a1)) else (none))) = some (r1, r2, r3, r4, r5) := by first | (rw [hji36] at H; exact H) | (simp only [hji36] at H ⊢; exact H)
            have hji36_ : (a0_1 / 2 ^ min a1.toNat 64) = ji36 := hji36
            have hji36z : a1 ≤ 64 → (a0_1 / 2 ^ a1.toNat) = ji36 := shr_small hji36
            by_cases c37 : (Go.bits .and .i64 (ji36) 1) = 1
            · rw [if_pos c37] at H
              have c37b0 : ((Go.bits .and .i64 (ji36) 1) == 1) = true := beq_iff_eq.mpr c37
              have c37b1 : ((Go.bits .and .i64 (ji36) 1) != 1) = false := bne_eq_false_iff_eq.mpr c37
              clear c37
              simp only [Option.some.injEq, Prod.mk.injEq] at H
              obtain ⟨rfl, rfl, rfl, rfl, rfl⟩ := H
              have hnb38 := NB130_131.out
              have hnc38 := NB131_130.out
              have hnb39 := NB130_138.out
              have hnc39 := NB138_130.out
              obtain ⟨hcz40_0, hcz40_1, hcz40_2, hcz40_3, hfz40_0, hfz40_1, hfz40_2, hfz40_3⟩ := cf4_ BK130
              have hnb41 := NB138_131.out
              have hnc41 := NB131_138.out
              obtain ⟨hcz42_0, hcz42_1, hcz42_2, hcz42_3, hfz42_0, hfz42_1, hfz42_2, hfz42_3⟩ := cf4_ BK138
              try go_wp2
              have n0_ : Aside0 (Kd.R (Kd.int .i64) 3 (wc.setCell ⟨gb138, 2, none⟩ (.int .i64 a1)) w.heap.size (fun _ => True) (.slice Ao14 t135.length co14) t135) := ⟨by (with_reducible repeat (first | apply ra_ | apply rb_ | apply rc_)); exact Kd.R_mono (Kd.R_far (p := ⟨gb138, 2, none⟩) (Kd.R_types HO_139003.out BK138.out (by decide)) (fun _ hk => hk.2) (.int .i64 a1)) (fun _ hk => trivial)⟩
              have n1_ : Aside0 ((wc.setCell ⟨gb138, 2, none⟩ (.int .i64 a1)).heap[gb130]? = some (.cells #[.int .i64 a0_0, .int .i64 a0_1, .int .i64 a0_2, .slice A0_3 l0_3.length c0_3] 29 (0, 0))) := ⟨by (with_reducible repeat (first | refine ba_ ?_ _ | refine bb_ ?_ | refine bc_ ?_ _)); refine blk_far ?_ NB130_138.out _; (with_reducible repeat (first | refine ba_ ?_ _ | refine bb_ ?_ | refine bc_ ?_ _)); exact BK130.out⟩
              have n2_ : Aside0 ((wc.setCell ⟨gb138, 2, none⟩ (.int .i64 a1)).heap[gb131]? = some (.cells #[.int .i64 0, .int .i64 0, .int .i64 0, .slice none 0 0] 29 (0, 0))) := ⟨by (with_reducible repeat (first | refine ba_ ?_ _ | refine bb_ ?_ | refine bc_ ?_ _)); refine blk_far ?_ NB131_138.out _; (with_reducible repeat (first | refine ba_ ?_ _ | refine bb_ ?_ | refine bc_ ?_ _)); exact BK131.out⟩
              have n3_ : Aside0 ((wc.setCell ⟨gb138, 2, none⟩ (.int .i64 a1)).heap[gb138]? = some (.cells #[.int .i64 t132, .int .i64 t133, .int .i64 a1, .slice Ao14 t135.length co14] 29 (0, 0))) := ⟨by (with_reducible repeat (first | refine ba_ ?_ _ | refine bb_ ?_ | refine bc_ ?_ _)); refine blk_put (cs := #[.int .i64 t132, .int .i64 t133, .int .i64 t134, .slice Ao14 t135.length co14]) ?_ 2 _ rfl; (with_reducible repeat (first | refine ba_ ?_ _ | refine bb_ ?_ | refine bc_ ?_ _)); exact BK138.out⟩
              have n4_ : Aside0 (Below w.heap.size w (wc.setCell ⟨gb138, 2, none⟩ (.int .i64 a1))) := ⟨by repeat (first | (with_reducible first | exact HB.out | apply below_alloc | apply pw_below_drewN | apply below_drew1 | refine below_set ?_ GE130.out | refine below_set ?_ GE131.out | refine below_set ?_ GE138.out) | exact HB.out)⟩
              (try clear HO_139003)
              (try clear BK130)
              (try clear BK131)
              (try clear BK138)
              (try clear HB)
              generalize (wc.setCell ⟨gb138, 2, none⟩ (.int .i64 a1)) = w43 at n0_ n1_ n2_ n3_ n4_ ⊢
              have HO_139003 := n0_
              have BK130 := n1_
              have BK131 := n2_
              have BK138 := n3_
              have HB := n4_
              clear n0_ n1_ n2_ n3_ n4_
              have n0_ := Aside0.mk (Kd.R_drew HO_139003.out)
              have n1_ := Aside0.mk (blk_drew BK130.out)
              have n2_ := Aside0.mk (blk_drew BK131.out)
              have n3_ := Aside0.mk (blk_drew BK138.out)
              have n4_ := Aside0.mk (below_drew1 HB.out)
              clear HO_139003
              clear BK130
              clear BK131
              clear BK138
              clear HB
              have HO_139003 := n0_
              have BK130 := n1_
              have BK131 := n2_
              have BK138 := n3_
              have HB := n4_
              clear n0_ n1_ n2_ n3_ n4_
              refine start_ (n := 7) (S := fun w' => w'.cell? ⟨gb130, 0, none⟩ = some (.int .i64 a0_0) ∧ w'.cell? ⟨gb130, 1, none⟩ = some (.int .i64 a0_1) ∧ w'.cell? ⟨gb130, 2, none⟩ = some (.int .i64 a0_2) ∧ w'.cell? ⟨gb130, 3, none⟩ = some (.slice A0_3 l0_3.length c0_3)) (ds := []) (bt_ 7 0) (by kernel_rfl) rfl (by kernel_rfl) ⟨(blk_cell BK130.out 0).trans rfl, (blk_cell BK130.out 1).trans rfl, (blk_cell BK130.out 2).trans rfl, (blk_cell BK130.out 3).trans rfl⟩ (fun hHeld => ?_)
              generalize w43.drew = w44 at HO_139003 BK130 BK131 BK138 HB hHeld ⊢
              refine pure_ (i := 0) (N := some 23) (v := ?_) (a' := ?_) (bt_ 7 1) rfl rfl (by kernel_rfl) (fun _ _ _ h => h) (Or.inl ⟨by rfl, ?_⟩) ?_ ?_
              rotate_left; · intro w'; go_simp; with_reducible rfl
              rotate_left; · simp only [Act.put, sa_, sb_, sc_, i64_w, i32_w]; rfl
              refine pure_ (i := 2) (N := some 25) (v := ?_) (a' := ?_) (bt_ 7 5) rfl rfl (by kernel_rfl) (fun _ _ _ h => h) (Or.inl ⟨by rfl, ?_⟩) ?_ ?_
              rotate_left; · intro w'; go_simp; with_reducible rfl
              rotate_left; · simp only [Act.put, sa_, sb_, sc_, i64_w, i32_w]; rfl
              refine pure_ (i := 3) (N := some 26) (v := ?_) (a' := ?_) (bt_ 7 0xd) rfl rfl (by kernel_rfl) (fun _ _ _ h => h) (Or.inl ⟨by rfl, ?_⟩) ?_ ?_
              rotate_left; · intro w'; go_simp; with_reducible rfl
              rotate_left; · simp only [Act.put, sa_, sb_, sc_, i64_w, i32_w]; rfl
              refine take_ (i := 1) (N := some 24) (v := ?_) (a' := ?_) (bt_ 7 0xf) rfl rfl (by kernel_rfl) (fun _ _ _ h => h) (Or.inl ⟨by rfl, ?_⟩) hHeld ?_ ?_
              rotate_left
              · rintro w' ⟨s0, s1, s2, s3⟩
                go_simp
                with_reducible rfl
              rotate_left; · simp only [Act.put, sa_, sb_, sc_, i64_w, i32_w]; rfl
              refine pure_ (i := 4) (N := some 27) (v := ?_) (a' := ?_) (bt_ 7 0x1f) rfl rfl (by kernel_rfl) (fun _ _ _ h => h) (Or.inl ⟨by rfl, ?_⟩) ?_ ?_
              rotate_left; · intro w'; go_simp; with_reducible rfl
              rotate_left; · simp only [Act.put, sa_, sb_, sc_, i64_w, i32_w]; rfl
              refine pure_ (i := 5) (N := some 28) (v := ?_) (a' := ?_) (bt_ 7 0x3f) rfl rfl (by kernel_rfl) (fun _ _ _ h => h) (Or.inl ⟨by rfl, ?_⟩) ?_ ?_
              rotate_left; · intro w'; go_simp; with_reducible rfl
              rotate_left; · simp only [Act.put, sa_, sb_, sc_, i64_w, i32_w]; rfl
              refine one_ (i := 6) (N := none) (bt_ 7 0x7f) rfl rfl (by kernel_rfl) (by decide) (fun K hK => ?_)
              have hs45 : w44.cell? ⟨gb138, 0, none⟩ = some (.int .i64 t132) := (blk_cell BK138.out 0).trans rfl
              have hfs45 := blk_frozen BK138.out 0
              have hns45_0 := NB130_138.out
              have hns45_1 := NB131_138.out
              have hms45_0 := NB138_130.out
              have hms45_1 := NB138_131.out
              refine skip_ (w1 := ?_) (by rfl) rfl ?_ ?_
              rotate_left
              · go_simp
                rfl
              refine hK.out _ _ ⟨((cell_far (p := ⟨gb138, _, none⟩) NB130_138.out _).trans (hHeld.1)), ((cell_far (p := ⟨gb138, _, none⟩) NB130_138.out _).trans (hHeld.2.1)), ((cell_far (p := ⟨gb138, _, none⟩) NB130_138.out _).trans (hHeld.2.2.1)), ((cell_far (p := ⟨gb138, _, none⟩) NB130_138.out _).trans (hHeld.2.2.2))⟩ (fun hHeld => ?_)
              clear hK K
              refine done_ (by kernel_rfl) ?_
              obtain ⟨hcz46_0, hcz46_1, hcz46_2, hcz46_3, hfz46_0, hfz46_1, hfz46_2, hfz46_3⟩ := cf4_ BK130
              obtain ⟨hcz47_0, hcz47_1, hcz47_2, hcz47_3, hfz47_0, hfz47_1, hfz47_2, hfz47_3⟩ := cf4_ BK138
              obtain ⟨hcz48_0, hcz48_1, hcz48_2, hcz48_3, hfz48_0, hfz48_1, hfz48_2, hfz48_3⟩ := cf4_ BK131
              try go_wp2
              refine bodyPost_ret (results_ct rfl _ _ gb131 29 #[.int .i64 (Go.bits .or .i64 a0_0 (ji34)), .int .i64 t133, .int .i64 a1, .slice Ao14 t135.length co14] (0, 0) _ rfl (by (with_reducible repeat (first | refine ba_ ?_ _ | refine bb_ ?_ | refine bc_ ?_ _)); refine blk_put (cs := #[.int .i64 (Go.bits .or .i64 a0_0 (ji34)), .int .i64 t133, .int .i64 a1, .slice none 0 0]) ?_ 3 _ rfl; (with_reducible repeat (first | refine ba_ ?_ _ | refine bb_ ?_ | refine bc_ ?_ _)); refine blk_put (cs := #[.int .i64 (Go.bits .or .i64 a0_0 (ji34)), .int .i64 t133, .int .i64 0, .slice none 0 0]) ?_ 2 _ rfl; (with_reducible repeat (first | refine ba_ ?_ _ | refine bb_ ?_ | refine bc_ ?_ _)); refine blk_put (cs := #[.int .i64 (Go.bits .or .i64 a0_0 (ji34)), .int .i64 0, .int .i64 0, .slice none 0 0]) ?_ 1 _ rfl; (with_reducible repeat (first | refine ba_ ?_ _ | refine bb_ ?_ | refine bc_ ?_ _)); refine blk_put (cs := #[.int .i64 0, .int .i64 0, .int .i64 0, .slice none 0 0]) ?_ 0 _ rfl; (with_reducible repeat (first | refine ba_ ?_ _ | refine bb_ ?_ | refine bc_ ?_ _)); refine blk_far ?_ NB131_138.out _; (with_reducible repeat (first | refine ba_ ?_ _ | refine bb_ ?_ | refine bc_ ?_ _)); exact BK131.out) Try.underlying29 rfl (by kernel_rfl)) rfl ?_
              exact ⟨_, by first | rfl | (simp [errW_none, errW_some] <;> rfl) | (simp only [← hji34, ← hji36]; first | rfl | (simp [errW_none, errW_some] <;> rfl)) | (simp [*, errW_none, errW_some] <;> rfl), by (with_reducible repeat (first | apply ra_ | apply rb_ | apply rc_)); exact Kd.R_mono (Kd.R_far (p := ⟨gb131, 3, none⟩) (Kd.R_far (p := ⟨gb131, 2, none⟩) (Kd.R_far (p := ⟨gb131, 1, none⟩) (Kd.R_far (p := ⟨gb131, 0, none⟩) (Kd.R_far (p := ⟨gb138, 0, none⟩) (Kd.R_types (Kd.R_types HO_139003.out BK138.out (by decide)) BK131.out (by decide)) (fun _ hk => hk.1.2) (.int .i64 (Go.bits .or .i64 a0_0 (ji34)))) (fun _ hk => hk.2) (.int .i64 (Go.bits .or .i64 a0_0 (ji34)))) (fun _ hk => hk.2) (.int .i64 t133)) (fun _ hk => hk.2) (.int .i64 a1)) (fun _ hk => hk.2) (.slice Ao14 t135.length co14)) (fun _ hk => trivial), by repeat (first | (with_reducible first | exact HB.out | apply below_alloc | apply pw_below_drewN | apply below_drew1 | refine below_set ?_ GE130.out | refine below_set ?_ GE131.out | refine below_set ?_ GE138.out) | exact HB.out)⟩
            · rw [if_neg c37] at H
              have c37b0 : ((Go.bits .and .i64 (ji36) 1) == 1) = false := beq_eq_false_iff_ne.mpr c37
              have c37b1 : ((Go.bits .and .i64 (ji36) 1) != 1) = true := bne_iff_ne.mpr c37
              by_cases c49 : a1 < (l0_3.length : Int)
              · rw [if_pos c49] at H
                have c49b0 : decide (a1 < (l0_3.length : Int)) = true := decide_eq_true c49
                clear c49
                simp only [Option.some.injEq, Prod.mk.injEq] at H
                obtain ⟨rfl, rfl, rfl, rfl, rfl⟩ := H
                have hnb50 := NB130_131.out
                have hnc50 := NB131_130.out
                have hnb51 := NB130_138.out
                have hnc51 := NB138_130.out
                obtain ⟨hcz52_0, hcz52_1, hcz52_2, hcz52_3, hfz52_0, hfz52_1, hfz52_2, hfz52_3⟩ := cf4_ BK130
                have hnb53 := NB138_131.out
                have hnc53 := NB131_138.out
                obtain ⟨hcz54_0, hcz54_1, hcz54_2, hcz54_3, hfz54_0, hfz54_1, hfz54_2, hfz54_3⟩ := cf4_ BK138
                try go_wp2
                have n0_ : Aside0 (Kd.R (Kd.int .i64) 3 (wc.setCell ⟨gb138, 2, none⟩ (.int .i64 a1)) w.heap.size (fun _ => True) (.slice Ao14 t135.length co14) t135) := ⟨by (with_reducible repeat (first | apply ra_ | apply rb_ | apply rc_)); exact Kd.R_mono (Kd.R_far (p := ⟨gb138, 2, none⟩) (Kd.R_types HO_139003.out BK138.out (by decide)) (fun _ hk => hk.2) (.int .i64 a1)) (fun _ hk => trivial)⟩
                have n1_ : Aside0 ((wc.setCell ⟨gb138, 2, none⟩ (.int .i64 a1)).heap[gb130]? = some (.cells #[.int .i64 a0_0, .int .i64 a0_1, .int .i64 a0_2, .slice A0_3 l0_3.length c0_3] 29 (0, 0))) := ⟨by (with_reducible repeat (first | refine ba_ ?_ _ | refine bb_ ?_ | refine bc_ ?_ _)); refine blk_far ?_ NB130_138.out _; (with_reducible repeat (first | refine ba_ ?_ _ | refine bb_ ?_ | refine bc_ ?_ _)); exact BK130.out⟩
                have n2_ : Aside0 ((wc.setCell ⟨gb138, 2, none⟩ (.int .i64 a1)).heap[gb131]? = some (.cells #[.int .i64 0, .int .i64 0, .int .i64 0, .slice none 0 0] 29 (0, 0))) := ⟨by (with_reducible repeat (first | refine ba_ ?_ _ | refine bb_ ?_ | refine bc_ ?_ _)); refine blk_far ?_ NB131_138.out _; (with_reducible repeat (first | refine ba_ ?_ _ | refine bb_ ?_ | refine bc_ ?_ _)); exact BK131.out⟩
                have n3_ : Aside0 ((wc.setCell ⟨gb138, 2, none⟩ (.int .i64 a1)).heap[gb138]? = some (.cells #[.int .i64 t132, .int .i64 t133, .int .i64 a1, .slice Ao14 t135.length co14] 29 (0, 0))) := ⟨by (with_reducible repeat (first | refine ba_ ?_ _ | refine bb_ ?_ | refine bc_ ?_ _)); refine blk_put (cs := #[.int .i64 t132, .int .i64 t133, .int .i64 t134, .slice Ao14 t135.length co14]) ?_ 2 _ rfl; (with_reducible repeat (first | refine ba_ ?_ _ | refine bb_ ?_ | refine bc_ ?_ _)); exact BK138.out⟩
                have n4_ : Aside0 (Below w.heap.size w (wc.setCell ⟨gb138, 2, none⟩ (.int .i64 a1))) := ⟨by repeat (first | (with_reducible first | exact HB.out | apply below_alloc | apply pw_below_drewN | apply below_drew1 | refine below_set ?_ GE130.out | refine below_set ?_ GE131.out | refine below_set ?_ GE138.out) | exact HB.out)⟩
                (try clear HO_139003)
                (try clear BK130)
                (try clear BK131)
                (try clear BK138)
                (try clear HB)
                generalize (wc.setCell ⟨gb138, 2, none⟩ (.int .i64 a1)) = w55 at n0_ n1_ n2_ n3_ n4_ ⊢
                have HO_139003 := n0_
                have BK130 := n1_
                have BK131 := n2_
                have BK138 := n3_
                have HB := n4_
                clear n0_ n1_ n2_ n3_ n4_
                have n0_ := Aside0.mk (Kd.R_drew HO_139003.out)
                have n1_ := Aside0.mk (blk_drew BK130.out)
                have n2_ := Aside0.mk (blk_drew BK131.out)
                have n3_ := Aside0.mk (blk_drew BK138.out)
                have n4_ := Aside0.mk (below_drew1 HB.out)
                clear HO_139003
                clear BK130
                clear BK131
                clear BK138
                clear HB
                have HO_139003 := n0_
                have BK130 := n1_
                have BK131 := n2_
                have BK138 := n3_
                have HB := n4_
                clear n0_ n1_ n2_ n3_ n4_
                refine start_ (n := 7) (S := fun w' => w'.cell? ⟨gb130, 0, none⟩ = some (.int .i64 a0_0) ∧ w'.cell? ⟨gb130, 1, none⟩ = some (.int .i64 a0_1) ∧ w'.cell? ⟨gb130, 2, none⟩ = some (.int .i64 a0_2) ∧ w'.cell? ⟨gb130, 3, none⟩ = some (.slice A0_3 l0_3.length c0_3)) (ds := []) (bt_ 7 0) (by kernel_rfl) rfl (by kernel_rfl) ⟨(blk_cell BK130.out 0).trans rfl, (blk_cell BK130.out 1).trans rfl, (blk_cell BK130.out 2).trans rfl, (blk_cell BK130.out 3).trans rfl⟩ (fun hHeld => ?_)
                generalize w55.drew = w56 at HO_139003 BK130 BK131 BK138 HB hHeld ⊢
                refine pure_ (i := 0) (N := some 23) (v := ?_) (a' := ?_) (bt_ 7 1) rfl rfl (by kernel_rfl) (fun _ _ _ h => h) (Or.inl ⟨by rfl, ?_⟩) ?_ ?_
                rotate_left; · intro w'; go_simp; with_reducible rfl
                rotate_left; · simp only [Act.put, sa_, sb_, sc_, i64_w, i32_w]; rfl
                refine pure_ (i := 2) (N := some 25) (v := ?_) (a' := ?_) (bt_ 7 5) rfl rfl (by kernel_rfl) (fun _ _ _ h => h) (Or.inl ⟨by rfl, ?_⟩) ?_ ?_
                rotate_left; · intro w'; go_simp; with_reducible rfl
                rotate_left; · simp only [Act.put, sa_, sb_, sc_, i64_w, i32_w]; rfl
                refine pure_ (i := 3) (N := some 26) (v := ?_) (a' := ?_) (bt_ 7 0xd) rfl rfl (by kernel_rfl) (fun _ _ _ h => h) (Or.inl ⟨by rfl, ?_⟩) ?_ ?_
                rotate_left; · intro w'; go_simp; with_reducible rfl
                rotate_left; · simp only [Act.put, sa_, sb_, sc_, i64_w, i32_w]; rfl
                refine take_ (i := 1) (N := some 24) (v := ?_) (a' := ?_) (bt_ 7 0xf) rfl rfl (by kernel_rfl) (fun _ _ _ h => h) (Or.inl ⟨by rfl, ?_⟩) hHeld ?_ ?_
                rotate_left
                · rintro w' ⟨s0, s1, s2, s3⟩
                  go_simp
                  with_reducible rfl
                rotate_left; · simp only [Act.put, sa_, sb_, sc_, i64_w, i32_w]; rfl
                refine pure_ (i := 4) (N := some 27) (v := ?_) (a' := ?_) (bt_ 7 0x1f) rfl rfl (by kernel_rfl) (fun _ _ _ h => h) (Or.inl ⟨by rfl, ?_⟩) ?_ ?_
                rotate_left; · intro w'; go_simp; with_reducible rfl
                rotate_left; · simp only [Act.put, sa_, sb_, sc_, i64_w, i32_w]; rfl
                refine pure_ (i := 5) (N := some 28) (v := ?_) (a' := ?_) (bt_ 7 0x3f) rfl rfl (by kernel_rfl) (fun _ _ _ h => h) (Or.inl ⟨by rfl, ?_⟩) ?_ ?_
                rotate_left; · intro w'; go_simp; with_reducible rfl
                rotate_left; · simp only [Act.put, sa_, sb_, sc_, i64_w, i32_w]; rfl
                refine one_ (i := 6) (N := none) (bt_ 7 0x7f) rfl rfl (by kernel_rfl) (by decide) (fun K hK => ?_)
                have hs57 : w56.cell? ⟨gb138, 0, none⟩ = some (.int .i64 t132) := (blk_cell BK138.out 0).trans rfl
                have hfs57 := blk_frozen BK138.out 0
                have hns57_0 := NB130_138.out
                have hns57_1 := NB131_138.out
                have hms57_0 := NB138_130.out
                have hms57_1 := NB138_131.out
                refine skip_ (w1 := ?_) (by rfl) rfl ?_ ?_
                rotate_left
                · go_simp
                  rfl
                refine hK.out _ _ ⟨((cell_far (p := ⟨gb138, _, none⟩) NB130_138.out _).trans (hHeld.1)), ((cell_far (p := ⟨gb138, _, none⟩) NB130_138.out _).trans (hHeld.2.1)), ((cell_far (p := ⟨gb138, _, none⟩) NB130_138.out _).trans (hHeld.2.2.1)), ((cell_far (p := ⟨gb138, _, none⟩) NB130_138.out _).trans (hHeld.2.2.2))⟩ (fun hHeld => ?_)
                clear hK K
                refine done_ (by kernel_rfl) ?_
                obtain ⟨hcz58_0, hcz58_1, hcz58_2, hcz58_3, hfz58_0, hfz58_1, hfz58_2, hfz58_3⟩ := cf4_ BK130
                try go_wp2
                have n0_ : Aside0 (Kd.R (Kd.int .i64) 3 (w56.setCell ⟨gb138, 0, none⟩ (.int .i64 (Go.bits .or .i64 a0_0 (ji34)))) w.heap.size (fun _ => True) (.slice Ao14 t135.length co14) t135) := ⟨by (with_reducible repeat (first | apply ra_ | apply rb_ | apply rc_)); exact Kd.R_mono (Kd.R_far (p := ⟨gb138, 0, none⟩) (Kd.R_types HO_139003.out BK138.out (by decide)) (fun _ hk => hk.2) (.int .i64 (Go.bits .or .i64 a0_0 (ji34)))) (fun _ hk => trivial)⟩
                have n1_ : Aside0 ((w56.setCell ⟨gb138, 0, none⟩ (.int .i64 (Go.bits .or .i64 a0_0 (ji34)))).heap[gb130]? = some (.cells #[.int .i64 a0_0, .int .i64 a0_1, .int .i64 a0_2, .slice A0_3 l0_3.length c0_3] 29 (0, 0))) := ⟨by (with_reducible repeat (first | refine ba_ ?_ _ | refine bb_ ?_ | refine bc_ ?_ _)); refine blk_far ?_ NB130_138.out _; (with_reducible repeat (first | refine ba_ ?_ _ | refine bb_ ?_ | refine bc_ ?_ _)); exact BK130.out⟩
                have n2_ : Aside0 ((w56.setCell ⟨gb138, 0, none⟩ (.int .i64 (Go.bits .or .i64 a0_0 (ji34)))).heap[gb131]? = some (.cells #[.int .i64 0, .int .i64 0, .int .i64 0, .slice none 0 0] 29 (0, 0))) := ⟨by (with_reducible repeat (first | refine ba_ ?_ _ | refine bb_ ?_ | refine bc_ ?_ _)); refine blk_far ?_ NB131_138.out _; (with_reducible repeat (first | refine ba_ ?_ _ | refine bb_ ?_ | refine bc_ ?_ _)); exact BK131.out⟩
                have n3_ : Aside0 ((w56.setCell ⟨gb138, 0, none⟩ (.int .i64 (Go.bits .or .i64 a0_0 (ji34)))).heap[gb138]? = some (.cells #[.int .i64 (Go.bits .or .i64 a0_0 (ji34)), .int .i64 t133, .int .i64 a1, .slice Ao14 t135.length co14] 29 (0, 0))) := ⟨by (with_reducible repeat (first | refine ba_ ?_ _ | refine bb_ ?_ | refine bc_ ?_ _)); refine blk_put (cs := #[.int .i64 t132, .int .i64 t133, .int .i64 a1, .slice Ao14 t135.length co14]) ?_ 0 _ rfl; (with_reducible repeat (first | refine ba_ ?_ _ | refine bb_ ?_ | refine bc_ ?_ _)); exact BK138.out⟩
                have n4_ : Aside0 (Below w.heap.size w (w56.setCell ⟨gb138, 0, none⟩ (.int .i64 (Go.bits .or .i64 a0_0 (ji34))))) := ⟨by repeat (first | (with_reducible first | exact HB.out | apply below_alloc | apply pw_below_drewN | apply below_drew1 | refine below_set ?_ GE130.out | refine below_set ?_ GE131.out | refine below_set ?_ GE138.out) | exact HB.out)⟩
                (try clear HO_139003)
                (try clear BK130)
                (try clear BK131)
                (try clear BK138)
                (try clear HB)
                generalize (w56.setCell ⟨gb138, 0, none⟩ (.int .i64 (Go.bits .or .i64 a0_0 (ji34)))) = w59 at n0_ n1_ n2_ n3_ n4_ ⊢
                have HO_139003 := n0_
                have BK130 := n1_
                have BK131 := n2_
                have BK138 := n3_
                have HB := n4_
                clear n0_ n1_ n2_ n3_ n4_
                have n0_ := Aside0.mk (Kd.R_drew HO_139003.out)
                have n1_ := Aside0.mk (blk_drew BK130.out)
                have n2_ := Aside0.mk (blk_drew BK131.out)
                have n3_ := Aside0.mk (blk_drew BK138.out)
                have n4_ := Aside0.mk (below_drew1 HB.out)
                clear HO_139003
                clear BK130
                clear BK131
                clear BK138
                clear HB
                have HO_139003 := n0_
                have BK130 := n1_
                have BK131 := n2_
                have BK138 := n3_
                have HB := n4_
                clear n0_ n1_ n2_ n3_ n4_
                have p141 : 0 ≤ (a1 : Int) := of_decide_eq_true (by first | (with_reducible assumption) | assumption)
                have q141 : a1 < (l0_3.length : Int) := of_decide_eq_true (by first | (with_reducible assumption) | assumption)
                obtain ⟨ad141, e141, hx141_0⟩ := Kd.at_int HR0_3.out a1 p141 q141
                have hw141_0 := hx141_0
                cases e141
                replace hx141_0 := (HB.out.cell (World.block_lt_of_cell? w _ hx141_0)).trans hx141_0
                replace p141 := eq_true p141
                replace q141 := eq_true q141
                refine start_ (n := 8) (S := fun w' => w'.cell? ⟨gb138, 0, none⟩ = some (.int .i64 (Go.bits .or .i64 a0_0 (ji34))) ∧ w'.cell? ⟨gb138, 1, none⟩ = some (.int .i64 t133) ∧ w'.cell? ⟨gb138, 2, none⟩ = some (.int .i64 a1) ∧ w'.cell? ⟨gb138, 3, none⟩ = some (.slice Ao14 t135.length co14) ∧ w'.cell? ⟨gb130, 0, none⟩ = some (.int .i64 a0_0) ∧ w'.cell? ⟨gb130, 1, none⟩ = some (.int .i64 a0_1) ∧ w'.cell? ⟨gb130, 2, none⟩ = some (.int .i64 a0_2) ∧ w'.cell? ⟨gb130, 3, none⟩ = some (.slice (some ad141) l0_3.length c0_3) ∧ w'.cell? (ad141.add (a1).toNat) = some (.int .i64 (rd l0_3 a1))) (ds := []) (bt_ 8 0) (by kernel_rfl) rfl (by kernel_rfl) ⟨(blk_cell BK138.out 0).trans rfl, (blk_cell BK138.out 1).trans rfl, (blk_cell BK138.out 2).trans rfl, (blk_cell BK138.out 3).trans rfl, (blk_cell BK130.out 0).trans rfl, (blk_cell BK130.out 1).trans rfl, (blk_cell BK130.out 2).trans rfl, (blk_cell BK130.out 3).trans rfl, ((HB.out.cell (World.block_lt_of_cell? w _ hw141_0)).trans hw141_0)⟩ (fun hHeld => ?_); refine with_tabW spec_ReportError.tab9 spec_ReportError.bits9 (fun HT_ HW_ => ?_)
                generalize w59.drew = w60 at HO_139003 BK130 BK131 BK138 HB hx141_0 hHeld ⊢
                refine pure_ (i := 1) (N := some 37) (v := ?_) (a' := ?_) (bt_ 8 2) rfl rfl (any_of HT_.out (by kernel_rfl)) (fun _ _ _ h => h) (Or.inl ⟨by rfl, ?_⟩) ?_ ?_
                rotate_left; · intro w'; go_simp; with_reducible rfl
                rotate_left; · simp only [Act.put, sa_, sb_, sc_, i64_w, i32_w]; rfl
                refine pure_ (i := 3) (N := some 39) (v := ?_) (a' := ?_) (bt_ 8 0xa) rfl rfl (any_of HT_.out (by kernel_rfl)) (fun _ _ _ h => h) (Or.inl ⟨by rfl, ?_⟩) ?_ ?_
                rotate_left; · intro w'; go_simp; with_reducible rfl
                rotate_left; · simp only [Act.put, sa_, sb_, sc_, i64_w, i32_w]; rfl
                refine take_ (i := 0) (N := some 36) (v := ?_) (a' := ?_) (bt_ 8 0xb) rfl rfl (take_ofW HT_.out HW_.out (by kernel_rfl)) (fun _ _ _ h => h) (Or.inl ⟨by rfl, ?_⟩) hHeld ?_ ?_
                rotate_left
                · rintro w' ⟨s0, s1, s2, s3, s4, s5, s6, s7, s8⟩
                  go_simp
                  with_reducible rfl
                rotate_left; · simp only [Act.put, sa_, sb_, sc_, i64_w, i32_w]; rfl
                refine take_ (i := 2) (N := some 38) (v := ?_) (a' := ?_) (bt_ 8 0xf) rfl rfl (take_ofW HT_.out HW_.out (by kernel_rfl)) (fun _ _ _ h => h) (Or.inl ⟨by rfl, ?_⟩) hHeld ?_ ?_
                rotate_left
                · rintro w' ⟨s0, s1, s2, s3, s4, s5, s6, s7, s8⟩
                  go_simp
                  with_reducible rfl
                rotate_left; · simp only [Act.put, sa_, sb_, sc_, i64_w, i32_w]; rfl
                refine pure_ (i := 4) (N := some 40) (v := ?_) (a' := ?_) (bt_ 8 0x1f) rfl rfl (any_of HT_.out (by kernel_rfl)) (fun _ _ _ h => h) (Or.inl ⟨by rfl, ?_⟩) ?_ ?_
                rotate_left; · intro w'; go_simp; with_reducible rfl
                rotate_left; · simp only [Act.put, sa_, sb_, sc_, i64_w, i32_w]; rfl
                refine take_ (i := 5) (N := some 41) (v := ?_) (a' := ?_) (bt_ 8 0x3f) rfl rfl (take_ofW HT_.out HW_.out (by kernel_rfl)) (fun _ _ _ h => h) (Or.inl ⟨by rfl, ?_⟩) hHeld ?_ ?_
                rotate_left
                · rintro w' ⟨s0, s1, s2, s3, s4, s5, s6, s7, s8⟩
                  go_simp
                  with_reducible rfl
                rotate_left; · simp only [Act.put, sa_, sb_, sc_, i64_w, i32_w]; rfl
                refine one_ (i := 6) (N := none) (bt_ 8 0x7f) rfl rfl (one_of HT_.out (by kernel_rfl)) (by decide) (fun K hK => ?_)
                have hs61 : w60.cell? ⟨gb131, 0, none⟩ = some (.int .i64 0) := (blk_cell BK131.out 0).trans rfl
                have hfs61 := blk_frozen BK131.out 0
                have hns61_0 := NB130_131.out
                have hns61_2 := NB138_131.out
                have hms61_0 := NB131_130.out
                have hms61_2 := NB131_138.out
                have hs62 : w60.cell? ⟨gb131, 1, none⟩ = some (.int .i64 0) := (blk_cell BK131.out 1).trans rfl
                have hfs62 := blk_frozen BK131.out 1
                have hns62_0 := NB130_131.out
                have hns62_2 := NB138_131.out
                have hms62_0 := NB131_130.out
                have hms62_2 := NB131_138.out
                have hs63 : w60.cell? ⟨gb131, 2, none⟩ = some (.int .i64 0) := (blk_cell BK131.out 2).trans rfl
                have hfs63 := blk_frozen BK131.out 2
                have hns63_0 := NB130_131.out
                have hns63_2 := NB138_131.out
                have hms63_0 := NB131_130.out
                have hms63_2 := NB131_138.out
                have hs64 : w60.cell? ⟨gb131, 3, none⟩ = some (.slice none 0 0) := (blk_cell BK131.out 3).trans rfl
                have hfs64 := blk_frozen BK131.out 3
                have hns64_0 := NB130_131.out
                have hns64_2 := NB138_131.out
                have hms64_0 := NB131_130.out
                have hms64_2 := NB131_138.out
                refine skip_ (w1 := ?_) (by rfl) rfl ?_ ?_
                rotate_left
                · go_simp
                  rfl
                refine hK.out _ _ ⟨((cell_far (p := ⟨gb131, _, none⟩) NB138_131.out _).trans (((cell_far (p := ⟨gb131, _, none⟩) NB138_131.out _).trans (((cell_far (p := ⟨gb131, _, none⟩) NB138_131.out _).trans (((cell_far (p := ⟨gb131, _, none⟩) NB138_131.out _).trans (hHeld.1)))))))), ((cell_far (p := ⟨gb131, _, none⟩) NB138_131.out _).trans (((cell_far (p := ⟨gb131, _, none⟩) NB138_131.out _).trans (((cell_far (p := ⟨gb131, _, none⟩) NB138_131.out _).trans (((cell_far (p := ⟨gb131, _, none⟩) NB138_131.out _).trans (hHeld.2.1)))))))), ((cell_far (p := ⟨gb131, _, none⟩) NB138_131.out _).trans (((cell_far (p := ⟨gb131, _, none⟩) NB138_131.out _).trans (((cell_far (p := ⟨gb131, _, none⟩) NB138_131.out _).trans (((cell_far (p := ⟨gb131, _, none⟩) NB138_131.out _).trans (hHeld.2.2.1)))))))), ((cell_far (p := ⟨gb131, _, none⟩) NB138_131.out _).trans (((cell_far (p := ⟨gb131, _, none⟩) NB138_131.out _).trans (((cell_far (p := ⟨gb131, _, none⟩) NB138_131.out _).trans (((cell_far (p := ⟨gb131, _, none⟩) NB138_131.out _).trans (hHeld.2.2.2.1)))))))), ((cell_far (p := ⟨gb131, _, none⟩) NB130_131.out _).trans (((cell_far (p := ⟨gb131, _, none⟩) NB130_131.out _).trans (((cell_far (p := ⟨gb131, _, none⟩) NB130_131.out _).trans (((cell_far (p := ⟨gb131, _, none⟩) NB130_131.out _).trans (hHeld.2.2.2.2.1)))))))), ((cell_far (p := ⟨gb131, _, none⟩) NB130_131.out _).trans (((cell_far (p := ⟨gb131, _, none⟩) NB130_131.out _).trans (((cell_far (p := ⟨gb131, _, none⟩) NB130_131.out _).trans (((cell_far (p := ⟨gb131, _, none⟩) NB130_131.out _).trans (hHeld.2.2.2.2.2.1)))))))), ((cell_far (p := ⟨gb131, _, none⟩) NB130_131.out _).trans (((cell_far (p := ⟨gb131, _, none⟩) NB130_131.out _).trans (((cell_far (p := ⟨gb131, _, none⟩) NB130_131.out _).trans (((cell_far (p := ⟨gb131, _, none⟩) NB130_131.out _).trans (hHeld.2.2.2.2.2.2.1)))))))), ((cell_far (p := ⟨gb131, _, none⟩) NB130_131.out _).trans (((cell_far (p := ⟨gb131, _, none⟩) NB130_131.out _).trans (((cell_far (p := ⟨gb131, _, none⟩) NB130_131.out _).trans (((cell_far (p := ⟨gb131, _, none⟩) NB130_131.out _).trans (hHeld.2.2.2.2.2.2.2.1)))))))), ((cell_far (p := ⟨gb131, _, none⟩) (by first | exact Nat.ne_of_lt (Nat.lt_of_lt_of_le (by have := World.block_lt_of_cell? _ _ hw141_0; first | rwa [add_block] at this | exact this) GW131.out) | (rw [add_block]; exact Nat.ne_of_lt (Nat.lt_of_lt_of_le (by have := World.block_lt_of_cell? _ _ hw141_0; first | rwa [add_block] at this | exact this) GW131.out)) | (show (Addr.add _ _).block ≠ _; rw [add_block]; exact Nat.ne_of_lt (Nat.lt_of_lt_of_le (by have := World.block_lt_of_cell? _ _ hw141_0; first | rwa [add_block] at this | exact this) GW131.out)) | (dsimp only; exact Nat.ne_of_lt (Nat.lt_of_lt_of_le (by have := World.block_lt_of_cell? _ _ hw141_0; first | rwa [add_block] at this | exact this) GW131.out))) _).trans (((cell_far (p := ⟨gb131, _, none⟩) (by first | exact Nat.ne_of_lt (Nat.lt_of_lt_of_le (by have := World.block_lt_of_cell? _ _ hw141_0; first | rwa [add_block] at this | exact this) GW131.out) | (rw [add_block]; exact Nat.ne_of_lt (Nat.lt_of_lt_of_le (by have := World.block_lt_of_cell? _ _ hw141_0; first | rwa [add_block] at this | exact this) GW131.out)) | (show (Addr.add _ _).block ≠ _; rw [add_block]; exact Nat.ne_of_lt (Nat.lt_of_lt_of_le (by have := World.block_lt_of_cell? _ _ hw141_0; first | rwa [add_block] at this | exact this) GW131.out)) | (dsimp only; exact Nat.ne_of_lt (Nat.lt_of_lt_of_le (by have := World.block_lt_of_cell? _ _ hw141_0; first | rwa [add_block] at this | exact this) GW131.out))) _).trans (((cell_far (p := ⟨gb131, _, none⟩) (by first | exact Nat.ne_of_lt (Nat.lt_of_lt_of_le (by have := World.block_lt_of_cell? _ _ hw141_0; first | rwa [add_block] at this | exact this) GW131.out) | (rw [add_block]; exact Nat.ne_of_lt (Nat.lt_of_lt_of_le (by have := World.block_lt_of_cell? _ _ hw141_0; first | rwa [add_block] at this | exact this) GW131.out)) | (show (Addr.add _ _).block ≠ _; rw [add_block]; exact Nat.ne_of_lt (Nat.lt_of_lt_of_le (by have := World.block_lt_of_cell? _ _ hw141_0; first | rwa [add_block] at this | exact this) GW131.out)) | (dsimp only; exact Nat.ne_of_lt (Nat.lt_of_lt_of_le (by have := World.block_lt_of_cell? _ _ hw141_0; first | rwa [add_block] at this | exact this) GW131.out))) _).trans (((cell_far (p := ⟨gb131, _, none⟩) (by first | exact Nat.ne_of_lt (Nat.lt_of_lt_of_le (by have := World.block_lt_of_cell? _ _ hw141_0; first | rwa [add_block] at this | exact this) GW131.out) | (rw [add_block]; exact Nat.ne_of_lt (Nat.lt_of_lt_of_le (by have := World.block_lt_of_cell? _ _ hw141_0; first | rwa [add_block] at this | exact this) GW131.out)) | (show (Addr.add _ _).block ≠ _; rw [add_block]; exact Nat.ne_of_lt (Nat.lt_of_lt_of_le (by have := World.block_lt_of_cell? _ _ hw141_0; first | rwa [add_block] at this | exact this) GW131.out)) | (dsimp only; exact Nat.ne_of_lt (Nat.lt_of_lt_of_le (by have := World.block_lt_of_cell? _ _ hw141_0; first | rwa [add_block] at this | exact this) GW131.out))) _).trans (hHeld.2.2.2.2.2.2.2.2))))))))⟩ (fun hHeld => ?_)
                clear hK K
                refine pure_ (i := 7) (N := some 5) (v := ?_) (a' := ?_) (bt_ 8 0xff) rfl rfl (any_of HT_.out (by kernel_rfl)) (fun _ _ _ h => h) (Or.inl ⟨by rfl, ?_⟩) ?_ ?_
                rotate_left; · intro w'; go_simp; with_reducible rfl
                rotate_left; · simp only [Act.put, sa_, sb_, sc_, i64_w, i32_w]; rfl
                refine done_ (done_of HT_.out (by kernel_rfl)) ?_
                try go_wp2
                refine bodyPost_ret (results_ct rfl _ _ gb131 29 #[.int .i64 (Go.bits .or .i64 a0_0 (ji34)), .int .i64 t133, .int .i64 a1, .slice Ao14 t135.length co14] (0, 0) _ rfl (by (with_reducible repeat (first | refine ba_ ?_ _ | refine bb_ ?_ | refine bc_ ?_ _)); refine blk_put (cs := #[.int .i64 (Go.bits .or .i64 a0_0 (ji34)), .int .i64 t133, .int .i64 a1, .slice none 0 0]) ?_ 3 _ rfl; (with_reducible repeat (first | refine ba_ ?_ _ | refine bb_ ?_ | refine bc_ ?_ _)); refine blk_put (cs := #[.int .i64 (Go.bits .or .i64 a0_0 (ji34)), .int .i64 t133, .int .i64 0, .slice none 0 0]) ?_ 2 _ rfl; (with_reducible repeat (first | refine ba_ ?_ _ | refine bb_ ?_ | refine bc_ ?_ _)); refine blk_put (cs := #[.int .i64 (Go.bits .or .i64 a0_0 (ji34)), .int .i64 0, .int .i64 0, .slice none 0 0]) ?_ 1 _ rfl; (with_reducible repeat (first | refine ba_ ?_ _ | refine bb_ ?_ | refine bc_ ?_ _)); refine blk_put (cs := #[.int .i64 0, .int .i64 0, .int .i64 0, .slice none 0 0]) ?_ 0 _ rfl; (with_reducible repeat (first | refine ba_ ?_ _ | refine bb_ ?_ | refine bc_ ?_ _)); exact BK131.out) Try.underlying29 rfl (by kernel_rfl)) rfl ?_
                exact ⟨_, by first | rfl | (simp [errW_none, errW_some] <;> rfl) | (simp only [← hji34, ← hji36]; first | rfl | (simp [errW_none, errW_some] <;> rfl)) | (simp [*, errW_none, errW_some] <;> rfl), by (with_reducible repeat (first | apply ra_ | apply rb_ | apply rc_)); exact Kd.R_mono (Kd.R_far (p := ⟨gb131, 3, none⟩) (Kd.R_far (p := ⟨gb131, 2, none⟩) (Kd.R_far (p := ⟨gb131, 1, none⟩) (Kd.R_far (p := ⟨gb131, 0, none⟩) (Kd.R_types HO_139003.out BK131.out (by decide)) (fun _ hk => hk.2) (.int .i64 (Go.bits .or .i64 a0_0 (ji34)))) (fun _ hk => hk.2) (.int .i64 t133)) (fun _ hk => hk.2) (.int .i64 a1)) (fun _ hk => hk.2) (.slice Ao14 t135.length co14)) (fun _ hk => trivial), by repeat (first | (with_reducible first | exact HB.out | apply below_alloc | apply pw_below_drewN | apply below_drew1 | refine below_set ?_ GE130.out | refine below_set ?_ GE131.out | refine below_set ?_ GE138.out) | exact HB.out)⟩
              · rw [if_neg c49] at H
                exact absurd H (by simp)
          · rw [if_neg c33] at H
            exact absurd H (by simp)
        · rw [if_neg c32] at H
          have c32b0 : (a0_0 == 0) = false := beq_eq_false_iff_ne.mpr c32
          have c32b1 : (a0_0 != 0) = true := bne_iff_ne.mpr c32
          by_cases c65 : 0 ≤ a1
          · rw [if_pos c65] at H
            have c65b0 := eq_true c65
            have c65b1 : decide (0 ≤ a1) = true := decide_eq_true c65
            clear c65
            obtain ⟨ji66, hji66⟩ : ∃ j_ : Int, (shl .i64 1 a1) = j_ := ⟨_, rfl⟩
            replace H : (if (Go.bits .and .i64 (shr .i64 a0_1 a1) 1) = 1 then (some (Go.bits .or .i64 a0_0 (ji66), t133, t134, t135, (-1))) else (if a1 < (l0_3.length : Int) then (some (Go.bits .or .i64 a0_0 (ji66), t133, t134, t135, rd l0_3 a1)) else (none))) = some (r1, r2, r3, r4, r5) := by first | (rw [hji66] at H; exact H) | (simp only [hji66] at H ⊢; exact H)
            have hji66_ : (IntKind.i64.wrap (1 * 2 ^ min a1.toNat 64)) = ji66 := hji66
            have hji66z : a1 ≤ 64 → (IntKind.i64.wrap (1 * 2 ^ a1.toNat)) = ji66 := shl_small hji66
            have hji66u : (IntKind.i64.wrap (2 ^ min a1.toNat 64)) = ji66 := by have h_ := hji66_; rw [Int.one_mul] at h_; exact h_
            have hji66v : a1 ≤ 64 → (IntKind.i64.wrap (2 ^ a1.toNat)) = ji66 := fun hle_ => by have h_ := hji66z hle_; rw [Int.one_mul] at h_; exact h_
            have hji66y : (wrap64 (1 * 2 ^ min a1.toNat 64)) = ji66 := (i64_w _).symm.trans hji66_
            have hji66x : a1 ≤ 64 → (wrap64 (1 * 2 ^ a1.toNat)) = ji66 := fun h_ => (i64_w _).symm.trans (hji66z h_)
            have c67b0 := eq_true (of_decide_eq_true (by first | (with_reducible assumption) | assumption) : 0 ≤ a1)
            obtain ⟨ji68, hji68⟩ : ∃ j_ : Int, (shr .i64 a0_1 a1) = j_ := ⟨_, rfl⟩
            replace H : (if (Go.bits .and .i64 (ji68) 1) = 1 then (some (Go.bits .or .i64 a0_0 (ji66), t133, t134, t135, (-1))) else (if a1 < (l0_3.length : Int) then (some (Go.bits .or .i64 a0_0 (ji66), t133, t134, t135, rd l0_3 a1)) else (none))) = some (r1, r2, r3, r4, r5) := by first | (rw [hji68] at H; exact H) | (simp only [hji68] at H ⊢; exact H)
            have hji68_ : (a0_1 / 2 ^ min a1.toNat 64) = ji68 := hji68
            have hji68z : a1 ≤ 64 → (a0_1 / 2 ^ a1.toNat) = ji68 := shr_small hji68
            by_cases c69 : (Go.bits .and .i64 (ji68) 1) = 1
            · rw [if_pos c69] at H
              have c69b0 : ((Go.bits .and .i64 (ji68) 1) == 1) = true := beq_iff_eq.mpr c69
              have c69b1 : ((Go.bits .and .i64 (ji68) 1) != 1) = false := bne_eq_false_iff_eq.mpr c69
              clear c69
              simp only [Option.some.injEq, Prod.mk.injEq] at H
              obtain ⟨rfl, rfl, rfl, rfl, rfl⟩ := H
              have hnb70 := NB130_131.out
              have hnc70 := NB131_130.out
              have hnb71 := NB130_138.out
              have hnc71 := NB138_130.out
              obtain ⟨hcz72_0, hcz72_1, hcz72_2, hcz72_3, hfz72_0, hfz72_1, hfz72_2, hfz72_3⟩ := cf4_ BK130
              try go_wp2
              have n0_ := Aside0.mk (Kd.R_drew HO_139003.out)
              have n1_ := Aside0.mk (blk_drew BK130.out)
              have n2_ := Aside0.mk (blk_drew BK131.out)
              have n3_ := Aside0.mk (blk_drew BK138.out)
              have n4_ := Aside0.mk (below_drew1 HB.out)
              clear HO_139003
              clear BK130
              clear BK131
              clear BK138
              clear HB
              have HO_139003 := n0_
              have BK130 := n1_
              have BK131 := n2_
              have BK138 := n3_
              have HB := n4_
              clear n0_ n1_ n2_ n3_ n4_
              refine start_ (n := 7) (S := fun w' => w'.cell? ⟨gb130, 0, none⟩ = some (.int .i64 a0_0) ∧ w'.cell? ⟨gb130, 1, none⟩ = some (.int .i64 a0_1) ∧ w'.cell? ⟨gb130, 2, none⟩ = some (.int .i64 a0_2) ∧ w'.cell? ⟨gb130, 3, none⟩ = some (.slice A0_3 l0_3.length c0_3)) (ds := []) (bt_ 7 0) (by kernel_rfl) rfl (by kernel_rfl) ⟨(blk_cell BK130.out 0).trans rfl, (blk_cell BK130.out 1).trans rfl, (blk_cell BK130.out 2).trans rfl, (blk_cell BK130.out 3).trans rfl⟩ (fun hHeld => ?_)
              generalize wc.drew = w73 at HO_139003 BK130 BK131 BK138 HB hHeld ⊢
              refine pure_ (i := 0) (N := some 23) (v := ?_) (a' := ?_) (bt_ 7 1) rfl rfl (by kernel_rfl) (fun _ _ _ h => h) (Or.inl ⟨by rfl, ?_⟩) ?_ ?_
              rotate_left; · intro w'; go_simp; with_reducible rfl
              rotate_left; · simp only [Act.put, sa_, sb_, sc_, i64_w, i32_w]; rfl
              refine pure_ (i := 2) (N := some 25) (v := ?_) (a' := ?_) (bt_ 7 5) rfl rfl (by kernel_rfl) (fun _ _ _ h => h) (Or.inl ⟨by rfl, ?_⟩) ?_ ?_
              rotate_left; · intro w'; go_simp; with_reducible rfl
              rotate_left; · simp only [Act.put, sa_, sb_, sc_, i64_w, i32_w]; rfl
              refine pure_ (i := 3) (N := some 26) (v := ?_) (a' := ?_) (bt_ 7 0xd) rfl rfl (by kernel_rfl) (fun _ _ _ h => h) (Or.inl ⟨by rfl, ?_⟩) ?_ ?_
              rotate_left; · intro w'; go_simp; with_reducible rfl
              rotate_left; · simp only [Act.put, sa_, sb_, sc_, i64_w, i32_w]; rfl
              refine take_ (i := 1) (N := some 24) (v := ?_) (a' := ?_) (bt_ 7 0xf) rfl rfl (by kernel_rfl) (fun _ _ _ h => h) (Or.inl ⟨by rfl, ?_⟩) hHeld ?_ ?_
              rotate_left
              · rintro w' ⟨s0, s1, s2, s3⟩
                go_simp
                with_reducible rfl
              rotate_left; · simp only [Act.put, sa_, sb_, sc_, i64_w, i32_w]; rfl
              refine pure_ (i := 4) (N := some 27) (v := ?_) (a' := ?_) (bt_ 7 0x1f) rfl rfl (by kernel_rfl) (fun _ _ _ h => h) (Or.inl ⟨by rfl, ?_⟩) ?_ ?_
              rotate_left; · intro w'; go_simp; with_reducible rfl
              rotate_left; · simp only [Act.put, sa_, sb_, sc_, i64_w, i32_w]; rfl
              refine pure_ (i := 5) (N := some 28) (v := ?_) (a' := ?_) (bt_ 7 0x3f) rfl rfl (by kernel_rfl) (fun _ _ _ h => h) (Or.inl ⟨by rfl, ?_⟩) ?_ ?_
              rotate_left; · intro w'; go_simp; with_reducible rfl
              rotate_left; · simp only [Act.put, sa_, sb_, sc_, i64_w, i32_w]; rfl
              refine one_ (i := 6) (N := none) (bt_ 7 0x7f) rfl rfl (by kernel_rfl) (by decide) (fun K hK => ?_)
              have hs74 : w73.cell? ⟨gb138, 0, none⟩ = some (.int .i64 t132) := (blk_cell BK138.out 0).trans rfl
              have hfs74 := blk_frozen BK138.out 0
              have hns74_0 := NB130_138.out
              have hns74_1 := NB131_138.out
              have hms74_0 := NB138_130.out
              have hms74_1 := NB138_131.out
              refine skip_ (w1 := ?_) (by rfl) rfl ?_ ?_
              rotate_left
              · go_simp
                rfl
              refine hK.out _ _ ⟨((cell_far (p := ⟨gb138, _, none⟩) NB130_138.out _).trans (hHeld.1)), ((cell_far (p := ⟨gb138, _, none⟩) NB130_138.out _).trans (hHeld.2.1)), ((cell_far (p := ⟨gb138, _, none⟩) NB130_138.out _).trans (hHeld.2.2.1)), ((cell_far (p := ⟨gb138, _, none⟩) NB130_138.out _).trans (hHeld.2.2.2))⟩ (fun hHeld => ?_)
              clear hK K
              refine done_ (by kernel_rfl) ?_
              obtain ⟨hcz75_0, hcz75_1, hcz75_2, hcz75_3, hfz75_0, hfz75_1, hfz75_2, hfz75_3⟩ := cf4_ BK130
              have hnb76 := NB138_131.out
              have hnc76 := NB131_138.out
              obtain ⟨hcz77_0, hcz77_1, hcz77_2, hcz77_3, hfz77_0, hfz77_1, hfz77_2, hfz77_3⟩ := cf4_ BK138
              obtain ⟨hcz78_0, hcz78_1, hcz78_2, hcz78_3, hfz78_0, hfz78_1, hfz78_2, hfz78_3⟩ := cf4_ BK131
              try go_wp2
              refine bodyPost_ret (results_ct rfl _ _ gb131 29 #[.int .i64 (Go.bits .or .i64 a0_0 (ji66)), .int .i64 t133, .int .i64 t134, .slice Ao14 t135.length co14] (0, 0) _ rfl (by (with_reducible repeat (first | refine ba_ ?_ _ | refine bb_ ?_ | refine bc_ ?_ _)); refine blk_put (cs := #[.int .i64 (Go.bits .or .i64 a0_0 (ji66)), .int .i64 t133, .int .i64 t134, .slice none 0 0]) ?_ 3 _ rfl; (with_reducible repeat (first | refine ba_ ?_ _ | refine bb_ ?_ | refine bc_ ?_ _)); refine blk_put (cs := #[.int .i64 (Go.bits .or .i64 a0_0 (ji66)), .int .i64 t133, .int .i64 0, .slice none 0 0]) ?_ 2 _ rfl; (with_reducible repeat (first | refine ba_ ?_ _ | refine bb_ ?_ | refine bc_ ?_ _)); refine blk_put (cs := #[.int .i64 (Go.bits .or .i64 a0_0 (ji66)), .int .i64 0, .int .i64 0, .slice none 0 0]) ?_ 1 _ rfl; (with_reducible repeat (first | refine ba_ ?_ _ | refine bb_ ?_ | refine bc_ ?_ _)); refine blk_put (cs := #[.int .i64 0, .int .i64 0, .int .i64 0, .slice none 0 0]) ?_ 0 _ rfl; (with_reducible repeat (first | refine ba_ ?_ _ | refine bb_ ?_ | refine bc_ ?_ _)); refine blk_far ?_ NB131_138.out _; (with_reducible repeat (first | refine ba_ ?_ _ | refine bb_ ?_ | refine bc_ ?_ _)); exact BK131.out) Try.underlying29 rfl (by kernel_rfl)) rfl ?_
              exact ⟨_, by first | rfl | (simp [errW_none, errW_some] <;> rfl) | (simp only [← hji66, ← hji68]; first | rfl | (simp [errW_none, errW_some] <;> rfl)) | (simp [*, errW_none, errW_some] <;> rfl), by (with_reducible repeat (first | apply ra_ | apply rb_ | apply rc_)); exact Kd.R_mono (Kd.R_far (p := ⟨gb131, 3, none⟩) (Kd.R_far (p := ⟨gb131, 2, none⟩) (Kd.R_far (p := ⟨gb131, 1, none⟩) (Kd.R_far (p := ⟨gb131, 0, none⟩) (Kd.R_far (p := ⟨gb138, 0, none⟩) (Kd.R_types (Kd.R_types HO_139003.out BK138.out (by decide)) BK131.out (by decide)) (fun _ hk => hk.1.2) (.int .i64 (Go.bits .or .i64 a0_0 (ji66)))) (fun _ hk => hk.2) (.int .i64 (Go.bits .or .i64 a0_0 (ji66)))) (fun _ hk => hk.2) (.int .i64 t133)) (fun _ hk => hk.2) (.int .i64 t134)) (fun _ hk => hk.2) (.slice Ao14 t135.length co14)) (fun _ hk => trivial), by repeat (first | (with_reducible first | exact HB.out | apply below_alloc | apply pw_below_drewN | apply below_drew1 | refine below_set ?_ GE130.out | refine below_set ?_ GE131.out | refine below_set ?_ GE138.out) | exact HB.out)⟩
            · rw [if_neg c69] at H
              have c69b0 : ((Go.bits .and .i64 (ji68) 1) == 1) = false := beq_eq_false_iff_ne.mpr c69
              have c69b1 : ((Go.bits .and .i64 (ji68) 1) != 1) = true := bne_iff_ne.mpr c69
              by_cases c79 : a1 < (l0_3.length : Int)
              · rw [if_pos c79] at H
                have c79b0 : decide (a1 < (l0_3.length : Int)) = true := decide_eq_true c79
                clear c79
                simp only [Option.some.injEq, Prod.mk.injEq] at H
                obtain ⟨rfl, rfl, rfl, rfl, rfl⟩ := H
                have hnb80 := NB130_131.out
                have hnc80 := NB131_130.out
                have hnb81 := NB130_138.out
                have hnc81 := NB138_130.out
                obtain ⟨hcz82_0, hcz82_1, hcz82_2, hcz82_3, hfz82_0, hfz82_1, hfz82_2, hfz82_3⟩ := cf4_ BK130
                try go_wp2
                have n0_ := Aside0.mk (Kd.R_drew HO_139003.out)
                have n1_ := Aside0.mk (blk_drew BK130.out)
                have n2_ := Aside0.mk (blk_drew BK131.out)
                have n3_ := Aside0.mk (blk_drew BK138.out)
                have n4_ := Aside0.mk (below_drew1 HB.out)
                clear HO_139003
                clear BK130
                clear BK131
                clear BK138
                clear HB
                have HO_139003 := n0_
                have BK130 := n1_
                have BK131 := n2_
                have BK138 := n3_
                have HB := n4_
                clear n0_ n1_ n2_ n3_ n4_
                refine start_ (n := 7) (S := fun w' => w'.cell? ⟨gb130, 0, none⟩ = some (.int .i64 a0_0) ∧ w'.cell? ⟨gb130, 1, none⟩ = some (.int .i64 a0_1) ∧ w'.cell? ⟨gb130, 2, none⟩ = some (.int .i64 a0_2) ∧ w'.cell? ⟨gb130, 3, none⟩ = some (.slice A0_3 l0_3.length c0_3)) (ds := []) (bt_ 7 0) (by kernel_rfl) rfl (by kernel_rfl) ⟨(blk_cell BK130.out 0).trans rfl, (blk_cell BK130.out 1).trans rfl, (blk_cell BK130.out 2).trans rfl, (blk_cell BK130.out 3).trans rfl⟩ (fun hHeld => ?_)
                generalize wc.drew = w83 at HO_139003 BK130 BK131 BK138 HB hHeld ⊢
                refine pure_ (i := 0) (N := some 23) (v := ?_) (a' := ?_) (bt_ 7 1) rfl rfl (by kernel_rfl) (fun _ _ _ h => h) (Or.inl ⟨by rfl, ?_⟩) ?_ ?_
                rotate_left; · intro w'; go_simp; with_reducible rfl
                rotate_left; · simp only [Act.put, sa_, sb_, sc_, i64_w, i32_w]; rfl
                refine pure_ (i := 2) (N := some 25) (v := ?_) (a' := ?_) (bt_ 7 5) rfl rfl (by kernel_rfl) (fun _ _ _ h => h) (Or.inl ⟨by rfl, ?_⟩) ?_ ?_
                rotate_left; · intro w'; go_simp; with_reducible rfl
                rotate_left; · simp only [Act.put, sa_, sb_, sc_, i64_w, i32_w]; rfl
                refine pure_ (i := 3) (N := some 26) (v := ?_) (a' := ?_) (bt_ 7 0xd) rfl rfl (by kernel_rfl) (fun _ _ _ h => h) (Or.inl ⟨by rfl, ?_⟩) ?_ ?_
                rotate_left; · intro w'; go_simp; with_reducible rfl
                rotate_left; · simp only [Act.put, sa_, sb_, sc_, i64_w, i32_w]; rfl
                refine take_ (i := 1) (N := some 24) (v := ?_) (a' := ?_) (bt_ 7 0xf) rfl rfl (by kernel_rfl) (fun _ _ _ h => h) (Or.inl ⟨by rfl, ?_⟩) hHeld ?_ ?_
                rotate_left
                · rintro w' ⟨s0, s1, s2, s3⟩
                  go_simp
                  with_reducible rfl
                rotate_left; · simp only [Act.put, sa_, sb_, sc_, i64_w, i32_w]; rfl
                refine pure_ (i := 4) (N := some 27) (v := ?_) (a' := ?_) (bt_ 7 0x1f) rfl rfl (by kernel_rfl) (fun _ _ _ h => h) (Or.inl ⟨by rfl, ?_⟩) ?_ ?_
                rotate_left; · intro w'; go_simp; with_reducible rfl
                rotate_left; · simp only [Act.put, sa_, sb_, sc_, i64_w, i32_w]; rfl
                refine pure_ (i := 5) (N := some 28) (v := ?_) (a' := ?_) (bt_ 7 0x3f) rfl rfl (by kernel_rfl) (fun _ _ _ h => h) (Or.inl ⟨by rfl, ?_⟩) ?_ ?_
                rotate_left; · intro w'; go_simp; with_reducible rfl
                rotate_left; · simp only [Act.put, sa_, sb_, sc_, i64_w, i32_w]; rfl
                refine one_ (i := 6) (N := none) (bt_ 7 0x7f) rfl rfl (by kernel_rfl) (by decide) (fun K hK => ?_)
                have hs84 : w83.cell? ⟨gb138, 0, none⟩ = some (.int .i64 t132) := (blk_cell BK138.out 0).trans rfl
                have hfs84 := blk_frozen BK138.out 0
                have hns84_0 := NB130_138.out
                have hns84_1 := NB131_138.out
                have hms84_0 := NB138_130.out
                have hms84_1 := NB138_131.out
                refine skip_ (w1 := ?_) (by rfl) rfl ?_ ?_
                rotate_left
                · go_simp
                  rfl
                refine hK.out _ _ ⟨((cell_far (p := ⟨gb138, _, none⟩) NB130_138.out _).trans (hHeld.1)), ((cell_far (p := ⟨gb138, _, none⟩) NB130_138.out _).trans (hHeld.2.1)), ((cell_far (p := ⟨gb138, _, none⟩) NB130_138.out _).trans (hHeld.2.2.1)), ((cell_far (p := ⟨gb138, _, none⟩) NB130_138.out _).trans (hHeld.2.2.2))⟩ (fun hHeld => ?_)
                clear hK K
                refine done_ (by kernel_rfl) ?_
                obtain ⟨hcz85_0, hcz85_1, hcz85_2, hcz85_3, hfz85_0, hfz85_1, hfz85_2, hfz85_3⟩ := cf4_ BK130
                try go_wp2
                have n0_ : Aside0 (Kd.R (Kd.int .i64) 3 (w83.setCell ⟨gb138, 0, none⟩ (.int .i64 (Go.bits .or .i64 a0_0 (ji66)))) w.heap.size (fun _ => True) (.slice Ao14 t135.length co14) t135) := ⟨by (with_reducible repeat (first | apply ra_ | apply rb_ | apply rc_)); exact Kd.R_mono (Kd.R_far (p := ⟨gb138, 0, none⟩) (Kd.R_types HO_139003.out BK138.out (by decide)) (fun _ hk => hk.2) (.int .i64 (Go.bits .or .i64 a0_0 (ji66)))) (fun _ hk => trivial)⟩
                have n1_ : Aside0 ((w83.setCell ⟨gb138, 0, none⟩ (.int .i64 (Go.bits .or .i64 a0_0 (ji66)))).heap[gb130]? = some (.cells #[.int .i64 a0_0, .int .i64 a0_1, .int .i64 a0_2, .slice A0_3 l0_3.length c0_3] 29 (0, 0))) := ⟨by (with_reducible repeat (first | refine ba_ ?_ _ | refine bb_ ?_ | refine bc_ ?_ _)); refine blk_far ?_ NB130_138.out _; (with_reducible repeat (first | refine ba_ ?_ _ | refine bb_ ?_ | refine bc_ ?_ _)); exact BK130.out⟩
                have n2_ : Aside0 ((w83.setCell ⟨gb138, 0, none⟩ (.int .i64 (Go.bits .or .i64 a0_0 (ji66)))).heap[gb131]? = some (.cells #[.int .i64 0, .int .i64 0, .int .i64 0, .slice none 0 0] 29 (0, 0))) := ⟨by (with_reducible repeat (first | refine ba_ ?_ _ | refine bb_ ?_ | refine bc_ ?_ _)); refine blk_far ?_ NB131_138.out _; (with_reducible repeat (first | refine ba_ ?_ _ | refine bb_ ?_ | refine bc_ ?_ _)); exact BK131.out⟩
                have n3_ : Aside0 ((w83.setCell ⟨gb138, 0, none⟩ (.int .i64 (Go.bits .or .i64 a0_0 (ji66)))).heap[gb138]? = some (.cells #[.int .i64 (Go.bits .or .i64 a0_0 (ji66)), .int .i64 t133, .int .i64 t134, .slice Ao14 t135.length co14] 29 (0, 0))) := ⟨by (with_reducible repeat (first | refine ba_ ?_ _ | refine bb_ ?_ | refine bc_ ?_ _)); refine blk_put (cs := #[.int .i64 t132, .int .i64 t133, .int .i64 t134, .slice Ao14 t135.length co14]) ?_ 0 _ rfl; (with_reducible repeat (first | refine ba_ ?_ _ | refine bb_ ?_ | refine bc_ ?_ _)); exact BK138.out⟩
                have n4_ : Aside0 (Below w.heap.size w (w83.setCell ⟨gb138, 0, none⟩ (.int .i64 (Go.bits .or .i64 a0_0 (ji66))))) := ⟨by repeat (first | (with_reducible first | exact HB.out | apply below_alloc | apply pw_below_drewN | apply below_drew1 | refine below_set ?_ GE130.out | refine below_set ?_ GE131.out | refine below_set ?_ GE138.out) | exact HB.out)⟩
                (try clear HO_139003)
                (try clear BK130)
                (try clear BK131)
                (try clear BK138)
                (try clear HB)
                generalize (w83.setCell ⟨gb138, 0, none⟩ (.int .i64 (Go.bits .or .i64 a0_0 (ji66)))) = w86 at n0_ n1_ n2_ n3_ n4_ ⊢
                have HO_139003 := n0_
                have BK130 := n1_
                have BK131 := n2_
                have BK138 := n3_
                have HB := n4_
                clear n0_ n1_ n2_ n3_ n4_
                have n0_ := Aside0.mk (Kd.R_drew HO_139003.out)
                have n1_ := Aside0.mk (blk_drew BK130.out)
                have n2_ := Aside0.mk (blk_drew BK131.out)
                have n3_ := Aside0.mk (blk_drew BK138.out)
                have n4_ := Aside0.mk (below_drew1 HB.out)
                clear HO_139003
                clear BK130
                clear BK131
                clear BK138
                clear HB
                have HO_139003 := n0_
                have BK130 := n1_
                have BK131 := n2_
                have BK138 := n3_
                have HB := n4_
                clear n0_ n1_ n2_ n3_ n4_
                have p142 : 0 ≤ (a1 : Int) := of_decide_eq_true (by first | (with_reducible assumption) | assumption)
                have q142 : a1 < (l0_3.length : Int) := of_decide_eq_true (by first | (with_reducible assumption) | assumption)
                obtain ⟨ad142, e142, hx142_0⟩ := Kd.at_int HR0_3.out a1 p142 q142
                have hw142_0 := hx142_0
                cases e142
                replace hx142_0 := (HB.out.cell (World.block_lt_of_cell? w _ hx142_0)).trans hx142_0
                replace p142 := eq_true p142
                replace q142 := eq_true q142
                refine start_ (n := 8) (S := fun w' => w'.cell? ⟨gb138, 0, none⟩ = some (.int .i64 (Go.bits .or .i64 a0_0 (ji66))) ∧ w'.cell? ⟨gb138, 1, none⟩ = some (.int .i64 t133) ∧ w'.cell? ⟨gb138, 2, none⟩ = some (.int .i64 t134) ∧ w'.cell? ⟨gb138, 3, none⟩ = some (.slice Ao14 t135.length co14) ∧ w'.cell? ⟨gb130, 0, none⟩ = some (.int .i64 a0_0) ∧ w'.cell? ⟨gb130, 1, none⟩ = some (.int .i64 a0_1) ∧ w'.cell? ⟨gb130, 2, none⟩ = some (.int .i64 a0_2) ∧ w'.cell? ⟨gb130, 3, none⟩ = some (.slice (some ad142) l0_3.length c0_3) ∧ w'.cell? (ad142.add (a1).toNat) = some (.int .i64 (rd l0_3 a1))) (ds := []) (bt_ 8 0) (by kernel_rfl) rfl (by kernel_rfl) ⟨(blk_cell BK138.out 0).trans rfl, (blk_cell BK138.out 1).trans rfl, (blk_cell BK138.out 2).trans rfl, (blk_cell BK138.out 3).trans rfl, (blk_cell BK130.out 0).trans rfl, (blk_cell BK130.out 1).trans rfl, (blk_cell BK130.out 2).trans rfl, (blk_cell BK130.out 3).trans rfl, ((HB.out.cell (World.block_lt_of_cell? w _ hw142_0)).trans hw142_0)⟩ (fun hHeld => ?_); refine with_tabW spec_ReportError.tab9 spec_ReportError.bits9 (fun HT_ HW_ => ?_)
                generalize w86.drew = w87 at HO_139003 BK130 BK131 BK138 HB hx142_0 hHeld ⊢
                refine pure_ (i := 1) (N := some 37) (v := ?_) (a' := ?_) (bt_ 8 2) rfl rfl (any_of HT_.out (by kernel_rfl)) (fun _ _ _ h => h) (Or.inl ⟨by rfl, ?_⟩) ?_ ?_
                rotate_left; · intro w'; go_simp; with_reducible rfl
                rotate_left; · simp only [Act.put, sa_, sb_, sc_, i64_w, i32_w]; rfl
                refine pure_ (i := 3) (N := some 39) (v := ?_) (a' := ?_) (bt_ 8 0xa) rfl rfl (any_of HT_.out (by kernel_rfl)) (fun _ _ _ h => h) (Or.inl ⟨by rfl, ?_⟩) ?_ ?_
                rotate_left; · intro w'; go_simp; with_reducible rfl
                rotate_left; · simp only [Act.put, sa_, sb_, sc_, i64_w, i32_w]; rfl
                refine take_ (i := 0) (N := some 36) (v := ?_) (a' := ?_) (bt_ 8 0xb) rfl rfl (take_ofW HT_.out HW_.out (by kernel_rfl)) (fun _ _ _ h => h) (Or.inl ⟨by rfl, ?_⟩) hHeld ?_ ?_
                rotate_left
                · rintro w' ⟨s0, s1, s2, s3, s4, s5, s6, s7, s8⟩
                  go_simp
                  with_reducible rfl
                rotate_left; · simp only [Act.put, sa_, sb_, sc_, i64_w, i32_w]; rfl
                refine take_ (i := 2) (N := some 38) (v := ?_) (a' := ?_) (bt_ 8 0xf) rfl rfl (take_ofW HT_.out HW_.out (by kernel_rfl)) (fun _ _ _ h => h) (Or.inl ⟨by rfl, ?_⟩) hHeld ?_ ?_
                rotate_left
                · rintro w' ⟨s0, s1, s2, s3, s4, s5, s6, s7, s8⟩
                  go_simp
                  with_reducible rfl
                rotate_left; · simp only [Act.put, sa_, sb_, sc_, i64_w, i32_w]; rfl
                refine pure_ (i := 4) (N := some 40) (v := ?_) (a' := ?_) (bt_ 8 0x1f) rfl rfl (any_of HT_.out (by kernel_rfl)) (fun _ _ _ h => h) (Or.inl ⟨by rfl, ?_⟩) ?_ ?_
                rotate_left; · intro w'; go_simp; with_reducible rfl
                rotate_left; · simp only [Act.put, sa_, sb_, sc_, i64_w, i32_w]; rfl
                refine take_ (i := 5) (N := some 41) (v := ?_) (a' := ?_) (bt_ 8 0x3f) rfl rfl (take_ofW HT_.out HW_.out (by kernel_rfl)) (fun _ _ _ h => h) (Or.inl ⟨by rfl, ?_⟩) hHeld ?_ ?_
                rotate_left
                · rintro w' ⟨s0, s1, s2, s3, s4, s5, s6, s7, s8⟩
                  go_simp
                  with_reducible rfl
                rotate_left; · simp only [Act.put, sa_, sb_, sc_, i64_w, i32_w]; rfl
                refine one_ (i := 6) (N := none) (bt_ 8 0x7f) rfl rfl (one_of HT_.out (by kernel_rfl)) (by decide) (fun K hK => ?_)
                have hs88 : w87.cell? ⟨gb131, 0, none⟩ = some (.int .i64 0) := (blk_cell BK131.out 0).trans rfl
                have hfs88 := blk_frozen BK131.out 0
                have hns88_0 := NB130_131.out
                have hns88_2 := NB138_131.out
                have hms88_0 := NB131_130.out
                have hms88_2 := NB131_138.out
                have hs89 : w87.cell? ⟨gb131, 1, none⟩ = some (.int .i64 0) := (blk_cell BK131.out 1).trans rfl
                have hfs89 := blk_frozen BK131.out 1
                have hns89_0 := NB130_131.out
                have hns89_2 := NB138_131.out
                have hms89_0 := NB131_130.out
                have hms89_2 := NB131_138.out
                have hs90 : w87.cell? ⟨gb131, 2, none⟩ = some (.int .i64 0) := (blk_cell BK131.out 2).trans rfl
                have hfs90 := blk_frozen BK131.out 2
                have hns90_0 := NB130_131.out
                have hns90_2 := NB138_131.out
                have hms90_0 := NB131_130.out
                have hms90_2 := NB131_138.out
                have hs91 : w87.cell? ⟨gb131, 3, none⟩ = some (.slice none 0 0) := (blk_cell BK131.out 3).trans rfl
                have hfs91 := blk_frozen BK131.out 3
                have hns91_0 := NB130_131.out
                have hns91_2 := NB138_131.out
                have hms91_0 := NB131_130.out
                have hms91_2 := NB131_138.out
                refine skip_ (w1 := ?_) (by rfl) rfl ?_ ?_
                rotate_left
                · go_simp
                  rfl
                refine hK.out _ _ ⟨((cell_far (p := ⟨gb131, _, none⟩) NB138_131.out _).trans (((cell_far (p := ⟨gb131, _, none⟩) NB138_131.out _).trans (((cell_far (p := ⟨gb131, _, none⟩) NB138_131.out _).trans (((cell_far (p := ⟨gb131, _, none⟩) NB138_131.out _).trans (hHeld.1)))))))), ((cell_far (p := ⟨gb131, _, none⟩) NB138_131.out _).trans (((cell_far (p := ⟨gb131, _, none⟩) NB138_131.out _).trans (((cell_far (p := ⟨gb131, _, none⟩) NB138_131.out _).trans (((cell_far (p := ⟨gb131, _, none⟩) NB138_131.out _).trans (hHeld.2.1)))))))), ((cell_far (p := ⟨gb131, _, none⟩) NB138_131.out _).trans (((cell_far (p := ⟨gb131, _, none⟩) NB138_131.out _).trans (((cell_far (p := ⟨gb131, _, none⟩) NB138_131.out _).trans (((cell_far (p := ⟨gb131, _, none⟩) NB138_131.out _).trans (hHeld.2.2.1)))))))), ((cell_far (p := ⟨gb131, _, none⟩) NB138_131.out _).trans (((cell_far (p := ⟨gb131, _, none⟩) NB138_131.out _).trans (((cell_far (p := ⟨gb131, _, none⟩) NB138_131.out _).trans (((cell_far (p := ⟨gb131, _, none⟩) NB138_131.out _).trans (hHeld.2.2.2.1)))))))), ((cell_far (p := ⟨gb131, _, none⟩) NB130_131.out _).trans (((cell_far (p := ⟨gb131, _, none⟩) NB130_131.out _).trans (((cell_far (p := ⟨gb131, _, none⟩) NB130_131.out _).trans (((cell_far (p := ⟨gb131, _, none⟩) NB130_131.out _).trans (hHeld.2.2.2.2.1)))))))), ((cell_far (p := ⟨gb131, _, none⟩) NB130_131.out _).trans (((cell_far (p := ⟨gb131, _, none⟩) NB130_131.out _).trans (((cell_far (p := ⟨gb131, _, none⟩) NB130_131.out _).trans (((cell_far (p := ⟨gb131, _, none⟩) NB130_131.out _).trans (hHeld.2.2.2.2.2.1)))))))), ((cell_far (p := ⟨gb131, _, none⟩) NB130_131.out _).trans (((cell_far (p := ⟨gb131, _, none⟩) NB130_131.out _).trans (((cell_far (p := ⟨gb131, _, none⟩) NB130_131.out _).trans (((cell_far (p := ⟨gb131, _, none⟩) NB130_131.out _).trans (hHeld.2.2.2.2.2.2.1)))))))), ((cell_far (p := ⟨gb131, _, none⟩) NB130_131.out _).trans (((cell_far (p := ⟨gb131, _, none⟩) NB130_131.out _).trans (((cell_far (p := ⟨gb131, _, none⟩) NB130_131.out _).trans (((cell_far (p := ⟨gb131, _, none⟩) NB130_131.out _).trans (hHeld.2.2.2.2.2.2.2.1)))))))), ((cell_far (p := ⟨gb131, _, none⟩) (by first | exact Nat.ne_of_lt (Nat.lt_of_lt_of_le (by have := World.block_lt_of_cell? _ _ hw142_0; first | rwa [add_block] at this | exact this) GW131.out) | (rw [add_block]; exact Nat.ne_of_lt (Nat.lt_of_lt_of_le (by have := World.block_lt_of_cell? _ _ hw142_0; first | rwa [add_block] at this | exact this) GW131.out)) | (show (Addr.add _ _).block ≠ _; rw [add_block]; exact Nat.ne_of_lt (Nat.lt_of_lt_of_le (by have := World.block_lt_of_cell? _ _ hw142_0; first | rwa [add_block] at this | exact this) GW131.out)) | (dsimp only; exact Nat.ne_of_lt (Nat.lt_of_lt_of_le (by have := World.block_lt_of_cell? _ _ hw142_0; first | rwa [add_block] at this | exact this) GW131.out))) _).trans (((cell_far (p := ⟨gb131, _, none⟩) (by first | exact Nat.ne_of_lt (Nat.lt_of_lt_of_le (by have := World.block_lt_of_cell? _ _ hw142_0; first | rwa [add_block] at this | exact this) GW131.out) | (rw [add_block]; exact Nat.ne_of_lt (Nat.lt_of_lt_of_le (by have := World.block_lt_of_cell? _ _ hw142_0; first | rwa [add_block] at this | exact this) GW131.out)) | (show (Addr.add _ _).block ≠ _; rw [add_block]; exact Nat.ne_of_lt (Nat.lt_of_lt_of_le (by have := World.block_lt_of_cell? _ _ hw142_0; first | rwa [add_block] at this | exact this) GW131.out)) | (dsimp only; exact Nat.ne_of_lt (Nat.lt_of_lt_of_le (by have := World.block_lt_of_cell? _ _ hw142_0; first | rwa [add_block] at this | exact this) GW131.out))) _).trans (((cell_far (p := ⟨gb131, _, none⟩) (by first | exact Nat.ne_of_lt (Nat.lt_of_lt_of_le (by have := World.block_lt_of_cell? _ _ hw142_0; first | rwa [add_block] at this | exact this) GW131.out) | (rw [add_block]; exact Nat.ne_of_lt (Nat.lt_of_lt_of_le (by have := World.block_lt_of_cell? _ _ hw142_0; first | rwa [add_block] at this | exact this) GW131.out)) | (show (Addr.add _ _).block ≠ _; rw [add_block]; exact Nat.ne_of_lt (Nat.lt_of_lt_of_le (by have := World.block_lt_of_cell? _ _ hw142_0; first | rwa [add_block] at this | exact this) GW131.out)) | (dsimp only; exact Nat.ne_of_lt (Nat.lt_of_lt_of_le (by have := World.block_lt_of_cell? _ _ hw142_0; first | rwa [add_block] at this | exact this) GW131.out))) _).trans (((cell_far (p := ⟨gb131, _, none⟩) (by first | exact Nat.ne_of_lt (Nat.lt_of_lt_of_le (by have := World.block_lt_of_cell? _ _ hw142_0; first | rwa [add_block] at this | exact this) GW131.out) | (rw [add_block]; exact Nat.ne_of_lt (Nat.lt_of_lt_of_le (by have := World.block_lt_of_cell? _ _ hw142_0; first | rwa [add_block] at this | exact this) GW131.out)) | (show (Addr.add _ _).block ≠ _; rw [add_block]; exact Nat.ne_of_lt (Nat.lt_of_lt_of_le (by have := World.block_lt_of_cell? _ _ hw142_0; first | rwa [add_block] at this | exact this) GW131.out)) | (dsimp only; exact Nat.ne_of_lt (Nat.lt_of_lt_of_le (by have := World.block_lt_of_cell? _ _ hw142_0; first | rwa [add_block] at this | exact this) GW131.out))) _).trans (hHeld.2.2.2.2.2.2.2.2))))))))⟩ (fun hHeld => ?_)
                clear hK K
                refine pure_ (i := 7) (N := some 5) (v := ?_) (a' := ?_) (bt_ 8 0xff) rfl rfl (any_of HT_.out (by kernel_rfl)) (fun _ _ _ h => h) (Or.inl ⟨by rfl, ?_⟩) ?_ ?_
                rotate_left; · intro w'; go_simp; with_reducible rfl
                rotate_left; · simp only [Act.put, sa_, sb_, sc_, i64_w, i32_w]; rfl
                refine done_ (done_of HT_.out (by kernel_rfl)) ?_
                try go_wp2
                refine bodyPost_ret (results_ct rfl _ _ gb131 29 #[.int .i64 (Go.bits .or .i64 a0_0 (ji66)), .int .i64 t133, .int .i64 t134, .slice Ao14 t135.length co14] (0, 0) _ rfl (by (with_reducible repeat (first | refine ba_ ?_ _ | refine bb_ ?_ | refine bc_ ?_ _)); refine blk_put (cs := #[.int .i64 (Go.bits .or .i64 a0_0 (ji66)), .int .i64 t133, .int .i64 t134, .slice none 0 0]) ?_ 3 _ rfl; (with_reducible repeat (first | refine ba_ ?_ _ | refine bb_ ?_ | refine bc_ ?_ _)); refine blk_put (cs := #[.int .i64 (Go.bits .or .i64 a0_0 (ji66)), .int .i64 t133, .int .i64 0, .slice none 0 0]) ?_ 2 _ rfl; (with_reducible repeat (first | refine ba_ ?_ _ | refine bb_ ?_ | refine bc_ ?_ _)); refine blk_put (cs := #[.int .i64 (Go.bits .or .i64 a0_0 (ji66)), .int .i64 0, .int .i64 0, .slice none 0 0]) ?_ 1 _ rfl; (with_reducible repeat (first | refine ba_ ?_ _ | refine bb_ ?_ | refine bc_ ?_ _)); refine blk_put (cs := #[.int .i64 0, .int .i64 0, .int .i64 0, .slice none 0 0]) ?_ 0 _ rfl; (with_reducible repeat (first | refine ba_ ?_ _ | refine bb_ ?_ | refine bc_ ?_ _)); exact BK131.out) Try.underlying29 rfl (by kernel_rfl)) rfl ?_
                exact ⟨_, by first | rfl | (simp [errW_none, errW_some] <;> rfl) | (simp only [← hji66, ← hji68]; first | rfl | (simp [errW_none, errW_some] <;> rfl)) | (simp [*, errW_none, errW_some] <;> rfl), by (with_reducible repeat (first | apply ra_ | apply rb_ | apply rc_)); exact Kd.R_mono (Kd.R_far (p := ⟨gb131, 3, none⟩) (Kd.R_far (p := ⟨gb131, 2, none⟩) (Kd.R_far (p := ⟨gb131, 1, none⟩) (Kd.R_far (p := ⟨gb131, 0, none⟩) (Kd.R_types HO_139003.out BK131.out (by decide)) (fun _ hk => hk.2) (.int .i64 (Go.bits .or .i64 a0_0 (ji66)))) (fun _ hk => hk.2) (.int .i64 t133)) (fun _ hk => hk.2) (.int .i64 t134)) (fun _ hk => hk.2) (.slice Ao14 t135.length co14)) (fun _ hk => trivial), by repeat (first | (with_reducible first | exact HB.out | apply below_alloc | apply pw_below_drewN | apply below_drew1 | refine below_set ?_ GE130.out | refine below_set ?_ GE131.out | refine below_set ?_ GE138.out) | exact HB.out)⟩
              · rw [if_neg c79] at H
                exact absurd H (by simp)
          · rw [if_neg c65] at H
            exact absurd H (by simp)

end Go.Proofs.Ytbfkiggcemlmgaa.PFnLogs

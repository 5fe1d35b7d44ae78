/- Began as a text of the kit's print over the program with some leaves' bodies turned; those leaves' own parts are the session's. -/
import Derived.Test.YtbfkiggcemlmgaaPFnLogsx0
import Derived.Test.YtbfkiggcemlmgaaPFnLogsx1
import Derived.Test.YtbfkiggcemlmgaaPFnLogsx6
namespace Go.Proofs.Ytbfkiggcemlmgaa.PFnLogs
open Go.RowKit Go.Proofs.YtbfkiggcemlmgaaW.PrintWords Go.Proofs.YtbfkiggcemlmgaaW.PrintLast Go.Proofs.YtbfkiggcemlmgaaW.PrintMore
attribute [local go_sem] max2_int min2_int max_two min_two max_three min_three max_four min_four   -- for this text's walks alone
set_option linter.unusedVariables false
set_option linter.unusedSimpArgs false

/-! ### impl_ReportError: function 20 -/
def impl_ReportError.j0 : Nat → Int → Bool → Int → Int → Int → List Int → Int → Int → Int → List Int → Option (Int × Int × Int × List Int × Int)
  | 0, _, _, _, _, _, _, _, _, _, _ => none
  | k + 1, x1, x16, x231000, x231001, x231002, x231003, x239000, x239001, x239002, x239003 => if x16 = true then (some (x239000, x239001, x239002, x239003, (-1))) else (if x231000 = 0 then (if 0 ≤ (IntKind.u64.wrap (x1)) then ((impl_isSet.f x231001 x1).bind fun t241 => (if t241 = true then (some (Go.bits .or .i64 x239000 (shl .i64 1 (IntKind.u64.wrap (x1))), x239001, x1, x239003, (-1))) else (if 0 ≤ x1 then (if x1 < (x231003.length : Int) then (some (Go.bits .or .i64 x239000 (shl .i64 1 (IntKind.u64.wrap (x1))), x239001, x1, x239003, rd x231003 x1)) else (none)) else (none)))) else (none)) else (if 0 ≤ (IntKind.u64.wrap (x1)) then ((impl_isSet.f x231001 x1).bind fun t243 => (if t243 = true then (some (Go.bits .or .i64 x239000 (shl .i64 1 (IntKind.u64.wrap (x1))), x239001, x239002, x239003, (-1))) else (if 0 ≤ x1 then (if x1 < (x231003.length : Int) then (some (Go.bits .or .i64 x239000 (shl .i64 1 (IntKind.u64.wrap (x1))), x239001, x239002, x239003, rd x231003 x1)) else (none)) else (none)))) else (none)))
def impl_ReportError.f (k : Nat) (a0_0 : Int) (a0_1 : Int) (a0_2 : Int) (l0_3 : List Int) (a1 : Int) : Option (Int × Int × Int × List Int × Int) := (impl_copyLog.f a0_0 a0_1 a0_2 l0_3).bind fun bt232 => ((impl_LogOk.f k a0_0 a0_1 a0_2 l0_3).bind fun t239 => (if t239 = true then ((impl_isError.f a1).bind fun t240 => (impl_ReportError.j0 k a1 (!t240) a0_0 a0_1 a0_2 l0_3 bt232.1 bt232.2.1 bt232.2.2.1 bt232.2.2.2)) else (impl_ReportError.j0 k a1 true a0_0 a0_1 a0_2 l0_3 bt232.1 bt232.2.1 bt232.2.2.1 bt232.2.2.2)))
theorem impl_ReportError.mono_l : ∀ k, (∀ y0 y1 y2 y3 y4 y5 y6 y7 y8 y9, LeO (impl_ReportError.j0 k y0 y1 y2 y3 y4 y5 y6 y7 y8 y9) (impl_ReportError.j0 (k + 1) y0 y1 y2 y3 y4 y5 y6 y7 y8 y9))
  | 0 => fun _ _ _ _ _ _ _ _ _ _ r h => by simp [impl_ReportError.j0] at h
  | k + 1 => by
    have ih0 := impl_ReportError.mono_l k
    · intro y0 y1 y2 y3 y4 y5 y6 y7 y8 y9
      unfold impl_ReportError.j0
      repeat' first
      | (with_reducible exact ih0 _ _ _ _ _ _ _ _ _ _)
      | (with_reducible exact impl_LogOk.mono _ _ _ _ _)
      | (with_reducible exact LeO.refl _)
      | (with_reducible exact LeO.none _)
      | (with_reducible refine LeO.ite ?_ ?_)
      | (with_reducible refine LeO.bind ?_ (fun _ => ?_))
      | exact ih0 _ _ _ _ _ _ _ _ _ _
      | exact impl_LogOk.mono _ _ _ _ _
      | exact LeO.none _
      | refine LeO.ite ?_ ?_
      | refine LeO.bind ?_ (fun _ => ?_)
theorem impl_ReportError.mono : ∀ a0 a1 a2 a3 a4 k, LeO (impl_ReportError.f k a0 a1 a2 a3 a4) (impl_ReportError.f (k + 1) a0 a1 a2 a3 a4) := by
  intro a0 a1 a2 a3 a4 k
  have ih0 := impl_ReportError.mono_l k
  unfold impl_ReportError.f
  repeat' first
      | (with_reducible exact ih0 _ _ _ _ _ _ _ _ _ _)
      | (with_reducible exact impl_LogOk.mono _ _ _ _ _)
      | (with_reducible exact LeO.refl _)
      | (with_reducible exact LeO.none _)
      | (with_reducible refine LeO.ite ?_ ?_)
      | (with_reducible refine LeO.bind ?_ (fun _ => ?_))
      | exact ih0 _ _ _ _ _ _ _ _ _ _
      | exact impl_LogOk.mono _ _ _ _ _
      | exact LeO.none _
      | refine LeO.ite ?_ ?_
      | refine LeO.bind ?_ (fun _ => ?_)
def impl_ReportError.T9 : Bool × List (List Nat × List Nat) := (true, [([], []), ([], []), ([1], [1]), ([], []), ([2, 3], [2, 3]), ([4], [4]), ([0, 0], [0]), ([5, 6, 0, 1, 2, 3, 4, 5, 6], [5])])
def impl_ReportError.B9 : List Nat := [0, 0, 2, 0, 14, 30, 1, 127]
theorem impl_ReportError.tab9 : rtab .any (opsOf Try.f20 9) = impl_ReportError.T9 := by kernel_rfl
theorem impl_ReportError.bits9 : waitsOk impl_ReportError.T9.2 impl_ReportError.B9 = true := by kernel_rfl
set_option maxHeartbeats 8000000 in
set_option maxRecDepth 100000 in
theorem impl_ReportError.calls (k : Nat) (a0_0 : Int) (a0_1 : Int) (a0_2 : Int) (A0_3 : Option Addr) (c0_3 : Nat) (l0_3 : List Int) (a1 : Int) (r1 : Int) (r2 : Int) (r3 : Int) (r4 : List Int) (r5 : Int) (w : World) (hr0_3 : Kd.C (Kd.int .i64) w A0_3 l0_3.length l0_3) (hc0_3 : l0_3.length ≤ c0_3) (h : impl_ReportError.f k a0_0 a0_1 a0_2 l0_3 a1 = some (r1, r2, r3, r4, r5)) :
    Calls Try.prog 20 #[.agg #[.int .i64 a0_0, .int .i64 a0_1, .int .i64 a0_2, .slice A0_3 l0_3.length c0_3], .int .i64 a1] w fun e w' => ∃ v3_ : Value, e = .returned (.tuple #[.agg #[.int .i64 r1, .int .i64 r2, .int .i64 r3, v3_], .int .i64 r5]) ∧ Kd.R (Kd.int .i64) 3 w' w.heap.size (fun _ => True) v3_ r4 ∧ Below w.heap.size w w' := by
  have hu29 := Try.underlying29
  have HR0_3 := Aside0.mk hr0_3
  have HC0_3 := Aside0.mk hc0_3
  clear hr0_3 hc0_3
  have HB := Aside0.mk (Below.refl w.heap.size w)
  have H : ((impl_copyLog.f a0_0 a0_1 a0_2 l0_3).bind fun bt232 => ((impl_LogOk.f k a0_0 a0_1 a0_2 l0_3).bind fun t239 => (if t239 = true then ((impl_isError.f a1).bind fun t240 => (impl_ReportError.j0 k a1 (!t240) a0_0 a0_1 a0_2 l0_3 bt232.1 bt232.2.1 bt232.2.2.1 bt232.2.2.2)) else (impl_ReportError.j0 k a1 true a0_0 a0_1 a0_2 l0_3 bt232.1 bt232.2.1 bt232.2.2.1 bt232.2.2.2)))) = some (r1, r2, r3, r4, r5) := h
  clear h
  replace H := Option.bind_eq_some_iff.mp H
  obtain ⟨⟨t232, t233, t234, t235⟩, A30, H⟩ := H
  replace H : ((impl_LogOk.f k a0_0 a0_1 a0_2 l0_3).bind fun t239 => (if t239 = true then ((impl_isError.f a1).bind fun t240 => (impl_ReportError.j0 k a1 (!t240) a0_0 a0_1 a0_2 l0_3 t232 t233 t234 t235)) else (impl_ReportError.j0 k a1 true a0_0 a0_1 a0_2 l0_3 t232 t233 t234 t235))) = some (r1, r2, r3, r4, r5) := H
  have A3 := Aside0.mk A30
  clear A30
  have HC4 := Aside0.mk H
  clear H
  go_enter Try.func20, Try.ntmps20
  go_upto_region 2 with (first | ((with_reducible refine gate_dst (N := 2) rfl ?_); refine box_event ?hg (N := 2) ?hd (cs := #[.int .i64 a0_0, .int .i64 a0_1, .int .i64 a0_2, .slice A0_3 l0_3.length c0_3]) (t := 29) ?hr ?_; (case hd => rfl); (case hg => rfl); (case hr => first | (go_simp; done) | (go_simp; rfl)); intro gb230 hg w5 hbox hb; have n0_ := Aside0.mk (below_step (bl_ HB) hb); have n1_ := Aside0.mk (hbox); have n2_ := Aside0.mk ((by rw [hg]; exact (below_size (bl_ HB)) : w.heap.size ≤ gb230)); have n3_ := Aside0.mk ((by rw [hg]; exact (below_size (bl_ HB)) : w.heap.size ≤ gb230)); clear HB; have HB := n0_; have BK230 := n1_; have GW230 := n2_; have GE230 := n3_; clear n0_ n1_ n2_ n3_; clear hb hbox hg) | ((with_reducible refine gate_dst (N := 4) rfl ?_); refine box_event ?hg (N := 4) ?hd (cs := #[.int .i64 0, .int .i64 0, .int .i64 0, .slice none 0 0]) (t := 29) ?hr ?_; (case hd => rfl); (case hg => rfl); (case hr => first | (go_simp; done) | (go_simp; rfl)); intro gb231 hg w6 hbox hb; have n0_ := Aside0.mk (blk_below (g := gb230) (o := .cells #[.int .i64 a0_0, .int .i64 a0_1, .int .i64 a0_2, .slice A0_3 l0_3.length c0_3] 29 (0, 0)) (bu_ BK230) hb); have n1_ := Aside0.mk (below_step (by repeat (first | (with_reducible first | exact HB.out | apply below_alloc | apply pw_below_drewN | apply below_drew1 | refine below_set ?_ GE230.out) | exact HB.out)) hb); have n2_ := Aside0.mk (hbox); have n3_ := Aside0.mk ((by rw [hg]; exact (below_size (by repeat (first | (with_reducible first | exact HB.out | apply below_alloc | apply pw_below_drewN | apply below_drew1 | refine below_set ?_ GE230.out) | exact HB.out))) : w.heap.size ≤ gb231)); have n4_ := Aside0.mk ((by rw [hg]; exact (below_size (by repeat (first | (with_reducible first | exact HB.out | apply below_alloc | apply pw_below_drewN | apply below_drew1 | refine below_set ?_ GE230.out) | exact HB.out))) : w.heap.size ≤ gb231)); have n5_ := Aside0.mk ((by rw [hg]; exact Nat.ne_of_lt (blk_lt (g := gb230) (o := .cells #[.int .i64 a0_0, .int .i64 a0_1, .int .i64 a0_2, .slice A0_3 l0_3.length c0_3] 29 (0, 0)) (bu_ BK230)) : gb230 ≠ gb231)); have n6_ := Aside0.mk ((by rw [hg]; exact Nat.ne_of_gt (blk_lt (g := gb230) (o := .cells #[.int .i64 a0_0, .int .i64 a0_1, .int .i64 a0_2, .slice A0_3 l0_3.length c0_3] 29 (0, 0)) (bu_ BK230)) : gb231 ≠ gb230)); clear BK230; clear HB; have BK230 := n0_; have HB := n1_; have BK231 := n2_; have GW231 := n3_; have GE231 := n4_; have NB230_231 := n5_; have NB231_230 := n6_; clear n0_ n1_ n2_ n3_ n4_ n5_ n6_; clear hb hbox hg; have hnb7 := NB230_231.out; have hnc7 := NB231_230.out; obtain ⟨hcz8_0, hcz8_1, hcz8_2, hcz8_3, hfz8_0, hfz8_1, hfz8_2, hfz8_3⟩ := cf4_ BK230) | ((with_reducible refine gate_callee (f := 37) rfl ?_); refine goesL_ (some 8) rfl rfl Try.func37 (by kernel_rfl) rfl #[.agg #[.int .i64 a0_0, .int .i64 a0_1, .int .i64 a0_2, .slice A0_3 l0_3.length c0_3]] rfl (by (try simp only [List.map_toArray, List.map_cons, List.map_nil]); first | done | rfl | (simp only [List.length_drop, List.length_take]; rfl)) ?_; (with_reducible refine (impl_copyLog.calls a0_0 a0_1 a0_2 _ _ l0_3 t232 t233 t234 t235 _ ?side1 ?side2 A3.out).mono ?_); (case side1 => exact Kd.C_below HR0_3.out (bl_ HB)); (case side2 => exact HC0_3.out); rintro e w9 ⟨v236, rfl, ho0, hb⟩; refine ⟨_, rfl, ?_⟩; have n0_ := Aside0.mk (Kd.R_lower ho0 (below_size (by repeat (first | (with_reducible first | exact HB.out | apply below_alloc | apply pw_below_drewN | apply below_drew1 | refine below_set ?_ GE230.out | refine below_set ?_ GE231.out) | exact HB.out)))); have n1_ := Aside0.mk (blk_below (g := gb230) (o := .cells #[.int .i64 a0_0, .int .i64 a0_1, .int .i64 a0_2, .slice A0_3 l0_3.length c0_3] 29 (0, 0)) (bu_ BK230) hb); have n2_ := Aside0.mk (blk_below (g := gb231) (o := .cells #[.int .i64 0, .int .i64 0, .int .i64 0, .slice none 0 0] 29 (0, 0)) (bu_ BK231) hb); have n3_ := Aside0.mk (below_step (by repeat (first | (with_reducible first | exact HB.out | apply below_alloc | apply pw_below_drewN | apply below_drew1 | refine below_set ?_ GE230.out | refine below_set ?_ GE231.out) | exact HB.out)) hb); clear BK230; clear BK231; clear HB; have HO237 := n0_; have BK230 := n1_; have BK231 := n2_; have HB := n3_; clear n0_ n1_ n2_ n3_; (try clear hb); (try clear hb2); (try clear hk); (try clear hi); (try clear ho0)) | ((with_reducible refine gate_dst (N := 6) rfl ?_); refine box_event ?hg (N := 6) ?hd (cs := #[.int .i64 0, .int .i64 0, .int .i64 0, .slice none 0 0]) (t := 29) ?hr ?_; (case hd => rfl); (case hg => rfl); (case hr => first | (go_simp; done) | (go_simp; rfl)); intro gb238 hg w10 hbox hb; have n0_ := Aside0.mk (Kd.R_below (by (with_reducible repeat (first | apply ra_ | apply rb_ | apply rc_)); exact HO237.out) hb); have n1_ := Aside0.mk (blk_below (g := gb230) (o := .cells #[.int .i64 a0_0, .int .i64 a0_1, .int .i64 a0_2, .slice A0_3 l0_3.length c0_3] 29 (0, 0)) (bu_ BK230) hb); have n2_ := Aside0.mk (blk_below (g := gb231) (o := .cells #[.int .i64 0, .int .i64 0, .int .i64 0, .slice none 0 0] 29 (0, 0)) (bu_ BK231) hb); have n3_ := Aside0.mk (below_step (by repeat (first | (with_reducible first | exact HB.out | apply below_alloc | apply pw_below_drewN | apply below_drew1 | refine below_set ?_ GE230.out | refine below_set ?_ GE231.out) | exact HB.out)) hb); have n4_ := Aside0.mk (hbox); have n5_ := Aside0.mk ((by rw [hg]; exact (below_size (by repeat (first | (with_reducible first | exact HB.out | apply below_alloc | apply pw_below_drewN | apply below_drew1 | refine below_set ?_ GE230.out | refine below_set ?_ GE231.out) | exact HB.out))) : w.heap.size ≤ gb238)); have n6_ := Aside0.mk ((by rw [hg]; exact (below_size (by repeat (first | (with_reducible first | exact HB.out | apply below_alloc | apply pw_below_drewN | apply below_drew1 | refine below_set ?_ GE230.out | refine below_set ?_ GE231.out) | exact HB.out))) : w.heap.size ≤ gb238)); have n7_ := Aside0.mk ((by rw [hg]; exact Nat.ne_of_lt (blk_lt (g := gb230) (o := .cells #[.int .i64 a0_0, .int .i64 a0_1, .int .i64 a0_2, .slice A0_3 l0_3.length c0_3] 29 (0, 0)) (bu_ BK230)) : gb230 ≠ gb238)); have n8_ := Aside0.mk ((by rw [hg]; exact Nat.ne_of_gt (blk_lt (g := gb230) (o := .cells #[.int .i64 a0_0, .int .i64 a0_1, .int .i64 a0_2, .slice A0_3 l0_3.length c0_3] 29 (0, 0)) (bu_ BK230)) : gb238 ≠ gb230)); have n9_ := Aside0.mk ((by rw [hg]; exact Nat.ne_of_lt (blk_lt (g := gb231) (o := .cells #[.int .i64 0, .int .i64 0, .int .i64 0, .slice none 0 0] 29 (0, 0)) (bu_ BK231)) : gb231 ≠ gb238)); have n10_ := Aside0.mk ((by rw [hg]; exact Nat.ne_of_gt (blk_lt (g := gb231) (o := .cells #[.int .i64 0, .int .i64 0, .int .i64 0, .slice none 0 0] 29 (0, 0)) (bu_ BK231)) : gb238 ≠ gb231)); clear HO237; clear BK230; clear BK231; clear HB; have HO237 := n0_; have BK230 := n1_; have BK231 := n2_; have HB := n3_; have BK238 := n4_; have GW238 := n5_; have GE238 := n6_; have NB230_238 := n7_; have NB238_230 := n8_; have NB231_238 := n9_; have NB238_231 := n10_; clear n0_ n1_ n2_ n3_ n4_ n5_ n6_ n7_ n8_ n9_ n10_; clear hb hbox hg; have hnb11 := NB238_230.out; have hnc11 := NB230_238.out; have hnb12 := NB238_231.out; have hnc12 := NB231_238.out; obtain ⟨hcz13_0, hcz13_1, hcz13_2, hcz13_3, hfz13_0, hfz13_1, hfz13_2, hfz13_3⟩ := cf4_ BK238; obtain ⟨Ao14, co14, eo14⟩ := Kd.R_slice HO237.out; subst eo14))
  (try simp only [Act.put, List.setIfInBounds_toArray, List.set_cons_zero, List.set_cons_succ])
  go_cut [16] (fun v16 wc => ∃ (kq : Nat) (x16_3 : Bool), v16 = .bool x16_3 ∧ Aside0 (impl_ReportError.j0 kq a1 x16_3 a0_0 a0_1 a0_2 l0_3 t232 t233 t234 t235 = some (r1, r2, r3, r4, r5)) ∧ Aside0 (kq ≤ k) ∧ Aside0 (Kd.R (Kd.int .i64) 3 wc w.heap.size (fun _ => True) (.slice Ao14 t235.length co14) t235) ∧ Aside0 (wc.heap[gb230]? = some (.cells #[.int .i64 a0_0, .int .i64 a0_1, .int .i64 a0_2, (.slice A0_3 l0_3.length c0_3)] 29 (0, 0))) ∧ Aside0 (wc.heap[gb231]? = some (.cells #[.int .i64 0, .int .i64 0, .int .i64 0, (.slice none 0 0)] 29 (0, 0))) ∧ Aside0 (wc.heap[gb238]? = some (.cells #[.int .i64 t232, .int .i64 t233, .int .i64 t234, (.slice Ao14 t235.length co14)] 29 (0, 0))) ∧ Aside0 (Below w.heap.size w wc))
  case first =>
    have H := HC4.out
    clear HC4
    replace H := Option.bind_eq_some_iff.mp H
    obtain ⟨t239, A150, H⟩ := H
    replace H : (if t239 = true then ((impl_isError.f a1).bind fun t240 => (impl_ReportError.j0 k a1 (!t240) a0_0 a0_1 a0_2 l0_3 t232 t233 t234 t235)) else (impl_ReportError.j0 k a1 true a0_0 a0_1 a0_2 l0_3 t232 t233 t234 t235)) = some (r1, r2, r3, r4, r5) := H
    have A15 := Aside0.mk A150
    clear A150
    by_cases c16 : t239 = true
    · subst c16
      have H1 : ((impl_isError.f a1).bind fun t240 => (impl_ReportError.j0 k a1 (!t240) a0_0 a0_1 a0_2 l0_3 t232 t233 t234 t235)) = some (r1, r2, r3, r4, r5) := by rw [if_pos rfl] at H; exact H
      clear H
      have H := H1
      clear H1
      replace H := Option.bind_eq_some_iff.mp H
      obtain ⟨t240, A170, H⟩ := H
      replace H : (impl_ReportError.j0 k a1 (!t240) a0_0 a0_1 a0_2 l0_3 t232 t233 t234 t235) = some (r1, r2, r3, r4, r5) := H
      have A17 := Aside0.mk A170
      clear A170
      have H' := Aside0.mk H
      clear H
      have hnb18 := NB230_231.out
      have hnc18 := NB231_230.out
      have hnb19 := NB230_238.out
      have hnc19 := NB238_230.out
      obtain ⟨hcz20_0, hcz20_1, hcz20_2, hcz20_3, hfz20_0, hfz20_1, hfz20_2, hfz20_3⟩ := cf4_ BK230
      go_wp2_with (first | ((with_reducible refine gate_callee (f := 13) rfl ?_); refine goesL_ (some 10) rfl rfl Try.func13 (by kernel_rfl) rfl #[.agg #[.int .i64 a0_0, .int .i64 a0_1, .int .i64 a0_2, .slice A0_3 l0_3.length c0_3]] rfl (by (try simp only [List.map_toArray, List.map_cons, List.map_nil]); first | done | rfl | (simp only [List.length_drop, List.length_take]; rfl)) ?_; (with_reducible refine (impl_LogOk.calls k a0_0 a0_1 a0_2 _ _ l0_3 true _ ?side1 ?side2 A15.out).mono ?_); (case side1 => exact Kd.C_below HR0_3.out (by repeat (first | (with_reducible first | exact HB.out | apply below_alloc | apply pw_below_drewN | apply below_drew1 | refine below_set ?_ GE230.out | refine below_set ?_ GE231.out | refine below_set ?_ GE238.out) | exact HB.out))); (case side2 => exact HC0_3.out); rintro e w21 ⟨rfl, hb⟩; refine ⟨_, rfl, ?_⟩; have n0_ := Aside0.mk (Kd.R_below (by (with_reducible repeat (first | apply ra_ | apply rb_ | apply rc_)); exact (Kd.R_mono (Kd.R_far (p := ⟨gb238, 3, none⟩) (Kd.R_far (p := ⟨gb238, 2, none⟩) (Kd.R_far (p := ⟨gb238, 1, none⟩) (Kd.R_far (p := ⟨gb238, 0, none⟩) (Kd.R_types HO237.out BK238.out (by decide)) (fun _ hk => hk.2) (.int .i64 t232)) (fun _ hk => hk.2) (.int .i64 t233)) (fun _ hk => hk.2) (.int .i64 t234)) (fun _ hk => hk.2) (.slice Ao14 t235.length co14)) (fun _ h_ => h_.1))) hb); have n1_ := Aside0.mk (blk_below (g := gb230) (o := .cells #[.int .i64 a0_0, .int .i64 a0_1, .int .i64 a0_2, .slice A0_3 l0_3.length c0_3] 29 (0, 0)) (by (with_reducible repeat (first | refine ba_ ?_ _ | refine bb_ ?_ | refine bc_ ?_ _)); refine blk_far ?_ NB230_238.out _; (with_reducible repeat (first | refine ba_ ?_ _ | refine bb_ ?_ | refine bc_ ?_ _)); refine blk_far ?_ NB230_238.out _; (with_reducible repeat (first | refine ba_ ?_ _ | refine bb_ ?_ | refine bc_ ?_ _)); refine blk_far ?_ NB230_238.out _; (with_reducible repeat (first | refine ba_ ?_ _ | refine bb_ ?_ | refine bc_ ?_ _)); refine blk_far ?_ NB230_238.out _; (with_reducible repeat (first | refine ba_ ?_ _ | refine bb_ ?_ | refine bc_ ?_ _)); exact BK230.out) hb); have n2_ := Aside0.mk (blk_below (g := gb231) (o := .cells #[.int .i64 0, .int .i64 0, .int .i64 0, .slice none 0 0] 29 (0, 0)) (by (with_reducible repeat (first | refine ba_ ?_ _ | refine bb_ ?_ | refine bc_ ?_ _)); refine blk_far ?_ NB231_238.out _; (with_reducible repeat (first | refine ba_ ?_ _ | refine bb_ ?_ | refine bc_ ?_ _)); refine blk_far ?_ NB231_238.out _; (with_reducible repeat (first | refine ba_ ?_ _ | refine bb_ ?_ | refine bc_ ?_ _)); refine blk_far ?_ NB231_238.out _; (with_reducible repeat (first | refine ba_ ?_ _ | refine bb_ ?_ | refine bc_ ?_ _)); refine blk_far ?_ NB231_238.out _; (with_reducible repeat (first | refine ba_ ?_ _ | refine bb_ ?_ | refine bc_ ?_ _)); exact BK231.out) hb); have n3_ := Aside0.mk (blk_below (g := gb238) (o := .cells #[.int .i64 t232, .int .i64 t233, .int .i64 t234, .slice Ao14 t235.length co14] 29 (0, 0)) (by (with_reducible repeat (first | refine ba_ ?_ _ | refine bb_ ?_ | refine bc_ ?_ _)); refine blk_put (cs := #[.int .i64 t232, .int .i64 t233, .int .i64 t234, .slice none 0 0]) ?_ 3 _ rfl; (with_reducible repeat (first | refine ba_ ?_ _ | refine bb_ ?_ | refine bc_ ?_ _)); refine blk_put (cs := #[.int .i64 t232, .int .i64 t233, .int .i64 0, .slice none 0 0]) ?_ 2 _ rfl; (with_reducible repeat (first | refine ba_ ?_ _ | refine bb_ ?_ | refine bc_ ?_ _)); refine blk_put (cs := #[.int .i64 t232, .int .i64 0, .int .i64 0, .slice none 0 0]) ?_ 1 _ rfl; (with_reducible repeat (first | refine ba_ ?_ _ | refine bb_ ?_ | refine bc_ ?_ _)); refine blk_put (cs := #[.int .i64 0, .int .i64 0, .int .i64 0, .slice none 0 0]) ?_ 0 _ rfl; (with_reducible repeat (first | refine ba_ ?_ _ | refine bb_ ?_ | refine bc_ ?_ _)); exact BK238.out) hb); have n4_ := Aside0.mk (below_step (by repeat (first | (with_reducible first | exact HB.out | apply below_alloc | apply pw_below_drewN | apply below_drew1 | refine below_set ?_ GE230.out | refine below_set ?_ GE231.out | refine below_set ?_ GE238.out) | exact HB.out)) hb); clear HO237; clear BK230; clear BK231; clear BK238; clear HB; have HO237 := n0_; have BK230 := n1_; have BK231 := n2_; have BK238 := n3_; have HB := n4_; clear n0_ n1_ n2_ n3_ n4_; (try clear hb); (try clear hb2); (try clear hk); (try clear hi)) | (go_at_call 31; (with_reducible refine (impl_isError.calls a1 t240 _ A17.out).mono ?_); rintro e w' ⟨rfl, ⟨nd, rfl⟩⟩))
      go_meet
      case rel => exact ⟨_, (!t240), (by first | rfl | (simp; done) | (simp [*]; done)), H', ⟨by first | omega | exact Nat.le_refl _⟩, ⟨by (with_reducible repeat (first | apply ra_ | apply rb_ | apply rc_)); exact HO237.out⟩, ⟨bu_ BK230⟩, ⟨bu_ BK231⟩, ⟨bu_ BK238⟩, ⟨by repeat (first | (with_reducible first | exact HB.out | apply below_alloc | apply pw_below_drewN | apply below_drew1 | refine below_set ?_ GE230.out | refine below_set ?_ GE231.out | refine below_set ?_ GE238.out) | exact HB.out)⟩⟩
    · replace c16 := Bool.eq_false_iff.mpr c16
      subst c16
      have H1 : (impl_ReportError.j0 k a1 true a0_0 a0_1 a0_2 l0_3 t232 t233 t234 t235) = some (r1, r2, r3, r4, r5) := by rw [if_neg (show ¬ (false = true) by decide)] at H; exact H
      clear H
      have H := H1
      clear H1
      have H' := Aside0.mk H
      clear H
      have hnb22 := NB230_231.out
      have hnc22 := NB231_230.out
      have hnb23 := NB230_238.out
      have hnc23 := NB238_230.out
      obtain ⟨hcz24_0, hcz24_1, hcz24_2, hcz24_3, hfz24_0, hfz24_1, hfz24_2, hfz24_3⟩ := cf4_ BK230
      go_wp2_with (first | ((with_reducible refine gate_callee (f := 13) rfl ?_); refine goesL_ (some 10) rfl rfl Try.func13 (by kernel_rfl) rfl #[.agg #[.int .i64 a0_0, .int .i64 a0_1, .int .i64 a0_2, .slice A0_3 l0_3.length c0_3]] rfl (by (try simp only [List.map_toArray, List.map_cons, List.map_nil]); first | done | rfl | (simp only [List.length_drop, List.length_take]; rfl)) ?_; (with_reducible refine (impl_LogOk.calls k a0_0 a0_1 a0_2 _ _ l0_3 false _ ?side1 ?side2 A15.out).mono ?_); (case side1 => exact Kd.C_below HR0_3.out (by repeat (first | (with_reducible first | exact HB.out | apply below_alloc | apply pw_below_drewN | apply below_drew1 | refine below_set ?_ GE230.out | refine below_set ?_ GE231.out | refine below_set ?_ GE238.out) | exact HB.out))); (case side2 => exact HC0_3.out); rintro e w25 ⟨rfl, hb⟩; refine ⟨_, rfl, ?_⟩; have n0_ := Aside0.mk (Kd.R_below (by (with_reducible repeat (first | apply ra_ | apply rb_ | apply rc_)); exact (Kd.R_mono (Kd.R_far (p := ⟨gb238, 3, none⟩) (Kd.R_far (p := ⟨gb238, 2, none⟩) (Kd.R_far (p := ⟨gb238, 1, none⟩) (Kd.R_far (p := ⟨gb238, 0, none⟩) (Kd.R_types HO237.out BK238.out (by decide)) (fun _ hk => hk.2) (.int .i64 t232)) (fun _ hk => hk.2) (.int .i64 t233)) (fun _ hk => hk.2) (.int .i64 t234)) (fun _ hk => hk.2) (.slice Ao14 t235.length co14)) (fun _ h_ => h_.1))) hb); have n1_ := Aside0.mk (blk_below (g := gb230) (o := .cells #[.int .i64 a0_0, .int .i64 a0_1, .int .i64 a0_2, .slice A0_3 l0_3.length c0_3] 29 (0, 0)) (by (with_reducible repeat (first | refine ba_ ?_ _ | refine bb_ ?_ | refine bc_ ?_ _)); refine blk_far ?_ NB230_238.out _; (with_reducible repeat (first | refine ba_ ?_ _ | refine bb_ ?_ | refine bc_ ?_ _)); refine blk_far ?_ NB230_238.out _; (with_reducible repeat (first | refine ba_ ?_ _ | refine bb_ ?_ | refine bc_ ?_ _)); refine blk_far ?_ NB230_238.out _; (with_reducible repeat (first | refine ba_ ?_ _ | refine bb_ ?_ | refine bc_ ?_ _)); refine blk_far ?_ NB230_238.out _; (with_reducible repeat (first | refine ba_ ?_ _ | refine bb_ ?_ | refine bc_ ?_ _)); exact BK230.out) hb); have n2_ := Aside0.mk (blk_below (g := gb231) (o := .cells #[.int .i64 0, .int .i64 0, .int .i64 0, .slice none 0 0] 29 (0, 0)) (by (with_reducible repeat (first | refine ba_ ?_ _ | refine bb_ ?_ | refine bc_ ?_ _)); refine blk_far ?_ NB231_238.out _; (with_reducible repeat (first | refine ba_ ?_ _ | refine bb_ ?_ | refine bc_ ?_ _)); refine blk_far ?_ NB231_238.out _; (with_reducible repeat (first | refine ba_ ?_ _ | refine bb_ ?_ | refine bc_ ?_ _)); refine blk_far ?_ NB231_238.out _; (with_reducible repeat (first | refine ba_ ?_ _ | refine bb_ ?_ | refine bc_ ?_ _)); refine blk_far ?_ NB231_238.out _; (with_reducible repeat (first | refine ba_ ?_ _ | refine bb_ ?_ | refine bc_ ?_ _)); exact BK231.out) hb); have n3_ := Aside0.mk (blk_below (g := gb238) (o := .cells #[.int .i64 t232, .int .i64 t233, .int .i64 t234, .slice Ao14 t235.length co14] 29 (0, 0)) (by (with_reducible repeat (first | refine ba_ ?_ _ | refine bb_ ?_ | refine bc_ ?_ _)); refine blk_put (cs := #[.int .i64 t232, .int .i64 t233, .int .i64 t234, .slice none 0 0]) ?_ 3 _ rfl; (with_reducible repeat (first | refine ba_ ?_ _ | refine bb_ ?_ | refine bc_ ?_ _)); refine blk_put (cs := #[.int .i64 t232, .int .i64 t233, .int .i64 0, .slice none 0 0]) ?_ 2 _ rfl; (with_reducible repeat (first | refine ba_ ?_ _ | refine bb_ ?_ | refine bc_ ?_ _)); refine blk_put (cs := #[.int .i64 t232, .int .i64 0, .int .i64 0, .slice none 0 0]) ?_ 1 _ rfl; (with_reducible repeat (first | refine ba_ ?_ _ | refine bb_ ?_ | refine bc_ ?_ _)); refine blk_put (cs := #[.int .i64 0, .int .i64 0, .int .i64 0, .slice none 0 0]) ?_ 0 _ rfl; (with_reducible repeat (first | refine ba_ ?_ _ | refine bb_ ?_ | refine bc_ ?_ _)); exact BK238.out) hb); have n4_ := Aside0.mk (below_step (by repeat (first | (with_reducible first | exact HB.out | apply below_alloc | apply pw_below_drewN | apply below_drew1 | refine below_set ?_ GE230.out | refine below_set ?_ GE231.out | refine below_set ?_ GE238.out) | exact HB.out)) hb); clear HO237; clear BK230; clear BK231; clear BK238; clear HB; have HO237 := n0_; have BK230 := n1_; have BK231 := n2_; have BK238 := n3_; have HB := n4_; clear n0_ n1_ n2_ n3_ n4_; (try clear hb); (try clear hb2); (try clear hk); (try clear hi)))
      go_meet
      case rel => exact ⟨_, (true), (by first | rfl | (simp; done) | (simp [*]; done)), H', ⟨by first | omega | exact Nat.le_refl _⟩, ⟨by (with_reducible repeat (first | apply ra_ | apply rb_ | apply rc_)); exact HO237.out⟩, ⟨bu_ BK230⟩, ⟨bu_ BK231⟩, ⟨bu_ BK238⟩, ⟨by repeat (first | (with_reducible first | exact HB.out | apply below_alloc | apply pw_below_drewN | apply below_drew1 | refine below_set ?_ GE230.out | refine below_set ?_ GE231.out | refine below_set ?_ GE238.out) | exact HB.out)⟩⟩
  case rest =>
    clear HC4
    try clear c1; try clear c2; try clear p2; try clear c3; try clear c7; try clear c11; try clear c12; try clear c13; try clear c16; try clear c18; try clear c19; try clear c20; try clear c22; try clear c23; try clear hcz13_0; try clear hcz13_1; try clear hcz13_2; try clear hcz13_3; try clear hcz20_0; try clear hcz20_1; try clear hcz20_2; try clear hcz20_3; try clear hcz24_0; try clear hcz24_1; try clear hcz24_2; try clear hcz24_3; try clear hcz8_0; try clear hcz8_1; try clear hcz8_2; try clear hcz8_3
    try clear hfz13_0; try clear hfz13_1; try clear hfz13_2; try clear hfz13_3; try clear hfz20_0; try clear hfz20_1; try clear hfz20_2; try clear hfz20_3; try clear hfz24_0; try clear hfz24_1; try clear hfz24_2; try clear hfz24_3; try clear hfz8_0; try clear hfz8_1; try clear hfz8_2; try clear hfz8_3
    obtain ⟨kq, x16_3, rfl, HA, HJ3, HO_239003, BK230, BK231, BK238, HB⟩ := hcut
    cases kq with
    | zero => exact absurd HA.out (by simp [impl_ReportError.j0])
    | succ kj3 =>
      have H := HA.out
      clear HA
      simp only [impl_ReportError.j0] at H
      by_cases c26 : x16_3 = true
      · subst c26
        have H1 : (some (t232, t233, t234, t235, (-1))) = some (r1, r2, r3, r4, r5) := by rw [if_pos rfl] at H; exact H
        clear H
        have H := H1
        clear H1
        simp only [Option.some.injEq, Prod.mk.injEq] at H
        obtain ⟨rfl, rfl, rfl, rfl, rfl⟩ := H
        have hnb27 := NB238_230.out
        have hnc27 := NB230_238.out
        have hnb28 := NB238_231.out
        have hnc28 := NB231_238.out
        obtain ⟨hcz29_0, hcz29_1, hcz29_2, hcz29_3, hfz29_0, hfz29_1, hfz29_2, hfz29_3⟩ := cf4_ BK238
        have hnb30 := NB231_230.out
        have hnc30 := NB230_231.out
        obtain ⟨hcz31_0, hcz31_1, hcz31_2, hcz31_3, hfz31_0, hfz31_1, hfz31_2, hfz31_3⟩ := cf4_ BK231
        go_wp2
        refine bodyPost_ret (results_ct rfl _ _ gb231 29 #[.int .i64 t232, .int .i64 t233, .int .i64 t234, .slice Ao14 t235.length co14] (0, 0) _ rfl (by (with_reducible repeat (first | refine ba_ ?_ _ | refine bb_ ?_ | refine bc_ ?_ _)); refine blk_put (cs := #[.int .i64 t232, .int .i64 t233, .int .i64 t234, .slice none 0 0]) ?_ 3 _ rfl; (with_reducible repeat (first | refine ba_ ?_ _ | refine bb_ ?_ | refine bc_ ?_ _)); refine blk_put (cs := #[.int .i64 t232, .int .i64 t233, .int .i64 0, .slice none 0 0]) ?_ 2 _ rfl; (with_reducible repeat (first | refine ba_ ?_ _ | refine bb_ ?_ | refine bc_ ?_ _)); refine blk_put (cs := #[.int .i64 t232, .int .i64 0, .int .i64 0, .slice none 0 0]) ?_ 1 _ rfl; (with_reducible repeat (first | refine ba_ ?_ _ | refine bb_ ?_ | refine bc_ ?_ _)); refine blk_put (cs := #[.int .i64 0, .int .i64 0, .int .i64 0, .slice none 0 0]) ?_ 0 _ rfl; (with_reducible repeat (first | refine ba_ ?_ _ | refine bb_ ?_ | refine bc_ ?_ _)); exact BK231.out) Try.underlying29 rfl (by kernel_rfl)) rfl ?_
        exact ⟨_, by first | rfl | (simp [errW_none, errW_some] <;> rfl) | (simp [*, errW_none, errW_some] <;> rfl), by (with_reducible repeat (first | apply ra_ | apply rb_ | apply rc_)); exact Kd.R_mono (Kd.R_far (p := ⟨gb231, 3, none⟩) (Kd.R_far (p := ⟨gb231, 2, none⟩) (Kd.R_far (p := ⟨gb231, 1, none⟩) (Kd.R_far (p := ⟨gb231, 0, none⟩) (Kd.R_types HO_239003.out BK231.out (by decide)) (fun _ hk => hk.2) (.int .i64 t232)) (fun _ hk => hk.2) (.int .i64 t233)) (fun _ hk => hk.2) (.int .i64 t234)) (fun _ hk => hk.2) (.slice Ao14 t235.length co14)) (fun _ hk => trivial), by repeat (first | (with_reducible first | exact HB.out | apply below_alloc | apply pw_below_drewN | apply below_drew1 | refine below_set ?_ GE230.out | refine below_set ?_ GE231.out | refine below_set ?_ GE238.out) | exact HB.out)⟩
      · replace c26 := Bool.eq_false_iff.mpr c26
        subst c26
        have H1 : (if a0_0 = 0 then (if 0 ≤ (IntKind.u64.wrap (a1)) then ((impl_isSet.f a0_1 a1).bind fun t241 => (if t241 = true then (some (Go.bits .or .i64 t232 (shl .i64 1 (IntKind.u64.wrap (a1))), t233, a1, t235, (-1))) else (if 0 ≤ a1 then (if a1 < (l0_3.length : Int) then (some (Go.bits .or .i64 t232 (shl .i64 1 (IntKind.u64.wrap (a1))), t233, a1, t235, rd l0_3 a1)) else (none)) else (none)))) else (none)) else (if 0 ≤ (IntKind.u64.wrap (a1)) then ((impl_isSet.f a0_1 a1).bind fun t243 => (if t243 = true then (some (Go.bits .or .i64 t232 (shl .i64 1 (IntKind.u64.wrap (a1))), t233, t234, t235, (-1))) else (if 0 ≤ a1 then (if a1 < (l0_3.length : Int) then (some (Go.bits .or .i64 t232 (shl .i64 1 (IntKind.u64.wrap (a1))), t233, t234, t235, rd l0_3 a1)) else (none)) else (none)))) else (none))) = some (r1, r2, r3, r4, r5) := by rw [if_neg (show ¬ (false = true) by decide)] at H; exact H
        clear H
        have H := H1
        clear H1
        by_cases c32 : a0_0 = 0
        · rw [if_pos c32] at H
          have c32b0 : (a0_0 == 0) = true := beq_iff_eq.mpr c32
          have c32b1 : (a0_0 != 0) = false := bne_eq_false_iff_eq.mpr c32
          clear c32
          obtain ⟨ji33, hji33⟩ : ∃ j_ : Int, (IntKind.u64.wrap (a1)) = j_ := ⟨_, rfl⟩
          replace H : (if 0 ≤ (ji33) then ((impl_isSet.f a0_1 a1).bind fun t241 => (if t241 = true then (some (Go.bits .or .i64 t232 (shl .i64 1 (ji33)), t233, a1, t235, (-1))) else (if 0 ≤ a1 then (if a1 < (l0_3.length : Int) then (some (Go.bits .or .i64 t232 (shl .i64 1 (ji33)), t233, a1, t235, rd l0_3 a1)) else (none)) else (none)))) else (none)) = some (r1, r2, r3, r4, r5) := by first | (rw [hji33] at H; exact H) | (simp only [hji33] at H ⊢; exact H)
          by_cases c34 : 0 ≤ (ji33)
          · rw [if_pos c34] at H
            have c34b0 := eq_true c34
            have c34b1 : decide (0 ≤ (ji33)) = true := decide_eq_true c34
            clear c34
            obtain ⟨ji35, hji35⟩ : ∃ j_ : Int, (shl .i64 1 (ji33)) = j_ := ⟨_, rfl⟩
            replace H : ((impl_isSet.f a0_1 a1).bind fun t241 => (if t241 = true then (some (Go.bits .or .i64 t232 (ji35), t233, a1, t235, (-1))) else (if 0 ≤ a1 then (if a1 < (l0_3.length : Int) then (some (Go.bits .or .i64 t232 (ji35), t233, a1, t235, rd l0_3 a1)) else (none)) else (none)))) = some (r1, r2, r3, r4, r5) := by first | (rw [hji35] at H; exact H) | (simp only [hji35] at H ⊢; exact H)
            have hji35_ : (IntKind.i64.wrap (1 * 2 ^ min (ji33).toNat 64)) = ji35 := hji35
            have hji35z : (ji33) ≤ 64 → (IntKind.i64.wrap (1 * 2 ^ (ji33).toNat)) = ji35 := shl_small hji35
            have hji35u : (IntKind.i64.wrap (2 ^ min (ji33).toNat 64)) = ji35 := by have h_ := hji35_; rw [Int.one_mul] at h_; exact h_
            have hji35v : (ji33) ≤ 64 → (IntKind.i64.wrap (2 ^ (ji33).toNat)) = ji35 := fun hle_ => by have h_ := hji35z hle_; rw [Int.one_mul] at h_; exact h_
            have hji35y : (wrap64 (1 * 2 ^ min (ji33).toNat 64)) = ji35 := (i64_w _).symm.trans hji35_
            have hji35x : (ji33) ≤ 64 → (wrap64 (1 * 2 ^ (ji33).toNat)) = ji35 := fun h_ => (i64_w _).symm.trans (hji35z h_)
            replace H := Option.bind_eq_some_iff.mp H
            obtain ⟨t241, A360, H⟩ := H
            replace H : (if t241 = true then (some (Go.bits .or .i64 t232 (ji35), t233, a1, t235, (-1))) else (if 0 ≤ a1 then (if a1 < (l0_3.length : Int) then (some (Go.bits .or .i64 t232 (ji35), t233, a1, t235, rd l0_3 a1)) else (none)) else (none))) = some (r1, r2, r3, r4, r5) := H
            have A36 := Aside0.mk A360
            clear A360
            by_cases c37 : t241 = true
            · subst c37
              have H1 : (some (Go.bits .or .i64 t232 (ji35), t233, a1, t235, (-1))) = some (r1, r2, r3, r4, r5) := by rw [if_pos rfl] at H; exact H
              clear H
              have H := H1
              clear H1
              simp only [Option.some.injEq, Prod.mk.injEq] at H
              obtain ⟨rfl, rfl, rfl, rfl, rfl⟩ := H
              have hnb38 := NB230_231.out
              have hnc38 := NB231_230.out
              have hnb39 := NB230_238.out
              have hnc39 := NB238_230.out
              obtain ⟨hcz40_0, hcz40_1, hcz40_2, hcz40_3, hfz40_0, hfz40_1, hfz40_2, hfz40_3⟩ := cf4_ BK230
              have hnb41 := NB238_231.out
              have hnc41 := NB231_238.out
              obtain ⟨hcz42_0, hcz42_1, hcz42_2, hcz42_3, hfz42_0, hfz42_1, hfz42_2, hfz42_3⟩ := cf4_ BK238
              go_wp2_with (first | ((with_reducible refine gate_callee (f := 32) rfl ?_); refine goesL_ (some 33) rfl rfl Try.func32 (by kernel_rfl) rfl #[.int .i64 a0_1, .int .i64 a1] rfl (by (try simp only [List.map_toArray, List.map_cons, List.map_nil]); first | done | rfl | (simp only [List.length_drop, List.length_take]; rfl)) ?_; (with_reducible refine (impl_isSet.calls a0_1 a1 true _ A36.out).mono ?_); rintro e w' ⟨rfl, ⟨nd, rfl⟩⟩; refine ⟨_, rfl, ?_⟩; obtain ⟨hcz43_0, hcz43_1, hcz43_2, hcz43_3, hfz43_0, hfz43_1, hfz43_2, hfz43_3⟩ := cf4_ BK231))
              refine bodyPost_ret (results_ct rfl _ _ gb231 29 #[.int .i64 (Go.bits .or .i64 t232 (ji35)), .int .i64 t233, .int .i64 a1, .slice Ao14 t235.length co14] (0, 0) _ rfl (by (with_reducible repeat (first | refine ba_ ?_ _ | refine bb_ ?_ | refine bc_ ?_ _)); refine blk_put (cs := #[.int .i64 (Go.bits .or .i64 t232 (ji35)), .int .i64 t233, .int .i64 a1, .slice none 0 0]) ?_ 3 _ rfl; (with_reducible repeat (first | refine ba_ ?_ _ | refine bb_ ?_ | refine bc_ ?_ _)); refine blk_put (cs := #[.int .i64 (Go.bits .or .i64 t232 (ji35)), .int .i64 t233, .int .i64 0, .slice none 0 0]) ?_ 2 _ rfl; (with_reducible repeat (first | refine ba_ ?_ _ | refine bb_ ?_ | refine bc_ ?_ _)); refine blk_put (cs := #[.int .i64 (Go.bits .or .i64 t232 (ji35)), .int .i64 0, .int .i64 0, .slice none 0 0]) ?_ 1 _ rfl; (with_reducible repeat (first | refine ba_ ?_ _ | refine bb_ ?_ | refine bc_ ?_ _)); refine blk_put (cs := #[.int .i64 0, .int .i64 0, .int .i64 0, .slice none 0 0]) ?_ 0 _ rfl; (with_reducible repeat (first | refine ba_ ?_ _ | refine bb_ ?_ | refine bc_ ?_ _)); refine blk_far ?_ NB231_238.out _; (with_reducible repeat (first | refine ba_ ?_ _ | refine bb_ ?_ | refine bc_ ?_ _)); refine blk_far ?_ NB231_238.out _; (with_reducible repeat (first | refine ba_ ?_ _ | refine bb_ ?_ | refine bc_ ?_ _)); exact BK231.out) Try.underlying29 rfl (by kernel_rfl)) rfl ?_
              exact ⟨_, by first | rfl | (simp [errW_none, errW_some] <;> rfl) | (simp only [← hji33, ← hji35]; first | rfl | (simp [errW_none, errW_some] <;> rfl)) | (simp [*, errW_none, errW_some] <;> rfl), by (with_reducible repeat (first | apply ra_ | apply rb_ | apply rc_)); exact Kd.R_mono (Kd.R_far (p := ⟨gb231, 3, none⟩) (Kd.R_far (p := ⟨gb231, 2, none⟩) (Kd.R_far (p := ⟨gb231, 1, none⟩) (Kd.R_far (p := ⟨gb231, 0, none⟩) (Kd.R_far (p := ⟨gb238, 0, none⟩) (Kd.R_far (p := ⟨gb238, 2, none⟩) (Kd.R_types (Kd.R_types HO_239003.out BK238.out (by decide)) BK231.out (by decide)) (fun _ hk => hk.1.2) (.int .i64 a1)) (fun _ hk => hk.1.2) (.int .i64 (Go.bits .or .i64 t232 (ji35)))) (fun _ hk => hk.2) (.int .i64 (Go.bits .or .i64 t232 (ji35)))) (fun _ hk => hk.2) (.int .i64 t233)) (fun _ hk => hk.2) (.int .i64 a1)) (fun _ hk => hk.2) (.slice Ao14 t235.length co14)) (fun _ hk => trivial), by repeat (first | (with_reducible first | exact HB.out | apply below_alloc | apply pw_below_drewN | apply below_drew1 | refine below_set ?_ GE230.out | refine below_set ?_ GE231.out | refine below_set ?_ GE238.out) | exact HB.out)⟩
            · replace c37 := Bool.eq_false_iff.mpr c37
              subst c37
              have H1 : (if 0 ≤ a1 then (if a1 < (l0_3.length : Int) then (some (Go.bits .or .i64 t232 (ji35), t233, a1, t235, rd l0_3 a1)) else (none)) else (none)) = some (r1, r2, r3, r4, r5) := by rw [if_neg (show ¬ (false = true) by decide)] at H; exact H
              clear H
              have H := H1
              clear H1
              by_cases c44 : 0 ≤ a1
              · rw [if_pos c44] at H
                have c44b0 : decide (0 ≤ a1) = true := decide_eq_true c44
                clear c44
                by_cases c45 : a1 < (l0_3.length : Int)
                · rw [if_pos c45] at H
                  have c45b0 : decide (a1 < (l0_3.length : Int)) = true := decide_eq_true c45
                  clear c45
                  simp only [Option.some.injEq, Prod.mk.injEq] at H
                  obtain ⟨rfl, rfl, rfl, rfl, rfl⟩ := H
                  have hnb46 := NB230_231.out
                  have hnc46 := NB231_230.out
                  have hnb47 := NB230_238.out
                  have hnc47 := NB238_230.out
                  obtain ⟨hcz48_0, hcz48_1, hcz48_2, hcz48_3, hfz48_0, hfz48_1, hfz48_2, hfz48_3⟩ := cf4_ BK230
                  have hnb49 := NB238_231.out
                  have hnc49 := NB231_238.out
                  obtain ⟨hcz50_0, hcz50_1, hcz50_2, hcz50_3, hfz50_0, hfz50_1, hfz50_2, hfz50_3⟩ := cf4_ BK238
                  try go_wp2_with (first | ((with_reducible refine gate_callee (f := 32) rfl ?_); refine goesL_ (some 33) rfl rfl Try.func32 (by kernel_rfl) rfl #[.int .i64 a0_1, .int .i64 a1] rfl (by (try simp only [List.map_toArray, List.map_cons, List.map_nil]); first | done | rfl | (simp only [List.length_drop, List.length_take]; rfl)) ?_; (with_reducible refine (impl_isSet.calls a0_1 a1 false _ A36.out).mono ?_); rintro e w' ⟨rfl, ⟨nd, rfl⟩⟩; refine ⟨_, rfl, ?_⟩))
                  have n0_ : Aside0 (Kd.R (Kd.int .i64) 3 ((wc.setCell ⟨gb238, 2, none⟩ (.int .i64 a1)).setCell ⟨gb238, 0, none⟩ (.int .i64 (Go.bits .or .i64 t232 (ji35)))) w.heap.size (fun _ => True) (.slice Ao14 t235.length co14) t235) := ⟨by (with_reducible repeat (first | apply ra_ | apply rb_ | apply rc_)); exact Kd.R_mono (Kd.R_far (p := ⟨gb238, 0, none⟩) (Kd.R_far (p := ⟨gb238, 2, none⟩) (Kd.R_types HO_239003.out BK238.out (by decide)) (fun _ hk => hk.2) (.int .i64 a1)) (fun _ hk => hk.2) (.int .i64 (Go.bits .or .i64 t232 (ji35)))) (fun _ hk => trivial)⟩
                  have n1_ : Aside0 (((wc.setCell ⟨gb238, 2, none⟩ (.int .i64 a1)).setCell ⟨gb238, 0, none⟩ (.int .i64 (Go.bits .or .i64 t232 (ji35)))).heap[gb230]? = some (.cells #[.int .i64 a0_0, .int .i64 a0_1, .int .i64 a0_2, .slice A0_3 l0_3.length c0_3] 29 (0, 0))) := ⟨by (with_reducible repeat (first | refine ba_ ?_ _ | refine bb_ ?_ | refine bc_ ?_ _)); refine blk_far ?_ NB230_238.out _; (with_reducible repeat (first | refine ba_ ?_ _ | refine bb_ ?_ | refine bc_ ?_ _)); refine blk_far ?_ NB230_238.out _; (with_reducible repeat (first | refine ba_ ?_ _ | refine bb_ ?_ | refine bc_ ?_ _)); exact BK230.out⟩
                  have n2_ : Aside0 (((wc.setCell ⟨gb238, 2, none⟩ (.int .i64 a1)).setCell ⟨gb238, 0, none⟩ (.int .i64 (Go.bits .or .i64 t232 (ji35)))).heap[gb231]? = some (.cells #[.int .i64 0, .int .i64 0, .int .i64 0, .slice none 0 0] 29 (0, 0))) := ⟨by (with_reducible repeat (first | refine ba_ ?_ _ | refine bb_ ?_ | refine bc_ ?_ _)); refine blk_far ?_ NB231_238.out _; (with_reducible repeat (first | refine ba_ ?_ _ | refine bb_ ?_ | refine bc_ ?_ _)); refine blk_far ?_ NB231_238.out _; (with_reducible repeat (first | refine ba_ ?_ _ | refine bb_ ?_ | refine bc_ ?_ _)); exact BK231.out⟩
                  have n3_ : Aside0 (((wc.setCell ⟨gb238, 2, none⟩ (.int .i64 a1)).setCell ⟨gb238, 0, none⟩ (.int .i64 (Go.bits .or .i64 t232 (ji35)))).heap[gb238]? = some (.cells #[.int .i64 (Go.bits .or .i64 t232 (ji35)), .int .i64 t233, .int .i64 a1, .slice Ao14 t235.length co14] 29 (0, 0))) := ⟨by (with_reducible repeat (first | refine ba_ ?_ _ | refine bb_ ?_ | refine bc_ ?_ _)); refine blk_put (cs := #[.int .i64 t232, .int .i64 t233, .int .i64 a1, .slice Ao14 t235.length co14]) ?_ 0 _ rfl; (with_reducible repeat (first | refine ba_ ?_ _ | refine bb_ ?_ | refine bc_ ?_ _)); refine blk_put (cs := #[.int .i64 t232, .int .i64 t233, .int .i64 t234, .slice Ao14 t235.length co14]) ?_ 2 _ rfl; (with_reducible repeat (first | refine ba_ ?_ _ | refine bb_ ?_ | refine bc_ ?_ _)); exact BK238.out⟩
                  have n4_ : Aside0 (Below w.heap.size w ((wc.setCell ⟨gb238, 2, none⟩ (.int .i64 a1)).setCell ⟨gb238, 0, none⟩ (.int .i64 (Go.bits .or .i64 t232 (ji35))))) := ⟨by repeat (first | (with_reducible first | exact HB.out | apply below_alloc | apply pw_below_drewN | apply below_drew1 | refine below_set ?_ GE230.out | refine below_set ?_ GE231.out | refine below_set ?_ GE238.out) | exact HB.out)⟩
                  (try clear HO_239003)
                  (try clear BK230)
                  (try clear BK231)
                  (try clear BK238)
                  (try clear HB)
                  generalize ((wc.setCell ⟨gb238, 2, none⟩ (.int .i64 a1)).setCell ⟨gb238, 0, none⟩ (.int .i64 (Go.bits .or .i64 t232 (ji35)))) = w51 at n0_ n1_ n2_ n3_ n4_ ⊢
                  have HO_239003 := n0_
                  have BK230 := n1_
                  have BK231 := n2_
                  have BK238 := n3_
                  have HB := n4_
                  clear n0_ n1_ n2_ n3_ n4_
                  (try (rw [drewN_self w51]; generalize hq_ : World.drewN w51 _ = w51; have n0_ : Aside0 (Kd.R (Kd.int .i64) 3 w51 w.heap.size (fun _ => True) (.slice Ao14 t235.length co14) t235) := ⟨by rw [← hq_]; exact (by (with_reducible repeat (first | apply ra_ | apply rb_ | apply rc_)); exact HO_239003.out)⟩; have n1_ : Aside0 (w51.heap[gb230]? = some (.cells #[.int .i64 a0_0, .int .i64 a0_1, .int .i64 a0_2, .slice A0_3 l0_3.length c0_3] 29 (0, 0))) := ⟨by rw [← hq_]; exact (bu_ BK230)⟩; have n2_ : Aside0 (w51.heap[gb231]? = some (.cells #[.int .i64 0, .int .i64 0, .int .i64 0, .slice none 0 0] 29 (0, 0))) := ⟨by rw [← hq_]; exact (bu_ BK231)⟩; have n3_ : Aside0 (w51.heap[gb238]? = some (.cells #[.int .i64 (Go.bits .or .i64 t232 (ji35)), .int .i64 t233, .int .i64 a1, .slice Ao14 t235.length co14] 29 (0, 0))) := ⟨by rw [← hq_]; exact (bu_ BK238)⟩; have n4_ : Aside0 (Below w.heap.size w w51) := ⟨by rw [← hq_]; exact (by repeat (first | (with_reducible first | exact HB.out | apply below_alloc | apply pw_below_drewN | apply below_drew1 | refine below_set ?_ GE230.out | refine below_set ?_ GE231.out | refine below_set ?_ GE238.out) | exact HB.out))⟩; clear HO_239003 BK230 BK231 BK238 HB hq_; have HO_239003 := n0_; have BK230 := n1_; have BK231 := n2_; have BK238 := n3_; have HB := n4_; clear n0_ n1_ n2_ n3_ n4_))
                  have n0_ := Aside0.mk (Kd.R_drew HO_239003.out)
                  have n1_ := Aside0.mk (blk_drew BK230.out)
                  have n2_ := Aside0.mk (blk_drew BK231.out)
                  have n3_ := Aside0.mk (blk_drew BK238.out)
                  have n4_ := Aside0.mk (below_drew1 HB.out)
                  clear HO_239003
                  clear BK230
                  clear BK231
                  clear BK238
                  clear HB
                  have HO_239003 := n0_
                  have BK230 := n1_
                  have BK231 := n2_
                  have BK238 := n3_
                  have HB := n4_
                  clear n0_ n1_ n2_ n3_ n4_
                  have p242 : 0 ≤ (a1 : Int) := of_decide_eq_true (by first | (with_reducible assumption) | assumption)
                  have q242 : a1 < (l0_3.length : Int) := of_decide_eq_true (by first | (with_reducible assumption) | assumption)
                  obtain ⟨ad242, e242, hx242_0⟩ := Kd.at_int HR0_3.out a1 p242 q242
                  have hw242_0 := hx242_0
                  cases e242
                  replace hx242_0 := (HB.out.cell (World.block_lt_of_cell? w _ hx242_0)).trans hx242_0
                  replace p242 := eq_true p242
                  replace q242 := eq_true q242
                  refine start_ (n := 8) (S := fun w' => w'.cell? ⟨gb238, 0, none⟩ = some (.int .i64 (Go.bits .or .i64 t232 (ji35))) ∧ w'.cell? ⟨gb238, 1, none⟩ = some (.int .i64 t233) ∧ w'.cell? ⟨gb238, 2, none⟩ = some (.int .i64 a1) ∧ w'.cell? ⟨gb238, 3, none⟩ = some (.slice Ao14 t235.length co14) ∧ w'.cell? ⟨gb230, 0, none⟩ = some (.int .i64 a0_0) ∧ w'.cell? ⟨gb230, 1, none⟩ = some (.int .i64 a0_1) ∧ w'.cell? ⟨gb230, 2, none⟩ = some (.int .i64 a0_2) ∧ w'.cell? ⟨gb230, 3, none⟩ = some (.slice (some ad242) l0_3.length c0_3) ∧ w'.cell? (ad242.add (a1).toNat) = some (.int .i64 (rd l0_3 a1))) (ds := []) (bt_ 8 0) (by kernel_rfl) rfl (by kernel_rfl) ⟨(blk_cell BK238.out 0).trans rfl, (blk_cell BK238.out 1).trans rfl, (blk_cell BK238.out 2).trans rfl, (blk_cell BK238.out 3).trans rfl, (blk_cell BK230.out 0).trans rfl, (blk_cell BK230.out 1).trans rfl, (blk_cell BK230.out 2).trans rfl, (blk_cell BK230.out 3).trans rfl, ((HB.out.cell (World.block_lt_of_cell? w _ hw242_0)).trans hw242_0)⟩ (fun hHeld => ?_); refine with_tabW impl_ReportError.tab9 impl_ReportError.bits9 (fun HT_ HW_ => ?_)
                  generalize w51.drew = w52 at HO_239003 BK230 BK231 BK238 HB hx242_0 hHeld ⊢
                  refine pure_ (i := 1) (N := some 36) (v := ?_) (a' := ?_) (bt_ 8 2) rfl rfl (any_of HT_.out (by kernel_rfl)) (fun _ _ _ h => h) (Or.inl ⟨by rfl, ?_⟩) ?_ ?_
                  rotate_left; · intro w'; go_simp; with_reducible rfl
                  rotate_left; · simp only [Act.put, sa_, sb_, sc_, i64_w, i32_w]; rfl
                  refine pure_ (i := 3) (N := some 38) (v := ?_) (a' := ?_) (bt_ 8 0xa) rfl rfl (any_of HT_.out (by kernel_rfl)) (fun _ _ _ h => h) (Or.inl ⟨by rfl, ?_⟩) ?_ ?_
                  rotate_left; · intro w'; go_simp; with_reducible rfl
                  rotate_left; · simp only [Act.put, sa_, sb_, sc_, i64_w, i32_w]; rfl
                  refine take_ (i := 0) (N := some 35) (v := ?_) (a' := ?_) (bt_ 8 0xb) rfl rfl (take_ofW HT_.out HW_.out (by kernel_rfl)) (fun _ _ _ h => h) (Or.inl ⟨by rfl, ?_⟩) hHeld ?_ ?_
                  rotate_left
                  · rintro w' ⟨s0, s1, s2, s3, s4, s5, s6, s7, s8⟩
                    go_simp
                    with_reducible rfl
                  rotate_left; · simp only [Act.put, sa_, sb_, sc_, i64_w, i32_w]; rfl
                  refine take_ (i := 2) (N := some 37) (v := ?_) (a' := ?_) (bt_ 8 0xf) rfl rfl (take_ofW HT_.out HW_.out (by kernel_rfl)) (fun _ _ _ h => h) (Or.inl ⟨by rfl, ?_⟩) hHeld ?_ ?_
                  rotate_left
                  · rintro w' ⟨s0, s1, s2, s3, s4, s5, s6, s7, s8⟩
                    go_simp
                    with_reducible rfl
                  rotate_left; · simp only [Act.put, sa_, sb_, sc_, i64_w, i32_w]; rfl
                  refine pure_ (i := 4) (N := some 39) (v := ?_) (a' := ?_) (bt_ 8 0x1f) rfl rfl (any_of HT_.out (by kernel_rfl)) (fun _ _ _ h => h) (Or.inl ⟨by rfl, ?_⟩) ?_ ?_
                  rotate_left; · intro w'; go_simp; with_reducible rfl
                  rotate_left; · simp only [Act.put, sa_, sb_, sc_, i64_w, i32_w]; rfl
                  refine take_ (i := 5) (N := some 40) (v := ?_) (a' := ?_) (bt_ 8 0x3f) rfl rfl (take_ofW HT_.out HW_.out (by kernel_rfl)) (fun _ _ _ h => h) (Or.inl ⟨by rfl, ?_⟩) hHeld ?_ ?_
                  rotate_left
                  · rintro w' ⟨s0, s1, s2, s3, s4, s5, s6, s7, s8⟩
                    go_simp
                    with_reducible rfl
                  rotate_left; · simp only [Act.put, sa_, sb_, sc_, i64_w, i32_w]; rfl
                  refine one_ (i := 6) (N := none) (bt_ 8 0x7f) rfl rfl (one_of HT_.out (by kernel_rfl)) (by decide) (fun K hK => ?_)
                  have hs53 : w52.cell? ⟨gb231, 0, none⟩ = some (.int .i64 0) := (blk_cell BK231.out 0).trans rfl
                  have hfs53 := blk_frozen BK231.out 0
                  have hns53_0 := NB230_231.out
                  have hns53_2 := NB238_231.out
                  have hms53_0 := NB231_230.out
                  have hms53_2 := NB231_238.out
                  have hs54 : w52.cell? ⟨gb231, 1, none⟩ = some (.int .i64 0) := (blk_cell BK231.out 1).trans rfl
                  have hfs54 := blk_frozen BK231.out 1
                  have hns54_0 := NB230_231.out
                  have hns54_2 := NB238_231.out
                  have hms54_0 := NB231_230.out
                  have hms54_2 := NB231_238.out
                  have hs55 : w52.cell? ⟨gb231, 2, none⟩ = some (.int .i64 0) := (blk_cell BK231.out 2).trans rfl
                  have hfs55 := blk_frozen BK231.out 2
                  have hns55_0 := NB230_231.out
                  have hns55_2 := NB238_231.out
                  have hms55_0 := NB231_230.out
                  have hms55_2 := NB231_238.out
                  have hs56 : w52.cell? ⟨gb231, 3, none⟩ = some (.slice none 0 0) := (blk_cell BK231.out 3).trans rfl
                  have hfs56 := blk_frozen BK231.out 3
                  have hns56_0 := NB230_231.out
                  have hns56_2 := NB238_231.out
                  have hms56_0 := NB231_230.out
                  have hms56_2 := NB231_238.out
                  refine skip_ (w1 := ?_) (by rfl) rfl ?_ ?_
                  rotate_left
                  · go_simp
                    rfl
                  refine hK.out _ _ ⟨((cell_far (p := ⟨gb231, _, none⟩) NB238_231.out _).trans (((cell_far (p := ⟨gb231, _, none⟩) NB238_231.out _).trans (((cell_far (p := ⟨gb231, _, none⟩) NB238_231.out _).trans (((cell_far (p := ⟨gb231, _, none⟩) NB238_231.out _).trans (hHeld.1)))))))), ((cell_far (p := ⟨gb231, _, none⟩) NB238_231.out _).trans (((cell_far (p := ⟨gb231, _, none⟩) NB238_231.out _).trans (((cell_far (p := ⟨gb231, _, none⟩) NB238_231.out _).trans (((cell_far (p := ⟨gb231, _, none⟩) NB238_231.out _).trans (hHeld.2.1)))))))), ((cell_far (p := ⟨gb231, _, none⟩) NB238_231.out _).trans (((cell_far (p := ⟨gb231, _, none⟩) NB238_231.out _).trans (((cell_far (p := ⟨gb231, _, none⟩) NB238_231.out _).trans (((cell_far (p := ⟨gb231, _, none⟩) NB238_231.out _).trans (hHeld.2.2.1)))))))), ((cell_far (p := ⟨gb231, _, none⟩) NB238_231.out _).trans (((cell_far (p := ⟨gb231, _, none⟩) NB238_231.out _).trans (((cell_far (p := ⟨gb231, _, none⟩) NB238_231.out _).trans (((cell_far (p := ⟨gb231, _, none⟩) NB238_231.out _).trans (hHeld.2.2.2.1)))))))), ((cell_far (p := ⟨gb231, _, none⟩) NB230_231.out _).trans (((cell_far (p := ⟨gb231, _, none⟩) NB230_231.out _).trans (((cell_far (p := ⟨gb231, _, none⟩) NB230_231.out _).trans (((cell_far (p := ⟨gb231, _, none⟩) NB230_231.out _).trans (hHeld.2.2.2.2.1)))))))), ((cell_far (p := ⟨gb231, _, none⟩) NB230_231.out _).trans (((cell_far (p := ⟨gb231, _, none⟩) NB230_231.out _).trans (((cell_far (p := ⟨gb231, _, none⟩) NB230_231.out _).trans (((cell_far (p := ⟨gb231, _, none⟩) NB230_231.out _).trans (hHeld.2.2.2.2.2.1)))))))), ((cell_far (p := ⟨gb231, _, none⟩) NB230_231.out _).trans (((cell_far (p := ⟨gb231, _, none⟩) NB230_231.out _).trans (((cell_far (p := ⟨gb231, _, none⟩) NB230_231.out _).trans (((cell_far (p := ⟨gb231, _, none⟩) NB230_231.out _).trans (hHeld.2.2.2.2.2.2.1)))))))), ((cell_far (p := ⟨gb231, _, none⟩) NB230_231.out _).trans (((cell_far (p := ⟨gb231, _, none⟩) NB230_231.out _).trans (((cell_far (p := ⟨gb231, _, none⟩) NB230_231.out _).trans (((cell_far (p := ⟨gb231, _, none⟩) NB230_231.out _).trans (hHeld.2.2.2.2.2.2.2.1)))))))), ((cell_far (p := ⟨gb231, _, none⟩) (by first | exact Nat.ne_of_lt (Nat.lt_of_lt_of_le (by have := World.block_lt_of_cell? _ _ hw242_0; first | rwa [add_block] at this | exact this) GW231.out) | (rw [add_block]; exact Nat.ne_of_lt (Nat.lt_of_lt_of_le (by have := World.block_lt_of_cell? _ _ hw242_0; first | rwa [add_block] at this | exact this) GW231.out)) | (show (Addr.add _ _).block ≠ _; rw [add_block]; exact Nat.ne_of_lt (Nat.lt_of_lt_of_le (by have := World.block_lt_of_cell? _ _ hw242_0; first | rwa [add_block] at this | exact this) GW231.out)) | (dsimp only; exact Nat.ne_of_lt (Nat.lt_of_lt_of_le (by have := World.block_lt_of_cell? _ _ hw242_0; first | rwa [add_block] at this | exact this) GW231.out))) _).trans (((cell_far (p := ⟨gb231, _, none⟩) (by first | exact Nat.ne_of_lt (Nat.lt_of_lt_of_le (by have := World.block_lt_of_cell? _ _ hw242_0; first | rwa [add_block] at this | exact this) GW231.out) | (rw [add_block]; exact Nat.ne_of_lt (Nat.lt_of_lt_of_le (by have := World.block_lt_of_cell? _ _ hw242_0; first | rwa [add_block] at this | exact this) GW231.out)) | (show (Addr.add _ _).block ≠ _; rw [add_block]; exact Nat.ne_of_lt (Nat.lt_of_lt_of_le (by have := World.block_lt_of_cell? _ _ hw242_0; first | rwa [add_block] at this | exact this) GW231.out)) | (dsimp only; exact Nat.ne_of_lt (Nat.lt_of_lt_of_le (by have := World.block_lt_of_cell? _ _ hw242_0; first | rwa [add_block] at this | exact this) GW231.out))) _).trans (((cell_far (p := ⟨gb231, _, none⟩) (by first | exact Nat.ne_of_lt (Nat.lt_of_lt_of_le (by have := World.block_lt_of_cell? _ _ hw242_0; first | rwa [add_block] at this | exact this) GW231.out) | (rw [add_block]; exact Nat.ne_of_lt (Nat.lt_of_lt_of_le (by have := World.block_lt_of_cell? _ _ hw242_0; first | rwa [add_block] at this | exact this) GW231.out)) | (show (Addr.add _ _).block ≠ _; rw [add_block]; exact Nat.ne_of_lt (Nat.lt_of_lt_of_le (by have := World.block_lt_of_cell? _ _ hw242_0; first | rwa [add_block] at this | exact this) GW231.out)) | (dsimp only; exact Nat.ne_of_lt (Nat.lt_of_lt_of_le (by have := World.block_lt_of_cell? _ _ hw242_0; first | rwa [add_block] at this | exact this) GW231.out))) _).trans (((cell_far (p := ⟨gb231, _, none⟩) (by first | exact Nat.ne_of_lt (Nat.lt_of_lt_of_le (by have := World.block_lt_of_cell? _ _ hw242_0; first | rwa [add_block] at this | exact this) GW231.out) | (rw [add_block]; exact Nat.ne_of_lt (Nat.lt_of_lt_of_le (by have := World.block_lt_of_cell? _ _ hw242_0; first | rwa [add_block] at this | exact this) GW231.out)) | (show (Addr.add _ _).block ≠ _; rw [add_block]; exact Nat.ne_of_lt (Nat.lt_of_lt_of_le (by have := World.block_lt_of_cell? _ _ hw242_0; first | rwa [add_block] at this | exact this) GW231.out)) | (dsimp only; exact Nat.ne_of_lt (Nat.lt_of_lt_of_le (by have := World.block_lt_of_cell? _ _ hw242_0; first | rwa [add_block] at this | exact this) GW231.out))) _).trans (hHeld.2.2.2.2.2.2.2.2))))))))⟩ (fun hHeld => ?_)
                  clear hK K
                  refine pure_ (i := 7) (N := some 5) (v := ?_) (a' := ?_) (bt_ 8 0xff) rfl rfl (any_of HT_.out (by kernel_rfl)) (fun _ _ _ h => h) (Or.inl ⟨by rfl, ?_⟩) ?_ ?_
                  rotate_left; · intro w'; go_simp; with_reducible rfl
                  rotate_left; · simp only [Act.put, sa_, sb_, sc_, i64_w, i32_w]; rfl
                  refine done_ (done_of HT_.out (by kernel_rfl)) ?_
                  try go_wp2
                  refine bodyPost_ret (results_ct rfl _ _ gb231 29 #[.int .i64 (Go.bits .or .i64 t232 (ji35)), .int .i64 t233, .int .i64 a1, .slice Ao14 t235.length co14] (0, 0) _ rfl (by (with_reducible repeat (first | refine ba_ ?_ _ | refine bb_ ?_ | refine bc_ ?_ _)); refine blk_put (cs := #[.int .i64 (Go.bits .or .i64 t232 (ji35)), .int .i64 t233, .int .i64 a1, .slice none 0 0]) ?_ 3 _ rfl; (with_reducible repeat (first | refine ba_ ?_ _ | refine bb_ ?_ | refine bc_ ?_ _)); refine blk_put (cs := #[.int .i64 (Go.bits .or .i64 t232 (ji35)), .int .i64 t233, .int .i64 0, .slice none 0 0]) ?_ 2 _ rfl; (with_reducible repeat (first | refine ba_ ?_ _ | refine bb_ ?_ | refine bc_ ?_ _)); refine blk_put (cs := #[.int .i64 (Go.bits .or .i64 t232 (ji35)), .int .i64 0, .int .i64 0, .slice none 0 0]) ?_ 1 _ rfl; (with_reducible repeat (first | refine ba_ ?_ _ | refine bb_ ?_ | refine bc_ ?_ _)); refine blk_put (cs := #[.int .i64 0, .int .i64 0, .int .i64 0, .slice none 0 0]) ?_ 0 _ rfl; (with_reducible repeat (first | refine ba_ ?_ _ | refine bb_ ?_ | refine bc_ ?_ _)); exact BK231.out) Try.underlying29 rfl (by kernel_rfl)) rfl ?_
                  exact ⟨_, by first | rfl | (simp [errW_none, errW_some] <;> rfl) | (simp only [← hji33, ← hji35]; first | rfl | (simp [errW_none, errW_some] <;> rfl)) | (simp [*, errW_none, errW_some] <;> rfl), by (with_reducible repeat (first | apply ra_ | apply rb_ | apply rc_)); exact Kd.R_mono (Kd.R_far (p := ⟨gb231, 3, none⟩) (Kd.R_far (p := ⟨gb231, 2, none⟩) (Kd.R_far (p := ⟨gb231, 1, none⟩) (Kd.R_far (p := ⟨gb231, 0, none⟩) (Kd.R_types HO_239003.out BK231.out (by decide)) (fun _ hk => hk.2) (.int .i64 (Go.bits .or .i64 t232 (ji35)))) (fun _ hk => hk.2) (.int .i64 t233)) (fun _ hk => hk.2) (.int .i64 a1)) (fun _ hk => hk.2) (.slice Ao14 t235.length co14)) (fun _ hk => trivial), by repeat (first | (with_reducible first | exact HB.out | apply below_alloc | apply pw_below_drewN | apply below_drew1 | refine below_set ?_ GE230.out | refine below_set ?_ GE231.out | refine below_set ?_ GE238.out) | exact HB.out)⟩
                · rw [if_neg c45] at H
                  exact absurd H (by simp)
              · rw [if_neg c44] at H
                exact absurd H (by simp)
          · rw [if_neg c34] at H
            exact absurd H (by simp)
        · rw [if_neg c32] at H
          have c32b0 : (a0_0 == 0) = false := beq_eq_false_iff_ne.mpr c32
          have c32b1 : (a0_0 != 0) = true := bne_iff_ne.mpr c32
          obtain ⟨ji57, hji57⟩ : ∃ j_ : Int, (IntKind.u64.wrap (a1)) = j_ := ⟨_, rfl⟩
          replace H : (if 0 ≤ (ji57) then ((impl_isSet.f a0_1 a1).bind fun t243 => (if t243 = true then (some (Go.bits .or .i64 t232 (shl .i64 1 (ji57)), t233, t234, t235, (-1))) else (if 0 ≤ a1 then (if a1 < (l0_3.length : Int) then (some (Go.bits .or .i64 t232 (shl .i64 1 (ji57)), t233, t234, t235, rd l0_3 a1)) else (none)) else (none)))) else (none)) = some (r1, r2, r3, r4, r5) := by first | (rw [hji57] at H; exact H) | (simp only [hji57] at H ⊢; exact H)
          by_cases c58 : 0 ≤ (ji57)
          · rw [if_pos c58] at H
            have c58b0 := eq_true c58
            have c58b1 : decide (0 ≤ (ji57)) = true := decide_eq_true c58
            clear c58
            obtain ⟨ji59, hji59⟩ : ∃ j_ : Int, (shl .i64 1 (ji57)) = j_ := ⟨_, rfl⟩
            replace H : ((impl_isSet.f a0_1 a1).bind fun t243 => (if t243 = true then (some (Go.bits .or .i64 t232 (ji59), t233, t234, t235, (-1))) else (if 0 ≤ a1 then (if a1 < (l0_3.length : Int) then (some (Go.bits .or .i64 t232 (ji59), t233, t234, t235, rd l0_3 a1)) else (none)) else (none)))) = some (r1, r2, r3, r4, r5) := by first | (rw [hji59] at H; exact H) | (simp only [hji59] at H ⊢; exact H)
            have hji59_ : (IntKind.i64.wrap (1 * 2 ^ min (ji57).toNat 64)) = ji59 := hji59
            have hji59z : (ji57) ≤ 64 → (IntKind.i64.wrap (1 * 2 ^ (ji57).toNat)) = ji59 := shl_small hji59
            have hji59u : (IntKind.i64.wrap (2 ^ min (ji57).toNat 64)) = ji59 := by have h_ := hji59_; rw [Int.one_mul] at h_; exact h_
            have hji59v : (ji57) ≤ 64 → (IntKind.i64.wrap (2 ^ (ji57).toNat)) = ji59 := fun hle_ => by have h_ := hji59z hle_; rw [Int.one_mul] at h_; exact h_
            have hji59y : (wrap64 (1 * 2 ^ min (ji57).toNat 64)) = ji59 := (i64_w _).symm.trans hji59_
            have hji59x : (ji57) ≤ 64 → (wrap64 (1 * 2 ^ (ji57).toNat)) = ji59 := fun h_ => (i64_w _).symm.trans (hji59z h_)
            replace H := Option.bind_eq_some_iff.mp H
            obtain ⟨t243, A600, H⟩ := H
            replace H : (if t243 = true then (some (Go.bits .or .i64 t232 (ji59), t233, t234, t235, (-1))) else (if 0 ≤ a1 then (if a1 < (l0_3.length : Int) then (some (Go.bits .or .i64 t232 (ji59), t233, t234, t235, rd l0_3 a1)) else (none)) else (none))) = some (r1, r2, r3, r4, r5) := H
            have A60 := Aside0.mk A600
            clear A600
            by_cases c61 : t243 = true
            · subst c61
              have H1 : (some (Go.bits .or .i64 t232 (ji59), t233, t234, t235, (-1))) = some (r1, r2, r3, r4, r5) := by rw [if_pos rfl] at H; exact H
              clear H
              have H := H1
              clear H1
              simp only [Option.some.injEq, Prod.mk.injEq] at H
              obtain ⟨rfl, rfl, rfl, rfl, rfl⟩ := H
              have hnb62 := NB230_231.out
              have hnc62 := NB231_230.out
              have hnb63 := NB230_238.out
              have hnc63 := NB238_230.out
              obtain ⟨hcz64_0, hcz64_1, hcz64_2, hcz64_3, hfz64_0, hfz64_1, hfz64_2, hfz64_3⟩ := cf4_ BK230
              have hnb65 := NB238_231.out
              have hnc65 := NB231_238.out
              obtain ⟨hcz66_0, hcz66_1, hcz66_2, hcz66_3, hfz66_0, hfz66_1, hfz66_2, hfz66_3⟩ := cf4_ BK238
              go_wp2_with (first | ((with_reducible refine gate_callee (f := 32) rfl ?_); refine goesL_ (some 33) rfl rfl Try.func32 (by kernel_rfl) rfl #[.int .i64 a0_1, .int .i64 a1] rfl (by (try simp only [List.map_toArray, List.map_cons, List.map_nil]); first | done | rfl | (simp only [List.length_drop, List.length_take]; rfl)) ?_; (with_reducible refine (impl_isSet.calls a0_1 a1 true _ A60.out).mono ?_); rintro e w' ⟨rfl, ⟨nd, rfl⟩⟩; refine ⟨_, rfl, ?_⟩; obtain ⟨hcz67_0, hcz67_1, hcz67_2, hcz67_3, hfz67_0, hfz67_1, hfz67_2, hfz67_3⟩ := cf4_ BK231))
              refine bodyPost_ret (results_ct rfl _ _ gb231 29 #[.int .i64 (Go.bits .or .i64 t232 (ji59)), .int .i64 t233, .int .i64 t234, .slice Ao14 t235.length co14] (0, 0) _ rfl (by (with_reducible repeat (first | refine ba_ ?_ _ | refine bb_ ?_ | refine bc_ ?_ _)); refine blk_put (cs := #[.int .i64 (Go.bits .or .i64 t232 (ji59)), .int .i64 t233, .int .i64 t234, .slice none 0 0]) ?_ 3 _ rfl; (with_reducible repeat (first | refine ba_ ?_ _ | refine bb_ ?_ | refine bc_ ?_ _)); refine blk_put (cs := #[.int .i64 (Go.bits .or .i64 t232 (ji59)), .int .i64 t233, .int .i64 0, .slice none 0 0]) ?_ 2 _ rfl; (with_reducible repeat (first | refine ba_ ?_ _ | refine bb_ ?_ | refine bc_ ?_ _)); refine blk_put (cs := #[.int .i64 (Go.bits .or .i64 t232 (ji59)), .int .i64 0, .int .i64 0, .slice none 0 0]) ?_ 1 _ rfl; (with_reducible repeat (first | refine ba_ ?_ _ | refine bb_ ?_ | refine bc_ ?_ _)); refine blk_put (cs := #[.int .i64 0, .int .i64 0, .int .i64 0, .slice none 0 0]) ?_ 0 _ rfl; (with_reducible repeat (first | refine ba_ ?_ _ | refine bb_ ?_ | refine bc_ ?_ _)); refine blk_far ?_ NB231_238.out _; (with_reducible repeat (first | refine ba_ ?_ _ | refine bb_ ?_ | refine bc_ ?_ _)); exact BK231.out) Try.underlying29 rfl (by kernel_rfl)) rfl ?_
              exact ⟨_, by first | rfl | (simp [errW_none, errW_some] <;> rfl) | (simp only [← hji57, ← hji59]; first | rfl | (simp [errW_none, errW_some] <;> rfl)) | (simp [*, errW_none, errW_some] <;> rfl), by (with_reducible repeat (first | apply ra_ | apply rb_ | apply rc_)); exact Kd.R_mono (Kd.R_far (p := ⟨gb231, 3, none⟩) (Kd.R_far (p := ⟨gb231, 2, none⟩) (Kd.R_far (p := ⟨gb231, 1, none⟩) (Kd.R_far (p := ⟨gb231, 0, none⟩) (Kd.R_far (p := ⟨gb238, 0, none⟩) (Kd.R_types (Kd.R_types HO_239003.out BK238.out (by decide)) BK231.out (by decide)) (fun _ hk => hk.1.2) (.int .i64 (Go.bits .or .i64 t232 (ji59)))) (fun _ hk => hk.2) (.int .i64 (Go.bits .or .i64 t232 (ji59)))) (fun _ hk => hk.2) (.int .i64 t233)) (fun _ hk => hk.2) (.int .i64 t234)) (fun _ hk => hk.2) (.slice Ao14 t235.length co14)) (fun _ hk => trivial), by repeat (first | (with_reducible first | exact HB.out | apply below_alloc | apply pw_below_drewN | apply below_drew1 | refine below_set ?_ GE230.out | refine below_set ?_ GE231.out | refine below_set ?_ GE238.out) | exact HB.out)⟩
            · replace c61 := Bool.eq_false_iff.mpr c61
              subst c61
              have H1 : (if 0 ≤ a1 then (if a1 < (l0_3.length : Int) then (some (Go.bits .or .i64 t232 (ji59), t233, t234, t235, rd l0_3 a1)) else (none)) else (none)) = some (r1, r2, r3, r4, r5) := by rw [if_neg (show ¬ (false = true) by decide)] at H; exact H
              clear H
              have H := H1
              clear H1
              by_cases c68 : 0 ≤ a1
              · rw [if_pos c68] at H
                have c68b0 : decide (0 ≤ a1) = true := decide_eq_true c68
                clear c68
                by_cases c69 : a1 < (l0_3.length : Int)
                · rw [if_pos c69] at H
                  have c69b0 : decide (a1 < (l0_3.length : Int)) = true := decide_eq_true c69
                  clear c69
                  simp only [Option.some.injEq, Prod.mk.injEq] at H
                  obtain ⟨rfl, rfl, rfl, rfl, rfl⟩ := H
                  have hnb70 := NB230_231.out
                  have hnc70 := NB231_230.out
                  have hnb71 := NB230_238.out
                  have hnc71 := NB238_230.out
                  obtain ⟨hcz72_0, hcz72_1, hcz72_2, hcz72_3, hfz72_0, hfz72_1, hfz72_2, hfz72_3⟩ := cf4_ BK230
                  have hnb73 := NB238_231.out
                  have hnc73 := NB231_238.out
                  obtain ⟨hcz74_0, hcz74_1, hcz74_2, hcz74_3, hfz74_0, hfz74_1, hfz74_2, hfz74_3⟩ := cf4_ BK238
                  try go_wp2_with (first | ((with_reducible refine gate_callee (f := 32) rfl ?_); refine goesL_ (some 33) rfl rfl Try.func32 (by kernel_rfl) rfl #[.int .i64 a0_1, .int .i64 a1] rfl (by (try simp only [List.map_toArray, List.map_cons, List.map_nil]); first | done | rfl | (simp only [List.length_drop, List.length_take]; rfl)) ?_; (with_reducible refine (impl_isSet.calls a0_1 a1 false _ A60.out).mono ?_); rintro e w' ⟨rfl, ⟨nd, rfl⟩⟩; refine ⟨_, rfl, ?_⟩))
                  have n0_ : Aside0 (Kd.R (Kd.int .i64) 3 (wc.setCell ⟨gb238, 0, none⟩ (.int .i64 (Go.bits .or .i64 t232 (ji59)))) w.heap.size (fun _ => True) (.slice Ao14 t235.length co14) t235) := ⟨by (with_reducible repeat (first | apply ra_ | apply rb_ | apply rc_)); exact Kd.R_mono (Kd.R_far (p := ⟨gb238, 0, none⟩) (Kd.R_types HO_239003.out BK238.out (by decide)) (fun _ hk => hk.2) (.int .i64 (Go.bits .or .i64 t232 (ji59)))) (fun _ hk => trivial)⟩
                  have n1_ : Aside0 ((wc.setCell ⟨gb238, 0, none⟩ (.int .i64 (Go.bits .or .i64 t232 (ji59)))).heap[gb230]? = some (.cells #[.int .i64 a0_0, .int .i64 a0_1, .int .i64 a0_2, .slice A0_3 l0_3.length c0_3] 29 (0, 0))) := ⟨by (with_reducible repeat (first | refine ba_ ?_ _ | refine bb_ ?_ | refine bc_ ?_ _)); refine blk_far ?_ NB230_238.out _; (with_reducible repeat (first | refine ba_ ?_ _ | refine bb_ ?_ | refine bc_ ?_ _)); exact BK230.out⟩
                  have n2_ : Aside0 ((wc.setCell ⟨gb238, 0, none⟩ (.int .i64 (Go.bits .or .i64 t232 (ji59)))).heap[gb231]? = some (.cells #[.int .i64 0, .int .i64 0, .int .i64 0, .slice none 0 0] 29 (0, 0))) := ⟨by (with_reducible repeat (first | refine ba_ ?_ _ | refine bb_ ?_ | refine bc_ ?_ _)); refine blk_far ?_ NB231_238.out _; (with_reducible repeat (first | refine ba_ ?_ _ | refine bb_ ?_ | refine bc_ ?_ _)); exact BK231.out⟩
                  have n3_ : Aside0 ((wc.setCell ⟨gb238, 0, none⟩ (.int .i64 (Go.bits .or .i64 t232 (ji59)))).heap[gb238]? = some (.cells #[.int .i64 (Go.bits .or .i64 t232 (ji59)), .int .i64 t233, .int .i64 t234, .slice Ao14 t235.length co14] 29 (0, 0))) := ⟨by (with_reducible repeat (first | refine ba_ ?_ _ | refine bb_ ?_ | refine bc_ ?_ _)); refine blk_put (cs := #[.int .i64 t232, .int .i64 t233, .int .i64 t234, .slice Ao14 t235.length co14]) ?_ 0 _ rfl; (with_reducible repeat (first | refine ba_ ?_ _ | refine bb_ ?_ | refine bc_ ?_ _)); exact BK238.out⟩
                  have n4_ : Aside0 (Below w.heap.size w (wc.setCell ⟨gb238, 0, none⟩ (.int .i64 (Go.bits .or .i64 t232 (ji59))))) := ⟨by repeat (first | (with_reducible first | exact HB.out | apply below_alloc | apply pw_below_drewN | apply below_drew1 | refine below_set ?_ GE230.out | refine below_set ?_ GE231.out | refine below_set ?_ GE238.out) | exact HB.out)⟩
                  (try clear HO_239003)
                  (try clear BK230)
                  (try clear BK231)
                  (try clear BK238)
                  (try clear HB)
                  generalize (wc.setCell ⟨gb238, 0, none⟩ (.int .i64 (Go.bits .or .i64 t232 (ji59)))) = w75 at n0_ n1_ n2_ n3_ n4_ ⊢
                  have HO_239003 := n0_
                  have BK230 := n1_
                  have BK231 := n2_
                  have BK238 := n3_
                  have HB := n4_
                  clear n0_ n1_ n2_ n3_ n4_
                  (try (rw [drewN_self w75]; generalize hq_ : World.drewN w75 _ = w75; have n0_ : Aside0 (Kd.R (Kd.int .i64) 3 w75 w.heap.size (fun _ => True) (.slice Ao14 t235.length co14) t235) := ⟨by rw [← hq_]; exact (by (with_reducible repeat (first | apply ra_ | apply rb_ | apply rc_)); exact HO_239003.out)⟩; have n1_ : Aside0 (w75.heap[gb230]? = some (.cells #[.int .i64 a0_0, .int .i64 a0_1, .int .i64 a0_2, .slice A0_3 l0_3.length c0_3] 29 (0, 0))) := ⟨by rw [← hq_]; exact (bu_ BK230)⟩; have n2_ : Aside0 (w75.heap[gb231]? = some (.cells #[.int .i64 0, .int .i64 0, .int .i64 0, .slice none 0 0] 29 (0, 0))) := ⟨by rw [← hq_]; exact (bu_ BK231)⟩; have n3_ : Aside0 (w75.heap[gb238]? = some (.cells #[.int .i64 (Go.bits .or .i64 t232 (ji59)), .int .i64 t233, .int .i64 t234, .slice Ao14 t235.length co14] 29 (0, 0))) := ⟨by rw [← hq_]; exact (bu_ BK238)⟩; have n4_ : Aside0 (Below w.heap.size w w75) := ⟨by rw [← hq_]; exact (by repeat (first | (with_reducible first | exact HB.out | apply below_alloc | apply pw_below_drewN | apply below_drew1 | refine below_set ?_ GE230.out | refine below_set ?_ GE231.out | refine below_set ?_ GE238.out) | exact HB.out))⟩; clear HO_239003 BK230 BK231 BK238 HB hq_; have HO_239003 := n0_; have BK230 := n1_; have BK231 := n2_; have BK238 := n3_; have HB := n4_; clear n0_ n1_ n2_ n3_ n4_))
                  have n0_ := Aside0.mk (Kd.R_drew HO_239003.out)
                  have n1_ := Aside0.mk (blk_drew BK230.out)
                  have n2_ := Aside0.mk (blk_drew BK231.out)
                  have n3_ := Aside0.mk (blk_drew BK238.out)
                  have n4_ := Aside0.mk (below_drew1 HB.out)
                  clear HO_239003
                  clear BK230
                  clear BK231
                  clear BK238
                  clear HB
                  have HO_239003 := n0_
                  have BK230 := n1_
                  have BK231 := n2_
                  have BK238 := n3_
                  have HB := n4_
                  clear n0_ n1_ n2_ n3_ n4_
                  have p244 : 0 ≤ (a1 : Int) := of_decide_eq_true (by first | (with_reducible assumption) | assumption)
                  have q244 : a1 < (l0_3.length : Int) := of_decide_eq_true (by first | (with_reducible assumption) | assumption)
                  obtain ⟨ad244, e244, hx244_0⟩ := Kd.at_int HR0_3.out a1 p244 q244
                  have hw244_0 := hx244_0
                  cases e244
                  replace hx244_0 := (HB.out.cell (World.block_lt_of_cell? w _ hx244_0)).trans hx244_0
                  replace p244 := eq_true p244
                  replace q244 := eq_true q244
                  refine start_ (n := 8) (S := fun w' => w'.cell? ⟨gb238, 0, none⟩ = some (.int .i64 (Go.bits .or .i64 t232 (ji59))) ∧ w'.cell? ⟨gb238, 1, none⟩ = some (.int .i64 t233) ∧ w'.cell? ⟨gb238, 2, none⟩ = some (.int .i64 t234) ∧ w'.cell? ⟨gb238, 3, none⟩ = some (.slice Ao14 t235.length co14) ∧ w'.cell? ⟨gb230, 0, none⟩ = some (.int .i64 a0_0) ∧ w'.cell? ⟨gb230, 1, none⟩ = some (.int .i64 a0_1) ∧ w'.cell? ⟨gb230, 2, none⟩ = some (.int .i64 a0_2) ∧ w'.cell? ⟨gb230, 3, none⟩ = some (.slice (some ad244) l0_3.length c0_3) ∧ w'.cell? (ad244.add (a1).toNat) = some (.int .i64 (rd l0_3 a1))) (ds := []) (bt_ 8 0) (by kernel_rfl) rfl (by kernel_rfl) ⟨(blk_cell BK238.out 0).trans rfl, (blk_cell BK238.out 1).trans rfl, (blk_cell BK238.out 2).trans rfl, (blk_cell BK238.out 3).trans rfl, (blk_cell BK230.out 0).trans rfl, (blk_cell BK230.out 1).trans rfl, (blk_cell BK230.out 2).trans rfl, (blk_cell BK230.out 3).trans rfl, ((HB.out.cell (World.block_lt_of_cell? w _ hw244_0)).trans hw244_0)⟩ (fun hHeld => ?_); refine with_tabW impl_ReportError.tab9 impl_ReportError.bits9 (fun HT_ HW_ => ?_)
                  generalize w75.drew = w76 at HO_239003 BK230 BK231 BK238 HB hx244_0 hHeld ⊢
                  refine pure_ (i := 1) (N := some 36) (v := ?_) (a' := ?_) (bt_ 8 2) rfl rfl (any_of HT_.out (by kernel_rfl)) (fun _ _ _ h => h) (Or.inl ⟨by rfl, ?_⟩) ?_ ?_
                  rotate_left; · intro w'; go_simp; with_reducible rfl
                  rotate_left; · simp only [Act.put, sa_, sb_, sc_, i64_w, i32_w]; rfl
                  refine pure_ (i := 3) (N := some 38) (v := ?_) (a' := ?_) (bt_ 8 0xa) rfl rfl (any_of HT_.out (by kernel_rfl)) (fun _ _ _ h => h) (Or.inl ⟨by rfl, ?_⟩) ?_ ?_
                  rotate_left; · intro w'; go_simp; with_reducible rfl
                  rotate_left; · simp only [Act.put, sa_, sb_, sc_, i64_w, i32_w]; rfl
                  refine take_ (i := 0) (N := some 35) (v := ?_) (a' := ?_) (bt_ 8 0xb) rfl rfl (take_ofW HT_.out HW_.out (by kernel_rfl)) (fun _ _ _ h => h) (Or.inl ⟨by rfl, ?_⟩) hHeld ?_ ?_
                  rotate_left
                  · rintro w' ⟨s0, s1, s2, s3, s4, s5, s6, s7, s8⟩
                    go_simp
                    with_reducible rfl
                  rotate_left; · simp only [Act.put, sa_, sb_, sc_, i64_w, i32_w]; rfl
                  refine take_ (i := 2) (N := some 37) (v := ?_) (a' := ?_) (bt_ 8 0xf) rfl rfl (take_ofW HT_.out HW_.out (by kernel_rfl)) (fun _ _ _ h => h) (Or.inl ⟨by rfl, ?_⟩) hHeld ?_ ?_
                  rotate_left
                  · rintro w' ⟨s0, s1, s2, s3, s4, s5, s6, s7, s8⟩
                    go_simp
                    with_reducible rfl
                  rotate_left; · simp only [Act.put, sa_, sb_, sc_, i64_w, i32_w]; rfl
                  refine pure_ (i := 4) (N := some 39) (v := ?_) (a' := ?_) (bt_ 8 0x1f) rfl rfl (any_of HT_.out (by kernel_rfl)) (fun _ _ _ h => h) (Or.inl ⟨by rfl, ?_⟩) ?_ ?_
                  rotate_left; · intro w'; go_simp; with_reducible rfl
                  rotate_left; · simp only [Act.put, sa_, sb_, sc_, i64_w, i32_w]; rfl
                  refine take_ (i := 5) (N := some 40) (v := ?_) (a' := ?_) (bt_ 8 0x3f) rfl rfl (take_ofW HT_.out HW_.out (by kernel_rfl)) (fun _ _ _ h => h) (Or.inl ⟨by rfl, ?_⟩) hHeld ?_ ?_
                  rotate_left
                  · rintro w' ⟨s0, s1, s2, s3, s4, s5, s6, s7, s8⟩
                    go_simp
                    with_reducible rfl
                  rotate_left; · simp only [Act.put, sa_, sb_, sc_, i64_w, i32_w]; rfl
                  refine one_ (i := 6) (N := none) (bt_ 8 0x7f) rfl rfl (one_of HT_.out (by kernel_rfl)) (by decide) (fun K hK => ?_)
                  have hs77 : w76.cell? ⟨gb231, 0, none⟩ = some (.int .i64 0) := (blk_cell BK231.out 0).trans rfl
                  have hfs77 := blk_frozen BK231.out 0
                  have hns77_0 := NB230_231.out
                  have hns77_2 := NB238_231.out
                  have hms77_0 := NB231_230.out
                  have hms77_2 := NB231_238.out
                  have hs78 : w76.cell? ⟨gb231, 1, none⟩ = some (.int .i64 0) := (blk_cell BK231.out 1).trans rfl
                  have hfs78 := blk_frozen BK231.out 1
                  have hns78_0 := NB230_231.out
                  have hns78_2 := NB238_231.out
                  have hms78_0 := NB231_230.out
                  have hms78_2 := NB231_238.out
                  have hs79 : w76.cell? ⟨gb231, 2, none⟩ = some (.int .i64 0) := (blk_cell BK231.out 2).trans rfl
                  have hfs79 := blk_frozen BK231.out 2
                  have hns79_0 := NB230_231.out
                  have hns79_2 := NB238_231.out
                  have hms79_0 := NB231_230.out
                  have hms79_2 := NB231_238.out
                  have hs80 : w76.cell? ⟨gb231, 3, none⟩ = some (.slice none 0 0) := (blk_cell BK231.out 3).trans rfl
                  have hfs80 := blk_frozen BK231.out 3
                  have hns80_0 := NB230_231.out
                  have hns80_2 := NB238_231.out
                  have hms80_0 := NB231_230.out
                  have hms80_2 := NB231_238.out
                  refine skip_ (w1 := ?_) (by rfl) rfl ?_ ?_
                  rotate_left
                  · go_simp
                    rfl
                  refine hK.out _ _ ⟨((cell_far (p := ⟨gb231, _, none⟩) NB238_231.out _).trans (((cell_far (p := ⟨gb231, _, none⟩) NB238_231.out _).trans (((cell_far (p := ⟨gb231, _, none⟩) NB238_231.out _).trans (((cell_far (p := ⟨gb231, _, none⟩) NB238_231.out _).trans (hHeld.1)))))))), ((cell_far (p := ⟨gb231, _, none⟩) NB238_231.out _).trans (((cell_far (p := ⟨gb231, _, none⟩) NB238_231.out _).trans (((cell_far (p := ⟨gb231, _, none⟩) NB238_231.out _).trans (((cell_far (p := ⟨gb231, _, none⟩) NB238_231.out _).trans (hHeld.2.1)))))))), ((cell_far (p := ⟨gb231, _, none⟩) NB238_231.out _).trans (((cell_far (p := ⟨gb231, _, none⟩) NB238_231.out _).trans (((cell_far (p := ⟨gb231, _, none⟩) NB238_231.out _).trans (((cell_far (p := ⟨gb231, _, none⟩) NB238_231.out _).trans (hHeld.2.2.1)))))))), ((cell_far (p := ⟨gb231, _, none⟩) NB238_231.out _).trans (((cell_far (p := ⟨gb231, _, none⟩) NB238_231.out _).trans (((cell_far (p := ⟨gb231, _, none⟩) NB238_231.out _).trans (((cell_far (p := ⟨gb231, _, none⟩) NB238_231.out _).trans (hHeld.2.2.2.1)))))))), ((cell_far (p := ⟨gb231, _, none⟩) NB230_231.out _).trans (((cell_far (p := ⟨gb231, _, none⟩) NB230_231.out _).trans (((cell_far (p := ⟨gb231, _, none⟩) NB230_231.out _).trans (((cell_far (p := ⟨gb231, _, none⟩) NB230_231.out _).trans (hHeld.2.2.2.2.1)))))))), ((cell_far (p := ⟨gb231, _, none⟩) NB230_231.out _).trans (((cell_far (p := ⟨gb231, _, none⟩) NB230_231.out _).trans (((cell_far (p := ⟨gb231, _, none⟩) NB230_231.out _).trans (((cell_far (p := ⟨gb231, _, none⟩) NB230_231.out _).trans (hHeld.2.2.2.2.2.1)))))))), ((cell_far (p := ⟨gb231, _, none⟩) NB230_231.out _).trans (((cell_far (p := ⟨gb231, _, none⟩) NB230_231.out _).trans (((cell_far (p := ⟨gb231, _, none⟩) NB230_231.out _).trans (((cell_far (p := ⟨gb231, _, none⟩) NB230_231.out _).trans (hHeld.2.2.2.2.2.2.1)))))))), ((cell_far (p := ⟨gb231, _, none⟩) NB230_231.out _).trans (((cell_far (p := ⟨gb231, _, none⟩) NB230_231.out _).trans (((cell_far (p := ⟨gb231, _, none⟩) NB230_231.out _).trans (((cell_far (p := ⟨gb231, _, none⟩) NB230_231.out _).trans (hHeld.2.2.2.2.2.2.2.1)))))))), ((cell_far (p := ⟨gb231, _, none⟩) (by first | exact Nat.ne_of_lt (Nat.lt_of_lt_of_le (by have := World.block_lt_of_cell? _ _ hw244_0; first | rwa [add_block] at this | exact this) GW231.out) | (rw [add_block]; exact Nat.ne_of_lt (Nat.lt_of_lt_of_le (by have := World.block_lt_of_cell? _ _ hw244_0; first | rwa [add_block] at this | exact this) GW231.out)) | (show (Addr.add _ _).block ≠ _; rw [add_block]; exact Nat.ne_of_lt (Nat.lt_of_lt_of_le (by have := World.block_lt_of_cell? _ _ hw244_0; first | rwa [add_block] at this | exact this) GW231.out)) | (dsimp only; exact Nat.ne_of_lt (Nat.lt_of_lt_of_le (by have := World.block_lt_of_cell? _ _ hw244_0; first | rwa [add_block] at this | exact this) GW231.out))) _).trans (((cell_far (p := ⟨gb231, _, none⟩) (by first | exact Nat.ne_of_lt (Nat.lt_of_lt_of_le (by have := World.block_lt_of_cell? _ _ hw244_0; first | rwa [add_block] at this | exact this) GW231.out) | (rw [add_block]; exact Nat.ne_of_lt (Nat.lt_of_lt_of_le (by have := World.block_lt_of_cell? _ _ hw244_0; first | rwa [add_block] at this | exact this) GW231.out)) | (show (Addr.add _ _).block ≠ _; rw [add_block]; exact Nat.ne_of_lt (Nat.lt_of_lt_of_le (by have := World.block_lt_of_cell? _ _ hw244_0; first | rwa [add_block] at this | exact this) GW231.out)) | (dsimp only; exact Nat.ne_of_lt (Nat.lt_of_lt_of_le (by have := World.block_lt_of_cell? _ _ hw244_0; first | rwa [add_block] at this | exact this) GW231.out))) _).trans (((cell_far (p := ⟨gb231, _, none⟩) (by first | exact Nat.ne_of_lt (Nat.lt_of_lt_of_le (by have := World.block_lt_of_cell? _ _ hw244_0; first | rwa [add_block] at this | exact this) GW231.out) | (rw [add_block]; exact Nat.ne_of_lt (Nat.lt_of_lt_of_le (by have := World.block_lt_of_cell? _ _ hw244_0; first | rwa [add_block] at this | exact this) GW231.out)) | (show (Addr.add _ _).block ≠ _; rw [add_block]; exact Nat.ne_of_lt (Nat.lt_of_lt_of_le (by have := World.block_lt_of_cell? _ _ hw244_0; first | rwa [add_block] at this | exact this) GW231.out)) | (dsimp only; exact Nat.ne_of_lt (Nat.lt_of_lt_of_le (by have := World.block_lt_of_cell? _ _ hw244_0; first | rwa [add_block] at this | exact this) GW231.out))) _).trans (((cell_far (p := ⟨gb231, _, none⟩) (by first | exact Nat.ne_of_lt (Nat.lt_of_lt_of_le (by have := World.block_lt_of_cell? _ _ hw244_0; first | rwa [add_block] at this | exact this) GW231.out) | (rw [add_block]; exact Nat.ne_of_lt (Nat.lt_of_lt_of_le (by have := World.block_lt_of_cell? _ _ hw244_0; first | rwa [add_block] at this | exact this) GW231.out)) | (show (Addr.add _ _).block ≠ _; rw [add_block]; exact Nat.ne_of_lt (Nat.lt_of_lt_of_le (by have := World.block_lt_of_cell? _ _ hw244_0; first | rwa [add_block] at this | exact this) GW231.out)) | (dsimp only; exact Nat.ne_of_lt (Nat.lt_of_lt_of_le (by have := World.block_lt_of_cell? _ _ hw244_0; first | rwa [add_block] at this | exact this) GW231.out))) _).trans (hHeld.2.2.2.2.2.2.2.2))))))))⟩ (fun hHeld => ?_)
                  clear hK K
                  refine pure_ (i := 7) (N := some 5) (v := ?_) (a' := ?_) (bt_ 8 0xff) rfl rfl (any_of HT_.out (by kernel_rfl)) (fun _ _ _ h => h) (Or.inl ⟨by rfl, ?_⟩) ?_ ?_
                  rotate_left; · intro w'; go_simp; with_reducible rfl
                  rotate_left; · simp only [Act.put, sa_, sb_, sc_, i64_w, i32_w]; rfl
                  refine done_ (done_of HT_.out (by kernel_rfl)) ?_
                  try go_wp2
                  refine bodyPost_ret (results_ct rfl _ _ gb231 29 #[.int .i64 (Go.bits .or .i64 t232 (ji59)), .int .i64 t233, .int .i64 t234, .slice Ao14 t235.length co14] (0, 0) _ rfl (by (with_reducible repeat (first | refine ba_ ?_ _ | refine bb_ ?_ | refine bc_ ?_ _)); refine blk_put (cs := #[.int .i64 (Go.bits .or .i64 t232 (ji59)), .int .i64 t233, .int .i64 t234, .slice none 0 0]) ?_ 3 _ rfl; (with_reducible repeat (first | refine ba_ ?_ _ | refine bb_ ?_ | refine bc_ ?_ _)); refine blk_put (cs := #[.int .i64 (Go.bits .or .i64 t232 (ji59)), .int .i64 t233, .int .i64 0, .slice none 0 0]) ?_ 2 _ rfl; (with_reducible repeat (first | refine ba_ ?_ _ | refine bb_ ?_ | refine bc_ ?_ _)); refine blk_put (cs := #[.int .i64 (Go.bits .or .i64 t232 (ji59)), .int .i64 0, .int .i64 0, .slice none 0 0]) ?_ 1 _ rfl; (with_reducible repeat (first | refine ba_ ?_ _ | refine bb_ ?_ | refine bc_ ?_ _)); refine blk_put (cs := #[.int .i64 0, .int .i64 0, .int .i64 0, .slice none 0 0]) ?_ 0 _ rfl; (with_reducible repeat (first | refine ba_ ?_ _ | refine bb_ ?_ | refine bc_ ?_ _)); exact BK231.out) Try.underlying29 rfl (by kernel_rfl)) rfl ?_
                  exact ⟨_, by first | rfl | (simp [errW_none, errW_some] <;> rfl) | (simp only [← hji57, ← hji59]; first | rfl | (simp [errW_none, errW_some] <;> rfl)) | (simp [*, errW_none, errW_some] <;> rfl), by (with_reducible repeat (first | apply ra_ | apply rb_ | apply rc_)); exact Kd.R_mono (Kd.R_far (p := ⟨gb231, 3, none⟩) (Kd.R_far (p := ⟨gb231, 2, none⟩) (Kd.R_far (p := ⟨gb231, 1, none⟩) (Kd.R_far (p := ⟨gb231, 0, none⟩) (Kd.R_types HO_239003.out BK231.out (by decide)) (fun _ hk => hk.2) (.int .i64 (Go.bits .or .i64 t232 (ji59)))) (fun _ hk => hk.2) (.int .i64 t233)) (fun _ hk => hk.2) (.int .i64 t234)) (fun _ hk => hk.2) (.slice Ao14 t235.length co14)) (fun _ hk => trivial), by repeat (first | (with_reducible first | exact HB.out | apply below_alloc | apply pw_below_drewN | apply below_drew1 | refine below_set ?_ GE230.out | refine below_set ?_ GE231.out | refine below_set ?_ GE238.out) | exact HB.out)⟩
                · rw [if_neg c69] at H
                  exact absurd H (by simp)
              · rw [if_neg c68] at H
                exact absurd H (by simp)
          · rw [if_neg c58] at H
            exact absurd H (by simp)

end Go.Proofs.Ytbfkiggcemlmgaa.PFnLogs

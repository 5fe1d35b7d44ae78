/- Began as a text of the kit's print over the program with some leaves' bodies turned; those leaves' own parts are the session's. -/
import Derived.Test.YtckpkjpcnlampaaPFnTagsx0
import Derived.Test.YtckpkjpcnlampaaPFnTagsx1
import Derived.Test.YtckpkjpcnlampaaPFnTagsx2
namespace Go.Proofs.Ytckpkjpcnlampaa.PFnTags
open Go.RowKit Go.Proofs.YtckpkjpcnlampaaW.PrintWords Go.Proofs.YtckpkjpcnlampaaW.PrintLast Go.Proofs.YtckpkjpcnlampaaW.PrintMore
attribute [local go_sem] max2_int min2_int max_two min_two max_three min_three max_four min_four   -- for this text's walks alone
set_option linter.unusedVariables false
set_option linter.unusedSimpArgs false

/-! ### laws_FnTags: function 8 -/
def laws_FnTags.j0 : Nat → Int → Bool → List Bool → List Bool → Option (Bool)
  | 0, _, _, _, _ => none
  | k + 1, x5, x81, x180000, x191000 => if x81 = true then (some false) else ((impl_TakeTag.f k x191000).bind fun bt200 => (if bt200.2 = x5 then ((impl_CountBusy.f k x191000).bind fun t205 => ((impl_CountBusy.f k x180000).bind fun t206 => (some (t205 == t206)))) else (some false)))
def laws_FnTags.f (k : Nat) (l0 : List Int) : Option (Bool) := (laws_big.f l0).bind fun t175 => (if t175 = true then (some true) else ((spec_DrawTags.f k l0).bind fun t176 => ((impl_TakeTag.f k t176).bind fun bt180 => (if bt180.2 < 0 then ((impl_CountBusy.f k t176).bind fun t185 => (some (t185 == 8))) else ((impl_FreeTag.f bt180.1 bt180.2).bind fun bt186 => ((impl_FreeTag.f bt186.1 bt180.2).bind fun bt191 => (if bt186.2 = true then (if bt191.2 = true then (laws_FnTags.j0 k bt180.2 true t176 bt186.1) else (if (bt180.1.length : Int) = (t176.length : Int) then (if bt180.2 ≥ (t176.length : Int) then (laws_FnTags.j0 k bt180.2 true t176 bt186.1) else (if 0 ≤ bt180.2 then (if bt180.2 < (t176.length : Int) then (if rdOf false t176 bt180.2 = true then (laws_FnTags.j0 k bt180.2 true t176 bt186.1) else (if bt180.2 < (bt180.1.length : Int) then (if rdOf false bt180.1 bt180.2 = true then ((impl_CountBusy.f k bt180.1).bind fun t198 => ((impl_CountBusy.f k t176).bind fun t199 => (laws_FnTags.j0 k bt180.2 (t198 != (wrap64 (t199 + 1))) t176 bt186.1))) else (laws_FnTags.j0 k bt180.2 true t176 bt186.1)) else (none))) else (none)) else (none))) else (laws_FnTags.j0 k bt180.2 true t176 bt186.1))) else (laws_FnTags.j0 k bt180.2 true t176 bt186.1))))))))
theorem laws_FnTags.mono_l : ∀ k, (∀ y0 y1 y2 y3, LeO (laws_FnTags.j0 k y0 y1 y2 y3) (laws_FnTags.j0 (k + 1) y0 y1 y2 y3))
  | 0 => fun _ _ _ _ r h => by simp [laws_FnTags.j0] at h
  | k + 1 => by
    have ih0 := laws_FnTags.mono_l k
    · intro y0 y1 y2 y3
      unfold laws_FnTags.j0
      repeat' first
      | (with_reducible exact ih0 _ _ _ _)
      | (with_reducible exact impl_CountBusy.mono _ _)
      | (with_reducible exact impl_TakeTag.mono _ _)
      | (with_reducible exact spec_DrawTags.mono _ _)
      | (with_reducible exact LeO.refl _)
      | (with_reducible exact LeO.none _)
      | (with_reducible refine LeO.ite ?_ ?_)
      | (with_reducible refine LeO.bind ?_ (fun _ => ?_))
      | exact ih0 _ _ _ _
      | exact impl_CountBusy.mono _ _
      | exact impl_TakeTag.mono _ _
      | exact spec_DrawTags.mono _ _
      | exact LeO.none _
      | refine LeO.ite ?_ ?_
      | refine LeO.bind ?_ (fun _ => ?_)
theorem laws_FnTags.mono : ∀ a0 k, LeO (laws_FnTags.f k a0) (laws_FnTags.f (k + 1) a0) := by
  intro a0 k
  have ih0 := laws_FnTags.mono_l k
  unfold laws_FnTags.f
  repeat' first
      | (with_reducible exact ih0 _ _ _ _)
      | (with_reducible exact impl_CountBusy.mono _ _)
      | (with_reducible exact impl_TakeTag.mono _ _)
      | (with_reducible exact spec_DrawTags.mono _ _)
      | (with_reducible exact LeO.refl _)
      | (with_reducible exact LeO.none _)
      | (with_reducible refine LeO.ite ?_ ?_)
      | (with_reducible refine LeO.bind ?_ (fun _ => ?_))
      | exact ih0 _ _ _ _
      | exact impl_CountBusy.mono _ _
      | exact impl_TakeTag.mono _ _
      | exact spec_DrawTags.mono _ _
      | exact LeO.none _
      | refine LeO.ite ?_ ?_
      | refine LeO.bind ?_ (fun _ => ?_)
def laws_FnTags.T9 : Bool × List (List Nat × List Nat) := (true, [([], []), ([0], [0]), ([1], [1]), ([2], [2]), ([2, 3], [2, 3]), ([4, 2], [4]), ([5], [5]), ([6, 5], [5, 6]), ([7, 5], [5, 7]), ([5], [5]), ([9, 5], [5, 9]), ([10, 5], [5, 10]), ([8, 11, 5], [5, 8, 11]), ([5, 12], [5, 12]), ([13, 5], [13]), ([14], [14]), ([14], [14]), ([16, 14], [14, 16]), ([17, 14], [14, 17]), ([15, 18, 14], [14, 15, 18]), ([14, 19], [14, 19]), ([20, 14], [20]), ([21], [21]), ([22, 21], [21, 22]), ([21], [21]), ([23, 24, 21], [21, 23, 24]), ([25, 21], [21, 25]), ([21, 26], [21, 26]), ([27, 21], [27]), ([28], [28]), ([29, 28], [28, 29]), ([28], [28]), ([30, 31, 28], [28, 30, 31]), ([32, 28], [28, 32]), ([33, 28], [28, 33]), ([28, 34], [28, 34]), ([35, 28], [35]), ([36], [36]), ([37, 36, 36], [36, 37]), ([36], [36]), ([39, 38, 36], [36, 39]), ([40, 36], [36, 40]), ([38, 41, 36], [36, 38, 41]), ([36, 42], [36, 42])])
def laws_FnTags.B9 : List Nat := [0, 1, 3, 7, 15, 31, 63, 127, 255, 63, 575, 1599, 4095, 8191, 16383, 32767, 32767, 98303, 229375, 524287, 1048575, 2097151, 4194303, 8388607, 4194303, 33554431, 67108863, 134217727, 268435455, 536870911, 1073741823, 536870911, 4294967295, 8589934591, 17179869183, 34359738367, 68719476735, 137438953471, 274877906943, 137438953471, 1099511627775, 2199023255551, 4398046511103, 8796093022207]
theorem laws_FnTags.tab9 : rtab .any (opsOf Try.f8 9) = laws_FnTags.T9 := by kernel_rfl
theorem laws_FnTags.bits9 : waitsOk laws_FnTags.T9.2 laws_FnTags.B9 = true := by kernel_rfl
def laws_FnTags.T12 : Bool × List (List Nat × List Nat) := (true, [([], []), ([], []), ([0, 1], [0, 1]), ([2], [2]), ([3], [3]), ([4, 3, 3], [3, 4]), ([3], [3]), ([6, 5, 3], [3, 6]), ([5, 7, 3], [3, 5, 7]), ([3, 8], [3, 8]), ([9, 7, 0, 1, 2, 3, 4, 5, 6, 7, 8, 9], [9])])
def laws_FnTags.B12 : List Nat := [0, 0, 3, 7, 15, 31, 15, 127, 255, 511, 1023]
theorem laws_FnTags.tab12 : rtab .any (opsOf Try.f8 12) = laws_FnTags.T12 := by kernel_rfl
theorem laws_FnTags.bits12 : waitsOk laws_FnTags.T12.2 laws_FnTags.B12 = true := by kernel_rfl
set_option maxHeartbeats 8000000 in
set_option maxRecDepth 100000 in
theorem laws_FnTags.calls (k : Nat) (A0 : Option Addr) (c0 : Nat) (l0 : List Int) (r : Bool) (w : World) (hr0 : Kd.C (Kd.int .u8) w A0 l0.length l0) (hc0 : l0.length ≤ c0) (h : laws_FnTags.f k l0 = some r) :
    Calls Try.prog 8 #[.slice A0 l0.length c0] w fun e w' => e = .returned (.bool r) ∧ Below w.heap.size w w' := by
  have hu27 := Try.underlying27
  have HR0 := Aside0.mk hr0
  have HC0 := Aside0.mk hc0
  clear hr0 hc0
  have HB := Aside0.mk (Below.refl w.heap.size w)
  have H : ((laws_big.f l0).bind fun t175 => (if t175 = true then (some true) else ((spec_DrawTags.f k l0).bind fun t176 => ((impl_TakeTag.f k t176).bind fun bt180 => (if bt180.2 < 0 then ((impl_CountBusy.f k t176).bind fun t185 => (some (t185 == 8))) else ((impl_FreeTag.f bt180.1 bt180.2).bind fun bt186 => ((impl_FreeTag.f bt186.1 bt180.2).bind fun bt191 => (if bt186.2 = true then (if bt191.2 = true then (laws_FnTags.j0 k bt180.2 true t176 bt186.1) else (if (bt180.1.length : Int) = (t176.length : Int) then (if bt180.2 ≥ (t176.length : Int) then (laws_FnTags.j0 k bt180.2 true t176 bt186.1) else (if 0 ≤ bt180.2 then (if bt180.2 < (t176.length : Int) then (if rdOf false t176 bt180.2 = true then (laws_FnTags.j0 k bt180.2 true t176 bt186.1) else (if bt180.2 < (bt180.1.length : Int) then (if rdOf false bt180.1 bt180.2 = true then ((impl_CountBusy.f k bt180.1).bind fun t198 => ((impl_CountBusy.f k t176).bind fun t199 => (laws_FnTags.j0 k bt180.2 (t198 != (wrap64 (t199 + 1))) t176 bt186.1))) else (laws_FnTags.j0 k bt180.2 true t176 bt186.1)) else (none))) else (none)) else (none))) else (laws_FnTags.j0 k bt180.2 true t176 bt186.1))) else (laws_FnTags.j0 k bt180.2 true t176 bt186.1))))))))) = some r := h
  clear h
  replace H := Option.bind_eq_some_iff.mp H
  obtain ⟨t175, A20, H⟩ := H
  replace H : (if t175 = true then (some true) else ((spec_DrawTags.f k l0).bind fun t176 => ((impl_TakeTag.f k t176).bind fun bt180 => (if bt180.2 < 0 then ((impl_CountBusy.f k t176).bind fun t185 => (some (t185 == 8))) else ((impl_FreeTag.f bt180.1 bt180.2).bind fun bt186 => ((impl_FreeTag.f bt186.1 bt180.2).bind fun bt191 => (if bt186.2 = true then (if bt191.2 = true then (laws_FnTags.j0 k bt180.2 true t176 bt186.1) else (if (bt180.1.length : Int) = (t176.length : Int) then (if bt180.2 ≥ (t176.length : Int) then (laws_FnTags.j0 k bt180.2 true t176 bt186.1) else (if 0 ≤ bt180.2 then (if bt180.2 < (t176.length : Int) then (if rdOf false t176 bt180.2 = true then (laws_FnTags.j0 k bt180.2 true t176 bt186.1) else (if bt180.2 < (bt180.1.length : Int) then (if rdOf false bt180.1 bt180.2 = true then ((impl_CountBusy.f k bt180.1).bind fun t198 => ((impl_CountBusy.f k t176).bind fun t199 => (laws_FnTags.j0 k bt180.2 (t198 != (wrap64 (t199 + 1))) t176 bt186.1))) else (laws_FnTags.j0 k bt180.2 true t176 bt186.1)) else (none))) else (none)) else (none))) else (laws_FnTags.j0 k bt180.2 true t176 bt186.1))) else (laws_FnTags.j0 k bt180.2 true t176 bt186.1)))))))) = some r := H
  have A2 := Aside0.mk A20
  clear A20
  by_cases c3 : t175 = true
  · subst c3
    have H1 : (some true) = some r := by rw [if_pos rfl] at H; exact H
    clear H
    have H := H1
    clear H1
    obtain rfl := Option.some.inj H
    go_enter Try.func8, Try.ntmps8
    go_wp2_with (first | ((with_reducible refine gate_callee (f := 24) rfl ?_); refine goesL_ (some 13) rfl rfl Try.func24 (by kernel_rfl) rfl #[.slice A0 l0.length c0] rfl (by (try simp only [List.map_toArray, List.map_cons, List.map_nil]); first | done | rfl | (simp only [List.length_drop, List.length_take]; rfl)) ?_; (with_reducible refine (laws_big.calls _ _ l0 true _ ?side1 ?side2 A2.out).mono ?_); (case side1 => repeat (first | exact HR0.out | (with_reducible refine Kd.C_alloc ?_ _) | (with_reducible refine Kd.C_drewN ?_ _) | (with_reducible refine Kd.C_drew ?_))); (case side2 => exact HC0.out); rintro e w' ⟨rfl, ⟨nd, rfl⟩⟩; refine ⟨_, rfl, ?_⟩))
    go_ret
    exact ⟨by first | rfl | (simp [errW_none, errW_some] <;> rfl) | (simp [*, errW_none, errW_some] <;> rfl), by repeat (first | (with_reducible first | exact HB.out | apply below_alloc | apply pw_below_drewN | apply below_drew1) | exact HB.out)⟩
  · replace c3 := Bool.eq_false_iff.mpr c3
    subst c3
    have H1 : ((spec_DrawTags.f k l0).bind fun t176 => ((impl_TakeTag.f k t176).bind fun bt180 => (if bt180.2 < 0 then ((impl_CountBusy.f k t176).bind fun t185 => (some (t185 == 8))) else ((impl_FreeTag.f bt180.1 bt180.2).bind fun bt186 => ((impl_FreeTag.f bt186.1 bt180.2).bind fun bt191 => (if bt186.2 = true then (if bt191.2 = true then (laws_FnTags.j0 k bt180.2 true t176 bt186.1) else (if (bt180.1.length : Int) = (t176.length : Int) then (if bt180.2 ≥ (t176.length : Int) then (laws_FnTags.j0 k bt180.2 true t176 bt186.1) else (if 0 ≤ bt180.2 then (if bt180.2 < (t176.length : Int) then (if rdOf false t176 bt180.2 = true then (laws_FnTags.j0 k bt180.2 true t176 bt186.1) else (if bt180.2 < (bt180.1.length : Int) then (if rdOf false bt180.1 bt180.2 = true then ((impl_CountBusy.f k bt180.1).bind fun t198 => ((impl_CountBusy.f k t176).bind fun t199 => (laws_FnTags.j0 k bt180.2 (t198 != (wrap64 (t199 + 1))) t176 bt186.1))) else (laws_FnTags.j0 k bt180.2 true t176 bt186.1)) else (none))) else (none)) else (none))) else (laws_FnTags.j0 k bt180.2 true t176 bt186.1))) else (laws_FnTags.j0 k bt180.2 true t176 bt186.1))))))) = some r := by rw [if_neg (show ¬ (false = true) by decide)] at H; exact H
    clear H
    have H := H1
    clear H1
    replace H := Option.bind_eq_some_iff.mp H
    obtain ⟨t176, A40, H⟩ := H
    replace H : ((impl_TakeTag.f k t176).bind fun bt180 => (if bt180.2 < 0 then ((impl_CountBusy.f k t176).bind fun t185 => (some (t185 == 8))) else ((impl_FreeTag.f bt180.1 bt180.2).bind fun bt186 => ((impl_FreeTag.f bt186.1 bt180.2).bind fun bt191 => (if bt186.2 = true then (if bt191.2 = true then (laws_FnTags.j0 k bt180.2 true t176 bt186.1) else (if (bt180.1.length : Int) = (t176.length : Int) then (if bt180.2 ≥ (t176.length : Int) then (laws_FnTags.j0 k bt180.2 true t176 bt186.1) else (if 0 ≤ bt180.2 then (if bt180.2 < (t176.length : Int) then (if rdOf false t176 bt180.2 = true then (laws_FnTags.j0 k bt180.2 true t176 bt186.1) else (if bt180.2 < (bt180.1.length : Int) then (if rdOf false bt180.1 bt180.2 = true then ((impl_CountBusy.f k bt180.1).bind fun t198 => ((impl_CountBusy.f k t176).bind fun t199 => (laws_FnTags.j0 k bt180.2 (t198 != (wrap64 (t199 + 1))) t176 bt186.1))) else (laws_FnTags.j0 k bt180.2 true t176 bt186.1)) else (none))) else (none)) else (none))) else (laws_FnTags.j0 k bt180.2 true t176 bt186.1))) else (laws_FnTags.j0 k bt180.2 true t176 bt186.1)))))) = some r := H
    have A4 := Aside0.mk A40
    clear A40
    replace H := Option.bind_eq_some_iff.mp H
    obtain ⟨⟨t180, t183⟩, A50, H⟩ := H
    replace H : (if t183 < 0 then ((impl_CountBusy.f k t176).bind fun t185 => (some (t185 == 8))) else ((impl_FreeTag.f t180 t183).bind fun bt186 => ((impl_FreeTag.f bt186.1 t183).bind fun bt191 => (if bt186.2 = true then (if bt191.2 = true then (laws_FnTags.j0 k t183 true t176 bt186.1) else (if (t180.length : Int) = (t176.length : Int) then (if t183 ≥ (t176.length : Int) then (laws_FnTags.j0 k t183 true t176 bt186.1) else (if 0 ≤ t183 then (if t183 < (t176.length : Int) then (if rdOf false t176 t183 = true then (laws_FnTags.j0 k t183 true t176 bt186.1) else (if t183 < (t180.length : Int) then (if rdOf false t180 t183 = true then ((impl_CountBusy.f k t180).bind fun t198 => ((impl_CountBusy.f k t176).bind fun t199 => (laws_FnTags.j0 k t183 (t198 != (wrap64 (t199 + 1))) t176 bt186.1))) else (laws_FnTags.j0 k t183 true t176 bt186.1)) else (none))) else (none)) else (none))) else (laws_FnTags.j0 k t183 true t176 bt186.1))) else (laws_FnTags.j0 k t183 true t176 bt186.1))))) = some r := H
    have A5 := Aside0.mk A50
    clear A50
    by_cases c6 : t183 < 0
    · rw [if_pos c6] at H
      have c6b0 : decide (t183 < 0) = true := decide_eq_true c6
      clear c6
      replace H := Option.bind_eq_some_iff.mp H
      obtain ⟨t185, A70, H⟩ := H
      replace H : (some (t185 == 8)) = some r := H
      have A7 := Aside0.mk A70
      clear A70
      obtain rfl := Option.some.inj H
      go_enter Try.func8, Try.ntmps8
      go_wp2_with (first | ((with_reducible refine gate_callee (f := 24) rfl ?_); refine goesL_ (some 13) rfl rfl Try.func24 (by kernel_rfl) rfl #[.slice A0 l0.length c0] rfl (by (try simp only [List.map_toArray, List.map_cons, List.map_nil]); first | done | rfl | (simp only [List.length_drop, List.length_take]; rfl)) ?_; (with_reducible refine (laws_big.calls _ _ l0 false _ ?side1 ?side2 A2.out).mono ?_); (case side1 => repeat (first | exact HR0.out | (with_reducible refine Kd.C_alloc ?_ _) | (with_reducible refine Kd.C_drewN ?_ _) | (with_reducible refine Kd.C_drew ?_))); (case side2 => exact HC0.out); rintro e w' ⟨rfl, ⟨nd, rfl⟩⟩; refine ⟨_, rfl, ?_⟩) | ((with_reducible refine gate_callee (f := 25) rfl ?_); refine goesL_ (some 15) rfl rfl Try.func25 (by kernel_rfl) rfl #[.slice A0 l0.length c0] rfl (by (try simp only [List.map_toArray, List.map_cons, List.map_nil]); first | done | rfl | (simp only [List.length_drop, List.length_take]; rfl)) ?_; (with_reducible refine (spec_DrawTags.calls k _ _ l0 t176 _ ?side1 ?side2 A4.out).mono ?_); (case side1 => repeat (first | exact HR0.out | (with_reducible refine Kd.C_alloc ?_ _) | (with_reducible refine Kd.C_drewN ?_ _) | (with_reducible refine Kd.C_drew ?_))); (case side2 => exact HC0.out); rintro e w8 ⟨v177, rfl, ho0, hb⟩; refine ⟨_, rfl, ?_⟩; have n0_ := Aside0.mk (Kd.R_lower ho0 (below_size (by repeat (first | (with_reducible first | exact HB.out | apply below_alloc | apply pw_below_drewN | apply below_drew1) | exact HB.out)))); have n1_ := Aside0.mk (below_step (by repeat (first | (with_reducible first | exact HB.out | apply below_alloc | apply pw_below_drewN | apply below_drew1) | exact HB.out)) hb); clear HB; have HO178 := n0_; have HB := n1_; clear n0_ n1_; (try clear hb); (try clear hb2); (try clear hk); (try clear hi); (try clear ho0)) | ((with_reducible refine gate_dst (N := 3) rfl ?_); (try (refine gate_guard (by rfl) ?_; dsimp only)); refine box_event ?hg (N := 3) ?hd (cs := #[.slice none 0 0]) (t := 27) ?hr ?_; (case hd => rfl); (case hg => rfl); (case hr => first | (go_simp; done) | (go_simp; rfl)); intro gb179 hg w9 hbox hb; have n0_ := Aside0.mk (Kd.R_below (by (with_reducible repeat (first | apply ra_ | apply rb_ | apply rc_)); exact HO178.out) hb); have n1_ := Aside0.mk (below_step (by repeat (first | (with_reducible first | exact HB.out | apply below_alloc | apply pw_below_drewN | apply below_drew1) | exact HB.out)) hb); have n2_ := Aside0.mk (hbox); have n3_ := Aside0.mk ((by rw [hg]; exact (below_size (by repeat (first | (with_reducible first | exact HB.out | apply below_alloc | apply pw_below_drewN | apply below_drew1) | exact HB.out))) : w.heap.size ≤ gb179)); have n4_ := Aside0.mk ((by rw [hg]; exact (below_size (by repeat (first | (with_reducible first | exact HB.out | apply below_alloc | apply pw_below_drewN | apply below_drew1) | exact HB.out))) : w.heap.size ≤ gb179)); clear HO178; clear HB; have HO178 := n0_; have HB := n1_; have BK179 := n2_; have GW179 := n3_; have GE179 := n4_; clear n0_ n1_ n2_ n3_ n4_; clear hb hbox hg; obtain ⟨Ao10, co10, eo10⟩ := Kd.R_slice HO178.out; subst eo10; have hcz11_0 : w9.cell? ⟨gb179, 0, none⟩ = some (.slice none 0 0) := (blk_cell BK179.out 0).trans rfl; have hfz11_0 := blk_frozen BK179.out 0) | ((with_reducible refine gate_callee (f := 23) rfl ?_); refine goesL_ (some 18) rfl rfl Try.func23 (by kernel_rfl) rfl #[.agg #[.slice Ao10 t176.length co10]] rfl (by (try simp only [List.map_toArray, List.map_cons, List.map_nil]); first | done | rfl | (simp only [List.length_drop, List.length_take]; rfl)) ?_; (with_reducible refine (impl_TakeTag.calls k _ _ t176 t180 t183 _ ?side1 ?side2 A5.out).mono ?_); (case side1 => refine (Kd.R_reads' (e := 4) (base := w.heap.size) (ok := fun k_ => True) (n := t176.length) (c := co10) ?_).2.2; exact (by (with_reducible repeat (first | apply ra_ | apply rb_ | apply rc_)); exact (Kd.R_mono (Kd.R_far (p := ⟨gb179, 0, none⟩) (Kd.R_types HO178.out BK179.out (by decide)) (fun _ hk => hk.2) (.slice Ao10 t176.length co10)) (fun _ h_ => h_.1)))); (case side2 => exact (Kd.R_reads' HO178.out).2.1); rintro e w12 ⟨v181, rfl, ho0, hb⟩; refine ⟨_, rfl, ?_⟩; have n0_ := Aside0.mk (Kd.R_elder' (by (with_reducible repeat (first | apply ra_ | apply rb_ | apply rc_)); exact (Kd.R_mono (Kd.R_far (p := ⟨gb179, 0, none⟩) (Kd.R_types HO178.out BK179.out (by decide)) (fun _ hk => hk.2) (.slice Ao10 t176.length co10)) (fun _ h_ => h_.1))) (Kd.R_base ho0) hb); have n1_ := Aside0.mk (Kd.R_lower (Kd.R_new' ho0 (Kd.R_lt (by (with_reducible repeat (first | apply ra_ | apply rb_ | apply rc_)); exact (Kd.R_mono (Kd.R_far (p := ⟨gb179, 0, none⟩) (Kd.R_types HO178.out BK179.out (by decide)) (fun _ hk => hk.2) (.slice Ao10 t176.length co10)) (fun _ h_ => h_.1))))) (below_size (by repeat (first | (with_reducible first | exact HB.out | apply below_alloc | apply pw_below_drewN | apply below_drew1 | refine below_set ?_ GE179.out) | exact HB.out)))); have n2_ := Aside0.mk (blk_below (g := gb179) (o := .cells #[.slice Ao10 t176.length co10] 27 (0, 0)) (by (with_reducible repeat (first | refine ba_ ?_ _ | refine bb_ ?_ | refine bc_ ?_ _)); refine blk_put (cs := #[.slice none 0 0]) ?_ 0 _ rfl; (with_reducible repeat (first | refine ba_ ?_ _ | refine bb_ ?_ | refine bc_ ?_ _)); exact BK179.out) hb); have n3_ := Aside0.mk (below_step (by repeat (first | (with_reducible first | exact HB.out | apply below_alloc | apply pw_below_drewN | apply below_drew1 | refine below_set ?_ GE179.out) | exact HB.out)) hb); clear HO178; clear BK179; clear HB; have HO178 := n0_; have HO182 := n1_; have BK179 := n2_; have HB := n3_; clear n0_ n1_ n2_ n3_; (try clear hb); (try clear hb2); (try clear hk); (try clear hi); (try clear ho0)) | ((with_reducible refine gate_dst (N := 4) rfl ?_); (try (refine gate_guard (by rfl) ?_; dsimp only)); refine box_event ?hg (N := 4) ?hd (cs := #[.slice none 0 0]) (t := 27) ?hr ?_; (case hd => rfl); (case hg => rfl); (case hr => first | (go_simp; done) | (go_simp; rfl)); intro gb184 hg w13 hbox hb; have n0_ := Aside0.mk (Kd.R_below (by (with_reducible repeat (first | apply ra_ | apply rb_ | apply rc_)); exact HO178.out) hb); have n1_ := Aside0.mk (Kd.R_below (by (with_reducible repeat (first | apply ra_ | apply rb_ | apply rc_)); exact HO182.out) hb); have n2_ := Aside0.mk (blk_below (g := gb179) (o := .cells #[.slice Ao10 t176.length co10] 27 (0, 0)) (by (with_reducible repeat (first | refine ba_ ?_ _ | refine bb_ ?_ | refine bc_ ?_ _)); exact BK179.out) hb); have n3_ := Aside0.mk (below_step (by repeat (first | (with_reducible first | exact HB.out | apply below_alloc | apply pw_below_drewN | apply below_drew1 | refine below_set ?_ GE179.out) | exact HB.out)) hb); have n4_ := Aside0.mk (hbox); have n5_ := Aside0.mk ((by rw [hg]; exact (below_size (by repeat (first | (with_reducible first | exact HB.out | apply below_alloc | apply pw_below_drewN | apply below_drew1 | refine below_set ?_ GE179.out) | exact HB.out))) : w.heap.size ≤ gb184)); have n6_ := Aside0.mk ((by rw [hg]; exact (below_size (by repeat (first | (with_reducible first | exact HB.out | apply below_alloc | apply pw_below_drewN | apply below_drew1 | refine below_set ?_ GE179.out) | exact HB.out))) : w.heap.size ≤ gb184)); have n7_ := Aside0.mk ((by rw [hg]; exact Nat.ne_of_lt (blk_lt (g := gb179) (o := .cells #[.slice Ao10 t176.length co10] 27 (0, 0)) (by (with_reducible repeat (first | refine ba_ ?_ _ | refine bb_ ?_ | refine bc_ ?_ _)); exact BK179.out)) : gb179 ≠ gb184)); have n8_ := Aside0.mk ((by rw [hg]; exact Nat.ne_of_gt (blk_lt (g := gb179) (o := .cells #[.slice Ao10 t176.length co10] 27 (0, 0)) (by (with_reducible repeat (first | refine ba_ ?_ _ | refine bb_ ?_ | refine bc_ ?_ _)); exact BK179.out)) : gb184 ≠ gb179)); clear HO178; clear HO182; clear BK179; clear HB; have HO178 := n0_; have HO182 := n1_; have BK179 := n2_; have HB := n3_; have BK184 := n4_; have GW184 := n5_; have GE184 := n6_; have NB179_184 := n7_; have NB184_179 := n8_; clear n0_ n1_ n2_ n3_ n4_ n5_ n6_ n7_ n8_; clear hb hbox hg; obtain ⟨Ao14, co14, eo14⟩ := Kd.R_slice HO182.out; subst eo14; have hnb15 := NB184_179.out; have hnc15 := NB179_184.out; have hcz16_0 : w13.cell? ⟨gb184, 0, none⟩ = some (.slice none 0 0) := (blk_cell BK184.out 0).trans rfl; have hfz16_0 := blk_frozen BK184.out 0; have hcz17_0 : w13.cell? ⟨gb179, 0, none⟩ = some (.slice Ao10 t176.length co10) := (blk_cell BK179.out 0).trans rfl; have hfz17_0 := blk_frozen BK179.out 0) | ((with_reducible refine gate_callee (f := 19) rfl ?_); refine goesL_ (some 24) rfl rfl Try.func19 (by kernel_rfl) rfl #[.agg #[.slice Ao10 t176.length co10]] rfl (by (try simp only [List.map_toArray, List.map_cons, List.map_nil]); first | done | rfl | (simp only [List.length_drop, List.length_take]; rfl)) ?_; (with_reducible refine (impl_CountBusy.calls k _ _ t176 t185 _ ?side1 ?side2 A7.out).mono ?_); (case side1 => refine (Kd.R_reads' (e := 4) (base := w.heap.size) (ok := fun k_ => (True ∧ some k_ ≠ (.slice Ao14 t180.length co14 : Value).ownBlock)) (n := t176.length) (c := co10) ?_).2.2; exact (by (with_reducible repeat (first | apply ra_ | apply rb_ | apply rc_)); exact (Kd.R_mono (Kd.R_far (p := ⟨gb184, 0, none⟩) (Kd.R_types HO178.out BK184.out (by decide)) (fun _ hk => hk.2) (.slice Ao14 t180.length co14)) (fun _ h_ => h_.1)))); (case side2 => exact (Kd.R_reads' HO178.out).2.1); rintro e w18 ⟨rfl, hb⟩; refine ⟨_, rfl, ?_⟩; have n0_ := Aside0.mk (Kd.R_below (by (with_reducible repeat (first | apply ra_ | apply rb_ | apply rc_)); exact (Kd.R_mono (Kd.R_far (p := ⟨gb184, 0, none⟩) (Kd.R_types HO178.out BK184.out (by decide)) (fun _ hk => hk.2) (.slice Ao14 t180.length co14)) (fun _ h_ => h_.1))) hb); have n1_ := Aside0.mk (Kd.R_below (by (with_reducible repeat (first | apply ra_ | apply rb_ | apply rc_)); exact (Kd.R_mono (Kd.R_far (p := ⟨gb184, 0, none⟩) (Kd.R_types HO182.out BK184.out (by decide)) (fun _ hk => hk.2) (.slice Ao14 t180.length co14)) (fun _ h_ => h_.1))) hb); have n2_ := Aside0.mk (blk_below (g := gb179) (o := .cells #[.slice Ao10 t176.length co10] 27 (0, 0)) (by (with_reducible repeat (first | refine ba_ ?_ _ | refine bb_ ?_ | refine bc_ ?_ _)); refine blk_far ?_ NB179_184.out _; (with_reducible repeat (first | refine ba_ ?_ _ | refine bb_ ?_ | refine bc_ ?_ _)); exact BK179.out) hb); have n3_ := Aside0.mk (blk_below (g := gb184) (o := .cells #[.slice Ao14 t180.length co14] 27 (0, 0)) (by (with_reducible repeat (first | refine ba_ ?_ _ | refine bb_ ?_ | refine bc_ ?_ _)); refine blk_put (cs := #[.slice none 0 0]) ?_ 0 _ rfl; (with_reducible repeat (first | refine ba_ ?_ _ | refine bb_ ?_ | refine bc_ ?_ _)); exact BK184.out) hb); have n4_ := Aside0.mk (below_step (by repeat (first | (with_reducible first | exact HB.out | apply below_alloc | apply pw_below_drewN | apply below_drew1 | refine below_set ?_ GE179.out | refine below_set ?_ GE184.out) | exact HB.out)) hb); clear HO178; clear HO182; clear BK179; clear BK184; clear HB; have HO178 := n0_; have HO182 := n1_; have BK179 := n2_; have BK184 := n3_; have HB := n4_; clear n0_ n1_ n2_ n3_ n4_; (try clear hb); (try clear hb2); (try clear hk); (try clear hi)))
      go_ret
      exact ⟨by first | rfl | (simp [errW_none, errW_some] <;> rfl) | (simp [*, errW_none, errW_some] <;> rfl), by repeat (first | (with_reducible first | exact HB.out | apply below_alloc | apply pw_below_drewN | apply below_drew1 | refine below_set ?_ GE179.out | refine below_set ?_ GE184.out) | exact HB.out)⟩
    · rw [if_neg c6] at H
      have c6b0 : decide (t183 < 0) = false := decide_eq_false c6
      clear c6
      replace H := Option.bind_eq_some_iff.mp H
      obtain ⟨⟨t186, t189⟩, A190, H⟩ := H
      replace H : ((impl_FreeTag.f t186 t183).bind fun bt191 => (if t189 = true then (if bt191.2 = true then (laws_FnTags.j0 k t183 true t176 t186) else (if (t180.length : Int) = (t176.length : Int) then (if t183 ≥ (t176.length : Int) then (laws_FnTags.j0 k t183 true t176 t186) else (if 0 ≤ t183 then (if t183 < (t176.length : Int) then (if rdOf false t176 t183 = true then (laws_FnTags.j0 k t183 true t176 t186) else (if t183 < (t180.length : Int) then (if rdOf false t180 t183 = true then ((impl_CountBusy.f k t180).bind fun t198 => ((impl_CountBusy.f k t176).bind fun t199 => (laws_FnTags.j0 k t183 (t198 != (wrap64 (t199 + 1))) t176 t186))) else (laws_FnTags.j0 k t183 true t176 t186)) else (none))) else (none)) else (none))) else (laws_FnTags.j0 k t183 true t176 t186))) else (laws_FnTags.j0 k t183 true t176 t186))) = some r := H
      have A19 := Aside0.mk A190
      clear A190
      replace H := Option.bind_eq_some_iff.mp H
      obtain ⟨⟨t191, t194⟩, A200, H⟩ := H
      replace H : (if t189 = true then (if t194 = true then (laws_FnTags.j0 k t183 true t176 t186) else (if (t180.length : Int) = (t176.length : Int) then (if t183 ≥ (t176.length : Int) then (laws_FnTags.j0 k t183 true t176 t186) else (if 0 ≤ t183 then (if t183 < (t176.length : Int) then (if rdOf false t176 t183 = true then (laws_FnTags.j0 k t183 true t176 t186) else (if t183 < (t180.length : Int) then (if rdOf false t180 t183 = true then ((impl_CountBusy.f k t180).bind fun t198 => ((impl_CountBusy.f k t176).bind fun t199 => (laws_FnTags.j0 k t183 (t198 != (wrap64 (t199 + 1))) t176 t186))) else (laws_FnTags.j0 k t183 true t176 t186)) else (none))) else (none)) else (none))) else (laws_FnTags.j0 k t183 true t176 t186))) else (laws_FnTags.j0 k t183 true t176 t186)) = some r := H
      have A20 := Aside0.mk A200
      clear A200
      have HC21 := Aside0.mk H
      clear H
      go_enter Try.func8, Try.ntmps8
      go_upto_region 9 with (first | ((with_reducible refine gate_callee (f := 24) rfl ?_); refine goesL_ (some 13) rfl rfl Try.func24 (by kernel_rfl) rfl #[.slice A0 l0.length c0] rfl (by (try simp only [List.map_toArray, List.map_cons, List.map_nil]); first | done | rfl | (simp only [List.length_drop, List.length_take]; rfl)) ?_; (with_reducible refine (laws_big.calls _ _ l0 false _ ?side1 ?side2 A2.out).mono ?_); (case side1 => repeat (first | exact HR0.out | (with_reducible refine Kd.C_alloc ?_ _) | (with_reducible refine Kd.C_drewN ?_ _) | (with_reducible refine Kd.C_drew ?_))); (case side2 => exact HC0.out); rintro e w' ⟨rfl, ⟨nd, rfl⟩⟩; refine ⟨_, rfl, ?_⟩) | ((with_reducible refine gate_callee (f := 25) rfl ?_); refine goesL_ (some 15) rfl rfl Try.func25 (by kernel_rfl) rfl #[.slice A0 l0.length c0] rfl (by (try simp only [List.map_toArray, List.map_cons, List.map_nil]); first | done | rfl | (simp only [List.length_drop, List.length_take]; rfl)) ?_; (with_reducible refine (spec_DrawTags.calls k _ _ l0 t176 _ ?side1 ?side2 A4.out).mono ?_); (case side1 => repeat (first | exact HR0.out | (with_reducible refine Kd.C_alloc ?_ _) | (with_reducible refine Kd.C_drewN ?_ _) | (with_reducible refine Kd.C_drew ?_))); (case side2 => exact HC0.out); rintro e w22 ⟨v177, rfl, ho0, hb⟩; refine ⟨_, rfl, ?_⟩; have n0_ := Aside0.mk (Kd.R_lower ho0 (below_size (by repeat (first | (with_reducible first | exact HB.out | apply below_alloc | apply pw_below_drewN | apply below_drew1) | exact HB.out)))); have n1_ := Aside0.mk (below_step (by repeat (first | (with_reducible first | exact HB.out | apply below_alloc | apply pw_below_drewN | apply below_drew1) | exact HB.out)) hb); clear HB; have HO178 := n0_; have HB := n1_; clear n0_ n1_; (try clear hb); (try clear hb2); (try clear hk); (try clear hi); (try clear ho0)) | ((with_reducible refine gate_dst (N := 3) rfl ?_); (try (refine gate_guard (by rfl) ?_; dsimp only)); refine box_event ?hg (N := 3) ?hd (cs := #[.slice none 0 0]) (t := 27) ?hr ?_; (case hd => rfl); (case hg => rfl); (case hr => first | (go_simp; done) | (go_simp; rfl)); intro gb179 hg w23 hbox hb; have n0_ := Aside0.mk (Kd.R_below (by (with_reducible repeat (first | apply ra_ | apply rb_ | apply rc_)); exact HO178.out) hb); have n1_ := Aside0.mk (below_step (by repeat (first | (with_reducible first | exact HB.out | apply below_alloc | apply pw_below_drewN | apply below_drew1) | exact HB.out)) hb); have n2_ := Aside0.mk (hbox); have n3_ := Aside0.mk ((by rw [hg]; exact (below_size (by repeat (first | (with_reducible first | exact HB.out | apply below_alloc | apply pw_below_drewN | apply below_drew1) | exact HB.out))) : w.heap.size ≤ gb179)); have n4_ := Aside0.mk ((by rw [hg]; exact (below_size (by repeat (first | (with_reducible first | exact HB.out | apply below_alloc | apply pw_below_drewN | apply below_drew1) | exact HB.out))) : w.heap.size ≤ gb179)); clear HO178; clear HB; have HO178 := n0_; have HB := n1_; have BK179 := n2_; have GW179 := n3_; have GE179 := n4_; clear n0_ n1_ n2_ n3_ n4_; clear hb hbox hg; obtain ⟨Ao24, co24, eo24⟩ := Kd.R_slice HO178.out; subst eo24; have hcz25_0 : w23.cell? ⟨gb179, 0, none⟩ = some (.slice none 0 0) := (blk_cell BK179.out 0).trans rfl; have hfz25_0 := blk_frozen BK179.out 0) | ((with_reducible refine gate_callee (f := 23) rfl ?_); refine goesL_ (some 18) rfl rfl Try.func23 (by kernel_rfl) rfl #[.agg #[.slice Ao24 t176.length co24]] rfl (by (try simp only [List.map_toArray, List.map_cons, List.map_nil]); first | done | rfl | (simp only [List.length_drop, List.length_take]; rfl)) ?_; (with_reducible refine (impl_TakeTag.calls k _ _ t176 t180 t183 _ ?side1 ?side2 A5.out).mono ?_); (case side1 => refine (Kd.R_reads' (e := 4) (base := w.heap.size) (ok := fun k_ => True) (n := t176.length) (c := co24) ?_).2.2; exact (by (with_reducible repeat (first | apply ra_ | apply rb_ | apply rc_)); exact (Kd.R_mono (Kd.R_far (p := ⟨gb179, 0, none⟩) (Kd.R_types HO178.out BK179.out (by decide)) (fun _ hk => hk.2) (.slice Ao24 t176.length co24)) (fun _ h_ => h_.1)))); (case side2 => exact (Kd.R_reads' HO178.out).2.1); rintro e w26 ⟨v181, rfl, ho0, hb⟩; refine ⟨_, rfl, ?_⟩; have n0_ := Aside0.mk (Kd.R_elder' (by (with_reducible repeat (first | apply ra_ | apply rb_ | apply rc_)); exact (Kd.R_mono (Kd.R_far (p := ⟨gb179, 0, none⟩) (Kd.R_types HO178.out BK179.out (by decide)) (fun _ hk => hk.2) (.slice Ao24 t176.length co24)) (fun _ h_ => h_.1))) (Kd.R_base ho0) hb); have n1_ := Aside0.mk (Kd.R_lower (Kd.R_new' ho0 (Kd.R_lt (by (with_reducible repeat (first | apply ra_ | apply rb_ | apply rc_)); exact (Kd.R_mono (Kd.R_far (p := ⟨gb179, 0, none⟩) (Kd.R_types HO178.out BK179.out (by decide)) (fun _ hk => hk.2) (.slice Ao24 t176.length co24)) (fun _ h_ => h_.1))))) (below_size (by repeat (first | (with_reducible first | exact HB.out | apply below_alloc | apply pw_below_drewN | apply below_drew1 | refine below_set ?_ GE179.out) | exact HB.out)))); have n2_ := Aside0.mk (blk_below (g := gb179) (o := .cells #[.slice Ao24 t176.length co24] 27 (0, 0)) (by (with_reducible repeat (first | refine ba_ ?_ _ | refine bb_ ?_ | refine bc_ ?_ _)); refine blk_put (cs := #[.slice none 0 0]) ?_ 0 _ rfl; (with_reducible repeat (first | refine ba_ ?_ _ | refine bb_ ?_ | refine bc_ ?_ _)); exact BK179.out) hb); have n3_ := Aside0.mk (below_step (by repeat (first | (with_reducible first | exact HB.out | apply below_alloc | apply pw_below_drewN | apply below_drew1 | refine below_set ?_ GE179.out) | exact HB.out)) hb); clear HO178; clear BK179; clear HB; have HO178 := n0_; have HO182 := n1_; have BK179 := n2_; have HB := n3_; clear n0_ n1_ n2_ n3_; (try clear hb); (try clear hb2); (try clear hk); (try clear hi); (try clear ho0)) | ((with_reducible refine gate_dst (N := 4) rfl ?_); (try (refine gate_guard (by rfl) ?_; dsimp only)); refine box_event ?hg (N := 4) ?hd (cs := #[.slice none 0 0]) (t := 27) ?hr ?_; (case hd => rfl); (case hg => rfl); (case hr => first | (go_simp; done) | (go_simp; rfl)); intro gb184 hg w27 hbox hb; have n0_ := Aside0.mk (Kd.R_below (by (with_reducible repeat (first | apply ra_ | apply rb_ | apply rc_)); exact HO178.out) hb); have n1_ := Aside0.mk (Kd.R_below (by (with_reducible repeat (first | apply ra_ | apply rb_ | apply rc_)); exact HO182.out) hb); have n2_ := Aside0.mk (blk_below (g := gb179) (o := .cells #[.slice Ao24 t176.length co24] 27 (0, 0)) (by (with_reducible repeat (first | refine ba_ ?_ _ | refine bb_ ?_ | refine bc_ ?_ _)); exact BK179.out) hb); have n3_ := Aside0.mk (below_step (by repeat (first | (with_reducible first | exact HB.out | apply below_alloc | apply pw_below_drewN | apply below_drew1 | refine below_set ?_ GE179.out) | exact HB.out)) hb); have n4_ := Aside0.mk (hbox); have n5_ := Aside0.mk ((by rw [hg]; exact (below_size (by repeat (first | (with_reducible first | exact HB.out | apply below_alloc | apply pw_below_drewN | apply below_drew1 | refine below_set ?_ GE179.out) | exact HB.out))) : w.heap.size ≤ gb184)); have n6_ := Aside0.mk ((by rw [hg]; exact (below_size (by repeat (first | (with_reducible first | exact HB.out | apply below_alloc | apply pw_below_drewN | apply below_drew1 | refine below_set ?_ GE179.out) | exact HB.out))) : w.heap.size ≤ gb184)); have n7_ := Aside0.mk ((by rw [hg]; exact Nat.ne_of_lt (blk_lt (g := gb179) (o := .cells #[.slice Ao24 t176.length co24] 27 (0, 0)) (by (with_reducible repeat (first | refine ba_ ?_ _ | refine bb_ ?_ | refine bc_ ?_ _)); exact BK179.out)) : gb179 ≠ gb184)); have n8_ := Aside0.mk ((by rw [hg]; exact Nat.ne_of_gt (blk_lt (g := gb179) (o := .cells #[.slice Ao24 t176.length co24] 27 (0, 0)) (by (with_reducible repeat (first | refine ba_ ?_ _ | refine bb_ ?_ | refine bc_ ?_ _)); exact BK179.out)) : gb184 ≠ gb179)); clear HO178; clear HO182; clear BK179; clear HB; have HO178 := n0_; have HO182 := n1_; have BK179 := n2_; have HB := n3_; have BK184 := n4_; have GW184 := n5_; have GE184 := n6_; have NB179_184 := n7_; have NB184_179 := n8_; clear n0_ n1_ n2_ n3_ n4_ n5_ n6_ n7_ n8_; clear hb hbox hg; obtain ⟨Ao28, co28, eo28⟩ := Kd.R_slice HO182.out; subst eo28; have hnb29 := NB184_179.out; have hnc29 := NB179_184.out; have hcz30_0 : w27.cell? ⟨gb184, 0, none⟩ = some (.slice none 0 0) := (blk_cell BK184.out 0).trans rfl; have hfz30_0 := blk_frozen BK184.out 0) | ((with_reducible refine gate_callee (f := 21) rfl ?_); refine goesL_ (some 29) rfl rfl Try.func21 (by kernel_rfl) rfl #[.agg #[.slice Ao28 t180.length co28], .int .i64 t183] rfl (by (try simp only [List.map_toArray, List.map_cons, List.map_nil]); first | done | rfl | (simp only [List.length_drop, List.length_take]; rfl)) ?_; (with_reducible refine (impl_FreeTag.calls _ _ t180 t183 t186 t189 _ ?side1 ?side2 A19.out).mono ?_); (case side1 => refine (Kd.R_reads' (e := 4) (base := w.heap.size) (ok := fun k_ => (True ∧ some k_ ≠ (.slice Ao24 t176.length co24 : Value).ownBlock)) (n := t180.length) (c := co28) ?_).2.2; exact (by (with_reducible repeat (first | apply ra_ | apply rb_ | apply rc_)); exact (Kd.R_mono (Kd.R_far (p := ⟨gb184, 0, none⟩) (Kd.R_types HO182.out BK184.out (by decide)) (fun _ hk => hk.2) (.slice Ao28 t180.length co28)) (fun _ h_ => h_.1)))); (case side2 => exact (Kd.R_reads' HO182.out).2.1); rintro e w31 ⟨v187, rfl, ho0, hb⟩; refine ⟨_, rfl, ?_⟩; have n0_ := Aside0.mk (Kd.R_elder' (by (with_reducible repeat (first | apply ra_ | apply rb_ | apply rc_)); exact (Kd.R_mono (Kd.R_far (p := ⟨gb184, 0, none⟩) (Kd.R_types HO178.out BK184.out (by decide)) (fun _ hk => hk.2) (.slice Ao28 t180.length co28)) (fun _ h_ => h_.1))) (Kd.R_base ho0) hb); have n1_ := Aside0.mk (Kd.R_elder' (by (with_reducible repeat (first | apply ra_ | apply rb_ | apply rc_)); exact (Kd.R_mono (Kd.R_far (p := ⟨gb184, 0, none⟩) (Kd.R_types HO182.out BK184.out (by decide)) (fun _ hk => hk.2) (.slice Ao28 t180.length co28)) (fun _ h_ => h_.1))) (Kd.R_base ho0) hb); have n2_ := Aside0.mk (Kd.R_lower (Kd.R_new' (Kd.R_new' ho0 (Kd.R_lt (by (with_reducible repeat (first | apply ra_ | apply rb_ | apply rc_)); exact (Kd.R_mono (Kd.R_far (p := ⟨gb184, 0, none⟩) (Kd.R_types HO178.out BK184.out (by decide)) (fun _ hk => hk.2) (.slice Ao28 t180.length co28)) (fun _ h_ => h_.1))))) (Kd.R_lt (by (with_reducible repeat (first | apply ra_ | apply rb_ | apply rc_)); exact (Kd.R_mono (Kd.R_far (p := ⟨gb184, 0, none⟩) (Kd.R_types HO182.out BK184.out (by decide)) (fun _ hk => hk.2) (.slice Ao28 t180.length co28)) (fun _ h_ => h_.1))))) (below_size (by repeat (first | (with_reducible first | exact HB.out | apply below_alloc | apply pw_below_drewN | apply below_drew1 | refine below_set ?_ GE179.out | refine below_set ?_ GE184.out) | exact HB.out)))); have n3_ := Aside0.mk (blk_below (g := gb179) (o := .cells #[.slice Ao24 t176.length co24] 27 (0, 0)) (by (with_reducible repeat (first | refine ba_ ?_ _ | refine bb_ ?_ | refine bc_ ?_ _)); refine blk_far ?_ NB179_184.out _; (with_reducible repeat (first | refine ba_ ?_ _ | refine bb_ ?_ | refine bc_ ?_ _)); exact BK179.out) hb); have n4_ := Aside0.mk (blk_below (g := gb184) (o := .cells #[.slice Ao28 t180.length co28] 27 (0, 0)) (by (with_reducible repeat (first | refine ba_ ?_ _ | refine bb_ ?_ | refine bc_ ?_ _)); refine blk_put (cs := #[.slice none 0 0]) ?_ 0 _ rfl; (with_reducible repeat (first | refine ba_ ?_ _ | refine bb_ ?_ | refine bc_ ?_ _)); exact BK184.out) hb); have n5_ := Aside0.mk (below_step (by repeat (first | (with_reducible first | exact HB.out | apply below_alloc | apply pw_below_drewN | apply below_drew1 | refine below_set ?_ GE179.out | refine below_set ?_ GE184.out) | exact HB.out)) hb); clear HO178; clear HO182; clear BK179; clear BK184; clear HB; have HO178 := n0_; have HO182 := n1_; have HO188 := n2_; have BK179 := n3_; have BK184 := n4_; have HB := n5_; clear n0_ n1_ n2_ n3_ n4_ n5_; (try clear hb); (try clear hb2); (try clear hk); (try clear hi); (try clear ho0)) | ((with_reducible refine gate_dst (N := 6) rfl ?_); (try (refine gate_guard (by rfl) ?_; dsimp only)); refine box_event ?hg (N := 6) ?hd (cs := #[.slice none 0 0]) (t := 27) ?hr ?_; (case hd => rfl); (case hg => rfl); (case hr => first | (go_simp; done) | (go_simp; rfl)); intro gb190 hg w32 hbox hb; have n0_ := Aside0.mk (Kd.R_below (by (with_reducible repeat (first | apply ra_ | apply rb_ | apply rc_)); exact HO178.out) hb); have n1_ := Aside0.mk (Kd.R_below (by (with_reducible repeat (first | apply ra_ | apply rb_ | apply rc_)); exact HO182.out) hb); have n2_ := Aside0.mk (Kd.R_below (by (with_reducible repeat (first | apply ra_ | apply rb_ | apply rc_)); exact HO188.out) hb); have n3_ := Aside0.mk (blk_below (g := gb179) (o := .cells #[.slice Ao24 t176.length co24] 27 (0, 0)) (by (with_reducible repeat (first | refine ba_ ?_ _ | refine bb_ ?_ | refine bc_ ?_ _)); exact BK179.out) hb); have n4_ := Aside0.mk (blk_below (g := gb184) (o := .cells #[.slice Ao28 t180.length co28] 27 (0, 0)) (by (with_reducible repeat (first | refine ba_ ?_ _ | refine bb_ ?_ | refine bc_ ?_ _)); exact BK184.out) hb); have n5_ := Aside0.mk (below_step (by repeat (first | (with_reducible first | exact HB.out | apply below_alloc | apply pw_below_drewN | apply below_drew1 | refine below_set ?_ GE179.out | refine below_set ?_ GE184.out) | exact HB.out)) hb); have n6_ := Aside0.mk (hbox); have n7_ := Aside0.mk ((by rw [hg]; exact (below_size (by repeat (first | (with_reducible first | exact HB.out | apply below_alloc | apply pw_below_drewN | apply below_drew1 | refine below_set ?_ GE179.out | refine below_set ?_ GE184.out) | exact HB.out))) : w.heap.size ≤ gb190)); have n8_ := Aside0.mk ((by rw [hg]; exact (below_size (by repeat (first | (with_reducible first | exact HB.out | apply below_alloc | apply pw_below_drewN | apply below_drew1 | refine below_set ?_ GE179.out | refine below_set ?_ GE184.out) | exact HB.out))) : w.heap.size ≤ gb190)); have n9_ := Aside0.mk ((by rw [hg]; exact Nat.ne_of_lt (blk_lt (g := gb179) (o := .cells #[.slice Ao24 t176.length co24] 27 (0, 0)) (by (with_reducible repeat (first | refine ba_ ?_ _ | refine bb_ ?_ | refine bc_ ?_ _)); exact BK179.out)) : gb179 ≠ gb190)); have n10_ := Aside0.mk ((by rw [hg]; exact Nat.ne_of_gt (blk_lt (g := gb179) (o := .cells #[.slice Ao24 t176.length co24] 27 (0, 0)) (by (with_reducible repeat (first | refine ba_ ?_ _ | refine bb_ ?_ | refine bc_ ?_ _)); exact BK179.out)) : gb190 ≠ gb179)); have n11_ := Aside0.mk ((by rw [hg]; exact Nat.ne_of_lt (blk_lt (g := gb184) (o := .cells #[.slice Ao28 t180.length co28] 27 (0, 0)) (by (with_reducible repeat (first | refine ba_ ?_ _ | refine bb_ ?_ | refine bc_ ?_ _)); exact BK184.out)) : gb184 ≠ gb190)); have n12_ := Aside0.mk ((by rw [hg]; exact Nat.ne_of_gt (blk_lt (g := gb184) (o := .cells #[.slice Ao28 t180.length co28] 27 (0, 0)) (by (with_reducible repeat (first | refine ba_ ?_ _ | refine bb_ ?_ | refine bc_ ?_ _)); exact BK184.out)) : gb190 ≠ gb184)); clear HO178; clear HO182; clear HO188; clear BK179; clear BK184; clear HB; have HO178 := n0_; have HO182 := n1_; have HO188 := n2_; have BK179 := n3_; have BK184 := n4_; have HB := n5_; have BK190 := n6_; have GW190 := n7_; have GE190 := n8_; have NB179_190 := n9_; have NB190_179 := n10_; have NB184_190 := n11_; have NB190_184 := n12_; clear n0_ n1_ n2_ n3_ n4_ n5_ n6_ n7_ n8_ n9_ n10_ n11_ n12_; clear hb hbox hg; obtain ⟨Ao33, co33, eo33⟩ := Kd.R_slice HO188.out; subst eo33; have hnb34 := NB190_179.out; have hnc34 := NB179_190.out; have hnb35 := NB190_184.out; have hnc35 := NB184_190.out; have hcz36_0 : w32.cell? ⟨gb190, 0, none⟩ = some (.slice none 0 0) := (blk_cell BK190.out 0).trans rfl; have hfz36_0 := blk_frozen BK190.out 0) | ((with_reducible refine gate_callee (f := 21) rfl ?_); refine goesL_ (some 35) rfl rfl Try.func21 (by kernel_rfl) rfl #[.agg #[.slice Ao33 t186.length co33], .int .i64 t183] rfl (by (try simp only [List.map_toArray, List.map_cons, List.map_nil]); first | done | rfl | (simp only [List.length_drop, List.length_take]; rfl)) ?_; (with_reducible refine (impl_FreeTag.calls _ _ t186 t183 t191 t194 _ ?side1 ?side2 A20.out).mono ?_); (case side1 => refine (Kd.R_reads' (e := 4) (base := w.heap.size) (ok := fun k_ => ((True ∧ some k_ ≠ (.slice Ao24 t176.length co24 : Value).ownBlock) ∧ some k_ ≠ (.slice Ao28 t180.length co28 : Value).ownBlock)) (n := t186.length) (c := co33) ?_).2.2; exact (by (with_reducible repeat (first | apply ra_ | apply rb_ | apply rc_)); exact (Kd.R_mono (Kd.R_far (p := ⟨gb190, 0, none⟩) (Kd.R_types HO188.out BK190.out (by decide)) (fun _ hk => hk.2) (.slice Ao33 t186.length co33)) (fun _ h_ => h_.1)))); (case side2 => exact (Kd.R_reads' HO188.out).2.1); rintro e w37 ⟨v192, rfl, ho0, hb⟩; refine ⟨_, rfl, ?_⟩; have n0_ := Aside0.mk (Kd.R_elder' (by (with_reducible repeat (first | apply ra_ | apply rb_ | apply rc_)); exact (Kd.R_mono (Kd.R_far (p := ⟨gb190, 0, none⟩) (Kd.R_types HO178.out BK190.out (by decide)) (fun _ hk => hk.2) (.slice Ao33 t186.length co33)) (fun _ h_ => h_.1))) (Kd.R_base ho0) hb); have n1_ := Aside0.mk (Kd.R_elder' (by (with_reducible repeat (first | apply ra_ | apply rb_ | apply rc_)); exact (Kd.R_mono (Kd.R_far (p := ⟨gb190, 0, none⟩) (Kd.R_types HO182.out BK190.out (by decide)) (fun _ hk => hk.2) (.slice Ao33 t186.length co33)) (fun _ h_ => h_.1))) (Kd.R_base ho0) hb); have n2_ := Aside0.mk (Kd.R_elder' (by (with_reducible repeat (first | apply ra_ | apply rb_ | apply rc_)); exact (Kd.R_mono (Kd.R_far (p := ⟨gb190, 0, none⟩) (Kd.R_types HO188.out BK190.out (by decide)) (fun _ hk => hk.2) (.slice Ao33 t186.length co33)) (fun _ h_ => h_.1))) (Kd.R_base ho0) hb); have n3_ := Aside0.mk (Kd.R_lower (Kd.R_new' (Kd.R_new' (Kd.R_new' ho0 (Kd.R_lt (by (with_reducible repeat (first | apply ra_ | apply rb_ | apply rc_)); exact (Kd.R_mono (Kd.R_far (p := ⟨gb190, 0, none⟩) (Kd.R_types HO178.out BK190.out (by decide)) (fun _ hk => hk.2) (.slice Ao33 t186.length co33)) (fun _ h_ => h_.1))))) (Kd.R_lt (by (with_reducible repeat (first | apply ra_ | apply rb_ | apply rc_)); exact (Kd.R_mono (Kd.R_far (p := ⟨gb190, 0, none⟩) (Kd.R_types HO182.out BK190.out (by decide)) (fun _ hk => hk.2) (.slice Ao33 t186.length co33)) (fun _ h_ => h_.1))))) (Kd.R_lt (by (with_reducible repeat (first | apply ra_ | apply rb_ | apply rc_)); exact (Kd.R_mono (Kd.R_far (p := ⟨gb190, 0, none⟩) (Kd.R_types HO188.out BK190.out (by decide)) (fun _ hk => hk.2) (.slice Ao33 t186.length co33)) (fun _ h_ => h_.1))))) (below_size (by repeat (first | (with_reducible first | exact HB.out | apply below_alloc | apply pw_below_drewN | apply below_drew1 | refine below_set ?_ GE179.out | refine below_set ?_ GE184.out | refine below_set ?_ GE190.out) | exact HB.out)))); have n4_ := Aside0.mk (blk_below (g := gb179) (o := .cells #[.slice Ao24 t176.length co24] 27 (0, 0)) (by (with_reducible repeat (first | refine ba_ ?_ _ | refine bb_ ?_ | refine bc_ ?_ _)); refine blk_far ?_ NB179_190.out _; (with_reducible repeat (first | refine ba_ ?_ _ | refine bb_ ?_ | refine bc_ ?_ _)); exact BK179.out) hb); have n5_ := Aside0.mk (blk_below (g := gb184) (o := .cells #[.slice Ao28 t180.length co28] 27 (0, 0)) (by (with_reducible repeat (first | refine ba_ ?_ _ | refine bb_ ?_ | refine bc_ ?_ _)); refine blk_far ?_ NB184_190.out _; (with_reducible repeat (first | refine ba_ ?_ _ | refine bb_ ?_ | refine bc_ ?_ _)); exact BK184.out) hb); have n6_ := Aside0.mk (blk_below (g := gb190) (o := .cells #[.slice Ao33 t186.length co33] 27 (0, 0)) (by (with_reducible repeat (first | refine ba_ ?_ _ | refine bb_ ?_ | refine bc_ ?_ _)); refine blk_put (cs := #[.slice none 0 0]) ?_ 0 _ rfl; (with_reducible repeat (first | refine ba_ ?_ _ | refine bb_ ?_ | refine bc_ ?_ _)); exact BK190.out) hb); have n7_ := Aside0.mk (below_step (by repeat (first | (with_reducible first | exact HB.out | apply below_alloc | apply pw_below_drewN | apply below_drew1 | refine below_set ?_ GE179.out | refine below_set ?_ GE184.out | refine below_set ?_ GE190.out) | exact HB.out)) hb); clear HO178; clear HO182; clear HO188; clear BK179; clear BK184; clear BK190; clear HB; have HO178 := n0_; have HO182 := n1_; have HO188 := n2_; have HO193 := n3_; have BK179 := n4_; have BK184 := n5_; have BK190 := n6_; have HB := n7_; clear n0_ n1_ n2_ n3_ n4_ n5_ n6_ n7_; (try clear hb); (try clear hb2); (try clear hk); (try clear hi); (try clear ho0)) | ((with_reducible refine gate_dst (N := 8) rfl ?_); (try (refine gate_guard (by rfl) ?_; dsimp only)); refine box_event ?hg (N := 8) ?hd (cs := #[.slice none 0 0]) (t := 27) ?hr ?_; (case hd => rfl); (case hg => rfl); (case hr => first | (go_simp; done) | (go_simp; rfl)); intro gb195 hg w38 hbox hb; have n0_ := Aside0.mk (Kd.R_below (by (with_reducible repeat (first | apply ra_ | apply rb_ | apply rc_)); exact HO178.out) hb); have n1_ := Aside0.mk (Kd.R_below (by (with_reducible repeat (first | apply ra_ | apply rb_ | apply rc_)); exact HO182.out) hb); have n2_ := Aside0.mk (Kd.R_below (by (with_reducible repeat (first | apply ra_ | apply rb_ | apply rc_)); exact HO188.out) hb); have n3_ := Aside0.mk (Kd.R_below (by (with_reducible repeat (first | apply ra_ | apply rb_ | apply rc_)); exact HO193.out) hb); have n4_ := Aside0.mk (blk_below (g := gb179) (o := .cells #[.slice Ao24 t176.length co24] 27 (0, 0)) (by (with_reducible repeat (first | refine ba_ ?_ _ | refine bb_ ?_ | refine bc_ ?_ _)); exact BK179.out) hb); have n5_ := Aside0.mk (blk_below (g := gb184) (o := .cells #[.slice Ao28 t180.length co28] 27 (0, 0)) (by (with_reducible repeat (first | refine ba_ ?_ _ | refine bb_ ?_ | refine bc_ ?_ _)); exact BK184.out) hb); have n6_ := Aside0.mk (blk_below (g := gb190) (o := .cells #[.slice Ao33 t186.length co33] 27 (0, 0)) (by (with_reducible repeat (first | refine ba_ ?_ _ | refine bb_ ?_ | refine bc_ ?_ _)); exact BK190.out) hb); have n7_ := Aside0.mk (below_step (by repeat (first | (with_reducible first | exact HB.out | apply below_alloc | apply pw_below_drewN | apply below_drew1 | refine below_set ?_ GE179.out | refine below_set ?_ GE184.out | refine below_set ?_ GE190.out) | exact HB.out)) hb); have n8_ := Aside0.mk (hbox); have n9_ := Aside0.mk ((by rw [hg]; exact (below_size (by repeat (first | (with_reducible first | exact HB.out | apply below_alloc | apply pw_below_drewN | apply below_drew1 | refine below_set ?_ GE179.out | refine below_set ?_ GE184.out | refine below_set ?_ GE190.out) | exact HB.out))) : w.heap.size ≤ gb195)); have n10_ := Aside0.mk ((by rw [hg]; exact (below_size (by repeat (first | (with_reducible first | exact HB.out | apply below_alloc | apply pw_below_drewN | apply below_drew1 | refine below_set ?_ GE179.out | refine below_set ?_ GE184.out | refine below_set ?_ GE190.out) | exact HB.out))) : w.heap.size ≤ gb195)); have n11_ := Aside0.mk ((by rw [hg]; exact Nat.ne_of_lt (blk_lt (g := gb179) (o := .cells #[.slice Ao24 t176.length co24] 27 (0, 0)) (by (with_reducible repeat (first | refine ba_ ?_ _ | refine bb_ ?_ | refine bc_ ?_ _)); exact BK179.out)) : gb179 ≠ gb195)); have n12_ := Aside0.mk ((by rw [hg]; exact Nat.ne_of_gt (blk_lt (g := gb179) (o := .cells #[.slice Ao24 t176.length co24] 27 (0, 0)) (by (with_reducible repeat (first | refine ba_ ?_ _ | refine bb_ ?_ | refine bc_ ?_ _)); exact BK179.out)) : gb195 ≠ gb179)); have n13_ := Aside0.mk ((by rw [hg]; exact Nat.ne_of_lt (blk_lt (g := gb184) (o := .cells #[.slice Ao28 t180.length co28] 27 (0, 0)) (by (with_reducible repeat (first | refine ba_ ?_ _ | refine bb_ ?_ | refine bc_ ?_ _)); exact BK184.out)) : gb184 ≠ gb195)); have n14_ := Aside0.mk ((by rw [hg]; exact Nat.ne_of_gt (blk_lt (g := gb184) (o := .cells #[.slice Ao28 t180.length co28] 27 (0, 0)) (by (with_reducible repeat (first | refine ba_ ?_ _ | refine bb_ ?_ | refine bc_ ?_ _)); exact BK184.out)) : gb195 ≠ gb184)); have n15_ := Aside0.mk ((by rw [hg]; exact Nat.ne_of_lt (blk_lt (g := gb190) (o := .cells #[.slice Ao33 t186.length co33] 27 (0, 0)) (by (with_reducible repeat (first | refine ba_ ?_ _ | refine bb_ ?_ | refine bc_ ?_ _)); exact BK190.out)) : gb190 ≠ gb195)); have n16_ := Aside0.mk ((by rw [hg]; exact Nat.ne_of_gt (blk_lt (g := gb190) (o := .cells #[.slice Ao33 t186.length co33] 27 (0, 0)) (by (with_reducible repeat (first | refine ba_ ?_ _ | refine bb_ ?_ | refine bc_ ?_ _)); exact BK190.out)) : gb195 ≠ gb190)); clear HO178; clear HO182; clear HO188; clear HO193; clear BK179; clear BK184; clear BK190; clear HB; have HO178 := n0_; have HO182 := n1_; have HO188 := n2_; have HO193 := n3_; have BK179 := n4_; have BK184 := n5_; have BK190 := n6_; have HB := n7_; have BK195 := n8_; have GW195 := n9_; have GE195 := n10_; have NB179_195 := n11_; have NB195_179 := n12_; have NB184_195 := n13_; have NB195_184 := n14_; have NB190_195 := n15_; have NB195_190 := n16_; clear n0_ n1_ n2_ n3_ n4_ n5_ n6_ n7_ n8_ n9_ n10_ n11_ n12_ n13_ n14_ n15_ n16_; clear hb hbox hg; obtain ⟨Ao39, co39, eo39⟩ := Kd.R_slice HO193.out; subst eo39; have hnb40 := NB195_179.out; have hnc40 := NB179_195.out; have hnb41 := NB195_184.out; have hnc41 := NB184_195.out; have hnb42 := NB195_190.out; have hnc42 := NB190_195.out; have hcz43_0 : w38.cell? ⟨gb195, 0, none⟩ = some (.slice none 0 0) := (blk_cell BK195.out 0).trans rfl; have hfz43_0 := blk_frozen BK195.out 0))
      (try simp only [Act.put, List.setIfInBounds_toArray, List.set_cons_zero, List.set_cons_succ])
      go_cut [81] (fun v81 wc => ∃ (kq : Nat) (x81_20 : Bool), v81 = .bool x81_20 ∧ Aside0 (laws_FnTags.j0 kq t183 x81_20 t176 t186 = some r) ∧ Aside0 (kq ≤ k) ∧ Aside0 (Kd.R Kd.bool 4 wc w.heap.size (fun k_ => some k_ ≠ ((.slice Ao28 t180.length co28) : Value).ownBlock ∧ some k_ ≠ ((.slice Ao33 t186.length co33) : Value).ownBlock ∧ some k_ ≠ ((.slice Ao39 t191.length co39) : Value).ownBlock) (.slice Ao24 t176.length co24) t176) ∧ Aside0 (Kd.R Kd.bool 4 wc w.heap.size (fun k_ => some k_ ≠ ((.slice Ao24 t176.length co24) : Value).ownBlock ∧ some k_ ≠ ((.slice Ao33 t186.length co33) : Value).ownBlock ∧ some k_ ≠ ((.slice Ao39 t191.length co39) : Value).ownBlock) (.slice Ao28 t180.length co28) t180) ∧ Aside0 (Kd.R Kd.bool 4 wc w.heap.size (fun k_ => some k_ ≠ ((.slice Ao24 t176.length co24) : Value).ownBlock ∧ some k_ ≠ ((.slice Ao28 t180.length co28) : Value).ownBlock ∧ some k_ ≠ ((.slice Ao39 t191.length co39) : Value).ownBlock) (.slice Ao33 t186.length co33) t186) ∧ Aside0 (Kd.R Kd.bool 4 wc w.heap.size (fun k_ => some k_ ≠ ((.slice Ao24 t176.length co24) : Value).ownBlock ∧ some k_ ≠ ((.slice Ao28 t180.length co28) : Value).ownBlock ∧ some k_ ≠ ((.slice Ao33 t186.length co33) : Value).ownBlock) (.slice Ao39 t191.length co39) t191) ∧ Aside0 (wc.heap[gb179]? = some (.cells #[(.slice Ao24 t176.length co24)] 27 (0, 0))) ∧ Aside0 (wc.heap[gb184]? = some (.cells #[(.slice Ao28 t180.length co28)] 27 (0, 0))) ∧ Aside0 (wc.heap[gb190]? = some (.cells #[(.slice Ao33 t186.length co33)] 27 (0, 0))) ∧ Aside0 (wc.heap[gb195]? = some (.cells #[(.slice Ao39 t191.length co39)] 27 (0, 0))) ∧ Aside0 (Below w.heap.size w wc))
      case first =>
        have H := HC21.out
        clear HC21
        by_cases c44 : t189 = true
        · subst c44
          have H1 : (if t194 = true then (laws_FnTags.j0 k t183 true t176 t186) else (if (t180.length : Int) = (t176.length : Int) then (if t183 ≥ (t176.length : Int) then (laws_FnTags.j0 k t183 true t176 t186) else (if 0 ≤ t183 then (if t183 < (t176.length : Int) then (if rdOf false t176 t183 = true then (laws_FnTags.j0 k t183 true t176 t186) else (if t183 < (t180.length : Int) then (if rdOf false t180 t183 = true then ((impl_CountBusy.f k t180).bind fun t198 => ((impl_CountBusy.f k t176).bind fun t199 => (laws_FnTags.j0 k t183 (t198 != (wrap64 (t199 + 1))) t176 t186))) else (laws_FnTags.j0 k t183 true t176 t186)) else (none))) else (none)) else (none))) else (laws_FnTags.j0 k t183 true t176 t186))) = some r := by rw [if_pos rfl] at H; exact H
          clear H
          have H := H1
          clear H1
          by_cases c45 : t194 = true
          · subst c45
            have H1 : (laws_FnTags.j0 k t183 true t176 t186) = some r := by rw [if_pos rfl] at H; exact H
            clear H
            have H := H1
            clear H1
            have H' := Aside0.mk H
            clear H
            try go_wp2
            have n0_ : Aside0 (Kd.R Kd.bool 4 (w38.setCell ⟨gb195, 0, none⟩ (.slice Ao39 t191.length co39)) w.heap.size (fun k_ => some k_ ≠ (.slice Ao28 t180.length co28 : Value).ownBlock ∧ some k_ ≠ (.slice Ao33 t186.length co33 : Value).ownBlock ∧ some k_ ≠ (.slice Ao39 t191.length co39 : Value).ownBlock) (.slice Ao24 t176.length co24) t176) := ⟨by (with_reducible repeat (first | apply ra_ | apply rb_ | apply rc_)); exact Kd.R_mono (Kd.R_far (p := ⟨gb195, 0, none⟩) (Kd.R_types HO178.out BK195.out (by decide)) (fun _ hk => hk.2) (.slice Ao39 t191.length co39)) (fun _ hk => ⟨hk.1.1.1.2, ⟨hk.1.1.2, hk.1.2⟩⟩)⟩
            have n1_ : Aside0 (Kd.R Kd.bool 4 (w38.setCell ⟨gb195, 0, none⟩ (.slice Ao39 t191.length co39)) w.heap.size (fun k_ => some k_ ≠ (.slice Ao24 t176.length co24 : Value).ownBlock ∧ some k_ ≠ (.slice Ao33 t186.length co33 : Value).ownBlock ∧ some k_ ≠ (.slice Ao39 t191.length co39 : Value).ownBlock) (.slice Ao28 t180.length co28) t180) := ⟨by (with_reducible repeat (first | apply ra_ | apply rb_ | apply rc_)); exact Kd.R_mono (Kd.R_far (p := ⟨gb195, 0, none⟩) (Kd.R_types HO182.out BK195.out (by decide)) (fun _ hk => hk.2) (.slice Ao39 t191.length co39)) (fun _ hk => ⟨hk.1.1.1.2, ⟨hk.1.1.2, hk.1.2⟩⟩)⟩
            have n2_ : Aside0 (Kd.R Kd.bool 4 (w38.setCell ⟨gb195, 0, none⟩ (.slice Ao39 t191.length co39)) w.heap.size (fun k_ => some k_ ≠ (.slice Ao24 t176.length co24 : Value).ownBlock ∧ some k_ ≠ (.slice Ao28 t180.length co28 : Value).ownBlock ∧ some k_ ≠ (.slice Ao39 t191.length co39 : Value).ownBlock) (.slice Ao33 t186.length co33) t186) := ⟨by (with_reducible repeat (first | apply ra_ | apply rb_ | apply rc_)); exact Kd.R_mono (Kd.R_far (p := ⟨gb195, 0, none⟩) (Kd.R_types HO188.out BK195.out (by decide)) (fun _ hk => hk.2) (.slice Ao39 t191.length co39)) (fun _ hk => ⟨hk.1.1.1.2, ⟨hk.1.1.2, hk.1.2⟩⟩)⟩
            have n3_ : Aside0 (Kd.R Kd.bool 4 (w38.setCell ⟨gb195, 0, none⟩ (.slice Ao39 t191.length co39)) w.heap.size (fun k_ => some k_ ≠ (.slice Ao24 t176.length co24 : Value).ownBlock ∧ some k_ ≠ (.slice Ao28 t180.length co28 : Value).ownBlock ∧ some k_ ≠ (.slice Ao33 t186.length co33 : Value).ownBlock) (.slice Ao39 t191.length co39) t191) := ⟨by (with_reducible repeat (first | apply ra_ | apply rb_ | apply rc_)); exact Kd.R_mono (Kd.R_far (p := ⟨gb195, 0, none⟩) (Kd.R_types HO193.out BK195.out (by decide)) (fun _ hk => hk.2) (.slice Ao39 t191.length co39)) (fun _ hk => ⟨hk.1.1.1.2, ⟨hk.1.1.2, hk.1.2⟩⟩)⟩
            have n4_ : Aside0 ((w38.setCell ⟨gb195, 0, none⟩ (.slice Ao39 t191.length co39)).heap[gb179]? = some (.cells #[.slice Ao24 t176.length co24] 27 (0, 0))) := ⟨by (with_reducible repeat (first | refine ba_ ?_ _ | refine bb_ ?_ | refine bc_ ?_ _)); refine blk_far ?_ NB179_195.out _; (with_reducible repeat (first | refine ba_ ?_ _ | refine bb_ ?_ | refine bc_ ?_ _)); exact BK179.out⟩
            have n5_ : Aside0 ((w38.setCell ⟨gb195, 0, none⟩ (.slice Ao39 t191.length co39)).heap[gb184]? = some (.cells #[.slice Ao28 t180.length co28] 27 (0, 0))) := ⟨by (with_reducible repeat (first | refine ba_ ?_ _ | refine bb_ ?_ | refine bc_ ?_ _)); refine blk_far ?_ NB184_195.out _; (with_reducible repeat (first | refine ba_ ?_ _ | refine bb_ ?_ | refine bc_ ?_ _)); exact BK184.out⟩
            have n6_ : Aside0 ((w38.setCell ⟨gb195, 0, none⟩ (.slice Ao39 t191.length co39)).heap[gb190]? = some (.cells #[.slice Ao33 t186.length co33] 27 (0, 0))) := ⟨by (with_reducible repeat (first | refine ba_ ?_ _ | refine bb_ ?_ | refine bc_ ?_ _)); refine blk_far ?_ NB190_195.out _; (with_reducible repeat (first | refine ba_ ?_ _ | refine bb_ ?_ | refine bc_ ?_ _)); exact BK190.out⟩
            have n7_ : Aside0 ((w38.setCell ⟨gb195, 0, none⟩ (.slice Ao39 t191.length co39)).heap[gb195]? = some (.cells #[.slice Ao39 t191.length co39] 27 (0, 0))) := ⟨by (with_reducible repeat (first | refine ba_ ?_ _ | refine bb_ ?_ | refine bc_ ?_ _)); refine blk_put (cs := #[.slice none 0 0]) ?_ 0 _ rfl; (with_reducible repeat (first | refine ba_ ?_ _ | refine bb_ ?_ | refine bc_ ?_ _)); exact BK195.out⟩
            have n8_ : Aside0 (Below w.heap.size w (w38.setCell ⟨gb195, 0, none⟩ (.slice Ao39 t191.length co39))) := ⟨by repeat (first | (with_reducible first | exact HB.out | apply below_alloc | apply pw_below_drewN | apply below_drew1 | refine below_set ?_ GE179.out | refine below_set ?_ GE184.out | refine below_set ?_ GE190.out | refine below_set ?_ GE195.out) | exact HB.out)⟩
            (try clear HO178)
            (try clear HO182)
            (try clear HO188)
            (try clear HO193)
            (try clear BK179)
            (try clear BK184)
            (try clear BK190)
            (try clear BK195)
            (try clear HB)
            generalize (w38.setCell ⟨gb195, 0, none⟩ (.slice Ao39 t191.length co39)) = w46 at n0_ n1_ n2_ n3_ n4_ n5_ n6_ n7_ n8_ ⊢
            have HO178 := n0_
            have HO182 := n1_
            have HO188 := n2_
            have HO193 := n3_
            have BK179 := n4_
            have BK184 := n5_
            have BK190 := n6_
            have BK195 := n7_
            have HB := n8_
            clear n0_ n1_ n2_ n3_ n4_ n5_ n6_ n7_ n8_
            have n0_ := Aside0.mk (Kd.R_drew HO178.out)
            have n1_ := Aside0.mk (Kd.R_drew HO182.out)
            have n2_ := Aside0.mk (Kd.R_drew HO188.out)
            have n3_ := Aside0.mk (Kd.R_drew HO193.out)
            have n4_ := Aside0.mk (blk_drew BK179.out)
            have n5_ := Aside0.mk (blk_drew BK184.out)
            have n6_ := Aside0.mk (blk_drew BK190.out)
            have n7_ := Aside0.mk (blk_drew BK195.out)
            have n8_ := Aside0.mk (below_drew1 HB.out)
            clear HO178
            clear HO182
            clear HO188
            clear HO193
            clear BK179
            clear BK184
            clear BK190
            clear BK195
            clear HB
            have HO178 := n0_
            have HO182 := n1_
            have HO188 := n2_
            have HO193 := n3_
            have BK179 := n4_
            have BK184 := n5_
            have BK190 := n6_
            have BK195 := n7_
            have HB := n8_
            clear n0_ n1_ n2_ n3_ n4_ n5_ n6_ n7_ n8_
            refine start_ (n := 44) (S := fun w' => True) (ds := []) (bt_ 44 0) (by kernel_rfl) rfl (by kernel_rfl) trivial (fun hHeld => ?_); refine with_tabW laws_FnTags.tab9 laws_FnTags.bits9 (fun HT_ HW_ => ?_)
            generalize w46.drew = w47 at HO178 HO182 HO188 HO193 BK179 BK184 BK190 BK195 HB hHeld ⊢
            refine pure_ (i := 0) (N := some 38) (v := ?_) (a' := ?_) (bt_ 44 1) rfl rfl (any_of HT_.out (by kernel_rfl)) (fun _ _ _ h => h) (Or.inl ⟨by rfl, ?_⟩) ?_ ?_
            rotate_left; · intro w'; go_simp; with_reducible rfl
            rotate_left; · simp only [Act.put, sa_, sb_, sc_, i64_w, i32_w]; rfl
            refine pure_ (i := 1) (N := some 39) (v := ?_) (a' := ?_) (bt_ 44 3) rfl rfl (any_of HT_.out (by kernel_rfl)) (fun _ _ _ h => h) (Or.inl ⟨by rfl, ?_⟩) ?_ ?_
            rotate_left; · intro w'; go_simp; with_reducible rfl
            rotate_left; · simp only [Act.put, sa_, sb_, sc_, i64_w, i32_w]; rfl
            refine pure_ (i := 2) (N := some 40) (v := ?_) (a' := ?_) (bt_ 44 7) rfl rfl (any_of HT_.out (by kernel_rfl)) (fun _ _ _ h => h) (Or.inl ⟨by rfl, ?_⟩) ?_ ?_
            rotate_left; · intro w'; go_simp; with_reducible rfl
            rotate_left; · simp only [Act.put, sa_, sb_, sc_, i64_w, i32_w]; rfl
            refine pure_ (i := 3) (N := some 41) (v := ?_) (a' := ?_) (bt_ 44 0xf) rfl rfl (any_of HT_.out (by kernel_rfl)) (fun _ _ _ h => h) (Or.inl ⟨by rfl, ?_⟩) ?_ ?_
            rotate_left; · intro w'; go_simp; with_reducible rfl
            rotate_left; · simp only [Act.put, sa_, sb_, sc_, i64_w, i32_w]; rfl
            refine pure_ (i := 4) (N := some 42) (v := ?_) (a' := ?_) (bt_ 44 0x1f) rfl rfl (any_of HT_.out (by kernel_rfl)) (fun _ _ _ h => h) (Or.inl ⟨by rfl, ?_⟩) ?_ ?_
            rotate_left; · intro w'; go_simp; with_reducible rfl
            rotate_left; · simp only [Act.put, sa_, sb_, sc_, i64_w, i32_w]; rfl
            refine pure_ (i := 5) (N := some 43) (v := ?_) (a' := ?_) (bt_ 44 0x3f) rfl rfl (any_of HT_.out (by kernel_rfl)) (fun _ _ _ h => h) (Or.inl ⟨by rfl, ?_⟩) ?_ ?_
            rotate_left; · intro w'; go_simp; with_reducible rfl
            rotate_left; · simp only [Act.put, sa_, sb_, sc_, i64_w, i32_w]; rfl
            refine pure_ (i := 6) (N := some 44) (v := undef) (a' := ?_) (bt_ 44 0x7f) rfl rfl (any_of HT_.out (by kernel_rfl)) (fun _ _ _ h => h) (Or.inr ⟨by rfl, rfl⟩) ?_ ?_
            rotate_left; · simp only [Act.put, sa_, sb_, sc_, i64_w, i32_w]; rfl
            refine pure_ (i := 7) (N := some 45) (v := undef) (a' := ?_) (bt_ 44 0xff) rfl rfl (any_of HT_.out (by kernel_rfl)) (fun _ _ _ h => h) (Or.inr ⟨by rfl, rfl⟩) ?_ ?_
            rotate_left; · simp only [Act.put, sa_, sb_, sc_, i64_w, i32_w]; rfl
            refine pure_ (i := 8) (N := some 46) (v := undef) (a' := ?_) (bt_ 44 0x1ff) rfl rfl (any_of HT_.out (by kernel_rfl)) (fun _ _ _ h => h) (Or.inr ⟨by rfl, rfl⟩) ?_ ?_
            rotate_left; · simp only [Act.put, sa_, sb_, sc_, i64_w, i32_w]; rfl
            refine pure_ (i := 9) (N := some 47) (v := undef) (a' := ?_) (bt_ 44 0x3ff) rfl rfl (any_of HT_.out (by kernel_rfl)) (fun _ _ _ h => h) (Or.inr ⟨by rfl, rfl⟩) ?_ ?_
            rotate_left; · simp only [Act.put, sa_, sb_, sc_, i64_w, i32_w]; rfl
            refine pure_ (i := 10) (N := some 48) (v := undef) (a' := ?_) (bt_ 44 0x7ff) rfl rfl (any_of HT_.out (by kernel_rfl)) (fun _ _ _ h => h) (Or.inr ⟨by rfl, rfl⟩) ?_ ?_
            rotate_left; · simp only [Act.put, sa_, sb_, sc_, i64_w, i32_w]; rfl
            refine pure_ (i := 11) (N := some 49) (v := undef) (a' := ?_) (bt_ 44 0xfff) rfl rfl (any_of HT_.out (by kernel_rfl)) (fun _ _ _ h => h) (Or.inr ⟨by rfl, rfl⟩) ?_ ?_
            rotate_left; · simp only [Act.put, sa_, sb_, sc_, i64_w, i32_w]; rfl
            refine pure_ (i := 12) (N := some 50) (v := undef) (a' := ?_) (bt_ 44 0x1fff) rfl rfl (any_of HT_.out (by kernel_rfl)) (fun _ _ _ h => h) (Or.inr ⟨by rfl, rfl⟩) ?_ ?_
            rotate_left; · simp only [Act.put, sa_, sb_, sc_, i64_w, i32_w]; rfl
            refine pure_ (i := 13) (N := some 51) (v := ?_) (a' := ?_) (bt_ 44 0x3fff) rfl rfl (any_of HT_.out (by kernel_rfl)) (fun _ _ _ h => h) (Or.inl ⟨by rfl, ?_⟩) ?_ ?_
            rotate_left; · intro w'; go_simp; with_reducible rfl
            rotate_left; · simp only [Act.put, sa_, sb_, sc_, i64_w, i32_w]; rfl
            refine pure_ (i := 14) (N := some 52) (v := ?_) (a' := ?_) (bt_ 44 0x7fff) rfl rfl (any_of HT_.out (by kernel_rfl)) (fun _ _ _ h => h) (Or.inl ⟨by rfl, ?_⟩) ?_ ?_
            rotate_left; · intro w'; go_simp; with_reducible rfl
            rotate_left; · simp only [Act.put, sa_, sb_, sc_, i64_w, i32_w]; rfl
            refine pure_ (i := 15) (N := some 53) (v := undef) (a' := ?_) (bt_ 44 0xffff) rfl rfl (any_of HT_.out (by kernel_rfl)) (fun _ _ _ h => h) (Or.inr ⟨by rfl, rfl⟩) ?_ ?_
            rotate_left; · simp only [Act.put, sa_, sb_, sc_, i64_w, i32_w]; rfl
            refine pure_ (i := 16) (N := some 54) (v := undef) (a' := ?_) (bt_ 44 0x1ffff) rfl rfl (any_of HT_.out (by kernel_rfl)) (fun _ _ _ h => h) (Or.inr ⟨by rfl, rfl⟩) ?_ ?_
            rotate_left; · simp only [Act.put, sa_, sb_, sc_, i64_w, i32_w]; rfl
            refine pure_ (i := 17) (N := some 55) (v := undef) (a' := ?_) (bt_ 44 0x3ffff) rfl rfl (any_of HT_.out (by kernel_rfl)) (fun _ _ _ h => h) (Or.inr ⟨by rfl, rfl⟩) ?_ ?_
            rotate_left; · simp only [Act.put, sa_, sb_, sc_, i64_w, i32_w]; rfl
            refine pure_ (i := 18) (N := some 56) (v := undef) (a' := ?_) (bt_ 44 0x7ffff) rfl rfl (any_of HT_.out (by kernel_rfl)) (fun _ _ _ h => h) (Or.inr ⟨by rfl, rfl⟩) ?_ ?_
            rotate_left; · simp only [Act.put, sa_, sb_, sc_, i64_w, i32_w]; rfl
            refine pure_ (i := 19) (N := some 57) (v := undef) (a' := ?_) (bt_ 44 0xfffff) rfl rfl (any_of HT_.out (by kernel_rfl)) (fun _ _ _ h => h) (Or.inr ⟨by rfl, rfl⟩) ?_ ?_
            rotate_left; · simp only [Act.put, sa_, sb_, sc_, i64_w, i32_w]; rfl
            refine pure_ (i := 20) (N := some 58) (v := ?_) (a' := ?_) (bt_ 44 0x1fffff) rfl rfl (any_of HT_.out (by kernel_rfl)) (fun _ _ _ h => h) (Or.inl ⟨by rfl, ?_⟩) ?_ ?_
            rotate_left; · intro w'; go_simp; with_reducible rfl
            rotate_left; · simp only [Act.put, sa_, sb_, sc_, i64_w, i32_w]; rfl
            refine pure_ (i := 21) (N := some 59) (v := ?_) (a' := ?_) (bt_ 44 0x3fffff) rfl rfl (any_of HT_.out (by kernel_rfl)) (fun _ _ _ h => h) (Or.inl ⟨by rfl, ?_⟩) ?_ ?_
            rotate_left; · intro w'; go_simp; with_reducible rfl
            rotate_left; · simp only [Act.put, sa_, sb_, sc_, i64_w, i32_w]; rfl
            refine pure_ (i := 22) (N := some 60) (v := undef) (a' := ?_) (bt_ 44 0x7fffff) rfl rfl (any_of HT_.out (by kernel_rfl)) (fun _ _ _ h => h) (Or.inr ⟨by rfl, rfl⟩) ?_ ?_
            rotate_left; · simp only [Act.put, sa_, sb_, sc_, i64_w, i32_w]; rfl
            refine pure_ (i := 23) (N := some 61) (v := undef) (a' := ?_) (bt_ 44 0xffffff) rfl rfl (any_of HT_.out (by kernel_rfl)) (fun _ _ _ h => h) (Or.inr ⟨by rfl, rfl⟩) ?_ ?_
            rotate_left; · simp only [Act.put, sa_, sb_, sc_, i64_w, i32_w]; rfl
            refine pure_ (i := 24) (N := some 62) (v := undef) (a' := ?_) (bt_ 44 0x1ffffff) rfl rfl (any_of HT_.out (by kernel_rfl)) (fun _ _ _ h => h) (Or.inr ⟨by rfl, rfl⟩) ?_ ?_
            rotate_left; · simp only [Act.put, sa_, sb_, sc_, i64_w, i32_w]; rfl
            refine pure_ (i := 25) (N := some 63) (v := undef) (a' := ?_) (bt_ 44 0x3ffffff) rfl rfl (any_of HT_.out (by kernel_rfl)) (fun _ _ _ h => h) (Or.inr ⟨by rfl, rfl⟩) ?_ ?_
            rotate_left; · simp only [Act.put, sa_, sb_, sc_, i64_w, i32_w]; rfl
            refine pure_ (i := 26) (N := some 64) (v := undef) (a' := ?_) (bt_ 44 0x7ffffff) rfl rfl (any_of HT_.out (by kernel_rfl)) (fun _ _ _ h => h) (Or.inr ⟨by rfl, rfl⟩) ?_ ?_
            rotate_left; · simp only [Act.put, sa_, sb_, sc_, i64_w, i32_w]; rfl
            refine pure_ (i := 27) (N := some 65) (v := ?_) (a' := ?_) (bt_ 44 0xfffffff) rfl rfl (any_of HT_.out (by kernel_rfl)) (fun _ _ _ h => h) (Or.inl ⟨by rfl, ?_⟩) ?_ ?_
            rotate_left; · intro w'; go_simp; with_reducible rfl
            rotate_left; · simp only [Act.put, sa_, sb_, sc_, i64_w, i32_w]; rfl
            refine pure_ (i := 28) (N := some 66) (v := ?_) (a' := ?_) (bt_ 44 0x1fffffff) rfl rfl (any_of HT_.out (by kernel_rfl)) (fun _ _ _ h => h) (Or.inl ⟨by rfl, ?_⟩) ?_ ?_
            rotate_left; · intro w'; go_simp; with_reducible rfl
            rotate_left; · simp only [Act.put, sa_, sb_, sc_, i64_w, i32_w]; rfl
            refine pure_ (i := 29) (N := some 67) (v := undef) (a' := ?_) (bt_ 44 0x3fffffff) rfl rfl (any_of HT_.out (by kernel_rfl)) (fun _ _ _ h => h) (Or.inr ⟨by rfl, rfl⟩) ?_ ?_
            rotate_left; · simp only [Act.put, sa_, sb_, sc_, i64_w, i32_w]; rfl
            refine pure_ (i := 30) (N := some 68) (v := undef) (a' := ?_) (bt_ 44 0x7fffffff) rfl rfl (any_of HT_.out (by kernel_rfl)) (fun _ _ _ h => h) (Or.inr ⟨by rfl, rfl⟩) ?_ ?_
            rotate_left; · simp only [Act.put, sa_, sb_, sc_, i64_w, i32_w]; rfl
            refine pure_ (i := 31) (N := some 69) (v := undef) (a' := ?_) (bt_ 44 0xffffffff) rfl rfl (any_of HT_.out (by kernel_rfl)) (fun _ _ _ h => h) (Or.inr ⟨by rfl, rfl⟩) ?_ ?_
            rotate_left; · simp only [Act.put, sa_, sb_, sc_, i64_w, i32_w]; rfl
            refine pure_ (i := 32) (N := some 70) (v := undef) (a' := ?_) (bt_ 44 0x1ffffffff) rfl rfl (any_of HT_.out (by kernel_rfl)) (fun _ _ _ h => h) (Or.inr ⟨by rfl, rfl⟩) ?_ ?_
            rotate_left; · simp only [Act.put, sa_, sb_, sc_, i64_w, i32_w]; rfl
            refine pure_ (i := 33) (N := some 71) (v := undef) (a' := ?_) (bt_ 44 0x3ffffffff) rfl rfl (any_of HT_.out (by kernel_rfl)) (fun _ _ _ h => h) (Or.inr ⟨by rfl, rfl⟩) ?_ ?_
            rotate_left; · simp only [Act.put, sa_, sb_, sc_, i64_w, i32_w]; rfl
            refine pure_ (i := 34) (N := some 72) (v := undef) (a' := ?_) (bt_ 44 0x7ffffffff) rfl rfl (any_of HT_.out (by kernel_rfl)) (fun _ _ _ h => h) (Or.inr ⟨by rfl, rfl⟩) ?_ ?_
            rotate_left; · simp only [Act.put, sa_, sb_, sc_, i64_w, i32_w]; rfl
            refine pure_ (i := 35) (N := some 73) (v := ?_) (a' := ?_) (bt_ 44 0xfffffffff) rfl rfl (any_of HT_.out (by kernel_rfl)) (fun _ _ _ h => h) (Or.inl ⟨by rfl, ?_⟩) ?_ ?_
            rotate_left; · intro w'; go_simp; with_reducible rfl
            rotate_left; · simp only [Act.put, sa_, sb_, sc_, i64_w, i32_w]; rfl
            refine pure_ (i := 36) (N := some 74) (v := ?_) (a' := ?_) (bt_ 44 0x1fffffffff) rfl rfl (any_of HT_.out (by kernel_rfl)) (fun _ _ _ h => h) (Or.inl ⟨by rfl, ?_⟩) ?_ ?_
            rotate_left; · intro w'; go_simp; with_reducible rfl
            rotate_left; · simp only [Act.put, sa_, sb_, sc_, i64_w, i32_w]; rfl
            refine pure_ (i := 37) (N := some 75) (v := undef) (a' := ?_) (bt_ 44 0x3fffffffff) rfl rfl (any_of HT_.out (by kernel_rfl)) (fun _ _ _ h => h) (Or.inr ⟨by rfl, rfl⟩) ?_ ?_
            rotate_left; · simp only [Act.put, sa_, sb_, sc_, i64_w, i32_w]; rfl
            refine pure_ (i := 38) (N := some 76) (v := undef) (a' := ?_) (bt_ 44 0x7fffffffff) rfl rfl (any_of HT_.out (by kernel_rfl)) (fun _ _ _ h => h) (Or.inr ⟨by rfl, rfl⟩) ?_ ?_
            rotate_left; · simp only [Act.put, sa_, sb_, sc_, i64_w, i32_w]; rfl
            refine pure_ (i := 39) (N := some 77) (v := undef) (a' := ?_) (bt_ 44 0xffffffffff) rfl rfl (any_of HT_.out (by kernel_rfl)) (fun _ _ _ h => h) (Or.inr ⟨by rfl, rfl⟩) ?_ ?_
            rotate_left; · simp only [Act.put, sa_, sb_, sc_, i64_w, i32_w]; rfl
            refine pure_ (i := 40) (N := some 78) (v := undef) (a' := ?_) (bt_ 44 0x1ffffffffff) rfl rfl (any_of HT_.out (by kernel_rfl)) (fun _ _ _ h => h) (Or.inr ⟨by rfl, rfl⟩) ?_ ?_
            rotate_left; · simp only [Act.put, sa_, sb_, sc_, i64_w, i32_w]; rfl
            refine pure_ (i := 41) (N := some 79) (v := undef) (a' := ?_) (bt_ 44 0x3ffffffffff) rfl rfl (any_of HT_.out (by kernel_rfl)) (fun _ _ _ h => h) (Or.inr ⟨by rfl, rfl⟩) ?_ ?_
            rotate_left; · simp only [Act.put, sa_, sb_, sc_, i64_w, i32_w]; rfl
            refine pure_ (i := 42) (N := some 80) (v := undef) (a' := ?_) (bt_ 44 0x7ffffffffff) rfl rfl (any_of HT_.out (by kernel_rfl)) (fun _ _ _ h => h) (Or.inr ⟨by rfl, rfl⟩) ?_ ?_
            rotate_left; · simp only [Act.put, sa_, sb_, sc_, i64_w, i32_w]; rfl
            refine pure_ (i := 43) (N := some 81) (v := ?_) (a' := ?_) (bt_ 44 0xfffffffffff) rfl rfl (any_of HT_.out (by kernel_rfl)) (fun _ _ _ h => h) (Or.inl ⟨by rfl, ?_⟩) ?_ ?_
            rotate_left; · intro w'; go_simp; with_reducible rfl
            rotate_left; · simp only [Act.put, sa_, sb_, sc_, i64_w, i32_w]; rfl
            refine done_ (done_of HT_.out (by kernel_rfl)) ?_
            try go_wp2
            go_meet
            case rel => exact ⟨_, (true), (by first | rfl | (simp; done) | (simp [*]; done)), H', ⟨by first | omega | exact Nat.le_refl _⟩, ⟨by (with_reducible repeat (first | apply ra_ | apply rb_ | apply rc_)); exact HO178.out⟩, ⟨by (with_reducible repeat (first | apply ra_ | apply rb_ | apply rc_)); exact HO182.out⟩, ⟨by (with_reducible repeat (first | apply ra_ | apply rb_ | apply rc_)); exact HO188.out⟩, ⟨by (with_reducible repeat (first | apply ra_ | apply rb_ | apply rc_)); exact HO193.out⟩, ⟨by (with_reducible repeat (first | refine ba_ ?_ _ | refine bb_ ?_ | refine bc_ ?_ _)); exact BK179.out⟩, ⟨by (with_reducible repeat (first | refine ba_ ?_ _ | refine bb_ ?_ | refine bc_ ?_ _)); exact BK184.out⟩, ⟨by (with_reducible repeat (first | refine ba_ ?_ _ | refine bb_ ?_ | refine bc_ ?_ _)); exact BK190.out⟩, ⟨by (with_reducible repeat (first | refine ba_ ?_ _ | refine bb_ ?_ | refine bc_ ?_ _)); exact BK195.out⟩, ⟨by repeat (first | (with_reducible first | exact HB.out | apply below_alloc | apply pw_below_drewN | apply below_drew1 | refine below_set ?_ GE179.out | refine below_set ?_ GE184.out | refine below_set ?_ GE190.out | refine below_set ?_ GE195.out) | exact HB.out)⟩⟩
          · replace c45 := Bool.eq_false_iff.mpr c45
            subst c45
            have H1 : (if (t180.length : Int) = (t176.length : Int) then (if t183 ≥ (t176.length : Int) then (laws_FnTags.j0 k t183 true t176 t186) else (if 0 ≤ t183 then (if t183 < (t176.length : Int) then (if rdOf false t176 t183 = true then (laws_FnTags.j0 k t183 true t176 t186) else (if t183 < (t180.length : Int) then (if rdOf false t180 t183 = true then ((impl_CountBusy.f k t180).bind fun t198 => ((impl_CountBusy.f k t176).bind fun t199 => (laws_FnTags.j0 k t183 (t198 != (wrap64 (t199 + 1))) t176 t186))) else (laws_FnTags.j0 k t183 true t176 t186)) else (none))) else (none)) else (none))) else (laws_FnTags.j0 k t183 true t176 t186)) = some r := by rw [if_neg (show ¬ (false = true) by decide)] at H; exact H
            clear H
            have H := H1
            clear H1
            by_cases c48 : (t180.length : Int) = (t176.length : Int)
            · rw [if_pos c48] at H
              have c48b0 : ((t180.length : Int) == (t176.length : Int)) = true := beq_iff_eq.mpr c48
              have c48b1 : ((t180.length : Int) != (t176.length : Int)) = false := bne_eq_false_iff_eq.mpr c48
              have c48b2 : (t180.length == t176.length) = true := by first | simpa using c48 | (simp at c48 ⊢; omega)
              clear c48
              (first | rw [c48b0] | (simp only [i64_w, i32_w]; rw [c48b0]) | skip)
              by_cases c49 : t183 ≥ (t176.length : Int)
              · rw [if_pos c49] at H
                have c49b0 : decide ((t176.length : Int) ≤ t183) = true := decide_eq_true c49
                clear c49
                have H' := Aside0.mk H
                clear H
                try go_wp2
                have n0_ : Aside0 (Kd.R Kd.bool 4 (w38.setCell ⟨gb195, 0, none⟩ (.slice Ao39 t191.length co39)) w.heap.size (fun k_ => some k_ ≠ (.slice Ao28 t180.length co28 : Value).ownBlock ∧ some k_ ≠ (.slice Ao33 t186.length co33 : Value).ownBlock ∧ some k_ ≠ (.slice Ao39 t191.length co39 : Value).ownBlock) (.slice Ao24 t176.length co24) t176) := ⟨by (with_reducible repeat (first | apply ra_ | apply rb_ | apply rc_)); exact Kd.R_mono (Kd.R_far (p := ⟨gb195, 0, none⟩) (Kd.R_types HO178.out BK195.out (by decide)) (fun _ hk => hk.2) (.slice Ao39 t191.length co39)) (fun _ hk => ⟨hk.1.1.1.2, ⟨hk.1.1.2, hk.1.2⟩⟩)⟩
                have n1_ : Aside0 (Kd.R Kd.bool 4 (w38.setCell ⟨gb195, 0, none⟩ (.slice Ao39 t191.length co39)) w.heap.size (fun k_ => some k_ ≠ (.slice Ao24 t176.length co24 : Value).ownBlock ∧ some k_ ≠ (.slice Ao33 t186.length co33 : Value).ownBlock ∧ some k_ ≠ (.slice Ao39 t191.length co39 : Value).ownBlock) (.slice Ao28 t180.length co28) t180) := ⟨by (with_reducible repeat (first | apply ra_ | apply rb_ | apply rc_)); exact Kd.R_mono (Kd.R_far (p := ⟨gb195, 0, none⟩) (Kd.R_types HO182.out BK195.out (by decide)) (fun _ hk => hk.2) (.slice Ao39 t191.length co39)) (fun _ hk => ⟨hk.1.1.1.2, ⟨hk.1.1.2, hk.1.2⟩⟩)⟩
                have n2_ : Aside0 (Kd.R Kd.bool 4 (w38.setCell ⟨gb195, 0, none⟩ (.slice Ao39 t191.length co39)) w.heap.size (fun k_ => some k_ ≠ (.slice Ao24 t176.length co24 : Value).ownBlock ∧ some k_ ≠ (.slice Ao28 t180.length co28 : Value).ownBlock ∧ some k_ ≠ (.slice Ao39 t191.length co39 : Value).ownBlock) (.slice Ao33 t186.length co33) t186) := ⟨by (with_reducible repeat (first | apply ra_ | apply rb_ | apply rc_)); exact Kd.R_mono (Kd.R_far (p := ⟨gb195, 0, none⟩) (Kd.R_types HO188.out BK195.out (by decide)) (fun _ hk => hk.2) (.slice Ao39 t191.length co39)) (fun _ hk => ⟨hk.1.1.1.2, ⟨hk.1.1.2, hk.1.2⟩⟩)⟩
                have n3_ : Aside0 (Kd.R Kd.bool 4 (w38.setCell ⟨gb195, 0, none⟩ (.slice Ao39 t191.length co39)) w.heap.size (fun k_ => some k_ ≠ (.slice Ao24 t176.length co24 : Value).ownBlock ∧ some k_ ≠ (.slice Ao28 t180.length co28 : Value).ownBlock ∧ some k_ ≠ (.slice Ao33 t186.length co33 : Value).ownBlock) (.slice Ao39 t191.length co39) t191) := ⟨by (with_reducible repeat (first | apply ra_ | apply rb_ | apply rc_)); exact Kd.R_mono (Kd.R_far (p := ⟨gb195, 0, none⟩) (Kd.R_types HO193.out BK195.out (by decide)) (fun _ hk => hk.2) (.slice Ao39 t191.length co39)) (fun _ hk => ⟨hk.1.1.1.2, ⟨hk.1.1.2, hk.1.2⟩⟩)⟩
                have n4_ : Aside0 ((w38.setCell ⟨gb195, 0, none⟩ (.slice Ao39 t191.length co39)).heap[gb179]? = some (.cells #[.slice Ao24 t176.length co24] 27 (0, 0))) := ⟨by (with_reducible repeat (first | refine ba_ ?_ _ | refine bb_ ?_ | refine bc_ ?_ _)); refine blk_far ?_ NB179_195.out _; (with_reducible repeat (first | refine ba_ ?_ _ | refine bb_ ?_ | refine bc_ ?_ _)); exact BK179.out⟩
                have n5_ : Aside0 ((w38.setCell ⟨gb195, 0, none⟩ (.slice Ao39 t191.length co39)).heap[gb184]? = some (.cells #[.slice Ao28 t180.length co28] 27 (0, 0))) := ⟨by (with_reducible repeat (first | refine ba_ ?_ _ | refine bb_ ?_ | refine bc_ ?_ _)); refine blk_far ?_ NB184_195.out _; (with_reducible repeat (first | refine ba_ ?_ _ | refine bb_ ?_ | refine bc_ ?_ _)); exact BK184.out⟩
                have n6_ : Aside0 ((w38.setCell ⟨gb195, 0, none⟩ (.slice Ao39 t191.length co39)).heap[gb190]? = some (.cells #[.slice Ao33 t186.length co33] 27 (0, 0))) := ⟨by (with_reducible repeat (first | refine ba_ ?_ _ | refine bb_ ?_ | refine bc_ ?_ _)); refine blk_far ?_ NB190_195.out _; (with_reducible repeat (first | refine ba_ ?_ _ | refine bb_ ?_ | refine bc_ ?_ _)); exact BK190.out⟩
                have n7_ : Aside0 ((w38.setCell ⟨gb195, 0, none⟩ (.slice Ao39 t191.length co39)).heap[gb195]? = some (.cells #[.slice Ao39 t191.length co39] 27 (0, 0))) := ⟨by (with_reducible repeat (first | refine ba_ ?_ _ | refine bb_ ?_ | refine bc_ ?_ _)); refine blk_put (cs := #[.slice none 0 0]) ?_ 0 _ rfl; (with_reducible repeat (first | refine ba_ ?_ _ | refine bb_ ?_ | refine bc_ ?_ _)); exact BK195.out⟩
                have n8_ : Aside0 (Below w.heap.size w (w38.setCell ⟨gb195, 0, none⟩ (.slice Ao39 t191.length co39))) := ⟨by repeat (first | (with_reducible first | exact HB.out | apply below_alloc | apply pw_below_drewN | apply below_drew1 | refine below_set ?_ GE179.out | refine below_set ?_ GE184.out | refine below_set ?_ GE190.out | refine below_set ?_ GE195.out) | exact HB.out)⟩
                (try clear HO178)
                (try clear HO182)
                (try clear HO188)
                (try clear HO193)
                (try clear BK179)
                (try clear BK184)
                (try clear BK190)
                (try clear BK195)
                (try clear HB)
                generalize (w38.setCell ⟨gb195, 0, none⟩ (.slice Ao39 t191.length co39)) = w50 at n0_ n1_ n2_ n3_ n4_ n5_ n6_ n7_ n8_ ⊢
                have HO178 := n0_
                have HO182 := n1_
                have HO188 := n2_
                have HO193 := n3_
                have BK179 := n4_
                have BK184 := n5_
                have BK190 := n6_
                have BK195 := n7_
                have HB := n8_
                clear n0_ n1_ n2_ n3_ n4_ n5_ n6_ n7_ n8_
                have n0_ := Aside0.mk (Kd.R_drew HO178.out)
                have n1_ := Aside0.mk (Kd.R_drew HO182.out)
                have n2_ := Aside0.mk (Kd.R_drew HO188.out)
                have n3_ := Aside0.mk (Kd.R_drew HO193.out)
                have n4_ := Aside0.mk (blk_drew BK179.out)
                have n5_ := Aside0.mk (blk_drew BK184.out)
                have n6_ := Aside0.mk (blk_drew BK190.out)
                have n7_ := Aside0.mk (blk_drew BK195.out)
                have n8_ := Aside0.mk (below_drew1 HB.out)
                clear HO178
                clear HO182
                clear HO188
                clear HO193
                clear BK179
                clear BK184
                clear BK190
                clear BK195
                clear HB
                have HO178 := n0_
                have HO182 := n1_
                have HO188 := n2_
                have HO193 := n3_
                have BK179 := n4_
                have BK184 := n5_
                have BK190 := n6_
                have BK195 := n7_
                have HB := n8_
                clear n0_ n1_ n2_ n3_ n4_ n5_ n6_ n7_ n8_
                refine start_ (n := 44) (S := fun w' => w'.cell? ⟨gb184, 0, none⟩ = some (.slice Ao28 t180.length co28) ∧ w'.cell? ⟨gb179, 0, none⟩ = some (.slice Ao24 t176.length co24)) (ds := []) (bt_ 44 0) (by kernel_rfl) rfl (by kernel_rfl) ⟨(blk_cell BK184.out 0).trans rfl, (blk_cell BK179.out 0).trans rfl⟩ (fun hHeld => ?_); refine with_tabW laws_FnTags.tab9 laws_FnTags.bits9 (fun HT_ HW_ => ?_)
                generalize w50.drew = w51 at HO178 HO182 HO188 HO193 BK179 BK184 BK190 BK195 HB hHeld ⊢
                refine pure_ (i := 0) (N := some 38) (v := ?_) (a' := ?_) (bt_ 44 1) rfl rfl (any_of HT_.out (by kernel_rfl)) (fun _ _ _ h => h) (Or.inl ⟨by rfl, ?_⟩) ?_ ?_
                rotate_left; · intro w'; go_simp; with_reducible rfl
                rotate_left; · simp only [Act.put, sa_, sb_, sc_, i64_w, i32_w]; rfl
                refine pure_ (i := 1) (N := some 39) (v := ?_) (a' := ?_) (bt_ 44 3) rfl rfl (any_of HT_.out (by kernel_rfl)) (fun _ _ _ h => h) (Or.inl ⟨by rfl, ?_⟩) ?_ ?_
                rotate_left; · intro w'; go_simp; with_reducible rfl
                rotate_left; · simp only [Act.put, sa_, sb_, sc_, i64_w, i32_w]; rfl
                refine pure_ (i := 2) (N := some 40) (v := ?_) (a' := ?_) (bt_ 44 7) rfl rfl (any_of HT_.out (by kernel_rfl)) (fun _ _ _ h => h) (Or.inl ⟨by rfl, ?_⟩) ?_ ?_
                rotate_left; · intro w'; go_simp; with_reducible rfl
                rotate_left; · simp only [Act.put, sa_, sb_, sc_, i64_w, i32_w]; rfl
                refine pure_ (i := 3) (N := some 41) (v := ?_) (a' := ?_) (bt_ 44 0xf) rfl rfl (any_of HT_.out (by kernel_rfl)) (fun _ _ _ h => h) (Or.inl ⟨by rfl, ?_⟩) ?_ ?_
                rotate_left; · intro w'; go_simp; with_reducible rfl
                rotate_left; · simp only [Act.put, sa_, sb_, sc_, i64_w, i32_w]; rfl
                refine pure_ (i := 4) (N := some 42) (v := ?_) (a' := ?_) (bt_ 44 0x1f) rfl rfl (any_of HT_.out (by kernel_rfl)) (fun _ _ _ h => h) (Or.inl ⟨by rfl, ?_⟩) ?_ ?_
                rotate_left; · intro w'; go_simp; with_reducible rfl
                rotate_left; · simp only [Act.put, sa_, sb_, sc_, i64_w, i32_w]; rfl
                refine pure_ (i := 5) (N := some 43) (v := ?_) (a' := ?_) (bt_ 44 0x3f) rfl rfl (any_of HT_.out (by kernel_rfl)) (fun _ _ _ h => h) (Or.inl ⟨by rfl, ?_⟩) ?_ ?_
                rotate_left; · intro w'; go_simp; with_reducible rfl
                rotate_left; · simp only [Act.put, sa_, sb_, sc_, i64_w, i32_w]; rfl
                refine pure_ (i := 6) (N := some 44) (v := ?_) (a' := ?_) (bt_ 44 0x7f) rfl rfl (any_of HT_.out (by kernel_rfl)) (fun _ _ _ h => h) (Or.inl ⟨by rfl, ?_⟩) ?_ ?_
                rotate_left; · intro w'; go_simp; with_reducible rfl
                rotate_left; · simp only [Act.put, sa_, sb_, sc_, i64_w, i32_w]; rfl
                refine pure_ (i := 9) (N := some 47) (v := ?_) (a' := ?_) (bt_ 44 0x27f) rfl rfl (any_of HT_.out (by kernel_rfl)) (fun _ _ _ h => h) (Or.inl ⟨by rfl, ?_⟩) ?_ ?_
                rotate_left; · intro w'; go_simp; with_reducible rfl
                rotate_left; · simp only [Act.put, sa_, sb_, sc_, i64_w, i32_w]; rfl
                refine take_ (i := 7) (N := some 45) (v := ?_) (a' := ?_) (bt_ 44 0x2ff) rfl rfl (take_ofW HT_.out HW_.out (by kernel_rfl)) (fun _ _ _ h => h) (Or.inl ⟨by rfl, ?_⟩) hHeld ?_ ?_
                rotate_left
                · rintro w' ⟨s0, s1⟩
                  go_simp
                  with_reducible rfl
                rotate_left; · simp only [Act.put, sa_, sb_, sc_, i64_w, i32_w]; rfl
                refine pure_ (i := 8) (N := some 46) (v := ?_) (a' := ?_) (bt_ 44 0x3ff) rfl rfl (any_of HT_.out (by kernel_rfl)) (fun _ _ _ h => h) (Or.inl ⟨by rfl, ?_⟩) ?_ ?_
                rotate_left; · intro w'; go_simp; with_reducible rfl
                rotate_left; · simp only [Act.put, sa_, sb_, sc_, i64_w, i32_w]; rfl
                refine take_ (i := 10) (N := some 48) (v := ?_) (a' := ?_) (bt_ 44 0x7ff) rfl rfl (take_ofW HT_.out HW_.out (by kernel_rfl)) (fun _ _ _ h => h) (Or.inl ⟨by rfl, ?_⟩) hHeld ?_ ?_
                rotate_left
                · rintro w' ⟨s0, s1⟩
                  go_simp
                  with_reducible rfl
                rotate_left; · simp only [Act.put, sa_, sb_, sc_, i64_w, i32_w]; rfl
                refine pure_ (i := 11) (N := some 49) (v := ?_) (a' := ?_) (bt_ 44 0xfff) rfl rfl (any_of HT_.out (by kernel_rfl)) (fun _ _ _ h => h) (Or.inl ⟨by rfl, ?_⟩) ?_ ?_
                rotate_left; · intro w'; go_simp; with_reducible rfl
                rotate_left; · simp only [Act.put, sa_, sb_, sc_, i64_w, i32_w]; rfl
                refine pure_ (i := 12) (N := some 50) (v := ?_) (a' := ?_) (bt_ 44 0x1fff) rfl rfl (any_of HT_.out (by kernel_rfl)) (fun _ _ _ h => h) (Or.inl ⟨by rfl, ?_⟩) ?_ ?_
                rotate_left; · intro w'; go_simp; with_reducible rfl
                rotate_left; · simp only [Act.put, sa_, sb_, sc_, i64_w, i32_w]; rfl
                refine pure_ (i := 13) (N := some 51) (v := ?_) (a' := ?_) (bt_ 44 0x3fff) rfl rfl (any_of HT_.out (by kernel_rfl)) (fun _ _ _ h => h) (Or.inl ⟨by rfl, ?_⟩) ?_ ?_
                rotate_left; · intro w'; go_simp; with_reducible rfl
                rotate_left; · simp only [Act.put, sa_, sb_, sc_, i64_w, i32_w]; rfl
                refine pure_ (i := 14) (N := some 52) (v := ?_) (a' := ?_) (bt_ 44 0x7fff) rfl rfl (any_of HT_.out (by kernel_rfl)) (fun _ _ _ h => h) (Or.inl ⟨by rfl, ?_⟩) ?_ ?_
                rotate_left; · intro w'; go_simp; with_reducible rfl
                rotate_left; · simp only [Act.put, sa_, sb_, sc_, i64_w, i32_w]; rfl
                refine pure_ (i := 15) (N := some 53) (v := ?_) (a' := ?_) (bt_ 44 0xffff) rfl rfl (any_of HT_.out (by kernel_rfl)) (fun _ _ _ h => h) (Or.inl ⟨by rfl, ?_⟩) ?_ ?_
                rotate_left; · intro w'; go_simp; with_reducible rfl
                rotate_left; · simp only [Act.put, sa_, sb_, sc_, i64_w, i32_w]; rfl
                refine pure_ (i := 16) (N := some 54) (v := ?_) (a' := ?_) (bt_ 44 0x1ffff) rfl rfl (any_of HT_.out (by kernel_rfl)) (fun _ _ _ h => h) (Or.inl ⟨by rfl, ?_⟩) ?_ ?_
                rotate_left; · intro w'; go_simp; with_reducible rfl
                rotate_left; · simp only [Act.put, sa_, sb_, sc_, i64_w, i32_w]; rfl
                refine take_ (i := 17) (N := some 55) (v := ?_) (a' := ?_) (bt_ 44 0x3ffff) rfl rfl (take_ofW HT_.out HW_.out (by kernel_rfl)) (fun _ _ _ h => h) (Or.inl ⟨by rfl, ?_⟩) hHeld ?_ ?_
                rotate_left
                · rintro w' ⟨s0, s1⟩
                  go_simp
                  with_reducible rfl
                rotate_left; · simp only [Act.put, sa_, sb_, sc_, i64_w, i32_w]; rfl
                refine pure_ (i := 18) (N := some 56) (v := ?_) (a' := ?_) (bt_ 44 0x7ffff) rfl rfl (any_of HT_.out (by kernel_rfl)) (fun _ _ _ h => h) (Or.inl ⟨by rfl, ?_⟩) ?_ ?_
                rotate_left; · intro w'; go_simp; with_reducible rfl
                rotate_left; · simp only [Act.put, sa_, sb_, sc_, i64_w, i32_w]; rfl
                refine pure_ (i := 19) (N := some 57) (v := ?_) (a' := ?_) (bt_ 44 0xfffff) rfl rfl (any_of HT_.out (by kernel_rfl)) (fun _ _ _ h => h) (Or.inl ⟨by rfl, ?_⟩) ?_ ?_
                rotate_left; · intro w'; go_simp; with_reducible rfl
                rotate_left; · simp only [Act.put, sa_, sb_, sc_, i64_w, i32_w]; rfl
                refine pure_ (i := 20) (N := some 58) (v := ?_) (a' := ?_) (bt_ 44 0x1fffff) rfl rfl (any_of HT_.out (by kernel_rfl)) (fun _ _ _ h => h) (Or.inl ⟨by rfl, ?_⟩) ?_ ?_
                rotate_left; · intro w'; go_simp; with_reducible rfl
                rotate_left; · simp only [Act.put, sa_, sb_, sc_, i64_w, i32_w]; rfl
                refine pure_ (i := 21) (N := some 59) (v := ?_) (a' := ?_) (bt_ 44 0x3fffff) rfl rfl (any_of HT_.out (by kernel_rfl)) (fun _ _ _ h => h) (Or.inl ⟨by rfl, ?_⟩) ?_ ?_
                rotate_left; · intro w'; go_simp; with_reducible rfl
                rotate_left; · simp only [Act.put, sa_, sb_, sc_, i64_w, i32_w]; rfl
                refine pure_ (i := 22) (N := some 60) (v := undef) (a' := ?_) (bt_ 44 0x7fffff) rfl rfl (any_of HT_.out (by kernel_rfl)) (fun _ _ _ h => h) (Or.inr ⟨by rfl, rfl⟩) ?_ ?_
                rotate_left; · simp only [Act.put, sa_, sb_, sc_, i64_w, i32_w]; rfl
                refine pure_ (i := 23) (N := some 61) (v := undef) (a' := ?_) (bt_ 44 0xffffff) rfl rfl (any_of HT_.out (by kernel_rfl)) (fun _ _ _ h => h) (Or.inr ⟨by rfl, rfl⟩) ?_ ?_
                rotate_left; · simp only [Act.put, sa_, sb_, sc_, i64_w, i32_w]; rfl
                refine pure_ (i := 24) (N := some 62) (v := undef) (a' := ?_) (bt_ 44 0x1ffffff) rfl rfl (any_of HT_.out (by kernel_rfl)) (fun _ _ _ h => h) (Or.inr ⟨by rfl, rfl⟩) ?_ ?_
                rotate_left; · simp only [Act.put, sa_, sb_, sc_, i64_w, i32_w]; rfl
                refine pure_ (i := 25) (N := some 63) (v := undef) (a' := ?_) (bt_ 44 0x3ffffff) rfl rfl (any_of HT_.out (by kernel_rfl)) (fun _ _ _ h => h) (Or.inr ⟨by rfl, rfl⟩) ?_ ?_
                rotate_left; · simp only [Act.put, sa_, sb_, sc_, i64_w, i32_w]; rfl
                refine pure_ (i := 26) (N := some 64) (v := undef) (a' := ?_) (bt_ 44 0x7ffffff) rfl rfl (any_of HT_.out (by kernel_rfl)) (fun _ _ _ h => h) (Or.inr ⟨by rfl, rfl⟩) ?_ ?_
                rotate_left; · simp only [Act.put, sa_, sb_, sc_, i64_w, i32_w]; rfl
                refine pure_ (i := 27) (N := some 65) (v := ?_) (a' := ?_) (bt_ 44 0xfffffff) rfl rfl (any_of HT_.out (by kernel_rfl)) (fun _ _ _ h => h) (Or.inl ⟨by rfl, ?_⟩) ?_ ?_
                rotate_left; · intro w'; go_simp; with_reducible rfl
                rotate_left; · simp only [Act.put, sa_, sb_, sc_, i64_w, i32_w]; rfl
                refine pure_ (i := 28) (N := some 66) (v := ?_) (a' := ?_) (bt_ 44 0x1fffffff) rfl rfl (any_of HT_.out (by kernel_rfl)) (fun _ _ _ h => h) (Or.inl ⟨by rfl, ?_⟩) ?_ ?_
                rotate_left; · intro w'; go_simp; with_reducible rfl
                rotate_left; · simp only [Act.put, sa_, sb_, sc_, i64_w, i32_w]; rfl
                refine pure_ (i := 29) (N := some 67) (v := undef) (a' := ?_) (bt_ 44 0x3fffffff) rfl rfl (any_of HT_.out (by kernel_rfl)) (fun _ _ _ h => h) (Or.inr ⟨by rfl, rfl⟩) ?_ ?_
                rotate_left; · simp only [Act.put, sa_, sb_, sc_, i64_w, i32_w]; rfl
                refine pure_ (i := 30) (N := some 68) (v := undef) (a' := ?_) (bt_ 44 0x7fffffff) rfl rfl (any_of HT_.out (by kernel_rfl)) (fun _ _ _ h => h) (Or.inr ⟨by rfl, rfl⟩) ?_ ?_
                rotate_left; · simp only [Act.put, sa_, sb_, sc_, i64_w, i32_w]; rfl
                refine pure_ (i := 31) (N := some 69) (v := undef) (a' := ?_) (bt_ 44 0xffffffff) rfl rfl (any_of HT_.out (by kernel_rfl)) (fun _ _ _ h => h) (Or.inr ⟨by rfl, rfl⟩) ?_ ?_
                rotate_left; · simp only [Act.put, sa_, sb_, sc_, i64_w, i32_w]; rfl
                refine pure_ (i := 32) (N := some 70) (v := undef) (a' := ?_) (bt_ 44 0x1ffffffff) rfl rfl (any_of HT_.out (by kernel_rfl)) (fun _ _ _ h => h) (Or.inr ⟨by rfl, rfl⟩) ?_ ?_
                rotate_left; · simp only [Act.put, sa_, sb_, sc_, i64_w, i32_w]; rfl
                refine pure_ (i := 33) (N := some 71) (v := undef) (a' := ?_) (bt_ 44 0x3ffffffff) rfl rfl (any_of HT_.out (by kernel_rfl)) (fun _ _ _ h => h) (Or.inr ⟨by rfl, rfl⟩) ?_ ?_
                rotate_left; · simp only [Act.put, sa_, sb_, sc_, i64_w, i32_w]; rfl
                refine pure_ (i := 34) (N := some 72) (v := undef) (a' := ?_) (bt_ 44 0x7ffffffff) rfl rfl (any_of HT_.out (by kernel_rfl)) (fun _ _ _ h => h) (Or.inr ⟨by rfl, rfl⟩) ?_ ?_
                rotate_left; · simp only [Act.put, sa_, sb_, sc_, i64_w, i32_w]; rfl
                refine pure_ (i := 35) (N := some 73) (v := ?_) (a' := ?_) (bt_ 44 0xfffffffff) rfl rfl (any_of HT_.out (by kernel_rfl)) (fun _ _ _ h => h) (Or.inl ⟨by rfl, ?_⟩) ?_ ?_
                rotate_left; · intro w'; go_simp; with_reducible rfl
                rotate_left; · simp only [Act.put, sa_, sb_, sc_, i64_w, i32_w]; rfl
                refine pure_ (i := 36) (N := some 74) (v := ?_) (a' := ?_) (bt_ 44 0x1fffffffff) rfl rfl (any_of HT_.out (by kernel_rfl)) (fun _ _ _ h => h) (Or.inl ⟨by rfl, ?_⟩) ?_ ?_
                rotate_left; · intro w'; go_simp; with_reducible rfl
                rotate_left; · simp only [Act.put, sa_, sb_, sc_, i64_w, i32_w]; rfl
                refine pure_ (i := 37) (N := some 75) (v := undef) (a' := ?_) (bt_ 44 0x3fffffffff) rfl rfl (any_of HT_.out (by kernel_rfl)) (fun _ _ _ h => h) (Or.inr ⟨by rfl, rfl⟩) ?_ ?_
                rotate_left; · simp only [Act.put, sa_, sb_, sc_, i64_w, i32_w]; rfl
                refine pure_ (i := 38) (N := some 76) (v := undef) (a' := ?_) (bt_ 44 0x7fffffffff) rfl rfl (any_of HT_.out (by kernel_rfl)) (fun _ _ _ h => h) (Or.inr ⟨by rfl, rfl⟩) ?_ ?_
                rotate_left; · simp only [Act.put, sa_, sb_, sc_, i64_w, i32_w]; rfl
                refine pure_ (i := 39) (N := some 77) (v := undef) (a' := ?_) (bt_ 44 0xffffffffff) rfl rfl (any_of HT_.out (by kernel_rfl)) (fun _ _ _ h => h) (Or.inr ⟨by rfl, rfl⟩) ?_ ?_
                rotate_left; · simp only [Act.put, sa_, sb_, sc_, i64_w, i32_w]; rfl
                refine pure_ (i := 40) (N := some 78) (v := undef) (a' := ?_) (bt_ 44 0x1ffffffffff) rfl rfl (any_of HT_.out (by kernel_rfl)) (fun _ _ _ h => h) (Or.inr ⟨by rfl, rfl⟩) ?_ ?_
                rotate_left; · simp only [Act.put, sa_, sb_, sc_, i64_w, i32_w]; rfl
                refine pure_ (i := 41) (N := some 79) (v := undef) (a' := ?_) (bt_ 44 0x3ffffffffff) rfl rfl (any_of HT_.out (by kernel_rfl)) (fun _ _ _ h => h) (Or.inr ⟨by rfl, rfl⟩) ?_ ?_
                rotate_left; · simp only [Act.put, sa_, sb_, sc_, i64_w, i32_w]; rfl
                refine pure_ (i := 42) (N := some 80) (v := undef) (a' := ?_) (bt_ 44 0x7ffffffffff) rfl rfl (any_of HT_.out (by kernel_rfl)) (fun _ _ _ h => h) (Or.inr ⟨by rfl, rfl⟩) ?_ ?_
                rotate_left; · simp only [Act.put, sa_, sb_, sc_, i64_w, i32_w]; rfl
                refine pure_ (i := 43) (N := some 81) (v := ?_) (a' := ?_) (bt_ 44 0xfffffffffff) rfl rfl (any_of HT_.out (by kernel_rfl)) (fun _ _ _ h => h) (Or.inl ⟨by rfl, ?_⟩) ?_ ?_
                rotate_left; · intro w'; go_simp; with_reducible rfl
                rotate_left; · simp only [Act.put, sa_, sb_, sc_, i64_w, i32_w]; rfl
                refine done_ (done_of HT_.out (by kernel_rfl)) ?_
                try go_wp2
                go_meet
                case rel => exact ⟨_, (true), (by first | rfl | (simp; done) | (simp [*]; done)), H', ⟨by first | omega | exact Nat.le_refl _⟩, ⟨by (with_reducible repeat (first | apply ra_ | apply rb_ | apply rc_)); exact HO178.out⟩, ⟨by (with_reducible repeat (first | apply ra_ | apply rb_ | apply rc_)); exact HO182.out⟩, ⟨by (with_reducible repeat (first | apply ra_ | apply rb_ | apply rc_)); exact HO188.out⟩, ⟨by (with_reducible repeat (first | apply ra_ | apply rb_ | apply rc_)); exact HO193.out⟩, ⟨by (with_reducible repeat (first | refine ba_ ?_ _ | refine bb_ ?_ | refine bc_ ?_ _)); exact BK179.out⟩, ⟨by (with_reducible repeat (first | refine ba_ ?_ _ | refine bb_ ?_ | refine bc_ ?_ _)); exact BK184.out⟩, ⟨by (with_reducible repeat (first | refine ba_ ?_ _ | refine bb_ ?_ | refine bc_ ?_ _)); exact BK190.out⟩, ⟨by (with_reducible repeat (first | refine ba_ ?_ _ | refine bb_ ?_ | refine bc_ ?_ _)); exact BK195.out⟩, ⟨by repeat (first | (with_reducible first | exact HB.out | apply below_alloc | apply pw_below_drewN | apply below_drew1 | refine below_set ?_ GE179.out | refine below_set ?_ GE184.out | refine below_set ?_ GE190.out | refine below_set ?_ GE195.out) | exact HB.out)⟩⟩
              · rw [if_neg c49] at H
                have c49b0 : decide ((t176.length : Int) ≤ t183) = false := decide_eq_false c49
                clear c49
                by_cases c52 : 0 ≤ t183
                · rw [if_pos c52] at H
                  have c52b0 : decide (0 ≤ t183) = true := decide_eq_true c52
                  clear c52
                  by_cases c53 : t183 < (t176.length : Int)
                  · rw [if_pos c53] at H
                    have c53b0 : decide (t183 < (t176.length : Int)) = true := decide_eq_true c53
                    clear c53
                    obtain ⟨bq54, hbq54⟩ : ∃ b_ : Bool, b_ = (rdOf false t176 t183) := ⟨_, rfl⟩
                    replace H : (if bq54 = true then (laws_FnTags.j0 k t183 true t176 t186) else (if t183 < (t180.length : Int) then (if rdOf false t180 t183 = true then ((impl_CountBusy.f k t180).bind fun t198 => ((impl_CountBusy.f k t176).bind fun t199 => (laws_FnTags.j0 k t183 (t198 != (wrap64 (t199 + 1))) t176 t186))) else (laws_FnTags.j0 k t183 true t176 t186)) else (none))) = some r := by rw [← hbq54] at H; exact H
                    have Nbq54 := Aside0.mk hbq54
                    clear hbq54
                    by_cases c55 : bq54 = true
                    · subst c55
                      have H1 : (laws_FnTags.j0 k t183 true t176 t186) = some r := by rw [if_pos rfl] at H; exact H
                      clear H
                      have H := H1
                      clear H1
                      have H' := Aside0.mk H
                      clear H
                      try go_wp2
                      have n0_ : Aside0 (Kd.R Kd.bool 4 (w38.setCell ⟨gb195, 0, none⟩ (.slice Ao39 t191.length co39)) w.heap.size (fun k_ => some k_ ≠ (.slice Ao28 t180.length co28 : Value).ownBlock ∧ some k_ ≠ (.slice Ao33 t186.length co33 : Value).ownBlock ∧ some k_ ≠ (.slice Ao39 t191.length co39 : Value).ownBlock) (.slice Ao24 t176.length co24) t176) := ⟨by (with_reducible repeat (first | apply ra_ | apply rb_ | apply rc_)); exact Kd.R_mono (Kd.R_far (p := ⟨gb195, 0, none⟩) (Kd.R_types HO178.out BK195.out (by decide)) (fun _ hk => hk.2) (.slice Ao39 t191.length co39)) (fun _ hk => ⟨hk.1.1.1.2, ⟨hk.1.1.2, hk.1.2⟩⟩)⟩
                      have n1_ : Aside0 (Kd.R Kd.bool 4 (w38.setCell ⟨gb195, 0, none⟩ (.slice Ao39 t191.length co39)) w.heap.size (fun k_ => some k_ ≠ (.slice Ao24 t176.length co24 : Value).ownBlock ∧ some k_ ≠ (.slice Ao33 t186.length co33 : Value).ownBlock ∧ some k_ ≠ (.slice Ao39 t191.length co39 : Value).ownBlock) (.slice Ao28 t180.length co28) t180) := ⟨by (with_reducible repeat (first | apply ra_ | apply rb_ | apply rc_)); exact Kd.R_mono (Kd.R_far (p := ⟨gb195, 0, none⟩) (Kd.R_types HO182.out BK195.out (by decide)) (fun _ hk => hk.2) (.slice Ao39 t191.length co39)) (fun _ hk => ⟨hk.1.1.1.2, ⟨hk.1.1.2, hk.1.2⟩⟩)⟩
                      have n2_ : Aside0 (Kd.R Kd.bool 4 (w38.setCell ⟨gb195, 0, none⟩ (.slice Ao39 t191.length co39)) w.heap.size (fun k_ => some k_ ≠ (.slice Ao24 t176.length co24 : Value).ownBlock ∧ some k_ ≠ (.slice Ao28 t180.length co28 : Value).ownBlock ∧ some k_ ≠ (.slice Ao39 t191.length co39 : Value).ownBlock) (.slice Ao33 t186.length co33) t186) := ⟨by (with_reducible repeat (first | apply ra_ | apply rb_ | apply rc_)); exact Kd.R_mono (Kd.R_far (p := ⟨gb195, 0, none⟩) (Kd.R_types HO188.out BK195.out (by decide)) (fun _ hk => hk.2) (.slice Ao39 t191.length co39)) (fun _ hk => ⟨hk.1.1.1.2, ⟨hk.1.1.2, hk.1.2⟩⟩)⟩
                      have n3_ : Aside0 (Kd.R Kd.bool 4 (w38.setCell ⟨gb195, 0, none⟩ (.slice Ao39 t191.length co39)) w.heap.size (fun k_ => some k_ ≠ (.slice Ao24 t176.length co24 : Value).ownBlock ∧ some k_ ≠ (.slice Ao28 t180.length co28 : Value).ownBlock ∧ some k_ ≠ (.slice Ao33 t186.length co33 : Value).ownBlock) (.slice Ao39 t191.length co39) t191) := ⟨by (with_reducible repeat (first | apply ra_ | apply rb_ | apply rc_)); exact Kd.R_mono (Kd.R_far (p := ⟨gb195, 0, none⟩) (Kd.R_types HO193.out BK195.out (by decide)) (fun _ hk => hk.2) (.slice Ao39 t191.length co39)) (fun _ hk => ⟨hk.1.1.1.2, ⟨hk.1.1.2, hk.1.2⟩⟩)⟩
                      have n4_ : Aside0 ((w38.setCell ⟨gb195, 0, none⟩ (.slice Ao39 t191.length co39)).heap[gb179]? = some (.cells #[.slice Ao24 t176.length co24] 27 (0, 0))) := ⟨by (with_reducible repeat (first | refine ba_ ?_ _ | refine bb_ ?_ | refine bc_ ?_ _)); refine blk_far ?_ NB179_195.out _; (with_reducible repeat (first | refine ba_ ?_ _ | refine bb_ ?_ | refine bc_ ?_ _)); exact BK179.out⟩
                      have n5_ : Aside0 ((w38.setCell ⟨gb195, 0, none⟩ (.slice Ao39 t191.length co39)).heap[gb184]? = some (.cells #[.slice Ao28 t180.length co28] 27 (0, 0))) := ⟨by (with_reducible repeat (first | refine ba_ ?_ _ | refine bb_ ?_ | refine bc_ ?_ _)); refine blk_far ?_ NB184_195.out _; (with_reducible repeat (first | refine ba_ ?_ _ | refine bb_ ?_ | refine bc_ ?_ _)); exact BK184.out⟩
                      have n6_ : Aside0 ((w38.setCell ⟨gb195, 0, none⟩ (.slice Ao39 t191.length co39)).heap[gb190]? = some (.cells #[.slice Ao33 t186.length co33] 27 (0, 0))) := ⟨by (with_reducible repeat (first | refine ba_ ?_ _ | refine bb_ ?_ | refine bc_ ?_ _)); refine blk_far ?_ NB190_195.out _; (with_reducible repeat (first | refine ba_ ?_ _ | refine bb_ ?_ | refine bc_ ?_ _)); exact BK190.out⟩
                      have n7_ : Aside0 ((w38.setCell ⟨gb195, 0, none⟩ (.slice Ao39 t191.length co39)).heap[gb195]? = some (.cells #[.slice Ao39 t191.length co39] 27 (0, 0))) := ⟨by (with_reducible repeat (first | refine ba_ ?_ _ | refine bb_ ?_ | refine bc_ ?_ _)); refine blk_put (cs := #[.slice none 0 0]) ?_ 0 _ rfl; (with_reducible repeat (first | refine ba_ ?_ _ | refine bb_ ?_ | refine bc_ ?_ _)); exact BK195.out⟩
                      have n8_ : Aside0 (Below w.heap.size w (w38.setCell ⟨gb195, 0, none⟩ (.slice Ao39 t191.length co39))) := ⟨by repeat (first | (with_reducible first | exact HB.out | apply below_alloc | apply pw_below_drewN | apply below_drew1 | refine below_set ?_ GE179.out | refine below_set ?_ GE184.out | refine below_set ?_ GE190.out | refine below_set ?_ GE195.out) | exact HB.out)⟩
                      (try clear HO178)
                      (try clear HO182)
                      (try clear HO188)
                      (try clear HO193)
                      (try clear BK179)
                      (try clear BK184)
                      (try clear BK190)
                      (try clear BK195)
                      (try clear HB)
                      generalize (w38.setCell ⟨gb195, 0, none⟩ (.slice Ao39 t191.length co39)) = w56 at n0_ n1_ n2_ n3_ n4_ n5_ n6_ n7_ n8_ ⊢
                      have HO178 := n0_
                      have HO182 := n1_
                      have HO188 := n2_
                      have HO193 := n3_
                      have BK179 := n4_
                      have BK184 := n5_
                      have BK190 := n6_
                      have BK195 := n7_
                      have HB := n8_
                      clear n0_ n1_ n2_ n3_ n4_ n5_ n6_ n7_ n8_
                      have n0_ := Aside0.mk (Kd.R_drew HO178.out)
                      have n1_ := Aside0.mk (Kd.R_drew HO182.out)
                      have n2_ := Aside0.mk (Kd.R_drew HO188.out)
                      have n3_ := Aside0.mk (Kd.R_drew HO193.out)
                      have n4_ := Aside0.mk (blk_drew BK179.out)
                      have n5_ := Aside0.mk (blk_drew BK184.out)
                      have n6_ := Aside0.mk (blk_drew BK190.out)
                      have n7_ := Aside0.mk (blk_drew BK195.out)
                      have n8_ := Aside0.mk (below_drew1 HB.out)
                      clear HO178
                      clear HO182
                      clear HO188
                      clear HO193
                      clear BK179
                      clear BK184
                      clear BK190
                      clear BK195
                      clear HB
                      have HO178 := n0_
                      have HO182 := n1_
                      have HO188 := n2_
                      have HO193 := n3_
                      have BK179 := n4_
                      have BK184 := n5_
                      have BK190 := n6_
                      have BK195 := n7_
                      have HB := n8_
                      clear n0_ n1_ n2_ n3_ n4_ n5_ n6_ n7_ n8_
                      have p196 : 0 ≤ (t183 : Int) := of_decide_eq_true (by first | (with_reducible assumption) | assumption)
                      have q196 : t183 < (t176.length : Int) := of_decide_eq_true (by first | (with_reducible assumption) | assumption)
                      obtain ⟨ad196, e196, hx196_0⟩ := Kd.at_bool (Kd.R_reads' HO178.out).2.2 t183 p196 q196
                      (try rw [← Nbq54.out] at hx196_0)
                      cases e196
                      replace p196 := eq_true p196
                      replace q196 := eq_true q196
                      refine start_ (n := 44) (S := fun w' => w'.cell? ⟨gb184, 0, none⟩ = some (.slice Ao28 t180.length co28) ∧ w'.cell? ⟨gb179, 0, none⟩ = some (.slice (some ad196) t176.length co24) ∧ w'.cell? (ad196.add (t183).toNat) = some (.bool true)) (ds := []) (bt_ 44 0) (by kernel_rfl) rfl (by kernel_rfl) ⟨(blk_cell BK184.out 0).trans rfl, (blk_cell BK179.out 0).trans rfl, hx196_0⟩ (fun hHeld => ?_); refine with_tabW laws_FnTags.tab9 laws_FnTags.bits9 (fun HT_ HW_ => ?_)
                      generalize w56.drew = w57 at HO178 HO182 HO188 HO193 BK179 BK184 BK190 BK195 HB hx196_0 hHeld ⊢
                      refine pure_ (i := 0) (N := some 38) (v := ?_) (a' := ?_) (bt_ 44 1) rfl rfl (any_of HT_.out (by kernel_rfl)) (fun _ _ _ h => h) (Or.inl ⟨by rfl, ?_⟩) ?_ ?_
                      rotate_left; · intro w'; go_simp; with_reducible rfl
                      rotate_left; · simp only [Act.put, sa_, sb_, sc_, i64_w, i32_w]; rfl
                      refine pure_ (i := 1) (N := some 39) (v := ?_) (a' := ?_) (bt_ 44 3) rfl rfl (any_of HT_.out (by kernel_rfl)) (fun _ _ _ h => h) (Or.inl ⟨by rfl, ?_⟩) ?_ ?_
                      rotate_left; · intro w'; go_simp; with_reducible rfl
                      rotate_left; · simp only [Act.put, sa_, sb_, sc_, i64_w, i32_w]; rfl
                      refine pure_ (i := 2) (N := some 40) (v := ?_) (a' := ?_) (bt_ 44 7) rfl rfl (any_of HT_.out (by kernel_rfl)) (fun _ _ _ h => h) (Or.inl ⟨by rfl, ?_⟩) ?_ ?_
                      rotate_left; · intro w'; go_simp; with_reducible rfl
                      rotate_left; · simp only [Act.put, sa_, sb_, sc_, i64_w, i32_w]; rfl
                      refine pure_ (i := 3) (N := some 41) (v := ?_) (a' := ?_) (bt_ 44 0xf) rfl rfl (any_of HT_.out (by kernel_rfl)) (fun _ _ _ h => h) (Or.inl ⟨by rfl, ?_⟩) ?_ ?_
                      rotate_left; · intro w'; go_simp; with_reducible rfl
                      rotate_left; · simp only [Act.put, sa_, sb_, sc_, i64_w, i32_w]; rfl
                      refine pure_ (i := 4) (N := some 42) (v := ?_) (a' := ?_) (bt_ 44 0x1f) rfl rfl (any_of HT_.out (by kernel_rfl)) (fun _ _ _ h => h) (Or.inl ⟨by rfl, ?_⟩) ?_ ?_
                      rotate_left; · intro w'; go_simp; with_reducible rfl
                      rotate_left; · simp only [Act.put, sa_, sb_, sc_, i64_w, i32_w]; rfl
                      refine pure_ (i := 5) (N := some 43) (v := ?_) (a' := ?_) (bt_ 44 0x3f) rfl rfl (any_of HT_.out (by kernel_rfl)) (fun _ _ _ h => h) (Or.inl ⟨by rfl, ?_⟩) ?_ ?_
                      rotate_left; · intro w'; go_simp; with_reducible rfl
                      rotate_left; · simp only [Act.put, sa_, sb_, sc_, i64_w, i32_w]; rfl
                      refine pure_ (i := 6) (N := some 44) (v := ?_) (a' := ?_) (bt_ 44 0x7f) rfl rfl (any_of HT_.out (by kernel_rfl)) (fun _ _ _ h => h) (Or.inl ⟨by rfl, ?_⟩) ?_ ?_
                      rotate_left; · intro w'; go_simp; with_reducible rfl
                      rotate_left; · simp only [Act.put, sa_, sb_, sc_, i64_w, i32_w]; rfl
                      refine pure_ (i := 9) (N := some 47) (v := ?_) (a' := ?_) (bt_ 44 0x27f) rfl rfl (any_of HT_.out (by kernel_rfl)) (fun _ _ _ h => h) (Or.inl ⟨by rfl, ?_⟩) ?_ ?_
                      rotate_left; · intro w'; go_simp; with_reducible rfl
                      rotate_left; · simp only [Act.put, sa_, sb_, sc_, i64_w, i32_w]; rfl
                      refine take_ (i := 7) (N := some 45) (v := ?_) (a' := ?_) (bt_ 44 0x2ff) rfl rfl (take_ofW HT_.out HW_.out (by kernel_rfl)) (fun _ _ _ h => h) (Or.inl ⟨by rfl, ?_⟩) hHeld ?_ ?_
                      rotate_left
                      · rintro w' ⟨s0, s1, s2⟩
                        go_simp
                        with_reducible rfl
                      rotate_left; · simp only [Act.put, sa_, sb_, sc_, i64_w, i32_w]; rfl
                      refine pure_ (i := 8) (N := some 46) (v := ?_) (a' := ?_) (bt_ 44 0x3ff) rfl rfl (any_of HT_.out (by kernel_rfl)) (fun _ _ _ h => h) (Or.inl ⟨by rfl, ?_⟩) ?_ ?_
                      rotate_left; · intro w'; go_simp; with_reducible rfl
                      rotate_left; · simp only [Act.put, sa_, sb_, sc_, i64_w, i32_w]; rfl
                      refine take_ (i := 10) (N := some 48) (v := ?_) (a' := ?_) (bt_ 44 0x7ff) rfl rfl (take_ofW HT_.out HW_.out (by kernel_rfl)) (fun _ _ _ h => h) (Or.inl ⟨by rfl, ?_⟩) hHeld ?_ ?_
                      rotate_left
                      · rintro w' ⟨s0, s1, s2⟩
                        go_simp
                        with_reducible rfl
                      rotate_left; · simp only [Act.put, sa_, sb_, sc_, i64_w, i32_w]; rfl
                      refine pure_ (i := 11) (N := some 49) (v := ?_) (a' := ?_) (bt_ 44 0xfff) rfl rfl (any_of HT_.out (by kernel_rfl)) (fun _ _ _ h => h) (Or.inl ⟨by rfl, ?_⟩) ?_ ?_
                      rotate_left; · intro w'; go_simp; with_reducible rfl
                      rotate_left; · simp only [Act.put, sa_, sb_, sc_, i64_w, i32_w]; rfl
                      refine pure_ (i := 12) (N := some 50) (v := ?_) (a' := ?_) (bt_ 44 0x1fff) rfl rfl (any_of HT_.out (by kernel_rfl)) (fun _ _ _ h => h) (Or.inl ⟨by rfl, ?_⟩) ?_ ?_
                      rotate_left; · intro w'; go_simp; with_reducible rfl
                      rotate_left; · simp only [Act.put, sa_, sb_, sc_, i64_w, i32_w]; rfl
                      refine pure_ (i := 13) (N := some 51) (v := ?_) (a' := ?_) (bt_ 44 0x3fff) rfl rfl (any_of HT_.out (by kernel_rfl)) (fun _ _ _ h => h) (Or.inl ⟨by rfl, ?_⟩) ?_ ?_
                      rotate_left; · intro w'; go_simp; with_reducible rfl
                      rotate_left; · simp only [Act.put, sa_, sb_, sc_, i64_w, i32_w]; rfl
                      refine pure_ (i := 14) (N := some 52) (v := ?_) (a' := ?_) (bt_ 44 0x7fff) rfl rfl (any_of HT_.out (by kernel_rfl)) (fun _ _ _ h => h) (Or.inl ⟨by rfl, ?_⟩) ?_ ?_
                      rotate_left; · intro w'; go_simp; with_reducible rfl
                      rotate_left; · simp only [Act.put, sa_, sb_, sc_, i64_w, i32_w]; rfl
                      refine pure_ (i := 15) (N := some 53) (v := ?_) (a' := ?_) (bt_ 44 0xffff) rfl rfl (any_of HT_.out (by kernel_rfl)) (fun _ _ _ h => h) (Or.inl ⟨by rfl, ?_⟩) ?_ ?_
                      rotate_left; · intro w'; go_simp; with_reducible rfl
                      rotate_left; · simp only [Act.put, sa_, sb_, sc_, i64_w, i32_w]; rfl
                      refine pure_ (i := 16) (N := some 54) (v := ?_) (a' := ?_) (bt_ 44 0x1ffff) rfl rfl (any_of HT_.out (by kernel_rfl)) (fun _ _ _ h => h) (Or.inl ⟨by rfl, ?_⟩) ?_ ?_
                      rotate_left; · intro w'; go_simp; with_reducible rfl
                      rotate_left; · simp only [Act.put, sa_, sb_, sc_, i64_w, i32_w]; rfl
                      refine take_ (i := 17) (N := some 55) (v := ?_) (a' := ?_) (bt_ 44 0x3ffff) rfl rfl (take_ofW HT_.out HW_.out (by kernel_rfl)) (fun _ _ _ h => h) (Or.inl ⟨by rfl, ?_⟩) hHeld ?_ ?_
                      rotate_left
                      · rintro w' ⟨s0, s1, s2⟩
                        go_simp
                        with_reducible rfl
                      rotate_left; · simp only [Act.put, sa_, sb_, sc_, i64_w, i32_w]; rfl
                      refine pure_ (i := 18) (N := some 56) (v := ?_) (a' := ?_) (bt_ 44 0x7ffff) rfl rfl (any_of HT_.out (by kernel_rfl)) (fun _ _ _ h => h) (Or.inl ⟨by rfl, ?_⟩) ?_ ?_
                      rotate_left; · intro w'; go_simp; with_reducible rfl
                      rotate_left; · simp only [Act.put, sa_, sb_, sc_, i64_w, i32_w]; rfl
                      refine pure_ (i := 19) (N := some 57) (v := ?_) (a' := ?_) (bt_ 44 0xfffff) rfl rfl (any_of HT_.out (by kernel_rfl)) (fun _ _ _ h => h) (Or.inl ⟨by rfl, ?_⟩) ?_ ?_
                      rotate_left; · intro w'; go_simp; with_reducible rfl
                      rotate_left; · simp only [Act.put, sa_, sb_, sc_, i64_w, i32_w]; rfl
                      refine pure_ (i := 20) (N := some 58) (v := ?_) (a' := ?_) (bt_ 44 0x1fffff) rfl rfl (any_of HT_.out (by kernel_rfl)) (fun _ _ _ h => h) (Or.inl ⟨by rfl, ?_⟩) ?_ ?_
                      rotate_left; · intro w'; go_simp; with_reducible rfl
                      rotate_left; · simp only [Act.put, sa_, sb_, sc_, i64_w, i32_w]; rfl
                      refine pure_ (i := 21) (N := some 59) (v := ?_) (a' := ?_) (bt_ 44 0x3fffff) rfl rfl (any_of HT_.out (by kernel_rfl)) (fun _ _ _ h => h) (Or.inl ⟨by rfl, ?_⟩) ?_ ?_
                      rotate_left; · intro w'; go_simp; with_reducible rfl
                      rotate_left; · simp only [Act.put, sa_, sb_, sc_, i64_w, i32_w]; rfl
                      refine pure_ (i := 22) (N := some 60) (v := ?_) (a' := ?_) (bt_ 44 0x7fffff) rfl rfl (any_of HT_.out (by kernel_rfl)) (fun _ _ _ h => h) (Or.inl ⟨by rfl, ?_⟩) ?_ ?_
                      rotate_left; · intro w'; go_simp; with_reducible rfl
                      rotate_left; · simp only [Act.put, sa_, sb_, sc_, i64_w, i32_w]; rfl
                      refine pure_ (i := 24) (N := some 62) (v := ?_) (a' := ?_) (bt_ 44 0x17fffff) rfl rfl (any_of HT_.out (by kernel_rfl)) (fun _ _ _ h => h) (Or.inl ⟨by rfl, ?_⟩) ?_ ?_
                      rotate_left; · intro w'; go_simp; with_reducible rfl
                      rotate_left; · simp only [Act.put, sa_, sb_, sc_, i64_w, i32_w]; rfl
                      refine take_ (i := 23) (N := some 61) (v := ?_) (a' := ?_) (bt_ 44 0x1ffffff) rfl rfl (take_ofW HT_.out HW_.out (by kernel_rfl)) (fun _ _ _ h => h) (Or.inl ⟨by rfl, ?_⟩) hHeld ?_ ?_
                      rotate_left
                      · rintro w' ⟨s0, s1, s2⟩
                        go_simp
                        with_reducible rfl
                      rotate_left; · simp only [Act.put, sa_, sb_, sc_, i64_w, i32_w]; rfl
                      refine pure_ (i := 25) (N := some 63) (v := ?_) (a' := ?_) (bt_ 44 0x3ffffff) rfl rfl (any_of HT_.out (by kernel_rfl)) (fun _ _ _ h => h) (Or.inl ⟨by rfl, ?_⟩) ?_ ?_
                      rotate_left; · intro w'; go_simp; with_reducible rfl
                      rotate_left; · simp only [Act.put, sa_, sb_, sc_, i64_w, i32_w]; rfl
                      refine take_ (i := 26) (N := some 64) (v := ?_) (a' := ?_) (bt_ 44 0x7ffffff) rfl rfl (take_ofW HT_.out HW_.out (by kernel_rfl)) (fun _ _ _ h => h) (Or.inl ⟨by rfl, ?_⟩) hHeld ?_ ?_
                      rotate_left
                      · rintro w' ⟨s0, s1, s2⟩
                        go_simp
                        with_reducible rfl
                      rotate_left; · simp only [Act.put, sa_, sb_, sc_, i64_w, i32_w]; rfl
                      refine pure_ (i := 27) (N := some 65) (v := ?_) (a' := ?_) (bt_ 44 0xfffffff) rfl rfl (any_of HT_.out (by kernel_rfl)) (fun _ _ _ h => h) (Or.inl ⟨by rfl, ?_⟩) ?_ ?_
                      rotate_left; · intro w'; go_simp; with_reducible rfl
                      rotate_left; · simp only [Act.put, sa_, sb_, sc_, i64_w, i32_w]; rfl
                      refine pure_ (i := 28) (N := some 66) (v := ?_) (a' := ?_) (bt_ 44 0x1fffffff) rfl rfl (any_of HT_.out (by kernel_rfl)) (fun _ _ _ h => h) (Or.inl ⟨by rfl, ?_⟩) ?_ ?_
                      rotate_left; · intro w'; go_simp; with_reducible rfl
                      rotate_left; · simp only [Act.put, sa_, sb_, sc_, i64_w, i32_w]; rfl
                      refine pure_ (i := 29) (N := some 67) (v := undef) (a' := ?_) (bt_ 44 0x3fffffff) rfl rfl (any_of HT_.out (by kernel_rfl)) (fun _ _ _ h => h) (Or.inr ⟨by rfl, rfl⟩) ?_ ?_
                      rotate_left; · simp only [Act.put, sa_, sb_, sc_, i64_w, i32_w]; rfl
                      refine pure_ (i := 30) (N := some 68) (v := undef) (a' := ?_) (bt_ 44 0x7fffffff) rfl rfl (any_of HT_.out (by kernel_rfl)) (fun _ _ _ h => h) (Or.inr ⟨by rfl, rfl⟩) ?_ ?_
                      rotate_left; · simp only [Act.put, sa_, sb_, sc_, i64_w, i32_w]; rfl
                      refine pure_ (i := 31) (N := some 69) (v := undef) (a' := ?_) (bt_ 44 0xffffffff) rfl rfl (any_of HT_.out (by kernel_rfl)) (fun _ _ _ h => h) (Or.inr ⟨by rfl, rfl⟩) ?_ ?_
                      rotate_left; · simp only [Act.put, sa_, sb_, sc_, i64_w, i32_w]; rfl
                      refine pure_ (i := 32) (N := some 70) (v := undef) (a' := ?_) (bt_ 44 0x1ffffffff) rfl rfl (any_of HT_.out (by kernel_rfl)) (fun _ _ _ h => h) (Or.inr ⟨by rfl, rfl⟩) ?_ ?_
                      rotate_left; · simp only [Act.put, sa_, sb_, sc_, i64_w, i32_w]; rfl
                      refine pure_ (i := 33) (N := some 71) (v := undef) (a' := ?_) (bt_ 44 0x3ffffffff) rfl rfl (any_of HT_.out (by kernel_rfl)) (fun _ _ _ h => h) (Or.inr ⟨by rfl, rfl⟩) ?_ ?_
                      rotate_left; · simp only [Act.put, sa_, sb_, sc_, i64_w, i32_w]; rfl
                      refine pure_ (i := 34) (N := some 72) (v := undef) (a' := ?_) (bt_ 44 0x7ffffffff) rfl rfl (any_of HT_.out (by kernel_rfl)) (fun _ _ _ h => h) (Or.inr ⟨by rfl, rfl⟩) ?_ ?_
                      rotate_left; · simp only [Act.put, sa_, sb_, sc_, i64_w, i32_w]; rfl
                      refine pure_ (i := 35) (N := some 73) (v := ?_) (a' := ?_) (bt_ 44 0xfffffffff) rfl rfl (any_of HT_.out (by kernel_rfl)) (fun _ _ _ h => h) (Or.inl ⟨by rfl, ?_⟩) ?_ ?_
                      rotate_left; · intro w'; go_simp; with_reducible rfl
                      rotate_left; · simp only [Act.put, sa_, sb_, sc_, i64_w, i32_w]; rfl
                      refine pure_ (i := 36) (N := some 74) (v := ?_) (a' := ?_) (bt_ 44 0x1fffffffff) rfl rfl (any_of HT_.out (by kernel_rfl)) (fun _ _ _ h => h) (Or.inl ⟨by rfl, ?_⟩) ?_ ?_
                      rotate_left; · intro w'; go_simp; with_reducible rfl
                      rotate_left; · simp only [Act.put, sa_, sb_, sc_, i64_w, i32_w]; rfl
                      refine pure_ (i := 37) (N := some 75) (v := undef) (a' := ?_) (bt_ 44 0x3fffffffff) rfl rfl (any_of HT_.out (by kernel_rfl)) (fun _ _ _ h => h) (Or.inr ⟨by rfl, rfl⟩) ?_ ?_
                      rotate_left; · simp only [Act.put, sa_, sb_, sc_, i64_w, i32_w]; rfl
                      refine pure_ (i := 38) (N := some 76) (v := undef) (a' := ?_) (bt_ 44 0x7fffffffff) rfl rfl (any_of HT_.out (by kernel_rfl)) (fun _ _ _ h => h) (Or.inr ⟨by rfl, rfl⟩) ?_ ?_
                      rotate_left; · simp only [Act.put, sa_, sb_, sc_, i64_w, i32_w]; rfl
                      refine pure_ (i := 39) (N := some 77) (v := undef) (a' := ?_) (bt_ 44 0xffffffffff) rfl rfl (any_of HT_.out (by kernel_rfl)) (fun _ _ _ h => h) (Or.inr ⟨by rfl, rfl⟩) ?_ ?_
                      rotate_left; · simp only [Act.put, sa_, sb_, sc_, i64_w, i32_w]; rfl
                      refine pure_ (i := 40) (N := some 78) (v := undef) (a' := ?_) (bt_ 44 0x1ffffffffff) rfl rfl (any_of HT_.out (by kernel_rfl)) (fun _ _ _ h => h) (Or.inr ⟨by rfl, rfl⟩) ?_ ?_
                      rotate_left; · simp only [Act.put, sa_, sb_, sc_, i64_w, i32_w]; rfl
                      refine pure_ (i := 41) (N := some 79) (v := undef) (a' := ?_) (bt_ 44 0x3ffffffffff) rfl rfl (any_of HT_.out (by kernel_rfl)) (fun _ _ _ h => h) (Or.inr ⟨by rfl, rfl⟩) ?_ ?_
                      rotate_left; · simp only [Act.put, sa_, sb_, sc_, i64_w, i32_w]; rfl
                      refine pure_ (i := 42) (N := some 80) (v := undef) (a' := ?_) (bt_ 44 0x7ffffffffff) rfl rfl (any_of HT_.out (by kernel_rfl)) (fun _ _ _ h => h) (Or.inr ⟨by rfl, rfl⟩) ?_ ?_
                      rotate_left; · simp only [Act.put, sa_, sb_, sc_, i64_w, i32_w]; rfl
                      refine pure_ (i := 43) (N := some 81) (v := ?_) (a' := ?_) (bt_ 44 0xfffffffffff) rfl rfl (any_of HT_.out (by kernel_rfl)) (fun _ _ _ h => h) (Or.inl ⟨by rfl, ?_⟩) ?_ ?_
                      rotate_left; · intro w'; go_simp; with_reducible rfl
                      rotate_left; · simp only [Act.put, sa_, sb_, sc_, i64_w, i32_w]; rfl
                      refine done_ (done_of HT_.out (by kernel_rfl)) ?_
                      try go_wp2
                      go_meet
                      case rel => exact ⟨_, (true), (by first | rfl | (simp; done) | (simp [*]; done)), H', ⟨by first | omega | exact Nat.le_refl _⟩, ⟨by (with_reducible repeat (first | apply ra_ | apply rb_ | apply rc_)); exact HO178.out⟩, ⟨by (with_reducible repeat (first | apply ra_ | apply rb_ | apply rc_)); exact HO182.out⟩, ⟨by (with_reducible repeat (first | apply ra_ | apply rb_ | apply rc_)); exact HO188.out⟩, ⟨by (with_reducible repeat (first | apply ra_ | apply rb_ | apply rc_)); exact HO193.out⟩, ⟨by (with_reducible repeat (first | refine ba_ ?_ _ | refine bb_ ?_ | refine bc_ ?_ _)); exact BK179.out⟩, ⟨by (with_reducible repeat (first | refine ba_ ?_ _ | refine bb_ ?_ | refine bc_ ?_ _)); exact BK184.out⟩, ⟨by (with_reducible repeat (first | refine ba_ ?_ _ | refine bb_ ?_ | refine bc_ ?_ _)); exact BK190.out⟩, ⟨by (with_reducible repeat (first | refine ba_ ?_ _ | refine bb_ ?_ | refine bc_ ?_ _)); exact BK195.out⟩, ⟨by repeat (first | (with_reducible first | exact HB.out | apply below_alloc | apply pw_below_drewN | apply below_drew1 | refine below_set ?_ GE179.out | refine below_set ?_ GE184.out | refine below_set ?_ GE190.out | refine below_set ?_ GE195.out) | exact HB.out)⟩⟩
                    · replace c55 := Bool.eq_false_iff.mpr c55
                      subst c55
                      have H1 : (if t183 < (t180.length : Int) then (if rdOf false t180 t183 = true then ((impl_CountBusy.f k t180).bind fun t198 => ((impl_CountBusy.f k t176).bind fun t199 => (laws_FnTags.j0 k t183 (t198 != (wrap64 (t199 + 1))) t176 t186))) else (laws_FnTags.j0 k t183 true t176 t186)) else (none)) = some r := by rw [if_neg (show ¬ (false = true) by decide)] at H; exact H
                      clear H
                      have H := H1
                      clear H1
                      by_cases c58 : t183 < (t180.length : Int)
                      · rw [if_pos c58] at H
                        have c58b0 : decide (t183 < (t180.length : Int)) = true := decide_eq_true c58
                        clear c58
                        obtain ⟨bq59, hbq59⟩ : ∃ b_ : Bool, b_ = (rdOf false t180 t183) := ⟨_, rfl⟩
                        replace H : (if bq59 = true then ((impl_CountBusy.f k t180).bind fun t198 => ((impl_CountBusy.f k t176).bind fun t199 => (laws_FnTags.j0 k t183 (t198 != (wrap64 (t199 + 1))) t176 t186))) else (laws_FnTags.j0 k t183 true t176 t186)) = some r := by rw [← hbq59] at H; exact H
                        have Nbq59 := Aside0.mk hbq59
                        clear hbq59
                        by_cases c60 : bq59 = true
                        · subst c60
                          have H1 : ((impl_CountBusy.f k t180).bind fun t198 => ((impl_CountBusy.f k t176).bind fun t199 => (laws_FnTags.j0 k t183 (t198 != (wrap64 (t199 + 1))) t176 t186))) = some r := by rw [if_pos rfl] at H; exact H
                          clear H
                          have H := H1
                          clear H1
                          replace H := Option.bind_eq_some_iff.mp H
                          obtain ⟨t198, A610, H⟩ := H
                          replace H : ((impl_CountBusy.f k t176).bind fun t199 => (laws_FnTags.j0 k t183 (t198 != (wrap64 (t199 + 1))) t176 t186)) = some r := H
                          have A61 := Aside0.mk A610
                          clear A610
                          replace H := Option.bind_eq_some_iff.mp H
                          obtain ⟨t199, A620, H⟩ := H
                          replace H : (laws_FnTags.j0 k t183 (t198 != (wrap64 (t199 + 1))) t176 t186) = some r := H
                          have A62 := Aside0.mk A620
                          clear A620
                          have H' := Aside0.mk H
                          clear H
                          try go_wp2
                          have n0_ : Aside0 (Kd.R Kd.bool 4 (w38.setCell ⟨gb195, 0, none⟩ (.slice Ao39 t191.length co39)) w.heap.size (fun k_ => some k_ ≠ (.slice Ao28 t180.length co28 : Value).ownBlock ∧ some k_ ≠ (.slice Ao33 t186.length co33 : Value).ownBlock ∧ some k_ ≠ (.slice Ao39 t191.length co39 : Value).ownBlock) (.slice Ao24 t176.length co24) t176) := ⟨by (with_reducible repeat (first | apply ra_ | apply rb_ | apply rc_)); exact Kd.R_mono (Kd.R_far (p := ⟨gb195, 0, none⟩) (Kd.R_types HO178.out BK195.out (by decide)) (fun _ hk => hk.2) (.slice Ao39 t191.length co39)) (fun _ hk => ⟨hk.1.1.1.2, ⟨hk.1.1.2, hk.1.2⟩⟩)⟩
                          have n1_ : Aside0 (Kd.R Kd.bool 4 (w38.setCell ⟨gb195, 0, none⟩ (.slice Ao39 t191.length co39)) w.heap.size (fun k_ => some k_ ≠ (.slice Ao24 t176.length co24 : Value).ownBlock ∧ some k_ ≠ (.slice Ao33 t186.length co33 : Value).ownBlock ∧ some k_ ≠ (.slice Ao39 t191.length co39 : Value).ownBlock) (.slice Ao28 t180.length co28) t180) := ⟨by (with_reducible repeat (first | apply ra_ | apply rb_ | apply rc_)); exact Kd.R_mono (Kd.R_far (p := ⟨gb195, 0, none⟩) (Kd.R_types HO182.out BK195.out (by decide)) (fun _ hk => hk.2) (.slice Ao39 t191.length co39)) (fun _ hk => ⟨hk.1.1.1.2, ⟨hk.1.1.2, hk.1.2⟩⟩)⟩
                          have n2_ : Aside0 (Kd.R Kd.bool 4 (w38.setCell ⟨gb195, 0, none⟩ (.slice Ao39 t191.length co39)) w.heap.size (fun k_ => some k_ ≠ (.slice Ao24 t176.length co24 : Value).ownBlock ∧ some k_ ≠ (.slice Ao28 t180.length co28 : Value).ownBlock ∧ some k_ ≠ (.slice Ao39 t191.length co39 : Value).ownBlock) (.slice Ao33 t186.length co33) t186) := ⟨by (with_reducible repeat (first | apply ra_ | apply rb_ | apply rc_)); exact Kd.R_mono (Kd.R_far (p := ⟨gb195, 0, none⟩) (Kd.R_types HO188.out BK195.out (by decide)) (fun _ hk => hk.2) (.slice Ao39 t191.length co39)) (fun _ hk => ⟨hk.1.1.1.2, ⟨hk.1.1.2, hk.1.2⟩⟩)⟩
                          have n3_ : Aside0 (Kd.R Kd.bool 4 (w38.setCell ⟨gb195, 0, none⟩ (.slice Ao39 t191.length co39)) w.heap.size (fun k_ => some k_ ≠ (.slice Ao24 t176.length co24 : Value).ownBlock ∧ some k_ ≠ (.slice Ao28 t180.length co28 : Value).ownBlock ∧ some k_ ≠ (.slice Ao33 t186.length co33 : Value).ownBlock) (.slice Ao39 t191.length co39) t191) := ⟨by (with_reducible repeat (first | apply ra_ | apply rb_ | apply rc_)); exact Kd.R_mono (Kd.R_far (p := ⟨gb195, 0, none⟩) (Kd.R_types HO193.out BK195.out (by decide)) (fun _ hk => hk.2) (.slice Ao39 t191.length co39)) (fun _ hk => ⟨hk.1.1.1.2, ⟨hk.1.1.2, hk.1.2⟩⟩)⟩
                          have n4_ : Aside0 ((w38.setCell ⟨gb195, 0, none⟩ (.slice Ao39 t191.length co39)).heap[gb179]? = some (.cells #[.slice Ao24 t176.length co24] 27 (0, 0))) := ⟨by (with_reducible repeat (first | refine ba_ ?_ _ | refine bb_ ?_ | refine bc_ ?_ _)); refine blk_far ?_ NB179_195.out _; (with_reducible repeat (first | refine ba_ ?_ _ | refine bb_ ?_ | refine bc_ ?_ _)); exact BK179.out⟩
                          have n5_ : Aside0 ((w38.setCell ⟨gb195, 0, none⟩ (.slice Ao39 t191.length co39)).heap[gb184]? = some (.cells #[.slice Ao28 t180.length co28] 27 (0, 0))) := ⟨by (with_reducible repeat (first | refine ba_ ?_ _ | refine bb_ ?_ | refine bc_ ?_ _)); refine blk_far ?_ NB184_195.out _; (with_reducible repeat (first | refine ba_ ?_ _ | refine bb_ ?_ | refine bc_ ?_ _)); exact BK184.out⟩
                          have n6_ : Aside0 ((w38.setCell ⟨gb195, 0, none⟩ (.slice Ao39 t191.length co39)).heap[gb190]? = some (.cells #[.slice Ao33 t186.length co33] 27 (0, 0))) := ⟨by (with_reducible repeat (first | refine ba_ ?_ _ | refine bb_ ?_ | refine bc_ ?_ _)); refine blk_far ?_ NB190_195.out _; (with_reducible repeat (first | refine ba_ ?_ _ | refine bb_ ?_ | refine bc_ ?_ _)); exact BK190.out⟩
                          have n7_ : Aside0 ((w38.setCell ⟨gb195, 0, none⟩ (.slice Ao39 t191.length co39)).heap[gb195]? = some (.cells #[.slice Ao39 t191.length co39] 27 (0, 0))) := ⟨by (with_reducible repeat (first | refine ba_ ?_ _ | refine bb_ ?_ | refine bc_ ?_ _)); refine blk_put (cs := #[.slice none 0 0]) ?_ 0 _ rfl; (with_reducible repeat (first | refine ba_ ?_ _ | refine bb_ ?_ | refine bc_ ?_ _)); exact BK195.out⟩
                          have n8_ : Aside0 (Below w.heap.size w (w38.setCell ⟨gb195, 0, none⟩ (.slice Ao39 t191.length co39))) := ⟨by repeat (first | (with_reducible first | exact HB.out | apply below_alloc | apply pw_below_drewN | apply below_drew1 | refine below_set ?_ GE179.out | refine below_set ?_ GE184.out | refine below_set ?_ GE190.out | refine below_set ?_ GE195.out) | exact HB.out)⟩
                          (try clear HO178)
                          (try clear HO182)
                          (try clear HO188)
                          (try clear HO193)
                          (try clear BK179)
                          (try clear BK184)
                          (try clear BK190)
                          (try clear BK195)
                          (try clear HB)
                          generalize (w38.setCell ⟨gb195, 0, none⟩ (.slice Ao39 t191.length co39)) = w63 at n0_ n1_ n2_ n3_ n4_ n5_ n6_ n7_ n8_ ⊢
                          have HO178 := n0_
                          have HO182 := n1_
                          have HO188 := n2_
                          have HO193 := n3_
                          have BK179 := n4_
                          have BK184 := n5_
                          have BK190 := n6_
                          have BK195 := n7_
                          have HB := n8_
                          clear n0_ n1_ n2_ n3_ n4_ n5_ n6_ n7_ n8_
                          have n0_ := Aside0.mk (Kd.R_drew HO178.out)
                          have n1_ := Aside0.mk (Kd.R_drew HO182.out)
                          have n2_ := Aside0.mk (Kd.R_drew HO188.out)
                          have n3_ := Aside0.mk (Kd.R_drew HO193.out)
                          have n4_ := Aside0.mk (blk_drew BK179.out)
                          have n5_ := Aside0.mk (blk_drew BK184.out)
                          have n6_ := Aside0.mk (blk_drew BK190.out)
                          have n7_ := Aside0.mk (blk_drew BK195.out)
                          have n8_ := Aside0.mk (below_drew1 HB.out)
                          clear HO178
                          clear HO182
                          clear HO188
                          clear HO193
                          clear BK179
                          clear BK184
                          clear BK190
                          clear BK195
                          clear HB
                          have HO178 := n0_
                          have HO182 := n1_
                          have HO188 := n2_
                          have HO193 := n3_
                          have BK179 := n4_
                          have BK184 := n5_
                          have BK190 := n6_
                          have BK195 := n7_
                          have HB := n8_
                          clear n0_ n1_ n2_ n3_ n4_ n5_ n6_ n7_ n8_
                          have p196 : 0 ≤ (t183 : Int) := of_decide_eq_true (by first | (with_reducible assumption) | assumption)
                          have q196 : t183 < (t176.length : Int) := of_decide_eq_true (by first | (with_reducible assumption) | assumption)
                          obtain ⟨ad196, e196, hx196_0⟩ := Kd.at_bool (Kd.R_reads' HO178.out).2.2 t183 p196 q196
                          (try rw [← Nbq54.out] at hx196_0)
                          (try rw [← Nbq59.out] at hx196_0)
                          cases e196
                          replace p196 := eq_true p196
                          replace q196 := eq_true q196
                          have p197 : 0 ≤ (t183 : Int) := of_decide_eq_true (by first | (with_reducible assumption) | assumption)
                          have q197 : t183 < (t180.length : Int) := of_decide_eq_true (by first | (with_reducible assumption) | assumption)
                          obtain ⟨ad197, e197, hx197_0⟩ := Kd.at_bool (Kd.R_reads' HO182.out).2.2 t183 p197 q197
                          (try rw [← Nbq54.out] at hx197_0)
                          (try rw [← Nbq59.out] at hx197_0)
                          cases e197
                          replace p197 := eq_true p197
                          replace q197 := eq_true q197
                          refine start_ (n := 44) (S := fun w' => w'.cell? ⟨gb184, 0, none⟩ = some (.slice (some ad197) t180.length co28) ∧ w'.cell? ⟨gb179, 0, none⟩ = some (.slice (some ad196) t176.length co24) ∧ w'.cell? (ad196.add (t183).toNat) = some (.bool false) ∧ w'.cell? (ad197.add (t183).toNat) = some (.bool true)) (ds := []) (bt_ 44 0) (by kernel_rfl) rfl (by kernel_rfl) ⟨(blk_cell BK184.out 0).trans rfl, (blk_cell BK179.out 0).trans rfl, hx196_0, hx197_0⟩ (fun hHeld => ?_); refine with_tabW laws_FnTags.tab9 laws_FnTags.bits9 (fun HT_ HW_ => ?_)
                          generalize w63.drew = w64 at HO178 HO182 HO188 HO193 BK179 BK184 BK190 BK195 HB hx196_0 hx197_0 hHeld ⊢
                          refine pure_ (i := 0) (N := some 38) (v := ?_) (a' := ?_) (bt_ 44 1) rfl rfl (any_of HT_.out (by kernel_rfl)) (fun _ _ _ h => h) (Or.inl ⟨by rfl, ?_⟩) ?_ ?_
                          rotate_left; · intro w'; go_simp; with_reducible rfl
                          rotate_left; · simp only [Act.put, sa_, sb_, sc_, i64_w, i32_w]; rfl
                          refine pure_ (i := 1) (N := some 39) (v := ?_) (a' := ?_) (bt_ 44 3) rfl rfl (any_of HT_.out (by kernel_rfl)) (fun _ _ _ h => h) (Or.inl ⟨by rfl, ?_⟩) ?_ ?_
                          rotate_left; · intro w'; go_simp; with_reducible rfl
                          rotate_left; · simp only [Act.put, sa_, sb_, sc_, i64_w, i32_w]; rfl
                          refine pure_ (i := 2) (N := some 40) (v := ?_) (a' := ?_) (bt_ 44 7) rfl rfl (any_of HT_.out (by kernel_rfl)) (fun _ _ _ h => h) (Or.inl ⟨by rfl, ?_⟩) ?_ ?_
                          rotate_left; · intro w'; go_simp; with_reducible rfl
                          rotate_left; · simp only [Act.put, sa_, sb_, sc_, i64_w, i32_w]; rfl
                          refine pure_ (i := 3) (N := some 41) (v := ?_) (a' := ?_) (bt_ 44 0xf) rfl rfl (any_of HT_.out (by kernel_rfl)) (fun _ _ _ h => h) (Or.inl ⟨by rfl, ?_⟩) ?_ ?_
                          rotate_left; · intro w'; go_simp; with_reducible rfl
                          rotate_left; · simp only [Act.put, sa_, sb_, sc_, i64_w, i32_w]; rfl
                          refine pure_ (i := 4) (N := some 42) (v := ?_) (a' := ?_) (bt_ 44 0x1f) rfl rfl (any_of HT_.out (by kernel_rfl)) (fun _ _ _ h => h) (Or.inl ⟨by rfl, ?_⟩) ?_ ?_
                          rotate_left; · intro w'; go_simp; with_reducible rfl
                          rotate_left; · simp only [Act.put, sa_, sb_, sc_, i64_w, i32_w]; rfl
                          refine pure_ (i := 5) (N := some 43) (v := ?_) (a' := ?_) (bt_ 44 0x3f) rfl rfl (any_of HT_.out (by kernel_rfl)) (fun _ _ _ h => h) (Or.inl ⟨by rfl, ?_⟩) ?_ ?_
                          rotate_left; · intro w'; go_simp; with_reducible rfl
                          rotate_left; · simp only [Act.put, sa_, sb_, sc_, i64_w, i32_w]; rfl
                          refine pure_ (i := 6) (N := some 44) (v := ?_) (a' := ?_) (bt_ 44 0x7f) rfl rfl (any_of HT_.out (by kernel_rfl)) (fun _ _ _ h => h) (Or.inl ⟨by rfl, ?_⟩) ?_ ?_
                          rotate_left; · intro w'; go_simp; with_reducible rfl
                          rotate_left; · simp only [Act.put, sa_, sb_, sc_, i64_w, i32_w]; rfl
                          refine pure_ (i := 9) (N := some 47) (v := ?_) (a' := ?_) (bt_ 44 0x27f) rfl rfl (any_of HT_.out (by kernel_rfl)) (fun _ _ _ h => h) (Or.inl ⟨by rfl, ?_⟩) ?_ ?_
                          rotate_left; · intro w'; go_simp; with_reducible rfl
                          rotate_left; · simp only [Act.put, sa_, sb_, sc_, i64_w, i32_w]; rfl
                          refine take_ (i := 7) (N := some 45) (v := ?_) (a' := ?_) (bt_ 44 0x2ff) rfl rfl (take_ofW HT_.out HW_.out (by kernel_rfl)) (fun _ _ _ h => h) (Or.inl ⟨by rfl, ?_⟩) hHeld ?_ ?_
                          rotate_left
                          · rintro w' ⟨s0, s1, s2, s3⟩
                            go_simp
                            with_reducible rfl
                          rotate_left; · simp only [Act.put, sa_, sb_, sc_, i64_w, i32_w]; rfl
                          refine pure_ (i := 8) (N := some 46) (v := ?_) (a' := ?_) (bt_ 44 0x3ff) rfl rfl (any_of HT_.out (by kernel_rfl)) (fun _ _ _ h => h) (Or.inl ⟨by rfl, ?_⟩) ?_ ?_
                          rotate_left; · intro w'; go_simp; with_reducible rfl
                          rotate_left; · simp only [Act.put, sa_, sb_, sc_, i64_w, i32_w]; rfl
                          refine take_ (i := 10) (N := some 48) (v := ?_) (a' := ?_) (bt_ 44 0x7ff) rfl rfl (take_ofW HT_.out HW_.out (by kernel_rfl)) (fun _ _ _ h => h) (Or.inl ⟨by rfl, ?_⟩) hHeld ?_ ?_
                          rotate_left
                          · rintro w' ⟨s0, s1, s2, s3⟩
                            go_simp
                            with_reducible rfl
                          rotate_left; · simp only [Act.put, sa_, sb_, sc_, i64_w, i32_w]; rfl
                          refine pure_ (i := 11) (N := some 49) (v := ?_) (a' := ?_) (bt_ 44 0xfff) rfl rfl (any_of HT_.out (by kernel_rfl)) (fun _ _ _ h => h) (Or.inl ⟨by rfl, ?_⟩) ?_ ?_
                          rotate_left; · intro w'; go_simp; with_reducible rfl
                          rotate_left; · simp only [Act.put, sa_, sb_, sc_, i64_w, i32_w]; rfl
                          refine pure_ (i := 12) (N := some 50) (v := ?_) (a' := ?_) (bt_ 44 0x1fff) rfl rfl (any_of HT_.out (by kernel_rfl)) (fun _ _ _ h => h) (Or.inl ⟨by rfl, ?_⟩) ?_ ?_
                          rotate_left; · intro w'; go_simp; with_reducible rfl
                          rotate_left; · simp only [Act.put, sa_, sb_, sc_, i64_w, i32_w]; rfl
                          refine pure_ (i := 13) (N := some 51) (v := ?_) (a' := ?_) (bt_ 44 0x3fff) rfl rfl (any_of HT_.out (by kernel_rfl)) (fun _ _ _ h => h) (Or.inl ⟨by rfl, ?_⟩) ?_ ?_
                          rotate_left; · intro w'; go_simp; with_reducible rfl
                          rotate_left; · simp only [Act.put, sa_, sb_, sc_, i64_w, i32_w]; rfl
                          refine pure_ (i := 14) (N := some 52) (v := ?_) (a' := ?_) (bt_ 44 0x7fff) rfl rfl (any_of HT_.out (by kernel_rfl)) (fun _ _ _ h => h) (Or.inl ⟨by rfl, ?_⟩) ?_ ?_
                          rotate_left; · intro w'; go_simp; with_reducible rfl
                          rotate_left; · simp only [Act.put, sa_, sb_, sc_, i64_w, i32_w]; rfl
                          refine pure_ (i := 15) (N := some 53) (v := ?_) (a' := ?_) (bt_ 44 0xffff) rfl rfl (any_of HT_.out (by kernel_rfl)) (fun _ _ _ h => h) (Or.inl ⟨by rfl, ?_⟩) ?_ ?_
                          rotate_left; · intro w'; go_simp; with_reducible rfl
                          rotate_left; · simp only [Act.put, sa_, sb_, sc_, i64_w, i32_w]; rfl
                          refine pure_ (i := 16) (N := some 54) (v := ?_) (a' := ?_) (bt_ 44 0x1ffff) rfl rfl (any_of HT_.out (by kernel_rfl)) (fun _ _ _ h => h) (Or.inl ⟨by rfl, ?_⟩) ?_ ?_
                          rotate_left; · intro w'; go_simp; with_reducible rfl
                          rotate_left; · simp only [Act.put, sa_, sb_, sc_, i64_w, i32_w]; rfl
                          refine take_ (i := 17) (N := some 55) (v := ?_) (a' := ?_) (bt_ 44 0x3ffff) rfl rfl (take_ofW HT_.out HW_.out (by kernel_rfl)) (fun _ _ _ h => h) (Or.inl ⟨by rfl, ?_⟩) hHeld ?_ ?_
                          rotate_left
                          · rintro w' ⟨s0, s1, s2, s3⟩
                            go_simp
                            with_reducible rfl
                          rotate_left; · simp only [Act.put, sa_, sb_, sc_, i64_w, i32_w]; rfl
                          refine pure_ (i := 18) (N := some 56) (v := ?_) (a' := ?_) (bt_ 44 0x7ffff) rfl rfl (any_of HT_.out (by kernel_rfl)) (fun _ _ _ h => h) (Or.inl ⟨by rfl, ?_⟩) ?_ ?_
                          rotate_left; · intro w'; go_simp; with_reducible rfl
                          rotate_left; · simp only [Act.put, sa_, sb_, sc_, i64_w, i32_w]; rfl
                          refine pure_ (i := 19) (N := some 57) (v := ?_) (a' := ?_) (bt_ 44 0xfffff) rfl rfl (any_of HT_.out (by kernel_rfl)) (fun _ _ _ h => h) (Or.inl ⟨by rfl, ?_⟩) ?_ ?_
                          rotate_left; · intro w'; go_simp; with_reducible rfl
                          rotate_left; · simp only [Act.put, sa_, sb_, sc_, i64_w, i32_w]; rfl
                          refine pure_ (i := 20) (N := some 58) (v := ?_) (a' := ?_) (bt_ 44 0x1fffff) rfl rfl (any_of HT_.out (by kernel_rfl)) (fun _ _ _ h => h) (Or.inl ⟨by rfl, ?_⟩) ?_ ?_
                          rotate_left; · intro w'; go_simp; with_reducible rfl
                          rotate_left; · simp only [Act.put, sa_, sb_, sc_, i64_w, i32_w]; rfl
                          refine pure_ (i := 21) (N := some 59) (v := ?_) (a' := ?_) (bt_ 44 0x3fffff) rfl rfl (any_of HT_.out (by kernel_rfl)) (fun _ _ _ h => h) (Or.inl ⟨by rfl, ?_⟩) ?_ ?_
                          rotate_left; · intro w'; go_simp; with_reducible rfl
                          rotate_left; · simp only [Act.put, sa_, sb_, sc_, i64_w, i32_w]; rfl
                          refine pure_ (i := 22) (N := some 60) (v := ?_) (a' := ?_) (bt_ 44 0x7fffff) rfl rfl (any_of HT_.out (by kernel_rfl)) (fun _ _ _ h => h) (Or.inl ⟨by rfl, ?_⟩) ?_ ?_
                          rotate_left; · intro w'; go_simp; with_reducible rfl
                          rotate_left; · simp only [Act.put, sa_, sb_, sc_, i64_w, i32_w]; rfl
                          refine pure_ (i := 24) (N := some 62) (v := ?_) (a' := ?_) (bt_ 44 0x17fffff) rfl rfl (any_of HT_.out (by kernel_rfl)) (fun _ _ _ h => h) (Or.inl ⟨by rfl, ?_⟩) ?_ ?_
                          rotate_left; · intro w'; go_simp; with_reducible rfl
                          rotate_left; · simp only [Act.put, sa_, sb_, sc_, i64_w, i32_w]; rfl
                          refine take_ (i := 23) (N := some 61) (v := ?_) (a' := ?_) (bt_ 44 0x1ffffff) rfl rfl (take_ofW HT_.out HW_.out (by kernel_rfl)) (fun _ _ _ h => h) (Or.inl ⟨by rfl, ?_⟩) hHeld ?_ ?_
                          rotate_left
                          · rintro w' ⟨s0, s1, s2, s3⟩
                            go_simp
                            with_reducible rfl
                          rotate_left; · simp only [Act.put, sa_, sb_, sc_, i64_w, i32_w]; rfl
                          refine pure_ (i := 25) (N := some 63) (v := ?_) (a' := ?_) (bt_ 44 0x3ffffff) rfl rfl (any_of HT_.out (by kernel_rfl)) (fun _ _ _ h => h) (Or.inl ⟨by rfl, ?_⟩) ?_ ?_
                          rotate_left; · intro w'; go_simp; with_reducible rfl
                          rotate_left; · simp only [Act.put, sa_, sb_, sc_, i64_w, i32_w]; rfl
                          refine take_ (i := 26) (N := some 64) (v := ?_) (a' := ?_) (bt_ 44 0x7ffffff) rfl rfl (take_ofW HT_.out HW_.out (by kernel_rfl)) (fun _ _ _ h => h) (Or.inl ⟨by rfl, ?_⟩) hHeld ?_ ?_
                          rotate_left
                          · rintro w' ⟨s0, s1, s2, s3⟩
                            go_simp
                            with_reducible rfl
                          rotate_left; · simp only [Act.put, sa_, sb_, sc_, i64_w, i32_w]; rfl
                          refine pure_ (i := 27) (N := some 65) (v := ?_) (a' := ?_) (bt_ 44 0xfffffff) rfl rfl (any_of HT_.out (by kernel_rfl)) (fun _ _ _ h => h) (Or.inl ⟨by rfl, ?_⟩) ?_ ?_
                          rotate_left; · intro w'; go_simp; with_reducible rfl
                          rotate_left; · simp only [Act.put, sa_, sb_, sc_, i64_w, i32_w]; rfl
                          refine pure_ (i := 28) (N := some 66) (v := ?_) (a' := ?_) (bt_ 44 0x1fffffff) rfl rfl (any_of HT_.out (by kernel_rfl)) (fun _ _ _ h => h) (Or.inl ⟨by rfl, ?_⟩) ?_ ?_
                          rotate_left; · intro w'; go_simp; with_reducible rfl
                          rotate_left; · simp only [Act.put, sa_, sb_, sc_, i64_w, i32_w]; rfl
                          refine pure_ (i := 29) (N := some 67) (v := ?_) (a' := ?_) (bt_ 44 0x3fffffff) rfl rfl (any_of HT_.out (by kernel_rfl)) (fun _ _ _ h => h) (Or.inl ⟨by rfl, ?_⟩) ?_ ?_
                          rotate_left; · intro w'; go_simp; with_reducible rfl
                          rotate_left; · simp only [Act.put, sa_, sb_, sc_, i64_w, i32_w]; rfl
                          refine pure_ (i := 31) (N := some 69) (v := ?_) (a' := ?_) (bt_ 44 0xbfffffff) rfl rfl (any_of HT_.out (by kernel_rfl)) (fun _ _ _ h => h) (Or.inl ⟨by rfl, ?_⟩) ?_ ?_
                          rotate_left; · intro w'; go_simp; with_reducible rfl
                          rotate_left; · simp only [Act.put, sa_, sb_, sc_, i64_w, i32_w]; rfl
                          refine take_ (i := 30) (N := some 68) (v := ?_) (a' := ?_) (bt_ 44 0xffffffff) rfl rfl (take_ofW HT_.out HW_.out (by kernel_rfl)) (fun _ _ _ h => h) (Or.inl ⟨by rfl, ?_⟩) hHeld ?_ ?_
                          rotate_left
                          · rintro w' ⟨s0, s1, s2, s3⟩
                            go_simp
                            with_reducible rfl
                          rotate_left; · simp only [Act.put, sa_, sb_, sc_, i64_w, i32_w]; rfl
                          refine pure_ (i := 32) (N := some 70) (v := ?_) (a' := ?_) (bt_ 44 0x1ffffffff) rfl rfl (any_of HT_.out (by kernel_rfl)) (fun _ _ _ h => h) (Or.inl ⟨by rfl, ?_⟩) ?_ ?_
                          rotate_left; · intro w'; go_simp; with_reducible rfl
                          rotate_left; · simp only [Act.put, sa_, sb_, sc_, i64_w, i32_w]; rfl
                          refine take_ (i := 33) (N := some 71) (v := ?_) (a' := ?_) (bt_ 44 0x3ffffffff) rfl rfl (take_ofW HT_.out HW_.out (by kernel_rfl)) (fun _ _ _ h => h) (Or.inl ⟨by rfl, ?_⟩) hHeld ?_ ?_
                          rotate_left
                          · rintro w' ⟨s0, s1, s2, s3⟩
                            go_simp
                            with_reducible rfl
                          rotate_left; · simp only [Act.put, sa_, sb_, sc_, i64_w, i32_w]; rfl
                          refine pure_ (i := 34) (N := some 72) (v := ?_) (a' := ?_) (bt_ 44 0x7ffffffff) rfl rfl (any_of HT_.out (by kernel_rfl)) (fun _ _ _ h => h) (Or.inl ⟨by rfl, ?_⟩) ?_ ?_
                          rotate_left; · intro w'; go_simp; with_reducible rfl
                          rotate_left; · simp only [Act.put, sa_, sb_, sc_, i64_w, i32_w]; rfl
                          refine pure_ (i := 35) (N := some 73) (v := ?_) (a' := ?_) (bt_ 44 0xfffffffff) rfl rfl (any_of HT_.out (by kernel_rfl)) (fun _ _ _ h => h) (Or.inl ⟨by rfl, ?_⟩) ?_ ?_
                          rotate_left; · intro w'; go_simp; with_reducible rfl
                          rotate_left; · simp only [Act.put, sa_, sb_, sc_, i64_w, i32_w]; rfl
                          refine pure_ (i := 36) (N := some 74) (v := ?_) (a' := ?_) (bt_ 44 0x1fffffffff) rfl rfl (any_of HT_.out (by kernel_rfl)) (fun _ _ _ h => h) (Or.inl ⟨by rfl, ?_⟩) ?_ ?_
                          rotate_left; · intro w'; go_simp; with_reducible rfl
                          rotate_left; · simp only [Act.put, sa_, sb_, sc_, i64_w, i32_w]; rfl
                          refine take_ (i := 37) (N := some 75) (v := ?_) (a' := ?_) (bt_ 44 0x3fffffffff) rfl rfl (take_ofW HT_.out HW_.out (by kernel_rfl)) (fun _ _ _ h => h) (Or.inl ⟨by rfl, ?_⟩) hHeld ?_ ?_
                          rotate_left
                          · rintro w' ⟨s0, s1, s2, s3⟩
                            go_simp
                            with_reducible rfl
                          rotate_left; · simp only [Act.put, sa_, sb_, sc_, i64_w, i32_w]; rfl
                          refine take_ (i := 39) (N := some 77) (v := ?_) (a' := ?_) (bt_ 44 0xbfffffffff) rfl rfl (take_ofW HT_.out HW_.out (by kernel_rfl)) (fun _ _ _ h => h) (Or.inl ⟨by rfl, ?_⟩) hHeld ?_ ?_
                          rotate_left
                          · rintro w' ⟨s0, s1, s2, s3⟩
                            go_simp
                            with_reducible rfl
                          rotate_left; · simp only [Act.put, sa_, sb_, sc_, i64_w, i32_w]; rfl
                          refine one_ (i := 38) (N := some 76) (bt_ 44 0xffffffffff) rfl rfl (one_of HT_.out (by kernel_rfl)) (by decide) (fun K hK => ?_)
                          refine goes_ Try.func19 (by kernel_rfl) rfl #[.agg #[.slice (some ad197) t180.length co28]] (by rfl) rfl rfl (by (try simp only [List.map_toArray, List.map_cons, List.map_nil]); first | done | rfl | (simp only [List.length_drop, List.length_take]; rfl)) ?_
                          with_reducible refine (impl_CountBusy.calls k _ _ t180 t198 _ ?side1 ?side2 A61.out).mono ?_
                          (case side1 => repeat (first | exact (Kd.R_reads' HO182.out).2.2 | (with_reducible refine Kd.C_alloc ?_ _) | (with_reducible refine Kd.C_drewN ?_ _) | (with_reducible refine Kd.C_drew ?_)))
                          (case side2 => exact (Kd.R_reads' HO182.out).2.1)
                          rintro e w65 ⟨rfl, hb⟩
                          have HS2_ := (hb.cell (World.block_lt_of_cell? _ _ (hHeld.2.2.1))).trans (hHeld.2.2.1)
                          have HS3_ := (hb.cell (World.block_lt_of_cell? _ _ (hHeld.2.2.2))).trans (hHeld.2.2.2)
                          refine ⟨_, rfl, ?_⟩
                          have n0_ := Aside0.mk (Kd.R_below (by (with_reducible repeat (first | apply ra_ | apply rb_ | apply rc_)); exact HO178.out) hb)
                          have n1_ := Aside0.mk (Kd.R_below (by (with_reducible repeat (first | apply ra_ | apply rb_ | apply rc_)); exact HO182.out) hb)
                          have n2_ := Aside0.mk (Kd.R_below (by (with_reducible repeat (first | apply ra_ | apply rb_ | apply rc_)); exact HO188.out) hb)
                          have n3_ := Aside0.mk (Kd.R_below (by (with_reducible repeat (first | apply ra_ | apply rb_ | apply rc_)); exact HO193.out) hb)
                          have n4_ := Aside0.mk (blk_below (g := gb179) (o := .cells #[.slice (some ad196) t176.length co24] 27 (0, 0)) (by (with_reducible repeat (first | refine ba_ ?_ _ | refine bb_ ?_ | refine bc_ ?_ _)); exact BK179.out) hb)
                          have n5_ := Aside0.mk (blk_below (g := gb184) (o := .cells #[.slice (some ad197) t180.length co28] 27 (0, 0)) (by (with_reducible repeat (first | refine ba_ ?_ _ | refine bb_ ?_ | refine bc_ ?_ _)); exact BK184.out) hb)
                          have n6_ := Aside0.mk (blk_below (g := gb190) (o := .cells #[.slice Ao33 t186.length co33] 27 (0, 0)) (by (with_reducible repeat (first | refine ba_ ?_ _ | refine bb_ ?_ | refine bc_ ?_ _)); exact BK190.out) hb)
                          have n7_ := Aside0.mk (blk_below (g := gb195) (o := .cells #[.slice Ao39 t191.length co39] 27 (0, 0)) (by (with_reducible repeat (first | refine ba_ ?_ _ | refine bb_ ?_ | refine bc_ ?_ _)); exact BK195.out) hb)
                          have n8_ := Aside0.mk (below_step (by repeat (first | (with_reducible first | exact HB.out | apply below_alloc | apply pw_below_drewN | apply below_drew1 | refine below_set ?_ GE179.out | refine below_set ?_ GE184.out | refine below_set ?_ GE190.out | refine below_set ?_ GE195.out) | exact HB.out)) hb)
                          clear HO178
                          clear HO182
                          clear HO188
                          clear HO193
                          clear BK179
                          clear BK184
                          clear BK190
                          clear BK195
                          clear HB
                          have HO178 := n0_
                          have HO182 := n1_
                          have HO188 := n2_
                          have HO193 := n3_
                          have BK179 := n4_
                          have BK184 := n5_
                          have BK190 := n6_
                          have BK195 := n7_
                          have HB := n8_
                          clear n0_ n1_ n2_ n3_ n4_ n5_ n6_ n7_ n8_
                          (try clear hb)
                          (try clear hb2)
                          (try clear hk)
                          (try clear hi)
                          refine hK.out _ _ ⟨(blk_cell BK184.out 0).trans rfl, (blk_cell BK179.out 0).trans rfl, HS2_, HS3_⟩ (fun hHeld => ?_)
                          clear hK K
                          refine norm_ (a' := ?_) ?_ ?_
                          rotate_left
                          · show Act.put _ (some 76) _ = _
                            simp only [Act.put, sa_, sb_, sc_, i64_w, i32_w]
                            rfl
                          refine one_ (i := 40) (N := some 78) (bt_ 44 0x1ffffffffff) rfl rfl (one_of HT_.out (by kernel_rfl)) (by decide) (fun K hK => ?_)
                          refine goes_ Try.func19 (by kernel_rfl) rfl #[.agg #[.slice (some ad196) t176.length co24]] (by rfl) rfl rfl (by (try simp only [List.map_toArray, List.map_cons, List.map_nil]); first | done | rfl | (simp only [List.length_drop, List.length_take]; rfl)) ?_
                          with_reducible refine (impl_CountBusy.calls k _ _ t176 t199 _ ?side1 ?side2 A62.out).mono ?_
                          (case side1 => repeat (first | exact (Kd.R_reads' HO178.out).2.2 | (with_reducible refine Kd.C_alloc ?_ _) | (with_reducible refine Kd.C_drewN ?_ _) | (with_reducible refine Kd.C_drew ?_)))
                          (case side2 => exact (Kd.R_reads' HO178.out).2.1)
                          rintro e w66 ⟨rfl, hb⟩
                          have HS2_ := (hb.cell (World.block_lt_of_cell? _ _ (hHeld.2.2.1))).trans (hHeld.2.2.1)
                          have HS3_ := (hb.cell (World.block_lt_of_cell? _ _ (hHeld.2.2.2))).trans (hHeld.2.2.2)
                          refine ⟨_, rfl, ?_⟩
                          have n0_ := Aside0.mk (Kd.R_below (by (with_reducible repeat (first | apply ra_ | apply rb_ | apply rc_)); exact HO178.out) hb)
                          have n1_ := Aside0.mk (Kd.R_below (by (with_reducible repeat (first | apply ra_ | apply rb_ | apply rc_)); exact HO182.out) hb)
                          have n2_ := Aside0.mk (Kd.R_below (by (with_reducible repeat (first | apply ra_ | apply rb_ | apply rc_)); exact HO188.out) hb)
                          have n3_ := Aside0.mk (Kd.R_below (by (with_reducible repeat (first | apply ra_ | apply rb_ | apply rc_)); exact HO193.out) hb)
                          have n4_ := Aside0.mk (blk_below (g := gb179) (o := .cells #[.slice (some ad196) t176.length co24] 27 (0, 0)) (by (with_reducible repeat (first | refine ba_ ?_ _ | refine bb_ ?_ | refine bc_ ?_ _)); exact BK179.out) hb)
                          have n5_ := Aside0.mk (blk_below (g := gb184) (o := .cells #[.slice (some ad197) t180.length co28] 27 (0, 0)) (by (with_reducible repeat (first | refine ba_ ?_ _ | refine bb_ ?_ | refine bc_ ?_ _)); exact BK184.out) hb)
                          have n6_ := Aside0.mk (blk_below (g := gb190) (o := .cells #[.slice Ao33 t186.length co33] 27 (0, 0)) (by (with_reducible repeat (first | refine ba_ ?_ _ | refine bb_ ?_ | refine bc_ ?_ _)); exact BK190.out) hb)
                          have n7_ := Aside0.mk (blk_below (g := gb195) (o := .cells #[.slice Ao39 t191.length co39] 27 (0, 0)) (by (with_reducible repeat (first | refine ba_ ?_ _ | refine bb_ ?_ | refine bc_ ?_ _)); exact BK195.out) hb)
                          have n8_ := Aside0.mk (below_step (by repeat (first | (with_reducible first | exact HB.out | apply below_alloc | apply pw_below_drewN | apply below_drew1 | refine below_set ?_ GE179.out | refine below_set ?_ GE184.out | refine below_set ?_ GE190.out | refine below_set ?_ GE195.out) | exact HB.out)) hb)
                          clear HO178
                          clear HO182
                          clear HO188
                          clear HO193
                          clear BK179
                          clear BK184
                          clear BK190
                          clear BK195
                          clear HB
                          have HO178 := n0_
                          have HO182 := n1_
                          have HO188 := n2_
                          have HO193 := n3_
                          have BK179 := n4_
                          have BK184 := n5_
                          have BK190 := n6_
                          have BK195 := n7_
                          have HB := n8_
                          clear n0_ n1_ n2_ n3_ n4_ n5_ n6_ n7_ n8_
                          (try clear hb)
                          (try clear hb2)
                          (try clear hk)
                          (try clear hi)
                          refine hK.out _ _ ⟨(blk_cell BK184.out 0).trans rfl, (blk_cell BK179.out 0).trans rfl, HS2_, HS3_⟩ (fun hHeld => ?_)
                          clear hK K
                          refine norm_ (a' := ?_) ?_ ?_
                          rotate_left
                          · show Act.put _ (some 78) _ = _
                            simp only [Act.put, sa_, sb_, sc_, i64_w, i32_w]
                            rfl
                          refine pure_ (i := 41) (N := some 79) (v := ?_) (a' := ?_) (bt_ 44 0x3ffffffffff) rfl rfl (any_of HT_.out (by kernel_rfl)) (fun _ _ _ h => h) (Or.inl ⟨by rfl, ?_⟩) ?_ ?_
                          rotate_left; · intro w'; go_simp; with_reducible rfl
                          rotate_left; · simp only [Act.put, sa_, sb_, sc_, i64_w, i32_w]; rfl
                          refine pure_ (i := 42) (N := some 80) (v := ?_) (a' := ?_) (bt_ 44 0x7ffffffffff) rfl rfl (any_of HT_.out (by kernel_rfl)) (fun _ _ _ h => h) (Or.inl ⟨by rfl, ?_⟩) ?_ ?_
                          rotate_left; · intro w'; go_simp; with_reducible rfl
                          rotate_left; · simp only [Act.put, sa_, sb_, sc_, i64_w, i32_w]; rfl
                          refine pure_ (i := 43) (N := some 81) (v := ?_) (a' := ?_) (bt_ 44 0xfffffffffff) rfl rfl (any_of HT_.out (by kernel_rfl)) (fun _ _ _ h => h) (Or.inl ⟨by rfl, ?_⟩) ?_ ?_
                          rotate_left; · intro w'; go_simp; with_reducible rfl
                          rotate_left; · simp only [Act.put, sa_, sb_, sc_, i64_w, i32_w]; rfl
                          refine done_ (done_of HT_.out (by kernel_rfl)) ?_
                          try go_wp2
                          go_meet
                          case rel => exact ⟨_, ((t198 != (wrap64 (t199 + 1)))), (by first | rfl | (simp; done) | (simp [*]; done)), H', ⟨by first | omega | exact Nat.le_refl _⟩, ⟨by (with_reducible repeat (first | apply ra_ | apply rb_ | apply rc_)); exact HO178.out⟩, ⟨by (with_reducible repeat (first | apply ra_ | apply rb_ | apply rc_)); exact HO182.out⟩, ⟨by (with_reducible repeat (first | apply ra_ | apply rb_ | apply rc_)); exact HO188.out⟩, ⟨by (with_reducible repeat (first | apply ra_ | apply rb_ | apply rc_)); exact HO193.out⟩, ⟨by (with_reducible repeat (first | refine ba_ ?_ _ | refine bb_ ?_ | refine bc_ ?_ _)); exact BK179.out⟩, ⟨by (with_reducible repeat (first | refine ba_ ?_ _ | refine bb_ ?_ | refine bc_ ?_ _)); exact BK184.out⟩, ⟨by (with_reducible repeat (first | refine ba_ ?_ _ | refine bb_ ?_ | refine bc_ ?_ _)); exact BK190.out⟩, ⟨by (with_reducible repeat (first | refine ba_ ?_ _ | refine bb_ ?_ | refine bc_ ?_ _)); exact BK195.out⟩, ⟨by repeat (first | (with_reducible first | exact HB.out | apply below_alloc | apply pw_below_drewN | apply below_drew1 | refine below_set ?_ GE179.out | refine below_set ?_ GE184.out | refine below_set ?_ GE190.out | refine below_set ?_ GE195.out) | exact HB.out)⟩⟩
                        · replace c60 := Bool.eq_false_iff.mpr c60
                          subst c60
                          have H1 : (laws_FnTags.j0 k t183 true t176 t186) = some r := by rw [if_neg (show ¬ (false = true) by decide)] at H; exact H
                          clear H
                          have H := H1
                          clear H1
                          have H' := Aside0.mk H
                          clear H
                          try go_wp2
                          have n0_ : Aside0 (Kd.R Kd.bool 4 (w38.setCell ⟨gb195, 0, none⟩ (.slice Ao39 t191.length co39)) w.heap.size (fun k_ => some k_ ≠ (.slice Ao28 t180.length co28 : Value).ownBlock ∧ some k_ ≠ (.slice Ao33 t186.length co33 : Value).ownBlock ∧ some k_ ≠ (.slice Ao39 t191.length co39 : Value).ownBlock) (.slice Ao24 t176.length co24) t176) := ⟨by (with_reducible repeat (first | apply ra_ | apply rb_ | apply rc_)); exact Kd.R_mono (Kd.R_far (p := ⟨gb195, 0, none⟩) (Kd.R_types HO178.out BK195.out (by decide)) (fun _ hk => hk.2) (.slice Ao39 t191.length co39)) (fun _ hk => ⟨hk.1.1.1.2, ⟨hk.1.1.2, hk.1.2⟩⟩)⟩
                          have n1_ : Aside0 (Kd.R Kd.bool 4 (w38.setCell ⟨gb195, 0, none⟩ (.slice Ao39 t191.length co39)) w.heap.size (fun k_ => some k_ ≠ (.slice Ao24 t176.length co24 : Value).ownBlock ∧ some k_ ≠ (.slice Ao33 t186.length co33 : Value).ownBlock ∧ some k_ ≠ (.slice Ao39 t191.length co39 : Value).ownBlock) (.slice Ao28 t180.length co28) t180) := ⟨by (with_reducible repeat (first | apply ra_ | apply rb_ | apply rc_)); exact Kd.R_mono (Kd.R_far (p := ⟨gb195, 0, none⟩) (Kd.R_types HO182.out BK195.out (by decide)) (fun _ hk => hk.2) (.slice Ao39 t191.length co39)) (fun _ hk => ⟨hk.1.1.1.2, ⟨hk.1.1.2, hk.1.2⟩⟩)⟩
                          have n2_ : Aside0 (Kd.R Kd.bool 4 (w38.setCell ⟨gb195, 0, none⟩ (.slice Ao39 t191.length co39)) w.heap.size (fun k_ => some k_ ≠ (.slice Ao24 t176.length co24 : Value).ownBlock ∧ some k_ ≠ (.slice Ao28 t180.length co28 : Value).ownBlock ∧ some k_ ≠ (.slice Ao39 t191.length co39 : Value).ownBlock) (.slice Ao33 t186.length co33) t186) := ⟨by (with_reducible repeat (first | apply ra_ | apply rb_ | apply rc_)); exact Kd.R_mono (Kd.R_far (p := ⟨gb195, 0, none⟩) (Kd.R_types HO188.out BK195.out (by decide)) (fun _ hk => hk.2) (.slice Ao39 t191.length co39)) (fun _ hk => ⟨hk.1.1.1.2, ⟨hk.1.1.2, hk.1.2⟩⟩)⟩
                          have n3_ : Aside0 (Kd.R Kd.bool 4 (w38.setCell ⟨gb195, 0, none⟩ (.slice Ao39 t191.length co39)) w.heap.size (fun k_ => some k_ ≠ (.slice Ao24 t176.length co24 : Value).ownBlock ∧ some k_ ≠ (.slice Ao28 t180.length co28 : Value).ownBlock ∧ some k_ ≠ (.slice Ao33 t186.length co33 : Value).ownBlock) (.slice Ao39 t191.length co39) t191) := ⟨by (with_reducible repeat (first | apply ra_ | apply rb_ | apply rc_)); exact Kd.R_mono (Kd.R_far (p := ⟨gb195, 0, none⟩) (Kd.R_types HO193.out BK195.out (by decide)) (fun _ hk => hk.2) (.slice Ao39 t191.length co39)) (fun _ hk => ⟨hk.1.1.1.2, ⟨hk.1.1.2, hk.1.2⟩⟩)⟩
                          have n4_ : Aside0 ((w38.setCell ⟨gb195, 0, none⟩ (.slice Ao39 t191.length co39)).heap[gb179]? = some (.cells #[.slice Ao24 t176.length co24] 27 (0, 0))) := ⟨by (with_reducible repeat (first | refine ba_ ?_ _ | refine bb_ ?_ | refine bc_ ?_ _)); refine blk_far ?_ NB179_195.out _; (with_reducible repeat (first | refine ba_ ?_ _ | refine bb_ ?_ | refine bc_ ?_ _)); exact BK179.out⟩
                          have n5_ : Aside0 ((w38.setCell ⟨gb195, 0, none⟩ (.slice Ao39 t191.length co39)).heap[gb184]? = some (.cells #[.slice Ao28 t180.length co28] 27 (0, 0))) := ⟨by (with_reducible repeat (first | refine ba_ ?_ _ | refine bb_ ?_ | refine bc_ ?_ _)); refine blk_far ?_ NB184_195.out _; (with_reducible repeat (first | refine ba_ ?_ _ | refine bb_ ?_ | refine bc_ ?_ _)); exact BK184.out⟩
                          have n6_ : Aside0 ((w38.setCell ⟨gb195, 0, none⟩ (.slice Ao39 t191.length co39)).heap[gb190]? = some (.cells #[.slice Ao33 t186.length co33] 27 (0, 0))) := ⟨by (with_reducible repeat (first | refine ba_ ?_ _ | refine bb_ ?_ | refine bc_ ?_ _)); refine blk_far ?_ NB190_195.out _; (with_reducible repeat (first | refine ba_ ?_ _ | refine bb_ ?_ | refine bc_ ?_ _)); exact BK190.out⟩
                          have n7_ : Aside0 ((w38.setCell ⟨gb195, 0, none⟩ (.slice Ao39 t191.length co39)).heap[gb195]? = some (.cells #[.slice Ao39 t191.length co39] 27 (0, 0))) := ⟨by (with_reducible repeat (first | refine ba_ ?_ _ | refine bb_ ?_ | refine bc_ ?_ _)); refine blk_put (cs := #[.slice none 0 0]) ?_ 0 _ rfl; (with_reducible repeat (first | refine ba_ ?_ _ | refine bb_ ?_ | refine bc_ ?_ _)); exact BK195.out⟩
                          have n8_ : Aside0 (Below w.heap.size w (w38.setCell ⟨gb195, 0, none⟩ (.slice Ao39 t191.length co39))) := ⟨by repeat (first | (with_reducible first | exact HB.out | apply below_alloc | apply pw_below_drewN | apply below_drew1 | refine below_set ?_ GE179.out | refine below_set ?_ GE184.out | refine below_set ?_ GE190.out | refine below_set ?_ GE195.out) | exact HB.out)⟩
                          (try clear HO178)
                          (try clear HO182)
                          (try clear HO188)
                          (try clear HO193)
                          (try clear BK179)
                          (try clear BK184)
                          (try clear BK190)
                          (try clear BK195)
                          (try clear HB)
                          generalize (w38.setCell ⟨gb195, 0, none⟩ (.slice Ao39 t191.length co39)) = w67 at n0_ n1_ n2_ n3_ n4_ n5_ n6_ n7_ n8_ ⊢
                          have HO178 := n0_
                          have HO182 := n1_
                          have HO188 := n2_
                          have HO193 := n3_
                          have BK179 := n4_
                          have BK184 := n5_
                          have BK190 := n6_
                          have BK195 := n7_
                          have HB := n8_
                          clear n0_ n1_ n2_ n3_ n4_ n5_ n6_ n7_ n8_
                          have n0_ := Aside0.mk (Kd.R_drew HO178.out)
                          have n1_ := Aside0.mk (Kd.R_drew HO182.out)
                          have n2_ := Aside0.mk (Kd.R_drew HO188.out)
                          have n3_ := Aside0.mk (Kd.R_drew HO193.out)
                          have n4_ := Aside0.mk (blk_drew BK179.out)
                          have n5_ := Aside0.mk (blk_drew BK184.out)
                          have n6_ := Aside0.mk (blk_drew BK190.out)
                          have n7_ := Aside0.mk (blk_drew BK195.out)
                          have n8_ := Aside0.mk (below_drew1 HB.out)
                          clear HO178
                          clear HO182
                          clear HO188
                          clear HO193
                          clear BK179
                          clear BK184
                          clear BK190
                          clear BK195
                          clear HB
                          have HO178 := n0_
                          have HO182 := n1_
                          have HO188 := n2_
                          have HO193 := n3_
                          have BK179 := n4_
                          have BK184 := n5_
                          have BK190 := n6_
                          have BK195 := n7_
                          have HB := n8_
                          clear n0_ n1_ n2_ n3_ n4_ n5_ n6_ n7_ n8_
                          have p196 : 0 ≤ (t183 : Int) := of_decide_eq_true (by first | (with_reducible assumption) | assumption)
                          have q196 : t183 < (t176.length : Int) := of_decide_eq_true (by first | (with_reducible assumption) | assumption)
                          obtain ⟨ad196, e196, hx196_0⟩ := Kd.at_bool (Kd.R_reads' HO178.out).2.2 t183 p196 q196
                          (try rw [← Nbq54.out] at hx196_0)
                          (try rw [← Nbq59.out] at hx196_0)
                          cases e196
                          replace p196 := eq_true p196
                          replace q196 := eq_true q196
                          have p197 : 0 ≤ (t183 : Int) := of_decide_eq_true (by first | (with_reducible assumption) | assumption)
                          have q197 : t183 < (t180.length : Int) := of_decide_eq_true (by first | (with_reducible assumption) | assumption)
                          obtain ⟨ad197, e197, hx197_0⟩ := Kd.at_bool (Kd.R_reads' HO182.out).2.2 t183 p197 q197
                          (try rw [← Nbq54.out] at hx197_0)
                          (try rw [← Nbq59.out] at hx197_0)
                          cases e197
                          replace p197 := eq_true p197
                          replace q197 := eq_true q197
                          refine start_ (n := 44) (S := fun w' => w'.cell? ⟨gb184, 0, none⟩ = some (.slice (some ad197) t180.length co28) ∧ w'.cell? ⟨gb179, 0, none⟩ = some (.slice (some ad196) t176.length co24) ∧ w'.cell? (ad196.add (t183).toNat) = some (.bool false) ∧ w'.cell? (ad197.add (t183).toNat) = some (.bool false)) (ds := []) (bt_ 44 0) (by kernel_rfl) rfl (by kernel_rfl) ⟨(blk_cell BK184.out 0).trans rfl, (blk_cell BK179.out 0).trans rfl, hx196_0, hx197_0⟩ (fun hHeld => ?_); refine with_tabW laws_FnTags.tab9 laws_FnTags.bits9 (fun HT_ HW_ => ?_)
                          generalize w67.drew = w68 at HO178 HO182 HO188 HO193 BK179 BK184 BK190 BK195 HB hx196_0 hx197_0 hHeld ⊢
                          refine pure_ (i := 0) (N := some 38) (v := ?_) (a' := ?_) (bt_ 44 1) rfl rfl (any_of HT_.out (by kernel_rfl)) (fun _ _ _ h => h) (Or.inl ⟨by rfl, ?_⟩) ?_ ?_
                          rotate_left; · intro w'; go_simp; with_reducible rfl
                          rotate_left; · simp only [Act.put, sa_, sb_, sc_, i64_w, i32_w]; rfl
                          refine pure_ (i := 1) (N := some 39) (v := ?_) (a' := ?_) (bt_ 44 3) rfl rfl (any_of HT_.out (by kernel_rfl)) (fun _ _ _ h => h) (Or.inl ⟨by rfl, ?_⟩) ?_ ?_
                          rotate_left; · intro w'; go_simp; with_reducible rfl
                          rotate_left; · simp only [Act.put, sa_, sb_, sc_, i64_w, i32_w]; rfl
                          refine pure_ (i := 2) (N := some 40) (v := ?_) (a' := ?_) (bt_ 44 7) rfl rfl (any_of HT_.out (by kernel_rfl)) (fun _ _ _ h => h) (Or.inl ⟨by rfl, ?_⟩) ?_ ?_
                          rotate_left; · intro w'; go_simp; with_reducible rfl
                          rotate_left; · simp only [Act.put, sa_, sb_, sc_, i64_w, i32_w]; rfl
                          refine pure_ (i := 3) (N := some 41) (v := ?_) (a' := ?_) (bt_ 44 0xf) rfl rfl (any_of HT_.out (by kernel_rfl)) (fun _ _ _ h => h) (Or.inl ⟨by rfl, ?_⟩) ?_ ?_
                          rotate_left; · intro w'; go_simp; with_reducible rfl
                          rotate_left; · simp only [Act.put, sa_, sb_, sc_, i64_w, i32_w]; rfl
                          refine pure_ (i := 4) (N := some 42) (v := ?_) (a' := ?_) (bt_ 44 0x1f) rfl rfl (any_of HT_.out (by kernel_rfl)) (fun _ _ _ h => h) (Or.inl ⟨by rfl, ?_⟩) ?_ ?_
                          rotate_left; · intro w'; go_simp; with_reducible rfl
                          rotate_left; · simp only [Act.put, sa_, sb_, sc_, i64_w, i32_w]; rfl
                          refine pure_ (i := 5) (N := some 43) (v := ?_) (a' := ?_) (bt_ 44 0x3f) rfl rfl (any_of HT_.out (by kernel_rfl)) (fun _ _ _ h => h) (Or.inl ⟨by rfl, ?_⟩) ?_ ?_
                          rotate_left; · intro w'; go_simp; with_reducible rfl
                          rotate_left; · simp only [Act.put, sa_, sb_, sc_, i64_w, i32_w]; rfl
                          refine pure_ (i := 6) (N := some 44) (v := ?_) (a' := ?_) (bt_ 44 0x7f) rfl rfl (any_of HT_.out (by kernel_rfl)) (fun _ _ _ h => h) (Or.inl ⟨by rfl, ?_⟩) ?_ ?_
                          rotate_left; · intro w'; go_simp; with_reducible rfl
                          rotate_left; · simp only [Act.put, sa_, sb_, sc_, i64_w, i32_w]; rfl
                          refine pure_ (i := 9) (N := some 47) (v := ?_) (a' := ?_) (bt_ 44 0x27f) rfl rfl (any_of HT_.out (by kernel_rfl)) (fun _ _ _ h => h) (Or.inl ⟨by rfl, ?_⟩) ?_ ?_
                          rotate_left; · intro w'; go_simp; with_reducible rfl
                          rotate_left; · simp only [Act.put, sa_, sb_, sc_, i64_w, i32_w]; rfl
                          refine take_ (i := 7) (N := some 45) (v := ?_) (a' := ?_) (bt_ 44 0x2ff) rfl rfl (take_ofW HT_.out HW_.out (by kernel_rfl)) (fun _ _ _ h => h) (Or.inl ⟨by rfl, ?_⟩) hHeld ?_ ?_
                          rotate_left
                          · rintro w' ⟨s0, s1, s2, s3⟩
                            go_simp
                            with_reducible rfl
                          rotate_left; · simp only [Act.put, sa_, sb_, sc_, i64_w, i32_w]; rfl
                          refine pure_ (i := 8) (N := some 46) (v := ?_) (a' := ?_) (bt_ 44 0x3ff) rfl rfl (any_of HT_.out (by kernel_rfl)) (fun _ _ _ h => h) (Or.inl ⟨by rfl, ?_⟩) ?_ ?_
                          rotate_left; · intro w'; go_simp; with_reducible rfl
                          rotate_left; · simp only [Act.put, sa_, sb_, sc_, i64_w, i32_w]; rfl
                          refine take_ (i := 10) (N := some 48) (v := ?_) (a' := ?_) (bt_ 44 0x7ff) rfl rfl (take_ofW HT_.out HW_.out (by kernel_rfl)) (fun _ _ _ h => h) (Or.inl ⟨by rfl, ?_⟩) hHeld ?_ ?_
                          rotate_left
                          · rintro w' ⟨s0, s1, s2, s3⟩
                            go_simp
                            with_reducible rfl
                          rotate_left; · simp only [Act.put, sa_, sb_, sc_, i64_w, i32_w]; rfl
                          refine pure_ (i := 11) (N := some 49) (v := ?_) (a' := ?_) (bt_ 44 0xfff) rfl rfl (any_of HT_.out (by kernel_rfl)) (fun _ _ _ h => h) (Or.inl ⟨by rfl, ?_⟩) ?_ ?_
                          rotate_left; · intro w'; go_simp; with_reducible rfl
                          rotate_left; · simp only [Act.put, sa_, sb_, sc_, i64_w, i32_w]; rfl
                          refine pure_ (i := 12) (N := some 50) (v := ?_) (a' := ?_) (bt_ 44 0x1fff) rfl rfl (any_of HT_.out (by kernel_rfl)) (fun _ _ _ h => h) (Or.inl ⟨by rfl, ?_⟩) ?_ ?_
                          rotate_left; · intro w'; go_simp; with_reducible rfl
                          rotate_left; · simp only [Act.put, sa_, sb_, sc_, i64_w, i32_w]; rfl
                          refine pure_ (i := 13) (N := some 51) (v := ?_) (a' := ?_) (bt_ 44 0x3fff) rfl rfl (any_of HT_.out (by kernel_rfl)) (fun _ _ _ h => h) (Or.inl ⟨by rfl, ?_⟩) ?_ ?_
                          rotate_left; · intro w'; go_simp; with_reducible rfl
                          rotate_left; · simp only [Act.put, sa_, sb_, sc_, i64_w, i32_w]; rfl
                          refine pure_ (i := 14) (N := some 52) (v := ?_) (a' := ?_) (bt_ 44 0x7fff) rfl rfl (any_of HT_.out (by kernel_rfl)) (fun _ _ _ h => h) (Or.inl ⟨by rfl, ?_⟩) ?_ ?_
                          rotate_left; · intro w'; go_simp; with_reducible rfl
                          rotate_left; · simp only [Act.put, sa_, sb_, sc_, i64_w, i32_w]; rfl
                          refine pure_ (i := 15) (N := some 53) (v := ?_) (a' := ?_) (bt_ 44 0xffff) rfl rfl (any_of HT_.out (by kernel_rfl)) (fun _ _ _ h => h) (Or.inl ⟨by rfl, ?_⟩) ?_ ?_
                          rotate_left; · intro w'; go_simp; with_reducible rfl
                          rotate_left; · simp only [Act.put, sa_, sb_, sc_, i64_w, i32_w]; rfl
                          refine pure_ (i := 16) (N := some 54) (v := ?_) (a' := ?_) (bt_ 44 0x1ffff) rfl rfl (any_of HT_.out (by kernel_rfl)) (fun _ _ _ h => h) (Or.inl ⟨by rfl, ?_⟩) ?_ ?_
                          rotate_left; · intro w'; go_simp; with_reducible rfl
                          rotate_left; · simp only [Act.put, sa_, sb_, sc_, i64_w, i32_w]; rfl
                          refine take_ (i := 17) (N := some 55) (v := ?_) (a' := ?_) (bt_ 44 0x3ffff) rfl rfl (take_ofW HT_.out HW_.out (by kernel_rfl)) (fun _ _ _ h => h) (Or.inl ⟨by rfl, ?_⟩) hHeld ?_ ?_
                          rotate_left
                          · rintro w' ⟨s0, s1, s2, s3⟩
                            go_simp
                            with_reducible rfl
                          rotate_left; · simp only [Act.put, sa_, sb_, sc_, i64_w, i32_w]; rfl
                          refine pure_ (i := 18) (N := some 56) (v := ?_) (a' := ?_) (bt_ 44 0x7ffff) rfl rfl (any_of HT_.out (by kernel_rfl)) (fun _ _ _ h => h) (Or.inl ⟨by rfl, ?_⟩) ?_ ?_
                          rotate_left; · intro w'; go_simp; with_reducible rfl
                          rotate_left; · simp only [Act.put, sa_, sb_, sc_, i64_w, i32_w]; rfl
                          refine pure_ (i := 19) (N := some 57) (v := ?_) (a' := ?_) (bt_ 44 0xfffff) rfl rfl (any_of HT_.out (by kernel_rfl)) (fun _ _ _ h => h) (Or.inl ⟨by rfl, ?_⟩) ?_ ?_
                          rotate_left; · intro w'; go_simp; with_reducible rfl
                          rotate_left; · simp only [Act.put, sa_, sb_, sc_, i64_w, i32_w]; rfl
                          refine pure_ (i := 20) (N := some 58) (v := ?_) (a' := ?_) (bt_ 44 0x1fffff) rfl rfl (any_of HT_.out (by kernel_rfl)) (fun _ _ _ h => h) (Or.inl ⟨by rfl, ?_⟩) ?_ ?_
                          rotate_left; · intro w'; go_simp; with_reducible rfl
                          rotate_left; · simp only [Act.put, sa_, sb_, sc_, i64_w, i32_w]; rfl
                          refine pure_ (i := 21) (N := some 59) (v := ?_) (a' := ?_) (bt_ 44 0x3fffff) rfl rfl (any_of HT_.out (by kernel_rfl)) (fun _ _ _ h => h) (Or.inl ⟨by rfl, ?_⟩) ?_ ?_
                          rotate_left; · intro w'; go_simp; with_reducible rfl
                          rotate_left; · simp only [Act.put, sa_, sb_, sc_, i64_w, i32_w]; rfl
                          refine pure_ (i := 22) (N := some 60) (v := ?_) (a' := ?_) (bt_ 44 0x7fffff) rfl rfl (any_of HT_.out (by kernel_rfl)) (fun _ _ _ h => h) (Or.inl ⟨by rfl, ?_⟩) ?_ ?_
                          rotate_left; · intro w'; go_simp; with_reducible rfl
                          rotate_left; · simp only [Act.put, sa_, sb_, sc_, i64_w, i32_w]; rfl
                          refine pure_ (i := 24) (N := some 62) (v := ?_) (a' := ?_) (bt_ 44 0x17fffff) rfl rfl (any_of HT_.out (by kernel_rfl)) (fun _ _ _ h => h) (Or.inl ⟨by rfl, ?_⟩) ?_ ?_
                          rotate_left; · intro w'; go_simp; with_reducible rfl
                          rotate_left; · simp only [Act.put, sa_, sb_, sc_, i64_w, i32_w]; rfl
                          refine take_ (i := 23) (N := some 61) (v := ?_) (a' := ?_) (bt_ 44 0x1ffffff) rfl rfl (take_ofW HT_.out HW_.out (by kernel_rfl)) (fun _ _ _ h => h) (Or.inl ⟨by rfl, ?_⟩) hHeld ?_ ?_
                          rotate_left
                          · rintro w' ⟨s0, s1, s2, s3⟩
                            go_simp
                            with_reducible rfl
                          rotate_left; · simp only [Act.put, sa_, sb_, sc_, i64_w, i32_w]; rfl
                          refine pure_ (i := 25) (N := some 63) (v := ?_) (a' := ?_) (bt_ 44 0x3ffffff) rfl rfl (any_of HT_.out (by kernel_rfl)) (fun _ _ _ h => h) (Or.inl ⟨by rfl, ?_⟩) ?_ ?_
                          rotate_left; · intro w'; go_simp; with_reducible rfl
                          rotate_left; · simp only [Act.put, sa_, sb_, sc_, i64_w, i32_w]; rfl
                          refine take_ (i := 26) (N := some 64) (v := ?_) (a' := ?_) (bt_ 44 0x7ffffff) rfl rfl (take_ofW HT_.out HW_.out (by kernel_rfl)) (fun _ _ _ h => h) (Or.inl ⟨by rfl, ?_⟩) hHeld ?_ ?_
                          rotate_left
                          · rintro w' ⟨s0, s1, s2, s3⟩
                            go_simp
                            with_reducible rfl
                          rotate_left; · simp only [Act.put, sa_, sb_, sc_, i64_w, i32_w]; rfl
                          refine pure_ (i := 27) (N := some 65) (v := ?_) (a' := ?_) (bt_ 44 0xfffffff) rfl rfl (any_of HT_.out (by kernel_rfl)) (fun _ _ _ h => h) (Or.inl ⟨by rfl, ?_⟩) ?_ ?_
                          rotate_left; · intro w'; go_simp; with_reducible rfl
                          rotate_left; · simp only [Act.put, sa_, sb_, sc_, i64_w, i32_w]; rfl
                          refine pure_ (i := 28) (N := some 66) (v := ?_) (a' := ?_) (bt_ 44 0x1fffffff) rfl rfl (any_of HT_.out (by kernel_rfl)) (fun _ _ _ h => h) (Or.inl ⟨by rfl, ?_⟩) ?_ ?_
                          rotate_left; · intro w'; go_simp; with_reducible rfl
                          rotate_left; · simp only [Act.put, sa_, sb_, sc_, i64_w, i32_w]; rfl
                          refine pure_ (i := 29) (N := some 67) (v := ?_) (a' := ?_) (bt_ 44 0x3fffffff) rfl rfl (any_of HT_.out (by kernel_rfl)) (fun _ _ _ h => h) (Or.inl ⟨by rfl, ?_⟩) ?_ ?_
                          rotate_left; · intro w'; go_simp; with_reducible rfl
                          rotate_left; · simp only [Act.put, sa_, sb_, sc_, i64_w, i32_w]; rfl
                          refine pure_ (i := 31) (N := some 69) (v := ?_) (a' := ?_) (bt_ 44 0xbfffffff) rfl rfl (any_of HT_.out (by kernel_rfl)) (fun _ _ _ h => h) (Or.inl ⟨by rfl, ?_⟩) ?_ ?_
                          rotate_left; · intro w'; go_simp; with_reducible rfl
                          rotate_left; · simp only [Act.put, sa_, sb_, sc_, i64_w, i32_w]; rfl
                          refine take_ (i := 30) (N := some 68) (v := ?_) (a' := ?_) (bt_ 44 0xffffffff) rfl rfl (take_ofW HT_.out HW_.out (by kernel_rfl)) (fun _ _ _ h => h) (Or.inl ⟨by rfl, ?_⟩) hHeld ?_ ?_
                          rotate_left
                          · rintro w' ⟨s0, s1, s2, s3⟩
                            go_simp
                            with_reducible rfl
                          rotate_left; · simp only [Act.put, sa_, sb_, sc_, i64_w, i32_w]; rfl
                          refine pure_ (i := 32) (N := some 70) (v := ?_) (a' := ?_) (bt_ 44 0x1ffffffff) rfl rfl (any_of HT_.out (by kernel_rfl)) (fun _ _ _ h => h) (Or.inl ⟨by rfl, ?_⟩) ?_ ?_
                          rotate_left; · intro w'; go_simp; with_reducible rfl
                          rotate_left; · simp only [Act.put, sa_, sb_, sc_, i64_w, i32_w]; rfl
                          refine take_ (i := 33) (N := some 71) (v := ?_) (a' := ?_) (bt_ 44 0x3ffffffff) rfl rfl (take_ofW HT_.out HW_.out (by kernel_rfl)) (fun _ _ _ h => h) (Or.inl ⟨by rfl, ?_⟩) hHeld ?_ ?_
                          rotate_left
                          · rintro w' ⟨s0, s1, s2, s3⟩
                            go_simp
                            with_reducible rfl
                          rotate_left; · simp only [Act.put, sa_, sb_, sc_, i64_w, i32_w]; rfl
                          refine pure_ (i := 34) (N := some 72) (v := ?_) (a' := ?_) (bt_ 44 0x7ffffffff) rfl rfl (any_of HT_.out (by kernel_rfl)) (fun _ _ _ h => h) (Or.inl ⟨by rfl, ?_⟩) ?_ ?_
                          rotate_left; · intro w'; go_simp; with_reducible rfl
                          rotate_left; · simp only [Act.put, sa_, sb_, sc_, i64_w, i32_w]; rfl
                          refine pure_ (i := 35) (N := some 73) (v := ?_) (a' := ?_) (bt_ 44 0xfffffffff) rfl rfl (any_of HT_.out (by kernel_rfl)) (fun _ _ _ h => h) (Or.inl ⟨by rfl, ?_⟩) ?_ ?_
                          rotate_left; · intro w'; go_simp; with_reducible rfl
                          rotate_left; · simp only [Act.put, sa_, sb_, sc_, i64_w, i32_w]; rfl
                          refine pure_ (i := 36) (N := some 74) (v := ?_) (a' := ?_) (bt_ 44 0x1fffffffff) rfl rfl (any_of HT_.out (by kernel_rfl)) (fun _ _ _ h => h) (Or.inl ⟨by rfl, ?_⟩) ?_ ?_
                          rotate_left; · intro w'; go_simp; with_reducible rfl
                          rotate_left; · simp only [Act.put, sa_, sb_, sc_, i64_w, i32_w]; rfl
                          refine pure_ (i := 37) (N := some 75) (v := undef) (a' := ?_) (bt_ 44 0x3fffffffff) rfl rfl (any_of HT_.out (by kernel_rfl)) (fun _ _ _ h => h) (Or.inr ⟨by rfl, rfl⟩) ?_ ?_
                          rotate_left; · simp only [Act.put, sa_, sb_, sc_, i64_w, i32_w]; rfl
                          refine pure_ (i := 38) (N := some 76) (v := undef) (a' := ?_) (bt_ 44 0x7fffffffff) rfl rfl (any_of HT_.out (by kernel_rfl)) (fun _ _ _ h => h) (Or.inr ⟨by rfl, rfl⟩) ?_ ?_
                          rotate_left; · simp only [Act.put, sa_, sb_, sc_, i64_w, i32_w]; rfl
                          refine pure_ (i := 39) (N := some 77) (v := undef) (a' := ?_) (bt_ 44 0xffffffffff) rfl rfl (any_of HT_.out (by kernel_rfl)) (fun _ _ _ h => h) (Or.inr ⟨by rfl, rfl⟩) ?_ ?_
                          rotate_left; · simp only [Act.put, sa_, sb_, sc_, i64_w, i32_w]; rfl
                          refine pure_ (i := 40) (N := some 78) (v := undef) (a' := ?_) (bt_ 44 0x1ffffffffff) rfl rfl (any_of HT_.out (by kernel_rfl)) (fun _ _ _ h => h) (Or.inr ⟨by rfl, rfl⟩) ?_ ?_
                          rotate_left; · simp only [Act.put, sa_, sb_, sc_, i64_w, i32_w]; rfl
                          refine pure_ (i := 41) (N := some 79) (v := undef) (a' := ?_) (bt_ 44 0x3ffffffffff) rfl rfl (any_of HT_.out (by kernel_rfl)) (fun _ _ _ h => h) (Or.inr ⟨by rfl, rfl⟩) ?_ ?_
                          rotate_left; · simp only [Act.put, sa_, sb_, sc_, i64_w, i32_w]; rfl
                          refine pure_ (i := 42) (N := some 80) (v := undef) (a' := ?_) (bt_ 44 0x7ffffffffff) rfl rfl (any_of HT_.out (by kernel_rfl)) (fun _ _ _ h => h) (Or.inr ⟨by rfl, rfl⟩) ?_ ?_
                          rotate_left; · simp only [Act.put, sa_, sb_, sc_, i64_w, i32_w]; rfl
                          refine pure_ (i := 43) (N := some 81) (v := ?_) (a' := ?_) (bt_ 44 0xfffffffffff) rfl rfl (any_of HT_.out (by kernel_rfl)) (fun _ _ _ h => h) (Or.inl ⟨by rfl, ?_⟩) ?_ ?_
                          rotate_left; · intro w'; go_simp; with_reducible rfl
                          rotate_left; · simp only [Act.put, sa_, sb_, sc_, i64_w, i32_w]; rfl
                          refine done_ (done_of HT_.out (by kernel_rfl)) ?_
                          try go_wp2
                          go_meet
                          case rel => exact ⟨_, (true), (by first | rfl | (simp; done) | (simp [*]; done)), H', ⟨by first | omega | exact Nat.le_refl _⟩, ⟨by (with_reducible repeat (first | apply ra_ | apply rb_ | apply rc_)); exact HO178.out⟩, ⟨by (with_reducible repeat (first | apply ra_ | apply rb_ | apply rc_)); exact HO182.out⟩, ⟨by (with_reducible repeat (first | apply ra_ | apply rb_ | apply rc_)); exact HO188.out⟩, ⟨by (with_reducible repeat (first | apply ra_ | apply rb_ | apply rc_)); exact HO193.out⟩, ⟨by (with_reducible repeat (first | refine ba_ ?_ _ | refine bb_ ?_ | refine bc_ ?_ _)); exact BK179.out⟩, ⟨by (with_reducible repeat (first | refine ba_ ?_ _ | refine bb_ ?_ | refine bc_ ?_ _)); exact BK184.out⟩, ⟨by (with_reducible repeat (first | refine ba_ ?_ _ | refine bb_ ?_ | refine bc_ ?_ _)); exact BK190.out⟩, ⟨by (with_reducible repeat (first | refine ba_ ?_ _ | refine bb_ ?_ | refine bc_ ?_ _)); exact BK195.out⟩, ⟨by repeat (first | (with_reducible first | exact HB.out | apply below_alloc | apply pw_below_drewN | apply below_drew1 | refine below_set ?_ GE179.out | refine below_set ?_ GE184.out | refine below_set ?_ GE190.out | refine below_set ?_ GE195.out) | exact HB.out)⟩⟩
                      · rw [if_neg c58] at H
                        exact absurd H (by simp)
                  · rw [if_neg c53] at H
                    exact absurd H (by simp)
                · rw [if_neg c52] at H
                  exact absurd H (by simp)
            · rw [if_neg c48] at H
              have c48b0 : ((t180.length : Int) == (t176.length : Int)) = false := beq_eq_false_iff_ne.mpr c48
              have c48b1 : ((t180.length : Int) != (t176.length : Int)) = true := bne_iff_ne.mpr c48
              have c48b2 : (t180.length == t176.length) = false := by first | simpa using c48 | (simp at c48 ⊢; omega)
              (first | rw [c48b0] | (simp only [i64_w, i32_w]; rw [c48b0]) | skip)
              have H' := Aside0.mk H
              clear H
              try go_wp2
              have n0_ : Aside0 (Kd.R Kd.bool 4 (w38.setCell ⟨gb195, 0, none⟩ (.slice Ao39 t191.length co39)) w.heap.size (fun k_ => some k_ ≠ (.slice Ao28 t180.length co28 : Value).ownBlock ∧ some k_ ≠ (.slice Ao33 t186.length co33 : Value).ownBlock ∧ some k_ ≠ (.slice Ao39 t191.length co39 : Value).ownBlock) (.slice Ao24 t176.length co24) t176) := ⟨by (with_reducible repeat (first | apply ra_ | apply rb_ | apply rc_)); exact Kd.R_mono (Kd.R_far (p := ⟨gb195, 0, none⟩) (Kd.R_types HO178.out BK195.out (by decide)) (fun _ hk => hk.2) (.slice Ao39 t191.length co39)) (fun _ hk => ⟨hk.1.1.1.2, ⟨hk.1.1.2, hk.1.2⟩⟩)⟩
              have n1_ : Aside0 (Kd.R Kd.bool 4 (w38.setCell ⟨gb195, 0, none⟩ (.slice Ao39 t191.length co39)) w.heap.size (fun k_ => some k_ ≠ (.slice Ao24 t176.length co24 : Value).ownBlock ∧ some k_ ≠ (.slice Ao33 t186.length co33 : Value).ownBlock ∧ some k_ ≠ (.slice Ao39 t191.length co39 : Value).ownBlock) (.slice Ao28 t180.length co28) t180) := ⟨by (with_reducible repeat (first | apply ra_ | apply rb_ | apply rc_)); exact Kd.R_mono (Kd.R_far (p := ⟨gb195, 0, none⟩) (Kd.R_types HO182.out BK195.out (by decide)) (fun _ hk => hk.2) (.slice Ao39 t191.length co39)) (fun _ hk => ⟨hk.1.1.1.2, ⟨hk.1.1.2, hk.1.2⟩⟩)⟩
              have n2_ : Aside0 (Kd.R Kd.bool 4 (w38.setCell ⟨gb195, 0, none⟩ (.slice Ao39 t191.length co39)) w.heap.size (fun k_ => some k_ ≠ (.slice Ao24 t176.length co24 : Value).ownBlock ∧ some k_ ≠ (.slice Ao28 t180.length co28 : Value).ownBlock ∧ some k_ ≠ (.slice Ao39 t191.length co39 : Value).ownBlock) (.slice Ao33 t186.length co33) t186) := ⟨by (with_reducible repeat (first | apply ra_ | apply rb_ | apply rc_)); exact Kd.R_mono (Kd.R_far (p := ⟨gb195, 0, none⟩) (Kd.R_types HO188.out BK195.out (by decide)) (fun _ hk => hk.2) (.slice Ao39 t191.length co39)) (fun _ hk => ⟨hk.1.1.1.2, ⟨hk.1.1.2, hk.1.2⟩⟩)⟩
              have n3_ : Aside0 (Kd.R Kd.bool 4 (w38.setCell ⟨gb195, 0, none⟩ (.slice Ao39 t191.length co39)) w.heap.size (fun k_ => some k_ ≠ (.slice Ao24 t176.length co24 : Value).ownBlock ∧ some k_ ≠ (.slice Ao28 t180.length co28 : Value).ownBlock ∧ some k_ ≠ (.slice Ao33 t186.length co33 : Value).ownBlock) (.slice Ao39 t191.length co39) t191) := ⟨by (with_reducible repeat (first | apply ra_ | apply rb_ | apply rc_)); exact Kd.R_mono (Kd.R_far (p := ⟨gb195, 0, none⟩) (Kd.R_types HO193.out BK195.out (by decide)) (fun _ hk => hk.2) (.slice Ao39 t191.length co39)) (fun _ hk => ⟨hk.1.1.1.2, ⟨hk.1.1.2, hk.1.2⟩⟩)⟩
              have n4_ : Aside0 ((w38.setCell ⟨gb195, 0, none⟩ (.slice Ao39 t191.length co39)).heap[gb179]? = some (.cells #[.slice Ao24 t176.length co24] 27 (0, 0))) := ⟨by (with_reducible repeat (first | refine ba_ ?_ _ | refine bb_ ?_ | refine bc_ ?_ _)); refine blk_far ?_ NB179_195.out _; (with_reducible repeat (first | refine ba_ ?_ _ | refine bb_ ?_ | refine bc_ ?_ _)); exact BK179.out⟩
              have n5_ : Aside0 ((w38.setCell ⟨gb195, 0, none⟩ (.slice Ao39 t191.length co39)).heap[gb184]? = some (.cells #[.slice Ao28 t180.length co28] 27 (0, 0))) := ⟨by (with_reducible repeat (first | refine ba_ ?_ _ | refine bb_ ?_ | refine bc_ ?_ _)); refine blk_far ?_ NB184_195.out _; (with_reducible repeat (first | refine ba_ ?_ _ | refine bb_ ?_ | refine bc_ ?_ _)); exact BK184.out⟩
              have n6_ : Aside0 ((w38.setCell ⟨gb195, 0, none⟩ (.slice Ao39 t191.length co39)).heap[gb190]? = some (.cells #[.slice Ao33 t186.length co33] 27 (0, 0))) := ⟨by (with_reducible repeat (first | refine ba_ ?_ _ | refine bb_ ?_ | refine bc_ ?_ _)); refine blk_far ?_ NB190_195.out _; (with_reducible repeat (first | refine ba_ ?_ _ | refine bb_ ?_ | refine bc_ ?_ _)); exact BK190.out⟩
              have n7_ : Aside0 ((w38.setCell ⟨gb195, 0, none⟩ (.slice Ao39 t191.length co39)).heap[gb195]? = some (.cells #[.slice Ao39 t191.length co39] 27 (0, 0))) := ⟨by (with_reducible repeat (first | refine ba_ ?_ _ | refine bb_ ?_ | refine bc_ ?_ _)); refine blk_put (cs := #[.slice none 0 0]) ?_ 0 _ rfl; (with_reducible repeat (first | refine ba_ ?_ _ | refine bb_ ?_ | refine bc_ ?_ _)); exact BK195.out⟩
              have n8_ : Aside0 (Below w.heap.size w (w38.setCell ⟨gb195, 0, none⟩ (.slice Ao39 t191.length co39))) := ⟨by repeat (first | (with_reducible first | exact HB.out | apply below_alloc | apply pw_below_drewN | apply below_drew1 | refine below_set ?_ GE179.out | refine below_set ?_ GE184.out | refine below_set ?_ GE190.out | refine below_set ?_ GE195.out) | exact HB.out)⟩
              (try clear HO178)
              (try clear HO182)
              (try clear HO188)
              (try clear HO193)
              (try clear BK179)
              (try clear BK184)
              (try clear BK190)
              (try clear BK195)
              (try clear HB)
              generalize (w38.setCell ⟨gb195, 0, none⟩ (.slice Ao39 t191.length co39)) = w69 at n0_ n1_ n2_ n3_ n4_ n5_ n6_ n7_ n8_ ⊢
              have HO178 := n0_
              have HO182 := n1_
              have HO188 := n2_
              have HO193 := n3_
              have BK179 := n4_
              have BK184 := n5_
              have BK190 := n6_
              have BK195 := n7_
              have HB := n8_
              clear n0_ n1_ n2_ n3_ n4_ n5_ n6_ n7_ n8_
              have n0_ := Aside0.mk (Kd.R_drew HO178.out)
              have n1_ := Aside0.mk (Kd.R_drew HO182.out)
              have n2_ := Aside0.mk (Kd.R_drew HO188.out)
              have n3_ := Aside0.mk (Kd.R_drew HO193.out)
              have n4_ := Aside0.mk (blk_drew BK179.out)
              have n5_ := Aside0.mk (blk_drew BK184.out)
              have n6_ := Aside0.mk (blk_drew BK190.out)
              have n7_ := Aside0.mk (blk_drew BK195.out)
              have n8_ := Aside0.mk (below_drew1 HB.out)
              clear HO178
              clear HO182
              clear HO188
              clear HO193
              clear BK179
              clear BK184
              clear BK190
              clear BK195
              clear HB
              have HO178 := n0_
              have HO182 := n1_
              have HO188 := n2_
              have HO193 := n3_
              have BK179 := n4_
              have BK184 := n5_
              have BK190 := n6_
              have BK195 := n7_
              have HB := n8_
              clear n0_ n1_ n2_ n3_ n4_ n5_ n6_ n7_ n8_
              refine start_ (n := 44) (S := fun w' => w'.cell? ⟨gb184, 0, none⟩ = some (.slice Ao28 t180.length co28) ∧ w'.cell? ⟨gb179, 0, none⟩ = some (.slice Ao24 t176.length co24)) (ds := []) (bt_ 44 0) (by kernel_rfl) rfl (by kernel_rfl) ⟨(blk_cell BK184.out 0).trans rfl, (blk_cell BK179.out 0).trans rfl⟩ (fun hHeld => ?_); refine with_tabW laws_FnTags.tab9 laws_FnTags.bits9 (fun HT_ HW_ => ?_)
              generalize w69.drew = w70 at HO178 HO182 HO188 HO193 BK179 BK184 BK190 BK195 HB hHeld ⊢
              refine pure_ (i := 0) (N := some 38) (v := ?_) (a' := ?_) (bt_ 44 1) rfl rfl (any_of HT_.out (by kernel_rfl)) (fun _ _ _ h => h) (Or.inl ⟨by rfl, ?_⟩) ?_ ?_
              rotate_left; · intro w'; go_simp; with_reducible rfl
              rotate_left; · simp only [Act.put, sa_, sb_, sc_, i64_w, i32_w]; rfl
              refine pure_ (i := 1) (N := some 39) (v := ?_) (a' := ?_) (bt_ 44 3) rfl rfl (any_of HT_.out (by kernel_rfl)) (fun _ _ _ h => h) (Or.inl ⟨by rfl, ?_⟩) ?_ ?_
              rotate_left; · intro w'; go_simp; with_reducible rfl
              rotate_left; · simp only [Act.put, sa_, sb_, sc_, i64_w, i32_w]; rfl
              refine pure_ (i := 2) (N := some 40) (v := ?_) (a' := ?_) (bt_ 44 7) rfl rfl (any_of HT_.out (by kernel_rfl)) (fun _ _ _ h => h) (Or.inl ⟨by rfl, ?_⟩) ?_ ?_
              rotate_left; · intro w'; go_simp; with_reducible rfl
              rotate_left; · simp only [Act.put, sa_, sb_, sc_, i64_w, i32_w]; rfl
              refine pure_ (i := 3) (N := some 41) (v := ?_) (a' := ?_) (bt_ 44 0xf) rfl rfl (any_of HT_.out (by kernel_rfl)) (fun _ _ _ h => h) (Or.inl ⟨by rfl, ?_⟩) ?_ ?_
              rotate_left; · intro w'; go_simp; with_reducible rfl
              rotate_left; · simp only [Act.put, sa_, sb_, sc_, i64_w, i32_w]; rfl
              refine pure_ (i := 4) (N := some 42) (v := ?_) (a' := ?_) (bt_ 44 0x1f) rfl rfl (any_of HT_.out (by kernel_rfl)) (fun _ _ _ h => h) (Or.inl ⟨by rfl, ?_⟩) ?_ ?_
              rotate_left; · intro w'; go_simp; with_reducible rfl
              rotate_left; · simp only [Act.put, sa_, sb_, sc_, i64_w, i32_w]; rfl
              refine pure_ (i := 5) (N := some 43) (v := ?_) (a' := ?_) (bt_ 44 0x3f) rfl rfl (any_of HT_.out (by kernel_rfl)) (fun _ _ _ h => h) (Or.inl ⟨by rfl, ?_⟩) ?_ ?_
              rotate_left; · intro w'; go_simp; with_reducible rfl
              rotate_left; · simp only [Act.put, sa_, sb_, sc_, i64_w, i32_w]; rfl
              refine pure_ (i := 6) (N := some 44) (v := ?_) (a' := ?_) (bt_ 44 0x7f) rfl rfl (any_of HT_.out (by kernel_rfl)) (fun _ _ _ h => h) (Or.inl ⟨by rfl, ?_⟩) ?_ ?_
              rotate_left; · intro w'; go_simp; with_reducible rfl
              rotate_left; · simp only [Act.put, sa_, sb_, sc_, i64_w, i32_w]; rfl
              refine pure_ (i := 9) (N := some 47) (v := ?_) (a' := ?_) (bt_ 44 0x27f) rfl rfl (any_of HT_.out (by kernel_rfl)) (fun _ _ _ h => h) (Or.inl ⟨by rfl, ?_⟩) ?_ ?_
              rotate_left; · intro w'; go_simp; with_reducible rfl
              rotate_left; · simp only [Act.put, sa_, sb_, sc_, i64_w, i32_w]; rfl
              refine take_ (i := 7) (N := some 45) (v := ?_) (a' := ?_) (bt_ 44 0x2ff) rfl rfl (take_ofW HT_.out HW_.out (by kernel_rfl)) (fun _ _ _ h => h) (Or.inl ⟨by rfl, ?_⟩) hHeld ?_ ?_
              rotate_left
              · rintro w' ⟨s0, s1⟩
                go_simp
                with_reducible rfl
              rotate_left; · simp only [Act.put, sa_, sb_, sc_, i64_w, i32_w]; rfl
              refine pure_ (i := 8) (N := some 46) (v := ?_) (a' := ?_) (bt_ 44 0x3ff) rfl rfl (any_of HT_.out (by kernel_rfl)) (fun _ _ _ h => h) (Or.inl ⟨by rfl, ?_⟩) ?_ ?_
              rotate_left; · intro w'; go_simp; with_reducible rfl
              rotate_left; · simp only [Act.put, sa_, sb_, sc_, i64_w, i32_w]; rfl
              refine take_ (i := 10) (N := some 48) (v := ?_) (a' := ?_) (bt_ 44 0x7ff) rfl rfl (take_ofW HT_.out HW_.out (by kernel_rfl)) (fun _ _ _ h => h) (Or.inl ⟨by rfl, ?_⟩) hHeld ?_ ?_
              rotate_left
              · rintro w' ⟨s0, s1⟩
                go_simp
                with_reducible rfl
              rotate_left; · simp only [Act.put, sa_, sb_, sc_, i64_w, i32_w]; rfl
              refine pure_ (i := 11) (N := some 49) (v := ?_) (a' := ?_) (bt_ 44 0xfff) rfl rfl (any_of HT_.out (by kernel_rfl)) (fun _ _ _ h => h) (Or.inl ⟨by rfl, ?_⟩) ?_ ?_
              rotate_left; · intro w'; go_simp; with_reducible rfl
              rotate_left; · simp only [Act.put, sa_, sb_, sc_, i64_w, i32_w]; rfl
              refine pure_ (i := 12) (N := some 50) (v := ?_) (a' := ?_) (bt_ 44 0x1fff) rfl rfl (any_of HT_.out (by kernel_rfl)) (fun _ _ _ h => h) (Or.inl ⟨by rfl, ?_⟩) ?_ ?_
              rotate_left; · intro w'; go_simp; with_reducible rfl
              rotate_left; · simp only [Act.put, sa_, sb_, sc_, i64_w, i32_w]; rfl
              refine pure_ (i := 13) (N := some 51) (v := ?_) (a' := ?_) (bt_ 44 0x3fff) rfl rfl (any_of HT_.out (by kernel_rfl)) (fun _ _ _ h => h) (Or.inl ⟨by rfl, ?_⟩) ?_ ?_
              rotate_left; · intro w'; go_simp; with_reducible rfl
              rotate_left; · simp only [Act.put, sa_, sb_, sc_, i64_w, i32_w]; rfl
              refine pure_ (i := 14) (N := some 52) (v := ?_) (a' := ?_) (bt_ 44 0x7fff) rfl rfl (any_of HT_.out (by kernel_rfl)) (fun _ _ _ h => h) (Or.inl ⟨by rfl, ?_⟩) ?_ ?_
              rotate_left; · intro w'; go_simp; with_reducible rfl
              rotate_left; · simp only [Act.put, sa_, sb_, sc_, i64_w, i32_w]; rfl
              refine pure_ (i := 15) (N := some 53) (v := undef) (a' := ?_) (bt_ 44 0xffff) rfl rfl (any_of HT_.out (by kernel_rfl)) (fun _ _ _ h => h) (Or.inr ⟨by rfl, rfl⟩) ?_ ?_
              rotate_left; · simp only [Act.put, sa_, sb_, sc_, i64_w, i32_w]; rfl
              refine pure_ (i := 16) (N := some 54) (v := undef) (a' := ?_) (bt_ 44 0x1ffff) rfl rfl (any_of HT_.out (by kernel_rfl)) (fun _ _ _ h => h) (Or.inr ⟨by rfl, rfl⟩) ?_ ?_
              rotate_left; · simp only [Act.put, sa_, sb_, sc_, i64_w, i32_w]; rfl
              refine pure_ (i := 17) (N := some 55) (v := undef) (a' := ?_) (bt_ 44 0x3ffff) rfl rfl (any_of HT_.out (by kernel_rfl)) (fun _ _ _ h => h) (Or.inr ⟨by rfl, rfl⟩) ?_ ?_
              rotate_left; · simp only [Act.put, sa_, sb_, sc_, i64_w, i32_w]; rfl
              refine pure_ (i := 18) (N := some 56) (v := undef) (a' := ?_) (bt_ 44 0x7ffff) rfl rfl (any_of HT_.out (by kernel_rfl)) (fun _ _ _ h => h) (Or.inr ⟨by rfl, rfl⟩) ?_ ?_
              rotate_left; · simp only [Act.put, sa_, sb_, sc_, i64_w, i32_w]; rfl
              refine pure_ (i := 19) (N := some 57) (v := undef) (a' := ?_) (bt_ 44 0xfffff) rfl rfl (any_of HT_.out (by kernel_rfl)) (fun _ _ _ h => h) (Or.inr ⟨by rfl, rfl⟩) ?_ ?_
              rotate_left; · simp only [Act.put, sa_, sb_, sc_, i64_w, i32_w]; rfl
              refine pure_ (i := 20) (N := some 58) (v := ?_) (a' := ?_) (bt_ 44 0x1fffff) rfl rfl (any_of HT_.out (by kernel_rfl)) (fun _ _ _ h => h) (Or.inl ⟨by rfl, ?_⟩) ?_ ?_
              rotate_left; · intro w'; go_simp; with_reducible rfl
              rotate_left; · simp only [Act.put, sa_, sb_, sc_, i64_w, i32_w]; rfl
              refine pure_ (i := 21) (N := some 59) (v := ?_) (a' := ?_) (bt_ 44 0x3fffff) rfl rfl (any_of HT_.out (by kernel_rfl)) (fun _ _ _ h => h) (Or.inl ⟨by rfl, ?_⟩) ?_ ?_
              rotate_left; · intro w'; go_simp; with_reducible rfl
              rotate_left; · simp only [Act.put, sa_, sb_, sc_, i64_w, i32_w]; rfl
              refine pure_ (i := 22) (N := some 60) (v := undef) (a' := ?_) (bt_ 44 0x7fffff) rfl rfl (any_of HT_.out (by kernel_rfl)) (fun _ _ _ h => h) (Or.inr ⟨by rfl, rfl⟩) ?_ ?_
              rotate_left; · simp only [Act.put, sa_, sb_, sc_, i64_w, i32_w]; rfl
              refine pure_ (i := 23) (N := some 61) (v := undef) (a' := ?_) (bt_ 44 0xffffff) rfl rfl (any_of HT_.out (by kernel_rfl)) (fun _ _ _ h => h) (Or.inr ⟨by rfl, rfl⟩) ?_ ?_
              rotate_left; · simp only [Act.put, sa_, sb_, sc_, i64_w, i32_w]; rfl
              refine pure_ (i := 24) (N := some 62) (v := undef) (a' := ?_) (bt_ 44 0x1ffffff) rfl rfl (any_of HT_.out (by kernel_rfl)) (fun _ _ _ h => h) (Or.inr ⟨by rfl, rfl⟩) ?_ ?_
              rotate_left; · simp only [Act.put, sa_, sb_, sc_, i64_w, i32_w]; rfl
              refine pure_ (i := 25) (N := some 63) (v := undef) (a' := ?_) (bt_ 44 0x3ffffff) rfl rfl (any_of HT_.out (by kernel_rfl)) (fun _ _ _ h => h) (Or.inr ⟨by rfl, rfl⟩) ?_ ?_
              rotate_left; · simp only [Act.put, sa_, sb_, sc_, i64_w, i32_w]; rfl
              refine pure_ (i := 26) (N := some 64) (v := undef) (a' := ?_) (bt_ 44 0x7ffffff) rfl rfl (any_of HT_.out (by kernel_rfl)) (fun _ _ _ h => h) (Or.inr ⟨by rfl, rfl⟩) ?_ ?_
              rotate_left; · simp only [Act.put, sa_, sb_, sc_, i64_w, i32_w]; rfl
              refine pure_ (i := 27) (N := some 65) (v := ?_) (a' := ?_) (bt_ 44 0xfffffff) rfl rfl (any_of HT_.out (by kernel_rfl)) (fun _ _ _ h => h) (Or.inl ⟨by rfl, ?_⟩) ?_ ?_
              rotate_left; · intro w'; go_simp; with_reducible rfl
              rotate_left; · simp only [Act.put, sa_, sb_, sc_, i64_w, i32_w]; rfl
              refine pure_ (i := 28) (N := some 66) (v := ?_) (a' := ?_) (bt_ 44 0x1fffffff) rfl rfl (any_of HT_.out (by kernel_rfl)) (fun _ _ _ h => h) (Or.inl ⟨by rfl, ?_⟩) ?_ ?_
              rotate_left; · intro w'; go_simp; with_reducible rfl
              rotate_left; · simp only [Act.put, sa_, sb_, sc_, i64_w, i32_w]; rfl
              refine pure_ (i := 29) (N := some 67) (v := undef) (a' := ?_) (bt_ 44 0x3fffffff) rfl rfl (any_of HT_.out (by kernel_rfl)) (fun _ _ _ h => h) (Or.inr ⟨by rfl, rfl⟩) ?_ ?_
              rotate_left; · simp only [Act.put, sa_, sb_, sc_, i64_w, i32_w]; rfl
              refine pure_ (i := 30) (N := some 68) (v := undef) (a' := ?_) (bt_ 44 0x7fffffff) rfl rfl (any_of HT_.out (by kernel_rfl)) (fun _ _ _ h => h) (Or.inr ⟨by rfl, rfl⟩) ?_ ?_
              rotate_left; · simp only [Act.put, sa_, sb_, sc_, i64_w, i32_w]; rfl
              refine pure_ (i := 31) (N := some 69) (v := undef) (a' := ?_) (bt_ 44 0xffffffff) rfl rfl (any_of HT_.out (by kernel_rfl)) (fun _ _ _ h => h) (Or.inr ⟨by rfl, rfl⟩) ?_ ?_
              rotate_left; · simp only [Act.put, sa_, sb_, sc_, i64_w, i32_w]; rfl
              refine pure_ (i := 32) (N := some 70) (v := undef) (a' := ?_) (bt_ 44 0x1ffffffff) rfl rfl (any_of HT_.out (by kernel_rfl)) (fun _ _ _ h => h) (Or.inr ⟨by rfl, rfl⟩) ?_ ?_
              rotate_left; · simp only [Act.put, sa_, sb_, sc_, i64_w, i32_w]; rfl
              refine pure_ (i := 33) (N := some 71) (v := undef) (a' := ?_) (bt_ 44 0x3ffffffff) rfl rfl (any_of HT_.out (by kernel_rfl)) (fun _ _ _ h => h) (Or.inr ⟨by rfl, rfl⟩) ?_ ?_
              rotate_left; · simp only [Act.put, sa_, sb_, sc_, i64_w, i32_w]; rfl
              refine pure_ (i := 34) (N := some 72) (v := undef) (a' := ?_) (bt_ 44 0x7ffffffff) rfl rfl (any_of HT_.out (by kernel_rfl)) (fun _ _ _ h => h) (Or.inr ⟨by rfl, rfl⟩) ?_ ?_
              rotate_left; · simp only [Act.put, sa_, sb_, sc_, i64_w, i32_w]; rfl
              refine pure_ (i := 35) (N := some 73) (v := ?_) (a' := ?_) (bt_ 44 0xfffffffff) rfl rfl (any_of HT_.out (by kernel_rfl)) (fun _ _ _ h => h) (Or.inl ⟨by rfl, ?_⟩) ?_ ?_
              rotate_left; · intro w'; go_simp; with_reducible rfl
              rotate_left; · simp only [Act.put, sa_, sb_, sc_, i64_w, i32_w]; rfl
              refine pure_ (i := 36) (N := some 74) (v := ?_) (a' := ?_) (bt_ 44 0x1fffffffff) rfl rfl (any_of HT_.out (by kernel_rfl)) (fun _ _ _ h => h) (Or.inl ⟨by rfl, ?_⟩) ?_ ?_
              rotate_left; · intro w'; go_simp; with_reducible rfl
              rotate_left; · simp only [Act.put, sa_, sb_, sc_, i64_w, i32_w]; rfl
              refine pure_ (i := 37) (N := some 75) (v := undef) (a' := ?_) (bt_ 44 0x3fffffffff) rfl rfl (any_of HT_.out (by kernel_rfl)) (fun _ _ _ h => h) (Or.inr ⟨by rfl, rfl⟩) ?_ ?_
              rotate_left; · simp only [Act.put, sa_, sb_, sc_, i64_w, i32_w]; rfl
              refine pure_ (i := 38) (N := some 76) (v := undef) (a' := ?_) (bt_ 44 0x7fffffffff) rfl rfl (any_of HT_.out (by kernel_rfl)) (fun _ _ _ h => h) (Or.inr ⟨by rfl, rfl⟩) ?_ ?_
              rotate_left; · simp only [Act.put, sa_, sb_, sc_, i64_w, i32_w]; rfl
              refine pure_ (i := 39) (N := some 77) (v := undef) (a' := ?_) (bt_ 44 0xffffffffff) rfl rfl (any_of HT_.out (by kernel_rfl)) (fun _ _ _ h => h) (Or.inr ⟨by rfl, rfl⟩) ?_ ?_
              rotate_left; · simp only [Act.put, sa_, sb_, sc_, i64_w, i32_w]; rfl
              refine pure_ (i := 40) (N := some 78) (v := undef) (a' := ?_) (bt_ 44 0x1ffffffffff) rfl rfl (any_of HT_.out (by kernel_rfl)) (fun _ _ _ h => h) (Or.inr ⟨by rfl, rfl⟩) ?_ ?_
              rotate_left; · simp only [Act.put, sa_, sb_, sc_, i64_w, i32_w]; rfl
              refine pure_ (i := 41) (N := some 79) (v := undef) (a' := ?_) (bt_ 44 0x3ffffffffff) rfl rfl (any_of HT_.out (by kernel_rfl)) (fun _ _ _ h => h) (Or.inr ⟨by rfl, rfl⟩) ?_ ?_
              rotate_left; · simp only [Act.put, sa_, sb_, sc_, i64_w, i32_w]; rfl
              refine pure_ (i := 42) (N := some 80) (v := undef) (a' := ?_) (bt_ 44 0x7ffffffffff) rfl rfl (any_of HT_.out (by kernel_rfl)) (fun _ _ _ h => h) (Or.inr ⟨by rfl, rfl⟩) ?_ ?_
              rotate_left; · simp only [Act.put, sa_, sb_, sc_, i64_w, i32_w]; rfl
              refine pure_ (i := 43) (N := some 81) (v := ?_) (a' := ?_) (bt_ 44 0xfffffffffff) rfl rfl (any_of HT_.out (by kernel_rfl)) (fun _ _ _ h => h) (Or.inl ⟨by rfl, ?_⟩) ?_ ?_
              rotate_left; · intro w'; go_simp; with_reducible rfl
              rotate_left; · simp only [Act.put, sa_, sb_, sc_, i64_w, i32_w]; rfl
              refine done_ (done_of HT_.out (by kernel_rfl)) ?_
              try go_wp2
              go_meet
              case rel => exact ⟨_, (true), (by first | rfl | (simp; done) | (simp [*]; done)), H', ⟨by first | omega | exact Nat.le_refl _⟩, ⟨by (with_reducible repeat (first | apply ra_ | apply rb_ | apply rc_)); exact HO178.out⟩, ⟨by (with_reducible repeat (first | apply ra_ | apply rb_ | apply rc_)); exact HO182.out⟩, ⟨by (with_reducible repeat (first | apply ra_ | apply rb_ | apply rc_)); exact HO188.out⟩, ⟨by (with_reducible repeat (first | apply ra_ | apply rb_ | apply rc_)); exact HO193.out⟩, ⟨by (with_reducible repeat (first | refine ba_ ?_ _ | refine bb_ ?_ | refine bc_ ?_ _)); exact BK179.out⟩, ⟨by (with_reducible repeat (first | refine ba_ ?_ _ | refine bb_ ?_ | refine bc_ ?_ _)); exact BK184.out⟩, ⟨by (with_reducible repeat (first | refine ba_ ?_ _ | refine bb_ ?_ | refine bc_ ?_ _)); exact BK190.out⟩, ⟨by (with_reducible repeat (first | refine ba_ ?_ _ | refine bb_ ?_ | refine bc_ ?_ _)); exact BK195.out⟩, ⟨by repeat (first | (with_reducible first | exact HB.out | apply below_alloc | apply pw_below_drewN | apply below_drew1 | refine below_set ?_ GE179.out | refine below_set ?_ GE184.out | refine below_set ?_ GE190.out | refine below_set ?_ GE195.out) | exact HB.out)⟩⟩
        · replace c44 := Bool.eq_false_iff.mpr c44
          subst c44
          have H1 : (laws_FnTags.j0 k t183 true t176 t186) = some r := by rw [if_neg (show ¬ (false = true) by decide)] at H; exact H
          clear H
          have H := H1
          clear H1
          have H' := Aside0.mk H
          clear H
          try go_wp2
          have n0_ : Aside0 (Kd.R Kd.bool 4 (w38.setCell ⟨gb195, 0, none⟩ (.slice Ao39 t191.length co39)) w.heap.size (fun k_ => some k_ ≠ (.slice Ao28 t180.length co28 : Value).ownBlock ∧ some k_ ≠ (.slice Ao33 t186.length co33 : Value).ownBlock ∧ some k_ ≠ (.slice Ao39 t191.length co39 : Value).ownBlock) (.slice Ao24 t176.length co24) t176) := ⟨by (with_reducible repeat (first | apply ra_ | apply rb_ | apply rc_)); exact Kd.R_mono (Kd.R_far (p := ⟨gb195, 0, none⟩) (Kd.R_types HO178.out BK195.out (by decide)) (fun _ hk => hk.2) (.slice Ao39 t191.length co39)) (fun _ hk => ⟨hk.1.1.1.2, ⟨hk.1.1.2, hk.1.2⟩⟩)⟩
          have n1_ : Aside0 (Kd.R Kd.bool 4 (w38.setCell ⟨gb195, 0, none⟩ (.slice Ao39 t191.length co39)) w.heap.size (fun k_ => some k_ ≠ (.slice Ao24 t176.length co24 : Value).ownBlock ∧ some k_ ≠ (.slice Ao33 t186.length co33 : Value).ownBlock ∧ some k_ ≠ (.slice Ao39 t191.length co39 : Value).ownBlock) (.slice Ao28 t180.length co28) t180) := ⟨by (with_reducible repeat (first | apply ra_ | apply rb_ | apply rc_)); exact Kd.R_mono (Kd.R_far (p := ⟨gb195, 0, none⟩) (Kd.R_types HO182.out BK195.out (by decide)) (fun _ hk => hk.2) (.slice Ao39 t191.length co39)) (fun _ hk => ⟨hk.1.1.1.2, ⟨hk.1.1.2, hk.1.2⟩⟩)⟩
          have n2_ : Aside0 (Kd.R Kd.bool 4 (w38.setCell ⟨gb195, 0, none⟩ (.slice Ao39 t191.length co39)) w.heap.size (fun k_ => some k_ ≠ (.slice Ao24 t176.length co24 : Value).ownBlock ∧ some k_ ≠ (.slice Ao28 t180.length co28 : Value).ownBlock ∧ some k_ ≠ (.slice Ao39 t191.length co39 : Value).ownBlock) (.slice Ao33 t186.length co33) t186) := ⟨by (with_reducible repeat (first | apply ra_ | apply rb_ | apply rc_)); exact Kd.R_mono (Kd.R_far (p := ⟨gb195, 0, none⟩) (Kd.R_types HO188.out BK195.out (by decide)) (fun _ hk => hk.2) (.slice Ao39 t191.length co39)) (fun _ hk => ⟨hk.1.1.1.2, ⟨hk.1.1.2, hk.1.2⟩⟩)⟩
          have n3_ : Aside0 (Kd.R Kd.bool 4 (w38.setCell ⟨gb195, 0, none⟩ (.slice Ao39 t191.length co39)) w.heap.size (fun k_ => some k_ ≠ (.slice Ao24 t176.length co24 : Value).ownBlock ∧ some k_ ≠ (.slice Ao28 t180.length co28 : Value).ownBlock ∧ some k_ ≠ (.slice Ao33 t186.length co33 : Value).ownBlock) (.slice Ao39 t191.length co39) t191) := ⟨by (with_reducible repeat (first | apply ra_ | apply rb_ | apply rc_)); exact Kd.R_mono (Kd.R_far (p := ⟨gb195, 0, none⟩) (Kd.R_types HO193.out BK195.out (by decide)) (fun _ hk => hk.2) (.slice Ao39 t191.length co39)) (fun _ hk => ⟨hk.1.1.1.2, ⟨hk.1.1.2, hk.1.2⟩⟩)⟩
          have n4_ : Aside0 ((w38.setCell ⟨gb195, 0, none⟩ (.slice Ao39 t191.length co39)).heap[gb179]? = some (.cells #[.slice Ao24 t176.length co24] 27 (0, 0))) := ⟨by (with_reducible repeat (first | refine ba_ ?_ _ | refine bb_ ?_ | refine bc_ ?_ _)); refine blk_far ?_ NB179_195.out _; (with_reducible repeat (first | refine ba_ ?_ _ | refine bb_ ?_ | refine bc_ ?_ _)); exact BK179.out⟩
          have n5_ : Aside0 ((w38.setCell ⟨gb195, 0, none⟩ (.slice Ao39 t191.length co39)).heap[gb184]? = some (.cells #[.slice Ao28 t180.length co28] 27 (0, 0))) := ⟨by (with_reducible repeat (first | refine ba_ ?_ _ | refine bb_ ?_ | refine bc_ ?_ _)); refine blk_far ?_ NB184_195.out _; (with_reducible repeat (first | refine ba_ ?_ _ | refine bb_ ?_ | refine bc_ ?_ _)); exact BK184.out⟩
          have n6_ : Aside0 ((w38.setCell ⟨gb195, 0, none⟩ (.slice Ao39 t191.length co39)).heap[gb190]? = some (.cells #[.slice Ao33 t186.length co33] 27 (0, 0))) := ⟨by (with_reducible repeat (first | refine ba_ ?_ _ | refine bb_ ?_ | refine bc_ ?_ _)); refine blk_far ?_ NB190_195.out _; (with_reducible repeat (first | refine ba_ ?_ _ | refine bb_ ?_ | refine bc_ ?_ _)); exact BK190.out⟩
          have n7_ : Aside0 ((w38.setCell ⟨gb195, 0, none⟩ (.slice Ao39 t191.length co39)).heap[gb195]? = some (.cells #[.slice Ao39 t191.length co39] 27 (0, 0))) := ⟨by (with_reducible repeat (first | refine ba_ ?_ _ | refine bb_ ?_ | refine bc_ ?_ _)); refine blk_put (cs := #[.slice none 0 0]) ?_ 0 _ rfl; (with_reducible repeat (first | refine ba_ ?_ _ | refine bb_ ?_ | refine bc_ ?_ _)); exact BK195.out⟩
          have n8_ : Aside0 (Below w.heap.size w (w38.setCell ⟨gb195, 0, none⟩ (.slice Ao39 t191.length co39))) := ⟨by repeat (first | (with_reducible first | exact HB.out | apply below_alloc | apply pw_below_drewN | apply below_drew1 | refine below_set ?_ GE179.out | refine below_set ?_ GE184.out | refine below_set ?_ GE190.out | refine below_set ?_ GE195.out) | exact HB.out)⟩
          (try clear HO178)
          (try clear HO182)
          (try clear HO188)
          (try clear HO193)
          (try clear BK179)
          (try clear BK184)
          (try clear BK190)
          (try clear BK195)
          (try clear HB)
          generalize (w38.setCell ⟨gb195, 0, none⟩ (.slice Ao39 t191.length co39)) = w71 at n0_ n1_ n2_ n3_ n4_ n5_ n6_ n7_ n8_ ⊢
          have HO178 := n0_
          have HO182 := n1_
          have HO188 := n2_
          have HO193 := n3_
          have BK179 := n4_
          have BK184 := n5_
          have BK190 := n6_
          have BK195 := n7_
          have HB := n8_
          clear n0_ n1_ n2_ n3_ n4_ n5_ n6_ n7_ n8_
          have n0_ := Aside0.mk (Kd.R_drew HO178.out)
          have n1_ := Aside0.mk (Kd.R_drew HO182.out)
          have n2_ := Aside0.mk (Kd.R_drew HO188.out)
          have n3_ := Aside0.mk (Kd.R_drew HO193.out)
          have n4_ := Aside0.mk (blk_drew BK179.out)
          have n5_ := Aside0.mk (blk_drew BK184.out)
          have n6_ := Aside0.mk (blk_drew BK190.out)
          have n7_ := Aside0.mk (blk_drew BK195.out)
          have n8_ := Aside0.mk (below_drew1 HB.out)
          clear HO178
          clear HO182
          clear HO188
          clear HO193
          clear BK179
          clear BK184
          clear BK190
          clear BK195
          clear HB
          have HO178 := n0_
          have HO182 := n1_
          have HO188 := n2_
          have HO193 := n3_
          have BK179 := n4_
          have BK184 := n5_
          have BK190 := n6_
          have BK195 := n7_
          have HB := n8_
          clear n0_ n1_ n2_ n3_ n4_ n5_ n6_ n7_ n8_
          refine start_ (n := 44) (S := fun w' => True) (ds := []) (bt_ 44 0) (by kernel_rfl) rfl (by kernel_rfl) trivial (fun hHeld => ?_); refine with_tabW laws_FnTags.tab9 laws_FnTags.bits9 (fun HT_ HW_ => ?_)
          generalize w71.drew = w72 at HO178 HO182 HO188 HO193 BK179 BK184 BK190 BK195 HB hHeld ⊢
          refine pure_ (i := 0) (N := some 38) (v := ?_) (a' := ?_) (bt_ 44 1) rfl rfl (any_of HT_.out (by kernel_rfl)) (fun _ _ _ h => h) (Or.inl ⟨by rfl, ?_⟩) ?_ ?_
          rotate_left; · intro w'; go_simp; with_reducible rfl
          rotate_left; · simp only [Act.put, sa_, sb_, sc_, i64_w, i32_w]; rfl
          refine pure_ (i := 1) (N := some 39) (v := ?_) (a' := ?_) (bt_ 44 3) rfl rfl (any_of HT_.out (by kernel_rfl)) (fun _ _ _ h => h) (Or.inl ⟨by rfl, ?_⟩) ?_ ?_
          rotate_left; · intro w'; go_simp; with_reducible rfl
          rotate_left; · simp only [Act.put, sa_, sb_, sc_, i64_w, i32_w]; rfl
          refine pure_ (i := 2) (N := some 40) (v := ?_) (a' := ?_) (bt_ 44 7) rfl rfl (any_of HT_.out (by kernel_rfl)) (fun _ _ _ h => h) (Or.inl ⟨by rfl, ?_⟩) ?_ ?_
          rotate_left; · intro w'; go_simp; with_reducible rfl
          rotate_left; · simp only [Act.put, sa_, sb_, sc_, i64_w, i32_w]; rfl
          refine pure_ (i := 3) (N := some 41) (v := undef) (a' := ?_) (bt_ 44 0xf) rfl rfl (any_of HT_.out (by kernel_rfl)) (fun _ _ _ h => h) (Or.inr ⟨by rfl, rfl⟩) ?_ ?_
          rotate_left; · simp only [Act.put, sa_, sb_, sc_, i64_w, i32_w]; rfl
          refine pure_ (i := 4) (N := some 42) (v := ?_) (a' := ?_) (bt_ 44 0x1f) rfl rfl (any_of HT_.out (by kernel_rfl)) (fun _ _ _ h => h) (Or.inl ⟨by rfl, ?_⟩) ?_ ?_
          rotate_left; · intro w'; go_simp; with_reducible rfl
          rotate_left; · simp only [Act.put, sa_, sb_, sc_, i64_w, i32_w]; rfl
          refine pure_ (i := 5) (N := some 43) (v := ?_) (a' := ?_) (bt_ 44 0x3f) rfl rfl (any_of HT_.out (by kernel_rfl)) (fun _ _ _ h => h) (Or.inl ⟨by rfl, ?_⟩) ?_ ?_
          rotate_left; · intro w'; go_simp; with_reducible rfl
          rotate_left; · simp only [Act.put, sa_, sb_, sc_, i64_w, i32_w]; rfl
          refine pure_ (i := 6) (N := some 44) (v := undef) (a' := ?_) (bt_ 44 0x7f) rfl rfl (any_of HT_.out (by kernel_rfl)) (fun _ _ _ h => h) (Or.inr ⟨by rfl, rfl⟩) ?_ ?_
          rotate_left; · simp only [Act.put, sa_, sb_, sc_, i64_w, i32_w]; rfl
          refine pure_ (i := 7) (N := some 45) (v := undef) (a' := ?_) (bt_ 44 0xff) rfl rfl (any_of HT_.out (by kernel_rfl)) (fun _ _ _ h => h) (Or.inr ⟨by rfl, rfl⟩) ?_ ?_
          rotate_left; · simp only [Act.put, sa_, sb_, sc_, i64_w, i32_w]; rfl
          refine pure_ (i := 8) (N := some 46) (v := undef) (a' := ?_) (bt_ 44 0x1ff) rfl rfl (any_of HT_.out (by kernel_rfl)) (fun _ _ _ h => h) (Or.inr ⟨by rfl, rfl⟩) ?_ ?_
          rotate_left; · simp only [Act.put, sa_, sb_, sc_, i64_w, i32_w]; rfl
          refine pure_ (i := 9) (N := some 47) (v := undef) (a' := ?_) (bt_ 44 0x3ff) rfl rfl (any_of HT_.out (by kernel_rfl)) (fun _ _ _ h => h) (Or.inr ⟨by rfl, rfl⟩) ?_ ?_
          rotate_left; · simp only [Act.put, sa_, sb_, sc_, i64_w, i32_w]; rfl
          refine pure_ (i := 10) (N := some 48) (v := undef) (a' := ?_) (bt_ 44 0x7ff) rfl rfl (any_of HT_.out (by kernel_rfl)) (fun _ _ _ h => h) (Or.inr ⟨by rfl, rfl⟩) ?_ ?_
          rotate_left; · simp only [Act.put, sa_, sb_, sc_, i64_w, i32_w]; rfl
          refine pure_ (i := 11) (N := some 49) (v := undef) (a' := ?_) (bt_ 44 0xfff) rfl rfl (any_of HT_.out (by kernel_rfl)) (fun _ _ _ h => h) (Or.inr ⟨by rfl, rfl⟩) ?_ ?_
          rotate_left; · simp only [Act.put, sa_, sb_, sc_, i64_w, i32_w]; rfl
          refine pure_ (i := 12) (N := some 50) (v := undef) (a' := ?_) (bt_ 44 0x1fff) rfl rfl (any_of HT_.out (by kernel_rfl)) (fun _ _ _ h => h) (Or.inr ⟨by rfl, rfl⟩) ?_ ?_
          rotate_left; · simp only [Act.put, sa_, sb_, sc_, i64_w, i32_w]; rfl
          refine pure_ (i := 13) (N := some 51) (v := ?_) (a' := ?_) (bt_ 44 0x3fff) rfl rfl (any_of HT_.out (by kernel_rfl)) (fun _ _ _ h => h) (Or.inl ⟨by rfl, ?_⟩) ?_ ?_
          rotate_left; · intro w'; go_simp; with_reducible rfl
          rotate_left; · simp only [Act.put, sa_, sb_, sc_, i64_w, i32_w]; rfl
          refine pure_ (i := 14) (N := some 52) (v := ?_) (a' := ?_) (bt_ 44 0x7fff) rfl rfl (any_of HT_.out (by kernel_rfl)) (fun _ _ _ h => h) (Or.inl ⟨by rfl, ?_⟩) ?_ ?_
          rotate_left; · intro w'; go_simp; with_reducible rfl
          rotate_left; · simp only [Act.put, sa_, sb_, sc_, i64_w, i32_w]; rfl
          refine pure_ (i := 15) (N := some 53) (v := undef) (a' := ?_) (bt_ 44 0xffff) rfl rfl (any_of HT_.out (by kernel_rfl)) (fun _ _ _ h => h) (Or.inr ⟨by rfl, rfl⟩) ?_ ?_
          rotate_left; · simp only [Act.put, sa_, sb_, sc_, i64_w, i32_w]; rfl
          refine pure_ (i := 16) (N := some 54) (v := undef) (a' := ?_) (bt_ 44 0x1ffff) rfl rfl (any_of HT_.out (by kernel_rfl)) (fun _ _ _ h => h) (Or.inr ⟨by rfl, rfl⟩) ?_ ?_
          rotate_left; · simp only [Act.put, sa_, sb_, sc_, i64_w, i32_w]; rfl
          refine pure_ (i := 17) (N := some 55) (v := undef) (a' := ?_) (bt_ 44 0x3ffff) rfl rfl (any_of HT_.out (by kernel_rfl)) (fun _ _ _ h => h) (Or.inr ⟨by rfl, rfl⟩) ?_ ?_
          rotate_left; · simp only [Act.put, sa_, sb_, sc_, i64_w, i32_w]; rfl
          refine pure_ (i := 18) (N := some 56) (v := undef) (a' := ?_) (bt_ 44 0x7ffff) rfl rfl (any_of HT_.out (by kernel_rfl)) (fun _ _ _ h => h) (Or.inr ⟨by rfl, rfl⟩) ?_ ?_
          rotate_left; · simp only [Act.put, sa_, sb_, sc_, i64_w, i32_w]; rfl
          refine pure_ (i := 19) (N := some 57) (v := undef) (a' := ?_) (bt_ 44 0xfffff) rfl rfl (any_of HT_.out (by kernel_rfl)) (fun _ _ _ h => h) (Or.inr ⟨by rfl, rfl⟩) ?_ ?_
          rotate_left; · simp only [Act.put, sa_, sb_, sc_, i64_w, i32_w]; rfl
          refine pure_ (i := 20) (N := some 58) (v := ?_) (a' := ?_) (bt_ 44 0x1fffff) rfl rfl (any_of HT_.out (by kernel_rfl)) (fun _ _ _ h => h) (Or.inl ⟨by rfl, ?_⟩) ?_ ?_
          rotate_left; · intro w'; go_simp; with_reducible rfl
          rotate_left; · simp only [Act.put, sa_, sb_, sc_, i64_w, i32_w]; rfl
          refine pure_ (i := 21) (N := some 59) (v := ?_) (a' := ?_) (bt_ 44 0x3fffff) rfl rfl (any_of HT_.out (by kernel_rfl)) (fun _ _ _ h => h) (Or.inl ⟨by rfl, ?_⟩) ?_ ?_
          rotate_left; · intro w'; go_simp; with_reducible rfl
          rotate_left; · simp only [Act.put, sa_, sb_, sc_, i64_w, i32_w]; rfl
          refine pure_ (i := 22) (N := some 60) (v := undef) (a' := ?_) (bt_ 44 0x7fffff) rfl rfl (any_of HT_.out (by kernel_rfl)) (fun _ _ _ h => h) (Or.inr ⟨by rfl, rfl⟩) ?_ ?_
          rotate_left; · simp only [Act.put, sa_, sb_, sc_, i64_w, i32_w]; rfl
          refine pure_ (i := 23) (N := some 61) (v := undef) (a' := ?_) (bt_ 44 0xffffff) rfl rfl (any_of HT_.out (by kernel_rfl)) (fun _ _ _ h => h) (Or.inr ⟨by rfl, rfl⟩) ?_ ?_
          rotate_left; · simp only [Act.put, sa_, sb_, sc_, i64_w, i32_w]; rfl
          refine pure_ (i := 24) (N := some 62) (v := undef) (a' := ?_) (bt_ 44 0x1ffffff) rfl rfl (any_of HT_.out (by kernel_rfl)) (fun _ _ _ h => h) (Or.inr ⟨by rfl, rfl⟩) ?_ ?_
          rotate_left; · simp only [Act.put, sa_, sb_, sc_, i64_w, i32_w]; rfl
          refine pure_ (i := 25) (N := some 63) (v := undef) (a' := ?_) (bt_ 44 0x3ffffff) rfl rfl (any_of HT_.out (by kernel_rfl)) (fun _ _ _ h => h) (Or.inr ⟨by rfl, rfl⟩) ?_ ?_
          rotate_left; · simp only [Act.put, sa_, sb_, sc_, i64_w, i32_w]; rfl
          refine pure_ (i := 26) (N := some 64) (v := undef) (a' := ?_) (bt_ 44 0x7ffffff) rfl rfl (any_of HT_.out (by kernel_rfl)) (fun _ _ _ h => h) (Or.inr ⟨by rfl, rfl⟩) ?_ ?_
          rotate_left; · simp only [Act.put, sa_, sb_, sc_, i64_w, i32_w]; rfl
          refine pure_ (i := 27) (N := some 65) (v := ?_) (a' := ?_) (bt_ 44 0xfffffff) rfl rfl (any_of HT_.out (by kernel_rfl)) (fun _ _ _ h => h) (Or.inl ⟨by rfl, ?_⟩) ?_ ?_
          rotate_left; · intro w'; go_simp; with_reducible rfl
          rotate_left; · simp only [Act.put, sa_, sb_, sc_, i64_w, i32_w]; rfl
          refine pure_ (i := 28) (N := some 66) (v := ?_) (a' := ?_) (bt_ 44 0x1fffffff) rfl rfl (any_of HT_.out (by kernel_rfl)) (fun _ _ _ h => h) (Or.inl ⟨by rfl, ?_⟩) ?_ ?_
          rotate_left; · intro w'; go_simp; with_reducible rfl
          rotate_left; · simp only [Act.put, sa_, sb_, sc_, i64_w, i32_w]; rfl
          refine pure_ (i := 29) (N := some 67) (v := undef) (a' := ?_) (bt_ 44 0x3fffffff) rfl rfl (any_of HT_.out (by kernel_rfl)) (fun _ _ _ h => h) (Or.inr ⟨by rfl, rfl⟩) ?_ ?_
          rotate_left; · simp only [Act.put, sa_, sb_, sc_, i64_w, i32_w]; rfl
          refine pure_ (i := 30) (N := some 68) (v := undef) (a' := ?_) (bt_ 44 0x7fffffff) rfl rfl (any_of HT_.out (by kernel_rfl)) (fun _ _ _ h => h) (Or.inr ⟨by rfl, rfl⟩) ?_ ?_
          rotate_left; · simp only [Act.put, sa_, sb_, sc_, i64_w, i32_w]; rfl
          refine pure_ (i := 31) (N := some 69) (v := undef) (a' := ?_) (bt_ 44 0xffffffff) rfl rfl (any_of HT_.out (by kernel_rfl)) (fun _ _ _ h => h) (Or.inr ⟨by rfl, rfl⟩) ?_ ?_
          rotate_left; · simp only [Act.put, sa_, sb_, sc_, i64_w, i32_w]; rfl
          refine pure_ (i := 32) (N := some 70) (v := undef) (a' := ?_) (bt_ 44 0x1ffffffff) rfl rfl (any_of HT_.out (by kernel_rfl)) (fun _ _ _ h => h) (Or.inr ⟨by rfl, rfl⟩) ?_ ?_
          rotate_left; · simp only [Act.put, sa_, sb_, sc_, i64_w, i32_w]; rfl
          refine pure_ (i := 33) (N := some 71) (v := undef) (a' := ?_) (bt_ 44 0x3ffffffff) rfl rfl (any_of HT_.out (by kernel_rfl)) (fun _ _ _ h => h) (Or.inr ⟨by rfl, rfl⟩) ?_ ?_
          rotate_left; · simp only [Act.put, sa_, sb_, sc_, i64_w, i32_w]; rfl
          refine pure_ (i := 34) (N := some 72) (v := undef) (a' := ?_) (bt_ 44 0x7ffffffff) rfl rfl (any_of HT_.out (by kernel_rfl)) (fun _ _ _ h => h) (Or.inr ⟨by rfl, rfl⟩) ?_ ?_
          rotate_left; · simp only [Act.put, sa_, sb_, sc_, i64_w, i32_w]; rfl
          refine pure_ (i := 35) (N := some 73) (v := ?_) (a' := ?_) (bt_ 44 0xfffffffff) rfl rfl (any_of HT_.out (by kernel_rfl)) (fun _ _ _ h => h) (Or.inl ⟨by rfl, ?_⟩) ?_ ?_
          rotate_left; · intro w'; go_simp; with_reducible rfl
          rotate_left; · simp only [Act.put, sa_, sb_, sc_, i64_w, i32_w]; rfl
          refine pure_ (i := 36) (N := some 74) (v := ?_) (a' := ?_) (bt_ 44 0x1fffffffff) rfl rfl (any_of HT_.out (by kernel_rfl)) (fun _ _ _ h => h) (Or.inl ⟨by rfl, ?_⟩) ?_ ?_
          rotate_left; · intro w'; go_simp; with_reducible rfl
          rotate_left; · simp only [Act.put, sa_, sb_, sc_, i64_w, i32_w]; rfl
          refine pure_ (i := 37) (N := some 75) (v := undef) (a' := ?_) (bt_ 44 0x3fffffffff) rfl rfl (any_of HT_.out (by kernel_rfl)) (fun _ _ _ h => h) (Or.inr ⟨by rfl, rfl⟩) ?_ ?_
          rotate_left; · simp only [Act.put, sa_, sb_, sc_, i64_w, i32_w]; rfl
          refine pure_ (i := 38) (N := some 76) (v := undef) (a' := ?_) (bt_ 44 0x7fffffffff) rfl rfl (any_of HT_.out (by kernel_rfl)) (fun _ _ _ h => h) (Or.inr ⟨by rfl, rfl⟩) ?_ ?_
          rotate_left; · simp only [Act.put, sa_, sb_, sc_, i64_w, i32_w]; rfl
          refine pure_ (i := 39) (N := some 77) (v := undef) (a' := ?_) (bt_ 44 0xffffffffff) rfl rfl (any_of HT_.out (by kernel_rfl)) (fun _ _ _ h => h) (Or.inr ⟨by rfl, rfl⟩) ?_ ?_
          rotate_left; · simp only [Act.put, sa_, sb_, sc_, i64_w, i32_w]; rfl
          refine pure_ (i := 40) (N := some 78) (v := undef) (a' := ?_) (bt_ 44 0x1ffffffffff) rfl rfl (any_of HT_.out (by kernel_rfl)) (fun _ _ _ h => h) (Or.inr ⟨by rfl, rfl⟩) ?_ ?_
          rotate_left; · simp only [Act.put, sa_, sb_, sc_, i64_w, i32_w]; rfl
          refine pure_ (i := 41) (N := some 79) (v := undef) (a' := ?_) (bt_ 44 0x3ffffffffff) rfl rfl (any_of HT_.out (by kernel_rfl)) (fun _ _ _ h => h) (Or.inr ⟨by rfl, rfl⟩) ?_ ?_
          rotate_left; · simp only [Act.put, sa_, sb_, sc_, i64_w, i32_w]; rfl
          refine pure_ (i := 42) (N := some 80) (v := undef) (a' := ?_) (bt_ 44 0x7ffffffffff) rfl rfl (any_of HT_.out (by kernel_rfl)) (fun _ _ _ h => h) (Or.inr ⟨by rfl, rfl⟩) ?_ ?_
          rotate_left; · simp only [Act.put, sa_, sb_, sc_, i64_w, i32_w]; rfl
          refine pure_ (i := 43) (N := some 81) (v := ?_) (a' := ?_) (bt_ 44 0xfffffffffff) rfl rfl (any_of HT_.out (by kernel_rfl)) (fun _ _ _ h => h) (Or.inl ⟨by rfl, ?_⟩) ?_ ?_
          rotate_left; · intro w'; go_simp; with_reducible rfl
          rotate_left; · simp only [Act.put, sa_, sb_, sc_, i64_w, i32_w]; rfl
          refine done_ (done_of HT_.out (by kernel_rfl)) ?_
          try go_wp2
          go_meet
          case rel => exact ⟨_, (true), (by first | rfl | (simp; done) | (simp [*]; done)), H', ⟨by first | omega | exact Nat.le_refl _⟩, ⟨by (with_reducible repeat (first | apply ra_ | apply rb_ | apply rc_)); exact HO178.out⟩, ⟨by (with_reducible repeat (first | apply ra_ | apply rb_ | apply rc_)); exact HO182.out⟩, ⟨by (with_reducible repeat (first | apply ra_ | apply rb_ | apply rc_)); exact HO188.out⟩, ⟨by (with_reducible repeat (first | apply ra_ | apply rb_ | apply rc_)); exact HO193.out⟩, ⟨by (with_reducible repeat (first | refine ba_ ?_ _ | refine bb_ ?_ | refine bc_ ?_ _)); exact BK179.out⟩, ⟨by (with_reducible repeat (first | refine ba_ ?_ _ | refine bb_ ?_ | refine bc_ ?_ _)); exact BK184.out⟩, ⟨by (with_reducible repeat (first | refine ba_ ?_ _ | refine bb_ ?_ | refine bc_ ?_ _)); exact BK190.out⟩, ⟨by (with_reducible repeat (first | refine ba_ ?_ _ | refine bb_ ?_ | refine bc_ ?_ _)); exact BK195.out⟩, ⟨by repeat (first | (with_reducible first | exact HB.out | apply below_alloc | apply pw_below_drewN | apply below_drew1 | refine below_set ?_ GE179.out | refine below_set ?_ GE184.out | refine below_set ?_ GE190.out | refine below_set ?_ GE195.out) | exact HB.out)⟩⟩
      case rest =>
        clear HC21
        try clear p2
        try clear c4
        try clear c44
        obtain ⟨kq, x81_20, rfl, HA, HJ20, HO_180000, HO_185000, HO_191000, HO_196000, BK179, BK184, BK190, BK195, HB⟩ := hcut
        cases kq with
        | zero => exact absurd HA.out (by simp [laws_FnTags.j0])
        | succ kj20 =>
          have H := HA.out
          clear HA
          simp only [laws_FnTags.j0] at H
          by_cases c73 : x81_20 = true
          · subst c73
            have H1 : (some false) = some r := by rw [if_pos rfl] at H; exact H
            clear H
            have H := H1
            clear H1
            obtain rfl := Option.some.inj H
            go_wp2
            go_ret
            exact ⟨by first | rfl | (simp [errW_none, errW_some] <;> rfl) | (simp [*, errW_none, errW_some] <;> rfl), by repeat (first | (with_reducible first | exact HB.out | apply below_alloc | apply pw_below_drewN | apply below_drew1 | refine below_set ?_ GE179.out | refine below_set ?_ GE184.out | refine below_set ?_ GE190.out | refine below_set ?_ GE195.out) | exact HB.out)⟩
          · replace c73 := Bool.eq_false_iff.mpr c73
            subst c73
            have H1 : ((impl_TakeTag.f kj20 t186).bind fun bt200 => (if bt200.2 = t183 then ((impl_CountBusy.f kj20 t186).bind fun t205 => ((impl_CountBusy.f kj20 t176).bind fun t206 => (some (t205 == t206)))) else (some false))) = some r := by rw [if_neg (show ¬ (false = true) by decide)] at H; exact H
            clear H
            have H := H1
            clear H1
            replace H := Option.bind_eq_some_iff.mp H
            obtain ⟨⟨t200, t203⟩, A740, H⟩ := H
            replace H : (if t203 = t183 then ((impl_CountBusy.f kj20 t186).bind fun t205 => ((impl_CountBusy.f kj20 t176).bind fun t206 => (some (t205 == t206)))) else (some false)) = some r := H
            have A74 := Aside0.mk A740
            clear A740
            by_cases c75 : t203 = t183
            · rw [if_pos c75] at H
              have c75b0 : (t203 == t183) = true := beq_iff_eq.mpr c75
              have c75b1 : (t203 != t183) = false := bne_eq_false_iff_eq.mpr c75
              clear c75
              replace H := Option.bind_eq_some_iff.mp H
              obtain ⟨t205, A760, H⟩ := H
              replace H : ((impl_CountBusy.f kj20 t176).bind fun t206 => (some (t205 == t206))) = some r := H
              have A76 := Aside0.mk A760
              clear A760
              replace H := Option.bind_eq_some_iff.mp H
              obtain ⟨t206, A770, H⟩ := H
              replace H : (some (t205 == t206)) = some r := H
              have A77 := Aside0.mk A770
              clear A770
              obtain rfl := Option.some.inj H
              have hnb78 := NB190_179.out
              have hnc78 := NB179_190.out
              have hnb79 := NB190_184.out
              have hnc79 := NB184_190.out
              have hnb80 := NB190_195.out
              have hnc80 := NB195_190.out
              have hcz81_0 : wc.cell? ⟨gb190, 0, none⟩ = some (.slice Ao33 t186.length co33) := (blk_cell BK190.out 0).trans rfl
              have hfz81_0 := blk_frozen BK190.out 0
              try go_wp2_with (first | ((with_reducible refine gate_callee (f := 23) rfl ?_); refine goesL_ (some 84) rfl rfl Try.func23 (by kernel_rfl) rfl #[.agg #[.slice Ao33 t186.length co33]] rfl (by (try simp only [List.map_toArray, List.map_cons, List.map_nil]); first | done | rfl | (simp only [List.length_drop, List.length_take]; rfl)) ?_; (with_reducible refine (impl_TakeTag.calls kj20 _ _ t186 t200 t203 _ ?side1 ?side2 A74.out).mono ?_); (case side1 => repeat (first | exact (Kd.R_reads' HO_191000.out).2.2 | (with_reducible refine Kd.C_alloc ?_ _) | (with_reducible refine Kd.C_drewN ?_ _) | (with_reducible refine Kd.C_drew ?_))); (case side2 => exact (Kd.R_reads' HO_191000.out).2.1); rintro e w82 ⟨v201, rfl, ho0, hb⟩; refine ⟨_, rfl, ?_⟩; have n0_ := Aside0.mk (Kd.R_elder' (by (with_reducible repeat (first | apply ra_ | apply rb_ | apply rc_)); exact HO_180000.out) (Kd.R_base ho0) hb); have n1_ := Aside0.mk (Kd.R_elder' (by (with_reducible repeat (first | apply ra_ | apply rb_ | apply rc_)); exact HO_185000.out) (Kd.R_base ho0) hb); have n2_ := Aside0.mk (Kd.R_elder' (by (with_reducible repeat (first | apply ra_ | apply rb_ | apply rc_)); exact HO_191000.out) (Kd.R_base ho0) hb); have n3_ := Aside0.mk (Kd.R_elder' (by (with_reducible repeat (first | apply ra_ | apply rb_ | apply rc_)); exact HO_196000.out) (Kd.R_base ho0) hb); have n4_ := Aside0.mk (Kd.R_lower (Kd.R_new' (Kd.R_new' (Kd.R_new' (Kd.R_new' ho0 (Kd.R_lt (by (with_reducible repeat (first | apply ra_ | apply rb_ | apply rc_)); exact HO_180000.out))) (Kd.R_lt (by (with_reducible repeat (first | apply ra_ | apply rb_ | apply rc_)); exact HO_185000.out))) (Kd.R_lt (by (with_reducible repeat (first | apply ra_ | apply rb_ | apply rc_)); exact HO_191000.out))) (Kd.R_lt (by (with_reducible repeat (first | apply ra_ | apply rb_ | apply rc_)); exact HO_196000.out))) (below_size (by repeat (first | (with_reducible first | exact HB.out | apply below_alloc | apply pw_below_drewN | apply below_drew1 | refine below_set ?_ GE179.out | refine below_set ?_ GE184.out | refine below_set ?_ GE190.out | refine below_set ?_ GE195.out) | exact HB.out)))); have n5_ := Aside0.mk (blk_below (g := gb179) (o := .cells #[.slice Ao24 t176.length co24] 27 (0, 0)) (by (with_reducible repeat (first | refine ba_ ?_ _ | refine bb_ ?_ | refine bc_ ?_ _)); exact BK179.out) hb); have n6_ := Aside0.mk (blk_below (g := gb184) (o := .cells #[.slice Ao28 t180.length co28] 27 (0, 0)) (by (with_reducible repeat (first | refine ba_ ?_ _ | refine bb_ ?_ | refine bc_ ?_ _)); exact BK184.out) hb); have n7_ := Aside0.mk (blk_below (g := gb190) (o := .cells #[.slice Ao33 t186.length co33] 27 (0, 0)) (by (with_reducible repeat (first | refine ba_ ?_ _ | refine bb_ ?_ | refine bc_ ?_ _)); exact BK190.out) hb); have n8_ := Aside0.mk (blk_below (g := gb195) (o := .cells #[.slice Ao39 t191.length co39] 27 (0, 0)) (by (with_reducible repeat (first | refine ba_ ?_ _ | refine bb_ ?_ | refine bc_ ?_ _)); exact BK195.out) hb); have n9_ := Aside0.mk (below_step (by repeat (first | (with_reducible first | exact HB.out | apply below_alloc | apply pw_below_drewN | apply below_drew1 | refine below_set ?_ GE179.out | refine below_set ?_ GE184.out | refine below_set ?_ GE190.out | refine below_set ?_ GE195.out) | exact HB.out)) hb); clear HO_180000; clear HO_185000; clear HO_191000; clear HO_196000; clear BK179; clear BK184; clear BK190; clear BK195; clear HB; have HO_180000 := n0_; have HO_185000 := n1_; have HO_191000 := n2_; have HO_196000 := n3_; have HO202 := n4_; have BK179 := n5_; have BK184 := n6_; have BK190 := n7_; have BK195 := n8_; have HB := n9_; clear n0_ n1_ n2_ n3_ n4_ n5_ n6_ n7_ n8_ n9_; (try clear hb); (try clear hb2); (try clear hk); (try clear hi); (try clear ho0)) | ((with_reducible refine gate_dst (N := 10) rfl ?_); (try (refine gate_guard (by rfl) ?_; dsimp only)); refine box_event ?hg (N := 10) ?hd (cs := #[.slice none 0 0]) (t := 27) ?hr ?_; (case hd => rfl); (case hg => rfl); (case hr => first | (go_simp; done) | (go_simp; rfl)); intro gb204 hg w83 hbox hb; have n0_ := Aside0.mk (Kd.R_below (by (with_reducible repeat (first | apply ra_ | apply rb_ | apply rc_)); exact HO_180000.out) hb); have n1_ := Aside0.mk (Kd.R_below (by (with_reducible repeat (first | apply ra_ | apply rb_ | apply rc_)); exact HO_185000.out) hb); have n2_ := Aside0.mk (Kd.R_below (by (with_reducible repeat (first | apply ra_ | apply rb_ | apply rc_)); exact HO_191000.out) hb); have n3_ := Aside0.mk (Kd.R_below (by (with_reducible repeat (first | apply ra_ | apply rb_ | apply rc_)); exact HO_196000.out) hb); have n4_ := Aside0.mk (Kd.R_below (by (with_reducible repeat (first | apply ra_ | apply rb_ | apply rc_)); exact HO202.out) hb); have n5_ := Aside0.mk (blk_below (g := gb179) (o := .cells #[.slice Ao24 t176.length co24] 27 (0, 0)) (by (with_reducible repeat (first | refine ba_ ?_ _ | refine bb_ ?_ | refine bc_ ?_ _)); exact BK179.out) hb); have n6_ := Aside0.mk (blk_below (g := gb184) (o := .cells #[.slice Ao28 t180.length co28] 27 (0, 0)) (by (with_reducible repeat (first | refine ba_ ?_ _ | refine bb_ ?_ | refine bc_ ?_ _)); exact BK184.out) hb); have n7_ := Aside0.mk (blk_below (g := gb190) (o := .cells #[.slice Ao33 t186.length co33] 27 (0, 0)) (by (with_reducible repeat (first | refine ba_ ?_ _ | refine bb_ ?_ | refine bc_ ?_ _)); exact BK190.out) hb); have n8_ := Aside0.mk (blk_below (g := gb195) (o := .cells #[.slice Ao39 t191.length co39] 27 (0, 0)) (by (with_reducible repeat (first | refine ba_ ?_ _ | refine bb_ ?_ | refine bc_ ?_ _)); exact BK195.out) hb); have n9_ := Aside0.mk (below_step (by repeat (first | (with_reducible first | exact HB.out | apply below_alloc | apply pw_below_drewN | apply below_drew1 | refine below_set ?_ GE179.out | refine below_set ?_ GE184.out | refine below_set ?_ GE190.out | refine below_set ?_ GE195.out) | exact HB.out)) hb); have n10_ := Aside0.mk (hbox); have n11_ := Aside0.mk ((by rw [hg]; exact (below_size (by repeat (first | (with_reducible first | exact HB.out | apply below_alloc | apply pw_below_drewN | apply below_drew1 | refine below_set ?_ GE179.out | refine below_set ?_ GE184.out | refine below_set ?_ GE190.out | refine below_set ?_ GE195.out) | exact HB.out))) : w.heap.size ≤ gb204)); have n12_ := Aside0.mk ((by rw [hg]; exact (below_size (by repeat (first | (with_reducible first | exact HB.out | apply below_alloc | apply pw_below_drewN | apply below_drew1 | refine below_set ?_ GE179.out | refine below_set ?_ GE184.out | refine below_set ?_ GE190.out | refine below_set ?_ GE195.out) | exact HB.out))) : w.heap.size ≤ gb204)); have n13_ := Aside0.mk ((by rw [hg]; exact Nat.ne_of_lt (blk_lt (g := gb179) (o := .cells #[.slice Ao24 t176.length co24] 27 (0, 0)) (by (with_reducible repeat (first | refine ba_ ?_ _ | refine bb_ ?_ | refine bc_ ?_ _)); exact BK179.out)) : gb179 ≠ gb204)); have n14_ := Aside0.mk ((by rw [hg]; exact Nat.ne_of_gt (blk_lt (g := gb179) (o := .cells #[.slice Ao24 t176.length co24] 27 (0, 0)) (by (with_reducible repeat (first | refine ba_ ?_ _ | refine bb_ ?_ | refine bc_ ?_ _)); exact BK179.out)) : gb204 ≠ gb179)); have n15_ := Aside0.mk ((by rw [hg]; exact Nat.ne_of_lt (blk_lt (g := gb184) (o := .cells #[.slice Ao28 t180.length co28] 27 (0, 0)) (by (with_reducible repeat (first | refine ba_ ?_ _ | refine bb_ ?_ | refine bc_ ?_ _)); exact BK184.out)) : gb184 ≠ gb204)); have n16_ := Aside0.mk ((by rw [hg]; exact Nat.ne_of_gt (blk_lt (g := gb184) (o := .cells #[.slice Ao28 t180.length co28] 27 (0, 0)) (by (with_reducible repeat (first | refine ba_ ?_ _ | refine bb_ ?_ | refine bc_ ?_ _)); exact BK184.out)) : gb204 ≠ gb184)); have n17_ := Aside0.mk ((by rw [hg]; exact Nat.ne_of_lt (blk_lt (g := gb190) (o := .cells #[.slice Ao33 t186.length co33] 27 (0, 0)) (by (with_reducible repeat (first | refine ba_ ?_ _ | refine bb_ ?_ | refine bc_ ?_ _)); exact BK190.out)) : gb190 ≠ gb204)); have n18_ := Aside0.mk ((by rw [hg]; exact Nat.ne_of_gt (blk_lt (g := gb190) (o := .cells #[.slice Ao33 t186.length co33] 27 (0, 0)) (by (with_reducible repeat (first | refine ba_ ?_ _ | refine bb_ ?_ | refine bc_ ?_ _)); exact BK190.out)) : gb204 ≠ gb190)); have n19_ := Aside0.mk ((by rw [hg]; exact Nat.ne_of_lt (blk_lt (g := gb195) (o := .cells #[.slice Ao39 t191.length co39] 27 (0, 0)) (by (with_reducible repeat (first | refine ba_ ?_ _ | refine bb_ ?_ | refine bc_ ?_ _)); exact BK195.out)) : gb195 ≠ gb204)); have n20_ := Aside0.mk ((by rw [hg]; exact Nat.ne_of_gt (blk_lt (g := gb195) (o := .cells #[.slice Ao39 t191.length co39] 27 (0, 0)) (by (with_reducible repeat (first | refine ba_ ?_ _ | refine bb_ ?_ | refine bc_ ?_ _)); exact BK195.out)) : gb204 ≠ gb195)); clear HO_180000; clear HO_185000; clear HO_191000; clear HO_196000; clear HO202; clear BK179; clear BK184; clear BK190; clear BK195; clear HB; have HO_180000 := n0_; have HO_185000 := n1_; have HO_191000 := n2_; have HO_196000 := n3_; have HO202 := n4_; have BK179 := n5_; have BK184 := n6_; have BK190 := n7_; have BK195 := n8_; have HB := n9_; have BK204 := n10_; have GW204 := n11_; have GE204 := n12_; have NB179_204 := n13_; have NB204_179 := n14_; have NB184_204 := n15_; have NB204_184 := n16_; have NB190_204 := n17_; have NB204_190 := n18_; have NB195_204 := n19_; have NB204_195 := n20_; clear n0_ n1_ n2_ n3_ n4_ n5_ n6_ n7_ n8_ n9_ n10_ n11_ n12_ n13_ n14_ n15_ n16_ n17_ n18_ n19_ n20_; clear hb hbox hg; obtain ⟨Ao84, co84, eo84⟩ := Kd.R_slice HO202.out; subst eo84; have hnb85 := NB204_179.out; have hnc85 := NB179_204.out; have hnb86 := NB204_184.out; have hnc86 := NB184_204.out; have hnb87 := NB204_190.out; have hnc87 := NB190_204.out; have hnb88 := NB204_195.out; have hnc88 := NB195_204.out; have hcz89_0 : w83.cell? ⟨gb204, 0, none⟩ = some (.slice none 0 0) := (blk_cell BK204.out 0).trans rfl; have hfz89_0 := blk_frozen BK204.out 0))
              have n0_ : Aside0 (Kd.R Kd.bool 4 (w83.setCell ⟨gb204, 0, none⟩ (.slice Ao84 t200.length co84)) w.heap.size (fun k_ => some k_ ≠ (.slice Ao28 t180.length co28 : Value).ownBlock ∧ some k_ ≠ (.slice Ao33 t186.length co33 : Value).ownBlock ∧ some k_ ≠ (.slice Ao39 t191.length co39 : Value).ownBlock ∧ some k_ ≠ (.slice Ao84 t200.length co84 : Value).ownBlock) (.slice Ao24 t176.length co24) t176) := ⟨by (with_reducible repeat (first | apply ra_ | apply rb_ | apply rc_)); exact Kd.R_mono (Kd.R_far (p := ⟨gb204, 0, none⟩) (Kd.R_types HO_180000.out BK204.out (by decide)) (fun _ hk => hk.2) (.slice Ao84 t200.length co84)) (fun _ hk => ⟨hk.1.1.1, ⟨hk.1.1.2.1, ⟨hk.1.1.2.2, hk.1.2⟩⟩⟩)⟩
              have n1_ : Aside0 (Kd.R Kd.bool 4 (w83.setCell ⟨gb204, 0, none⟩ (.slice Ao84 t200.length co84)) w.heap.size (fun k_ => some k_ ≠ (.slice Ao24 t176.length co24 : Value).ownBlock ∧ some k_ ≠ (.slice Ao33 t186.length co33 : Value).ownBlock ∧ some k_ ≠ (.slice Ao39 t191.length co39 : Value).ownBlock ∧ some k_ ≠ (.slice Ao84 t200.length co84 : Value).ownBlock) (.slice Ao28 t180.length co28) t180) := ⟨by (with_reducible repeat (first | apply ra_ | apply rb_ | apply rc_)); exact Kd.R_mono (Kd.R_far (p := ⟨gb204, 0, none⟩) (Kd.R_types HO_185000.out BK204.out (by decide)) (fun _ hk => hk.2) (.slice Ao84 t200.length co84)) (fun _ hk => ⟨hk.1.1.1, ⟨hk.1.1.2.1, ⟨hk.1.1.2.2, hk.1.2⟩⟩⟩)⟩
              have n2_ : Aside0 (Kd.R Kd.bool 4 (w83.setCell ⟨gb204, 0, none⟩ (.slice Ao84 t200.length co84)) w.heap.size (fun k_ => some k_ ≠ (.slice Ao24 t176.length co24 : Value).ownBlock ∧ some k_ ≠ (.slice Ao28 t180.length co28 : Value).ownBlock ∧ some k_ ≠ (.slice Ao39 t191.length co39 : Value).ownBlock ∧ some k_ ≠ (.slice Ao84 t200.length co84 : Value).ownBlock) (.slice Ao33 t186.length co33) t186) := ⟨by (with_reducible repeat (first | apply ra_ | apply rb_ | apply rc_)); exact Kd.R_mono (Kd.R_far (p := ⟨gb204, 0, none⟩) (Kd.R_types HO_191000.out BK204.out (by decide)) (fun _ hk => hk.2) (.slice Ao84 t200.length co84)) (fun _ hk => ⟨hk.1.1.1, ⟨hk.1.1.2.1, ⟨hk.1.1.2.2, hk.1.2⟩⟩⟩)⟩
              have n3_ : Aside0 (Kd.R Kd.bool 4 (w83.setCell ⟨gb204, 0, none⟩ (.slice Ao84 t200.length co84)) w.heap.size (fun k_ => some k_ ≠ (.slice Ao24 t176.length co24 : Value).ownBlock ∧ some k_ ≠ (.slice Ao28 t180.length co28 : Value).ownBlock ∧ some k_ ≠ (.slice Ao33 t186.length co33 : Value).ownBlock ∧ some k_ ≠ (.slice Ao84 t200.length co84 : Value).ownBlock) (.slice Ao39 t191.length co39) t191) := ⟨by (with_reducible repeat (first | apply ra_ | apply rb_ | apply rc_)); exact Kd.R_mono (Kd.R_far (p := ⟨gb204, 0, none⟩) (Kd.R_types HO_196000.out BK204.out (by decide)) (fun _ hk => hk.2) (.slice Ao84 t200.length co84)) (fun _ hk => ⟨hk.1.1.1, ⟨hk.1.1.2.1, ⟨hk.1.1.2.2, hk.1.2⟩⟩⟩)⟩
              have n4_ : Aside0 (Kd.R Kd.bool 4 (w83.setCell ⟨gb204, 0, none⟩ (.slice Ao84 t200.length co84)) w.heap.size (fun k_ => some k_ ≠ (.slice Ao24 t176.length co24 : Value).ownBlock ∧ some k_ ≠ (.slice Ao28 t180.length co28 : Value).ownBlock ∧ some k_ ≠ (.slice Ao33 t186.length co33 : Value).ownBlock ∧ some k_ ≠ (.slice Ao39 t191.length co39 : Value).ownBlock) (.slice Ao84 t200.length co84) t200) := ⟨by (with_reducible repeat (first | apply ra_ | apply rb_ | apply rc_)); exact Kd.R_mono (Kd.R_far (p := ⟨gb204, 0, none⟩) (Kd.R_types HO202.out BK204.out (by decide)) (fun _ hk => hk.2) (.slice Ao84 t200.length co84)) (fun _ hk => ⟨hk.1.1.1.1.2, ⟨hk.1.1.1.2, ⟨hk.1.1.2, hk.1.2⟩⟩⟩)⟩
              have n5_ : Aside0 ((w83.setCell ⟨gb204, 0, none⟩ (.slice Ao84 t200.length co84)).heap[gb179]? = some (.cells #[.slice Ao24 t176.length co24] 27 (0, 0))) := ⟨by (with_reducible repeat (first | refine ba_ ?_ _ | refine bb_ ?_ | refine bc_ ?_ _)); refine blk_far ?_ NB179_204.out _; (with_reducible repeat (first | refine ba_ ?_ _ | refine bb_ ?_ | refine bc_ ?_ _)); exact BK179.out⟩
              have n6_ : Aside0 ((w83.setCell ⟨gb204, 0, none⟩ (.slice Ao84 t200.length co84)).heap[gb184]? = some (.cells #[.slice Ao28 t180.length co28] 27 (0, 0))) := ⟨by (with_reducible repeat (first | refine ba_ ?_ _ | refine bb_ ?_ | refine bc_ ?_ _)); refine blk_far ?_ NB184_204.out _; (with_reducible repeat (first | refine ba_ ?_ _ | refine bb_ ?_ | refine bc_ ?_ _)); exact BK184.out⟩
              have n7_ : Aside0 ((w83.setCell ⟨gb204, 0, none⟩ (.slice Ao84 t200.length co84)).heap[gb190]? = some (.cells #[.slice Ao33 t186.length co33] 27 (0, 0))) := ⟨by (with_reducible repeat (first | refine ba_ ?_ _ | refine bb_ ?_ | refine bc_ ?_ _)); refine blk_far ?_ NB190_204.out _; (with_reducible repeat (first | refine ba_ ?_ _ | refine bb_ ?_ | refine bc_ ?_ _)); exact BK190.out⟩
              have n8_ : Aside0 ((w83.setCell ⟨gb204, 0, none⟩ (.slice Ao84 t200.length co84)).heap[gb195]? = some (.cells #[.slice Ao39 t191.length co39] 27 (0, 0))) := ⟨by (with_reducible repeat (first | refine ba_ ?_ _ | refine bb_ ?_ | refine bc_ ?_ _)); refine blk_far ?_ NB195_204.out _; (with_reducible repeat (first | refine ba_ ?_ _ | refine bb_ ?_ | refine bc_ ?_ _)); exact BK195.out⟩
              have n9_ : Aside0 ((w83.setCell ⟨gb204, 0, none⟩ (.slice Ao84 t200.length co84)).heap[gb204]? = some (.cells #[.slice Ao84 t200.length co84] 27 (0, 0))) := ⟨by (with_reducible repeat (first | refine ba_ ?_ _ | refine bb_ ?_ | refine bc_ ?_ _)); refine blk_put (cs := #[.slice none 0 0]) ?_ 0 _ rfl; (with_reducible repeat (first | refine ba_ ?_ _ | refine bb_ ?_ | refine bc_ ?_ _)); exact BK204.out⟩
              have n10_ : Aside0 (Below w.heap.size w (w83.setCell ⟨gb204, 0, none⟩ (.slice Ao84 t200.length co84))) := ⟨by repeat (first | (with_reducible first | exact HB.out | apply below_alloc | apply pw_below_drewN | apply below_drew1 | refine below_set ?_ GE179.out | refine below_set ?_ GE184.out | refine below_set ?_ GE190.out | refine below_set ?_ GE195.out | refine below_set ?_ GE204.out) | exact HB.out)⟩
              (try clear HO_180000)
              (try clear HO_185000)
              (try clear HO_191000)
              (try clear HO_196000)
              (try clear HO202)
              (try clear BK179)
              (try clear BK184)
              (try clear BK190)
              (try clear BK195)
              (try clear BK204)
              (try clear HB)
              generalize (w83.setCell ⟨gb204, 0, none⟩ (.slice Ao84 t200.length co84)) = w90 at n0_ n1_ n2_ n3_ n4_ n5_ n6_ n7_ n8_ n9_ n10_ ⊢
              have HO_180000 := n0_
              have HO_185000 := n1_
              have HO_191000 := n2_
              have HO_196000 := n3_
              have HO202 := n4_
              have BK179 := n5_
              have BK184 := n6_
              have BK190 := n7_
              have BK195 := n8_
              have BK204 := n9_
              have HB := n10_
              clear n0_ n1_ n2_ n3_ n4_ n5_ n6_ n7_ n8_ n9_ n10_
              have n0_ := Aside0.mk (Kd.R_drew HO_180000.out)
              have n1_ := Aside0.mk (Kd.R_drew HO_185000.out)
              have n2_ := Aside0.mk (Kd.R_drew HO_191000.out)
              have n3_ := Aside0.mk (Kd.R_drew HO_196000.out)
              have n4_ := Aside0.mk (Kd.R_drew HO202.out)
              have n5_ := Aside0.mk (blk_drew BK179.out)
              have n6_ := Aside0.mk (blk_drew BK184.out)
              have n7_ := Aside0.mk (blk_drew BK190.out)
              have n8_ := Aside0.mk (blk_drew BK195.out)
              have n9_ := Aside0.mk (blk_drew BK204.out)
              have n10_ := Aside0.mk (below_drew1 HB.out)
              clear HO_180000
              clear HO_185000
              clear HO_191000
              clear HO_196000
              clear HO202
              clear BK179
              clear BK184
              clear BK190
              clear BK195
              clear BK204
              clear HB
              have HO_180000 := n0_
              have HO_185000 := n1_
              have HO_191000 := n2_
              have HO_196000 := n3_
              have HO202 := n4_
              have BK179 := n5_
              have BK184 := n6_
              have BK190 := n7_
              have BK195 := n8_
              have BK204 := n9_
              have HB := n10_
              clear n0_ n1_ n2_ n3_ n4_ n5_ n6_ n7_ n8_ n9_ n10_
              refine start_ (n := 11) (S := fun w' => w'.cell? ⟨gb190, 0, none⟩ = some (.slice Ao33 t186.length co33) ∧ w'.cell? ⟨gb179, 0, none⟩ = some (.slice Ao24 t176.length co24)) (ds := []) (bt_ 11 0) (by kernel_rfl) rfl (by kernel_rfl) ⟨(blk_cell BK190.out 0).trans rfl, (blk_cell BK179.out 0).trans rfl⟩ (fun hHeld => ?_); refine with_tabW laws_FnTags.tab12 laws_FnTags.bits12 (fun HT_ HW_ => ?_)
              generalize w90.drew = w91 at HO_180000 HO_185000 HO_191000 HO_196000 HO202 BK179 BK184 BK190 BK195 BK204 HB hHeld ⊢
              refine pure_ (i := 0) (N := some 87) (v := ?_) (a' := ?_) (bt_ 11 1) rfl rfl (any_of HT_.out (by kernel_rfl)) (fun _ _ _ h => h) (Or.inl ⟨by rfl, ?_⟩) ?_ ?_
              rotate_left; · intro w'; go_simp; with_reducible rfl
              rotate_left; · simp only [Act.put, sa_, sb_, sc_, i64_w, i32_w]; rfl
              refine pure_ (i := 1) (N := some 88) (v := ?_) (a' := ?_) (bt_ 11 3) rfl rfl (any_of HT_.out (by kernel_rfl)) (fun _ _ _ h => h) (Or.inl ⟨by rfl, ?_⟩) ?_ ?_
              rotate_left; · intro w'; go_simp; with_reducible rfl
              rotate_left; · simp only [Act.put, sa_, sb_, sc_, i64_w, i32_w]; rfl
              refine pure_ (i := 2) (N := some 89) (v := ?_) (a' := ?_) (bt_ 11 7) rfl rfl (any_of HT_.out (by kernel_rfl)) (fun _ _ _ h => h) (Or.inl ⟨by rfl, ?_⟩) ?_ ?_
              rotate_left; · intro w'; go_simp; with_reducible rfl
              rotate_left; · simp only [Act.put, sa_, sb_, sc_, i64_w, i32_w]; rfl
              refine pure_ (i := 3) (N := some 90) (v := ?_) (a' := ?_) (bt_ 11 0xf) rfl rfl (any_of HT_.out (by kernel_rfl)) (fun _ _ _ h => h) (Or.inl ⟨by rfl, ?_⟩) ?_ ?_
              rotate_left; · intro w'; go_simp; with_reducible rfl
              rotate_left; · simp only [Act.put, sa_, sb_, sc_, i64_w, i32_w]; rfl
              refine take_ (i := 4) (N := some 91) (v := ?_) (a' := ?_) (bt_ 11 0x1f) rfl rfl (take_ofW HT_.out HW_.out (by kernel_rfl)) (fun _ _ _ h => h) (Or.inl ⟨by rfl, ?_⟩) hHeld ?_ ?_
              rotate_left
              · rintro w' ⟨s0, s1⟩
                go_simp
                with_reducible rfl
              rotate_left; · simp only [Act.put, sa_, sb_, sc_, i64_w, i32_w]; rfl
              refine take_ (i := 6) (N := some 93) (v := ?_) (a' := ?_) (bt_ 11 0x5f) rfl rfl (take_ofW HT_.out HW_.out (by kernel_rfl)) (fun _ _ _ h => h) (Or.inl ⟨by rfl, ?_⟩) hHeld ?_ ?_
              rotate_left
              · rintro w' ⟨s0, s1⟩
                go_simp
                with_reducible rfl
              rotate_left; · simp only [Act.put, sa_, sb_, sc_, i64_w, i32_w]; rfl
              refine one_ (i := 5) (N := some 92) (bt_ 11 0x7f) rfl rfl (one_of HT_.out (by kernel_rfl)) (by decide) (fun K hK => ?_)
              refine goes_ Try.func19 (by kernel_rfl) rfl #[.agg #[.slice Ao33 t186.length co33]] (by rfl) rfl rfl (by (try simp only [List.map_toArray, List.map_cons, List.map_nil]); first | done | rfl | (simp only [List.length_drop, List.length_take]; rfl)) ?_
              with_reducible refine (impl_CountBusy.calls kj20 _ _ t186 t205 _ ?side1 ?side2 A76.out).mono ?_
              (case side1 => repeat (first | exact (Kd.R_reads' HO_191000.out).2.2 | (with_reducible refine Kd.C_alloc ?_ _) | (with_reducible refine Kd.C_drewN ?_ _) | (with_reducible refine Kd.C_drew ?_)))
              (case side2 => exact (Kd.R_reads' HO_191000.out).2.1)
              rintro e w92 ⟨rfl, hb⟩
              refine ⟨_, rfl, ?_⟩
              have n0_ := Aside0.mk (Kd.R_below (by (with_reducible repeat (first | apply ra_ | apply rb_ | apply rc_)); exact HO_180000.out) hb)
              have n1_ := Aside0.mk (Kd.R_below (by (with_reducible repeat (first | apply ra_ | apply rb_ | apply rc_)); exact HO_185000.out) hb)
              have n2_ := Aside0.mk (Kd.R_below (by (with_reducible repeat (first | apply ra_ | apply rb_ | apply rc_)); exact HO_191000.out) hb)
              have n3_ := Aside0.mk (Kd.R_below (by (with_reducible repeat (first | apply ra_ | apply rb_ | apply rc_)); exact HO_196000.out) hb)
              have n4_ := Aside0.mk (Kd.R_below (by (with_reducible repeat (first | apply ra_ | apply rb_ | apply rc_)); exact HO202.out) hb)
              have n5_ := Aside0.mk (blk_below (g := gb179) (o := .cells #[.slice Ao24 t176.length co24] 27 (0, 0)) (by (with_reducible repeat (first | refine ba_ ?_ _ | refine bb_ ?_ | refine bc_ ?_ _)); exact BK179.out) hb)
              have n6_ := Aside0.mk (blk_below (g := gb184) (o := .cells #[.slice Ao28 t180.length co28] 27 (0, 0)) (by (with_reducible repeat (first | refine ba_ ?_ _ | refine bb_ ?_ | refine bc_ ?_ _)); exact BK184.out) hb)
              have n7_ := Aside0.mk (blk_below (g := gb190) (o := .cells #[.slice Ao33 t186.length co33] 27 (0, 0)) (by (with_reducible repeat (first | refine ba_ ?_ _ | refine bb_ ?_ | refine bc_ ?_ _)); exact BK190.out) hb)
              have n8_ := Aside0.mk (blk_below (g := gb195) (o := .cells #[.slice Ao39 t191.length co39] 27 (0, 0)) (by (with_reducible repeat (first | refine ba_ ?_ _ | refine bb_ ?_ | refine bc_ ?_ _)); exact BK195.out) hb)
              have n9_ := Aside0.mk (blk_below (g := gb204) (o := .cells #[.slice Ao84 t200.length co84] 27 (0, 0)) (by (with_reducible repeat (first | refine ba_ ?_ _ | refine bb_ ?_ | refine bc_ ?_ _)); exact BK204.out) hb)
              have n10_ := Aside0.mk (below_step (by repeat (first | (with_reducible first | exact HB.out | apply below_alloc | apply pw_below_drewN | apply below_drew1 | refine below_set ?_ GE179.out | refine below_set ?_ GE184.out | refine below_set ?_ GE190.out | refine below_set ?_ GE195.out | refine below_set ?_ GE204.out) | exact HB.out)) hb)
              clear HO_180000
              clear HO_185000
              clear HO_191000
              clear HO_196000
              clear HO202
              clear BK179
              clear BK184
              clear BK190
              clear BK195
              clear BK204
              clear HB
              have HO_180000 := n0_
              have HO_185000 := n1_
              have HO_191000 := n2_
              have HO_196000 := n3_
              have HO202 := n4_
              have BK179 := n5_
              have BK184 := n6_
              have BK190 := n7_
              have BK195 := n8_
              have BK204 := n9_
              have HB := n10_
              clear n0_ n1_ n2_ n3_ n4_ n5_ n6_ n7_ n8_ n9_ n10_
              (try clear hb)
              (try clear hb2)
              (try clear hk)
              (try clear hi)
              refine hK.out _ _ ⟨(blk_cell BK190.out 0).trans rfl, (blk_cell BK179.out 0).trans rfl⟩ (fun hHeld => ?_)
              clear hK K
              refine norm_ (a' := ?_) ?_ ?_
              rotate_left
              · show Act.put _ (some 92) _ = _
                simp only [Act.put, sa_, sb_, sc_, i64_w, i32_w]
                rfl
              refine one_ (i := 7) (N := some 94) (bt_ 11 0xff) rfl rfl (one_of HT_.out (by kernel_rfl)) (by decide) (fun K hK => ?_)
              refine goes_ Try.func19 (by kernel_rfl) rfl #[.agg #[.slice Ao24 t176.length co24]] (by rfl) rfl rfl (by (try simp only [List.map_toArray, List.map_cons, List.map_nil]); first | done | rfl | (simp only [List.length_drop, List.length_take]; rfl)) ?_
              with_reducible refine (impl_CountBusy.calls kj20 _ _ t176 t206 _ ?side1 ?side2 A77.out).mono ?_
              (case side1 => repeat (first | exact (Kd.R_reads' HO_180000.out).2.2 | (with_reducible refine Kd.C_alloc ?_ _) | (with_reducible refine Kd.C_drewN ?_ _) | (with_reducible refine Kd.C_drew ?_)))
              (case side2 => exact (Kd.R_reads' HO_180000.out).2.1)
              rintro e w93 ⟨rfl, hb⟩
              refine ⟨_, rfl, ?_⟩
              have n0_ := Aside0.mk (Kd.R_below (by (with_reducible repeat (first | apply ra_ | apply rb_ | apply rc_)); exact HO_180000.out) hb)
              have n1_ := Aside0.mk (Kd.R_below (by (with_reducible repeat (first | apply ra_ | apply rb_ | apply rc_)); exact HO_185000.out) hb)
              have n2_ := Aside0.mk (Kd.R_below (by (with_reducible repeat (first | apply ra_ | apply rb_ | apply rc_)); exact HO_191000.out) hb)
              have n3_ := Aside0.mk (Kd.R_below (by (with_reducible repeat (first | apply ra_ | apply rb_ | apply rc_)); exact HO_196000.out) hb)
              have n4_ := Aside0.mk (Kd.R_below (by (with_reducible repeat (first | apply ra_ | apply rb_ | apply rc_)); exact HO202.out) hb)
              have n5_ := Aside0.mk (blk_below (g := gb179) (o := .cells #[.slice Ao24 t176.length co24] 27 (0, 0)) (by (with_reducible repeat (first | refine ba_ ?_ _ | refine bb_ ?_ | refine bc_ ?_ _)); exact BK179.out) hb)
              have n6_ := Aside0.mk (blk_below (g := gb184) (o := .cells #[.slice Ao28 t180.length co28] 27 (0, 0)) (by (with_reducible repeat (first | refine ba_ ?_ _ | refine bb_ ?_ | refine bc_ ?_ _)); exact BK184.out) hb)
              have n7_ := Aside0.mk (blk_below (g := gb190) (o := .cells #[.slice Ao33 t186.length co33] 27 (0, 0)) (by (with_reducible repeat (first | refine ba_ ?_ _ | refine bb_ ?_ | refine bc_ ?_ _)); exact BK190.out) hb)
              have n8_ := Aside0.mk (blk_below (g := gb195) (o := .cells #[.slice Ao39 t191.length co39] 27 (0, 0)) (by (with_reducible repeat (first | refine ba_ ?_ _ | refine bb_ ?_ | refine bc_ ?_ _)); exact BK195.out) hb)
              have n9_ := Aside0.mk (blk_below (g := gb204) (o := .cells #[.slice Ao84 t200.length co84] 27 (0, 0)) (by (with_reducible repeat (first | refine ba_ ?_ _ | refine bb_ ?_ | refine bc_ ?_ _)); exact BK204.out) hb)
              have n10_ := Aside0.mk (below_step (by repeat (first | (with_reducible first | exact HB.out | apply below_alloc | apply pw_below_drewN | apply below_drew1 | refine below_set ?_ GE179.out | refine below_set ?_ GE184.out | refine below_set ?_ GE190.out | refine below_set ?_ GE195.out | refine below_set ?_ GE204.out) | exact HB.out)) hb)
              clear HO_180000
              clear HO_185000
              clear HO_191000
              clear HO_196000
              clear HO202
              clear BK179
              clear BK184
              clear BK190
              clear BK195
              clear BK204
              clear HB
              have HO_180000 := n0_
              have HO_185000 := n1_
              have HO_191000 := n2_
              have HO_196000 := n3_
              have HO202 := n4_
              have BK179 := n5_
              have BK184 := n6_
              have BK190 := n7_
              have BK195 := n8_
              have BK204 := n9_
              have HB := n10_
              clear n0_ n1_ n2_ n3_ n4_ n5_ n6_ n7_ n8_ n9_ n10_
              (try clear hb)
              (try clear hb2)
              (try clear hk)
              (try clear hi)
              refine hK.out _ _ ⟨(blk_cell BK190.out 0).trans rfl, (blk_cell BK179.out 0).trans rfl⟩ (fun hHeld => ?_)
              clear hK K
              refine norm_ (a' := ?_) ?_ ?_
              rotate_left
              · show Act.put _ (some 94) _ = _
                simp only [Act.put, sa_, sb_, sc_, i64_w, i32_w]
                rfl
              refine pure_ (i := 8) (N := some 95) (v := ?_) (a' := ?_) (bt_ 11 0x1ff) rfl rfl (any_of HT_.out (by kernel_rfl)) (fun _ _ _ h => h) (Or.inl ⟨by rfl, ?_⟩) ?_ ?_
              rotate_left; · intro w'; go_simp; with_reducible rfl
              rotate_left; · simp only [Act.put, sa_, sb_, sc_, i64_w, i32_w]; rfl
              refine pure_ (i := 9) (N := some 96) (v := ?_) (a' := ?_) (bt_ 11 0x3ff) rfl rfl (any_of HT_.out (by kernel_rfl)) (fun _ _ _ h => h) (Or.inl ⟨by rfl, ?_⟩) ?_ ?_
              rotate_left; · intro w'; go_simp; with_reducible rfl
              rotate_left; · simp only [Act.put, sa_, sb_, sc_, i64_w, i32_w]; rfl
              refine pure_ (i := 10) (N := some 2) (v := ?_) (a' := ?_) (bt_ 11 0x7ff) rfl rfl (any_of HT_.out (by kernel_rfl)) (fun _ _ _ h => h) (Or.inl ⟨by rfl, ?_⟩) ?_ ?_
              rotate_left; · intro w'; go_simp; with_reducible rfl
              rotate_left; · simp only [Act.put, sa_, sb_, sc_, i64_w, i32_w]; rfl
              refine done_ (done_of HT_.out (by kernel_rfl)) ?_
              try go_wp2
              go_ret
              exact ⟨by first | rfl | (simp [errW_none, errW_some] <;> rfl) | (simp [*, errW_none, errW_some] <;> rfl), by repeat (first | (with_reducible first | exact HB.out | apply below_alloc | apply pw_below_drewN | apply below_drew1 | refine below_set ?_ GE179.out | refine below_set ?_ GE184.out | refine below_set ?_ GE190.out | refine below_set ?_ GE195.out | refine below_set ?_ GE204.out) | exact HB.out)⟩
            · rw [if_neg c75] at H
              have c75b0 : (t203 == t183) = false := beq_eq_false_iff_ne.mpr c75
              have c75b1 : (t203 != t183) = true := bne_iff_ne.mpr c75
              obtain rfl := Option.some.inj H
              have hnb94 := NB190_179.out
              have hnc94 := NB179_190.out
              have hnb95 := NB190_184.out
              have hnc95 := NB184_190.out
              have hnb96 := NB190_195.out
              have hnc96 := NB195_190.out
              have hcz97_0 : wc.cell? ⟨gb190, 0, none⟩ = some (.slice Ao33 t186.length co33) := (blk_cell BK190.out 0).trans rfl
              have hfz97_0 := blk_frozen BK190.out 0
              try go_wp2_with (first | ((with_reducible refine gate_callee (f := 23) rfl ?_); refine goesL_ (some 84) rfl rfl Try.func23 (by kernel_rfl) rfl #[.agg #[.slice Ao33 t186.length co33]] rfl (by (try simp only [List.map_toArray, List.map_cons, List.map_nil]); first | done | rfl | (simp only [List.length_drop, List.length_take]; rfl)) ?_; (with_reducible refine (impl_TakeTag.calls kj20 _ _ t186 t200 t203 _ ?side1 ?side2 A74.out).mono ?_); (case side1 => repeat (first | exact (Kd.R_reads' HO_191000.out).2.2 | (with_reducible refine Kd.C_alloc ?_ _) | (with_reducible refine Kd.C_drewN ?_ _) | (with_reducible refine Kd.C_drew ?_))); (case side2 => exact (Kd.R_reads' HO_191000.out).2.1); rintro e w98 ⟨v201, rfl, ho0, hb⟩; refine ⟨_, rfl, ?_⟩; have n0_ := Aside0.mk (Kd.R_elder' (by (with_reducible repeat (first | apply ra_ | apply rb_ | apply rc_)); exact HO_180000.out) (Kd.R_base ho0) hb); have n1_ := Aside0.mk (Kd.R_elder' (by (with_reducible repeat (first | apply ra_ | apply rb_ | apply rc_)); exact HO_185000.out) (Kd.R_base ho0) hb); have n2_ := Aside0.mk (Kd.R_elder' (by (with_reducible repeat (first | apply ra_ | apply rb_ | apply rc_)); exact HO_191000.out) (Kd.R_base ho0) hb); have n3_ := Aside0.mk (Kd.R_elder' (by (with_reducible repeat (first | apply ra_ | apply rb_ | apply rc_)); exact HO_196000.out) (Kd.R_base ho0) hb); have n4_ := Aside0.mk (Kd.R_lower (Kd.R_new' (Kd.R_new' (Kd.R_new' (Kd.R_new' ho0 (Kd.R_lt (by (with_reducible repeat (first | apply ra_ | apply rb_ | apply rc_)); exact HO_180000.out))) (Kd.R_lt (by (with_reducible repeat (first | apply ra_ | apply rb_ | apply rc_)); exact HO_185000.out))) (Kd.R_lt (by (with_reducible repeat (first | apply ra_ | apply rb_ | apply rc_)); exact HO_191000.out))) (Kd.R_lt (by (with_reducible repeat (first | apply ra_ | apply rb_ | apply rc_)); exact HO_196000.out))) (below_size (by repeat (first | (with_reducible first | exact HB.out | apply below_alloc | apply pw_below_drewN | apply below_drew1 | refine below_set ?_ GE179.out | refine below_set ?_ GE184.out | refine below_set ?_ GE190.out | refine below_set ?_ GE195.out) | exact HB.out)))); have n5_ := Aside0.mk (blk_below (g := gb179) (o := .cells #[.slice Ao24 t176.length co24] 27 (0, 0)) (by (with_reducible repeat (first | refine ba_ ?_ _ | refine bb_ ?_ | refine bc_ ?_ _)); exact BK179.out) hb); have n6_ := Aside0.mk (blk_below (g := gb184) (o := .cells #[.slice Ao28 t180.length co28] 27 (0, 0)) (by (with_reducible repeat (first | refine ba_ ?_ _ | refine bb_ ?_ | refine bc_ ?_ _)); exact BK184.out) hb); have n7_ := Aside0.mk (blk_below (g := gb190) (o := .cells #[.slice Ao33 t186.length co33] 27 (0, 0)) (by (with_reducible repeat (first | refine ba_ ?_ _ | refine bb_ ?_ | refine bc_ ?_ _)); exact BK190.out) hb); have n8_ := Aside0.mk (blk_below (g := gb195) (o := .cells #[.slice Ao39 t191.length co39] 27 (0, 0)) (by (with_reducible repeat (first | refine ba_ ?_ _ | refine bb_ ?_ | refine bc_ ?_ _)); exact BK195.out) hb); have n9_ := Aside0.mk (below_step (by repeat (first | (with_reducible first | exact HB.out | apply below_alloc | apply pw_below_drewN | apply below_drew1 | refine below_set ?_ GE179.out | refine below_set ?_ GE184.out | refine below_set ?_ GE190.out | refine below_set ?_ GE195.out) | exact HB.out)) hb); clear HO_180000; clear HO_185000; clear HO_191000; clear HO_196000; clear BK179; clear BK184; clear BK190; clear BK195; clear HB; have HO_180000 := n0_; have HO_185000 := n1_; have HO_191000 := n2_; have HO_196000 := n3_; have HO202 := n4_; have BK179 := n5_; have BK184 := n6_; have BK190 := n7_; have BK195 := n8_; have HB := n9_; clear n0_ n1_ n2_ n3_ n4_ n5_ n6_ n7_ n8_ n9_; (try clear hb); (try clear hb2); (try clear hk); (try clear hi); (try clear ho0)) | ((with_reducible refine gate_dst (N := 10) rfl ?_); (try (refine gate_guard (by rfl) ?_; dsimp only)); refine box_event ?hg (N := 10) ?hd (cs := #[.slice none 0 0]) (t := 27) ?hr ?_; (case hd => rfl); (case hg => rfl); (case hr => first | (go_simp; done) | (go_simp; rfl)); intro gb204 hg w99 hbox hb; have n0_ := Aside0.mk (Kd.R_below (by (with_reducible repeat (first | apply ra_ | apply rb_ | apply rc_)); exact HO_180000.out) hb); have n1_ := Aside0.mk (Kd.R_below (by (with_reducible repeat (first | apply ra_ | apply rb_ | apply rc_)); exact HO_185000.out) hb); have n2_ := Aside0.mk (Kd.R_below (by (with_reducible repeat (first | apply ra_ | apply rb_ | apply rc_)); exact HO_191000.out) hb); have n3_ := Aside0.mk (Kd.R_below (by (with_reducible repeat (first | apply ra_ | apply rb_ | apply rc_)); exact HO_196000.out) hb); have n4_ := Aside0.mk (Kd.R_below (by (with_reducible repeat (first | apply ra_ | apply rb_ | apply rc_)); exact HO202.out) hb); have n5_ := Aside0.mk (blk_below (g := gb179) (o := .cells #[.slice Ao24 t176.length co24] 27 (0, 0)) (by (with_reducible repeat (first | refine ba_ ?_ _ | refine bb_ ?_ | refine bc_ ?_ _)); exact BK179.out) hb); have n6_ := Aside0.mk (blk_below (g := gb184) (o := .cells #[.slice Ao28 t180.length co28] 27 (0, 0)) (by (with_reducible repeat (first | refine ba_ ?_ _ | refine bb_ ?_ | refine bc_ ?_ _)); exact BK184.out) hb); have n7_ := Aside0.mk (blk_below (g := gb190) (o := .cells #[.slice Ao33 t186.length co33] 27 (0, 0)) (by (with_reducible repeat (first | refine ba_ ?_ _ | refine bb_ ?_ | refine bc_ ?_ _)); exact BK190.out) hb); have n8_ := Aside0.mk (blk_below (g := gb195) (o := .cells #[.slice Ao39 t191.length co39] 27 (0, 0)) (by (with_reducible repeat (first | refine ba_ ?_ _ | refine bb_ ?_ | refine bc_ ?_ _)); exact BK195.out) hb); have n9_ := Aside0.mk (below_step (by repeat (first | (with_reducible first | exact HB.out | apply below_alloc | apply pw_below_drewN | apply below_drew1 | refine below_set ?_ GE179.out | refine below_set ?_ GE184.out | refine below_set ?_ GE190.out | refine below_set ?_ GE195.out) | exact HB.out)) hb); have n10_ := Aside0.mk (hbox); have n11_ := Aside0.mk ((by rw [hg]; exact (below_size (by repeat (first | (with_reducible first | exact HB.out | apply below_alloc | apply pw_below_drewN | apply below_drew1 | refine below_set ?_ GE179.out | refine below_set ?_ GE184.out | refine below_set ?_ GE190.out | refine below_set ?_ GE195.out) | exact HB.out))) : w.heap.size ≤ gb204)); have n12_ := Aside0.mk ((by rw [hg]; exact (below_size (by repeat (first | (with_reducible first | exact HB.out | apply below_alloc | apply pw_below_drewN | apply below_drew1 | refine below_set ?_ GE179.out | refine below_set ?_ GE184.out | refine below_set ?_ GE190.out | refine below_set ?_ GE195.out) | exact HB.out))) : w.heap.size ≤ gb204)); have n13_ := Aside0.mk ((by rw [hg]; exact Nat.ne_of_lt (blk_lt (g := gb179) (o := .cells #[.slice Ao24 t176.length co24] 27 (0, 0)) (by (with_reducible repeat (first | refine ba_ ?_ _ | refine bb_ ?_ | refine bc_ ?_ _)); exact BK179.out)) : gb179 ≠ gb204)); have n14_ := Aside0.mk ((by rw [hg]; exact Nat.ne_of_gt (blk_lt (g := gb179) (o := .cells #[.slice Ao24 t176.length co24] 27 (0, 0)) (by (with_reducible repeat (first | refine ba_ ?_ _ | refine bb_ ?_ | refine bc_ ?_ _)); exact BK179.out)) : gb204 ≠ gb179)); have n15_ := Aside0.mk ((by rw [hg]; exact Nat.ne_of_lt (blk_lt (g := gb184) (o := .cells #[.slice Ao28 t180.length co28] 27 (0, 0)) (by (with_reducible repeat (first | refine ba_ ?_ _ | refine bb_ ?_ | refine bc_ ?_ _)); exact BK184.out)) : gb184 ≠ gb204)); have n16_ := Aside0.mk ((by rw [hg]; exact Nat.ne_of_gt (blk_lt (g := gb184) (o := .cells #[.slice Ao28 t180.length co28] 27 (0, 0)) (by (with_reducible repeat (first | refine ba_ ?_ _ | refine bb_ ?_ | refine bc_ ?_ _)); exact BK184.out)) : gb204 ≠ gb184)); have n17_ := Aside0.mk ((by rw [hg]; exact Nat.ne_of_lt (blk_lt (g := gb190) (o := .cells #[.slice Ao33 t186.length co33] 27 (0, 0)) (by (with_reducible repeat (first | refine ba_ ?_ _ | refine bb_ ?_ | refine bc_ ?_ _)); exact BK190.out)) : gb190 ≠ gb204)); have n18_ := Aside0.mk ((by rw [hg]; exact Nat.ne_of_gt (blk_lt (g := gb190) (o := .cells #[.slice Ao33 t186.length co33] 27 (0, 0)) (by (with_reducible repeat (first | refine ba_ ?_ _ | refine bb_ ?_ | refine bc_ ?_ _)); exact BK190.out)) : gb204 ≠ gb190)); have n19_ := Aside0.mk ((by rw [hg]; exact Nat.ne_of_lt (blk_lt (g := gb195) (o := .cells #[.slice Ao39 t191.length co39] 27 (0, 0)) (by (with_reducible repeat (first | refine ba_ ?_ _ | refine bb_ ?_ | refine bc_ ?_ _)); exact BK195.out)) : gb195 ≠ gb204)); have n20_ := Aside0.mk ((by rw [hg]; exact Nat.ne_of_gt (blk_lt (g := gb195) (o := .cells #[.slice Ao39 t191.length co39] 27 (0, 0)) (by (with_reducible repeat (first | refine ba_ ?_ _ | refine bb_ ?_ | refine bc_ ?_ _)); exact BK195.out)) : gb204 ≠ gb195)); clear HO_180000; clear HO_185000; clear HO_191000; clear HO_196000; clear HO202; clear BK179; clear BK184; clear BK190; clear BK195; clear HB; have HO_180000 := n0_; have HO_185000 := n1_; have HO_191000 := n2_; have HO_196000 := n3_; have HO202 := n4_; have BK179 := n5_; have BK184 := n6_; have BK190 := n7_; have BK195 := n8_; have HB := n9_; have BK204 := n10_; have GW204 := n11_; have GE204 := n12_; have NB179_204 := n13_; have NB204_179 := n14_; have NB184_204 := n15_; have NB204_184 := n16_; have NB190_204 := n17_; have NB204_190 := n18_; have NB195_204 := n19_; have NB204_195 := n20_; clear n0_ n1_ n2_ n3_ n4_ n5_ n6_ n7_ n8_ n9_ n10_ n11_ n12_ n13_ n14_ n15_ n16_ n17_ n18_ n19_ n20_; clear hb hbox hg; obtain ⟨Ao100, co100, eo100⟩ := Kd.R_slice HO202.out; subst eo100; have hnb101 := NB204_179.out; have hnc101 := NB179_204.out; have hnb102 := NB204_184.out; have hnc102 := NB184_204.out; have hnb103 := NB204_190.out; have hnc103 := NB190_204.out; have hnb104 := NB204_195.out; have hnc104 := NB195_204.out; have hcz105_0 : w99.cell? ⟨gb204, 0, none⟩ = some (.slice none 0 0) := (blk_cell BK204.out 0).trans rfl; have hfz105_0 := blk_frozen BK204.out 0))
              have n0_ : Aside0 (Kd.R Kd.bool 4 (w99.setCell ⟨gb204, 0, none⟩ (.slice Ao100 t200.length co100)) w.heap.size (fun k_ => some k_ ≠ (.slice Ao28 t180.length co28 : Value).ownBlock ∧ some k_ ≠ (.slice Ao33 t186.length co33 : Value).ownBlock ∧ some k_ ≠ (.slice Ao39 t191.length co39 : Value).ownBlock ∧ some k_ ≠ (.slice Ao100 t200.length co100 : Value).ownBlock) (.slice Ao24 t176.length co24) t176) := ⟨by (with_reducible repeat (first | apply ra_ | apply rb_ | apply rc_)); exact Kd.R_mono (Kd.R_far (p := ⟨gb204, 0, none⟩) (Kd.R_types HO_180000.out BK204.out (by decide)) (fun _ hk => hk.2) (.slice Ao100 t200.length co100)) (fun _ hk => ⟨hk.1.1.1, ⟨hk.1.1.2.1, ⟨hk.1.1.2.2, hk.1.2⟩⟩⟩)⟩
              have n1_ : Aside0 (Kd.R Kd.bool 4 (w99.setCell ⟨gb204, 0, none⟩ (.slice Ao100 t200.length co100)) w.heap.size (fun k_ => some k_ ≠ (.slice Ao24 t176.length co24 : Value).ownBlock ∧ some k_ ≠ (.slice Ao33 t186.length co33 : Value).ownBlock ∧ some k_ ≠ (.slice Ao39 t191.length co39 : Value).ownBlock ∧ some k_ ≠ (.slice Ao100 t200.length co100 : Value).ownBlock) (.slice Ao28 t180.length co28) t180) := ⟨by (with_reducible repeat (first | apply ra_ | apply rb_ | apply rc_)); exact Kd.R_mono (Kd.R_far (p := ⟨gb204, 0, none⟩) (Kd.R_types HO_185000.out BK204.out (by decide)) (fun _ hk => hk.2) (.slice Ao100 t200.length co100)) (fun _ hk => ⟨hk.1.1.1, ⟨hk.1.1.2.1, ⟨hk.1.1.2.2, hk.1.2⟩⟩⟩)⟩
              have n2_ : Aside0 (Kd.R Kd.bool 4 (w99.setCell ⟨gb204, 0, none⟩ (.slice Ao100 t200.length co100)) w.heap.size (fun k_ => some k_ ≠ (.slice Ao24 t176.length co24 : Value).ownBlock ∧ some k_ ≠ (.slice Ao28 t180.length co28 : Value).ownBlock ∧ some k_ ≠ (.slice Ao39 t191.length co39 : Value).ownBlock ∧ some k_ ≠ (.slice Ao100 t200.length co100 : Value).ownBlock) (.slice Ao33 t186.length co33) t186) := ⟨by (with_reducible repeat (first | apply ra_ | apply rb_ | apply rc_)); exact Kd.R_mono (Kd.R_far (p := ⟨gb204, 0, none⟩) (Kd.R_types HO_191000.out BK204.out (by decide)) (fun _ hk => hk.2) (.slice Ao100 t200.length co100)) (fun _ hk => ⟨hk.1.1.1, ⟨hk.1.1.2.1, ⟨hk.1.1.2.2, hk.1.2⟩⟩⟩)⟩
              have n3_ : Aside0 (Kd.R Kd.bool 4 (w99.setCell ⟨gb204, 0, none⟩ (.slice Ao100 t200.length co100)) w.heap.size (fun k_ => some k_ ≠ (.slice Ao24 t176.length co24 : Value).ownBlock ∧ some k_ ≠ (.slice Ao28 t180.length co28 : Value).ownBlock ∧ some k_ ≠ (.slice Ao33 t186.length co33 : Value).ownBlock ∧ some k_ ≠ (.slice Ao100 t200.length co100 : Value).ownBlock) (.slice Ao39 t191.length co39) t191) := ⟨by (with_reducible repeat (first | apply ra_ | apply rb_ | apply rc_)); exact Kd.R_mono (Kd.R_far (p := ⟨gb204, 0, none⟩) (Kd.R_types HO_196000.out BK204.out (by decide)) (fun _ hk => hk.2) (.slice Ao100 t200.length co100)) (fun _ hk => ⟨hk.1.1.1, ⟨hk.1.1.2.1, ⟨hk.1.1.2.2, hk.1.2⟩⟩⟩)⟩
              have n4_ : Aside0 (Kd.R Kd.bool 4 (w99.setCell ⟨gb204, 0, none⟩ (.slice Ao100 t200.length co100)) w.heap.size (fun k_ => some k_ ≠ (.slice Ao24 t176.length co24 : Value).ownBlock ∧ some k_ ≠ (.slice Ao28 t180.length co28 : Value).ownBlock ∧ some k_ ≠ (.slice Ao33 t186.length co33 : Value).ownBlock ∧ some k_ ≠ (.slice Ao39 t191.length co39 : Value).ownBlock) (.slice Ao100 t200.length co100) t200) := ⟨by (with_reducible repeat (first | apply ra_ | apply rb_ | apply rc_)); exact Kd.R_mono (Kd.R_far (p := ⟨gb204, 0, none⟩) (Kd.R_types HO202.out BK204.out (by decide)) (fun _ hk => hk.2) (.slice Ao100 t200.length co100)) (fun _ hk => ⟨hk.1.1.1.1.2, ⟨hk.1.1.1.2, ⟨hk.1.1.2, hk.1.2⟩⟩⟩)⟩
              have n5_ : Aside0 ((w99.setCell ⟨gb204, 0, none⟩ (.slice Ao100 t200.length co100)).heap[gb179]? = some (.cells #[.slice Ao24 t176.length co24] 27 (0, 0))) := ⟨by (with_reducible repeat (first | refine ba_ ?_ _ | refine bb_ ?_ | refine bc_ ?_ _)); refine blk_far ?_ NB179_204.out _; (with_reducible repeat (first | refine ba_ ?_ _ | refine bb_ ?_ | refine bc_ ?_ _)); exact BK179.out⟩
              have n6_ : Aside0 ((w99.setCell ⟨gb204, 0, none⟩ (.slice Ao100 t200.length co100)).heap[gb184]? = some (.cells #[.slice Ao28 t180.length co28] 27 (0, 0))) := ⟨by (with_reducible repeat (first | refine ba_ ?_ _ | refine bb_ ?_ | refine bc_ ?_ _)); refine blk_far ?_ NB184_204.out _; (with_reducible repeat (first | refine ba_ ?_ _ | refine bb_ ?_ | refine bc_ ?_ _)); exact BK184.out⟩
              have n7_ : Aside0 ((w99.setCell ⟨gb204, 0, none⟩ (.slice Ao100 t200.length co100)).heap[gb190]? = some (.cells #[.slice Ao33 t186.length co33] 27 (0, 0))) := ⟨by (with_reducible repeat (first | refine ba_ ?_ _ | refine bb_ ?_ | refine bc_ ?_ _)); refine blk_far ?_ NB190_204.out _; (with_reducible repeat (first | refine ba_ ?_ _ | refine bb_ ?_ | refine bc_ ?_ _)); exact BK190.out⟩
              have n8_ : Aside0 ((w99.setCell ⟨gb204, 0, none⟩ (.slice Ao100 t200.length co100)).heap[gb195]? = some (.cells #[.slice Ao39 t191.length co39] 27 (0, 0))) := ⟨by (with_reducible repeat (first | refine ba_ ?_ _ | refine bb_ ?_ | refine bc_ ?_ _)); refine blk_far ?_ NB195_204.out _; (with_reducible repeat (first | refine ba_ ?_ _ | refine bb_ ?_ | refine bc_ ?_ _)); exact BK195.out⟩
              have n9_ : Aside0 ((w99.setCell ⟨gb204, 0, none⟩ (.slice Ao100 t200.length co100)).heap[gb204]? = some (.cells #[.slice Ao100 t200.length co100] 27 (0, 0))) := ⟨by (with_reducible repeat (first | refine ba_ ?_ _ | refine bb_ ?_ | refine bc_ ?_ _)); refine blk_put (cs := #[.slice none 0 0]) ?_ 0 _ rfl; (with_reducible repeat (first | refine ba_ ?_ _ | refine bb_ ?_ | refine bc_ ?_ _)); exact BK204.out⟩
              have n10_ : Aside0 (Below w.heap.size w (w99.setCell ⟨gb204, 0, none⟩ (.slice Ao100 t200.length co100))) := ⟨by repeat (first | (with_reducible first | exact HB.out | apply below_alloc | apply pw_below_drewN | apply below_drew1 | refine below_set ?_ GE179.out | refine below_set ?_ GE184.out | refine below_set ?_ GE190.out | refine below_set ?_ GE195.out | refine below_set ?_ GE204.out) | exact HB.out)⟩
              (try clear HO_180000)
              (try clear HO_185000)
              (try clear HO_191000)
              (try clear HO_196000)
              (try clear HO202)
              (try clear BK179)
              (try clear BK184)
              (try clear BK190)
              (try clear BK195)
              (try clear BK204)
              (try clear HB)
              generalize (w99.setCell ⟨gb204, 0, none⟩ (.slice Ao100 t200.length co100)) = w106 at n0_ n1_ n2_ n3_ n4_ n5_ n6_ n7_ n8_ n9_ n10_ ⊢
              have HO_180000 := n0_
              have HO_185000 := n1_
              have HO_191000 := n2_
              have HO_196000 := n3_
              have HO202 := n4_
              have BK179 := n5_
              have BK184 := n6_
              have BK190 := n7_
              have BK195 := n8_
              have BK204 := n9_
              have HB := n10_
              clear n0_ n1_ n2_ n3_ n4_ n5_ n6_ n7_ n8_ n9_ n10_
              have n0_ := Aside0.mk (Kd.R_drew HO_180000.out)
              have n1_ := Aside0.mk (Kd.R_drew HO_185000.out)
              have n2_ := Aside0.mk (Kd.R_drew HO_191000.out)
              have n3_ := Aside0.mk (Kd.R_drew HO_196000.out)
              have n4_ := Aside0.mk (Kd.R_drew HO202.out)
              have n5_ := Aside0.mk (blk_drew BK179.out)
              have n6_ := Aside0.mk (blk_drew BK184.out)
              have n7_ := Aside0.mk (blk_drew BK190.out)
              have n8_ := Aside0.mk (blk_drew BK195.out)
              have n9_ := Aside0.mk (blk_drew BK204.out)
              have n10_ := Aside0.mk (below_drew1 HB.out)
              clear HO_180000
              clear HO_185000
              clear HO_191000
              clear HO_196000
              clear HO202
              clear BK179
              clear BK184
              clear BK190
              clear BK195
              clear BK204
              clear HB
              have HO_180000 := n0_
              have HO_185000 := n1_
              have HO_191000 := n2_
              have HO_196000 := n3_
              have HO202 := n4_
              have BK179 := n5_
              have BK184 := n6_
              have BK190 := n7_
              have BK195 := n8_
              have BK204 := n9_
              have HB := n10_
              clear n0_ n1_ n2_ n3_ n4_ n5_ n6_ n7_ n8_ n9_ n10_
              refine start_ (n := 11) (S := fun w' => True) (ds := []) (bt_ 11 0) (by kernel_rfl) rfl (by kernel_rfl) trivial (fun hHeld => ?_); refine with_tabW laws_FnTags.tab12 laws_FnTags.bits12 (fun HT_ HW_ => ?_)
              generalize w106.drew = w107 at HO_180000 HO_185000 HO_191000 HO_196000 HO202 BK179 BK184 BK190 BK195 BK204 HB hHeld ⊢
              refine pure_ (i := 0) (N := some 87) (v := ?_) (a' := ?_) (bt_ 11 1) rfl rfl (any_of HT_.out (by kernel_rfl)) (fun _ _ _ h => h) (Or.inl ⟨by rfl, ?_⟩) ?_ ?_
              rotate_left; · intro w'; go_simp; with_reducible rfl
              rotate_left; · simp only [Act.put, sa_, sb_, sc_, i64_w, i32_w]; rfl
              refine pure_ (i := 1) (N := some 88) (v := ?_) (a' := ?_) (bt_ 11 3) rfl rfl (any_of HT_.out (by kernel_rfl)) (fun _ _ _ h => h) (Or.inl ⟨by rfl, ?_⟩) ?_ ?_
              rotate_left; · intro w'; go_simp; with_reducible rfl
              rotate_left; · simp only [Act.put, sa_, sb_, sc_, i64_w, i32_w]; rfl
              refine pure_ (i := 2) (N := some 89) (v := ?_) (a' := ?_) (bt_ 11 7) rfl rfl (any_of HT_.out (by kernel_rfl)) (fun _ _ _ h => h) (Or.inl ⟨by rfl, ?_⟩) ?_ ?_
              rotate_left; · intro w'; go_simp; with_reducible rfl
              rotate_left; · simp only [Act.put, sa_, sb_, sc_, i64_w, i32_w]; rfl
              refine pure_ (i := 3) (N := some 90) (v := ?_) (a' := ?_) (bt_ 11 0xf) rfl rfl (any_of HT_.out (by kernel_rfl)) (fun _ _ _ h => h) (Or.inl ⟨by rfl, ?_⟩) ?_ ?_
              rotate_left; · intro w'; go_simp; with_reducible rfl
              rotate_left; · simp only [Act.put, sa_, sb_, sc_, i64_w, i32_w]; rfl
              refine pure_ (i := 4) (N := some 91) (v := undef) (a' := ?_) (bt_ 11 0x1f) rfl rfl (any_of HT_.out (by kernel_rfl)) (fun _ _ _ h => h) (Or.inr ⟨by rfl, rfl⟩) ?_ ?_
              rotate_left; · simp only [Act.put, sa_, sb_, sc_, i64_w, i32_w]; rfl
              refine pure_ (i := 5) (N := some 92) (v := undef) (a' := ?_) (bt_ 11 0x3f) rfl rfl (any_of HT_.out (by kernel_rfl)) (fun _ _ _ h => h) (Or.inr ⟨by rfl, rfl⟩) ?_ ?_
              rotate_left; · simp only [Act.put, sa_, sb_, sc_, i64_w, i32_w]; rfl
              refine pure_ (i := 6) (N := some 93) (v := undef) (a' := ?_) (bt_ 11 0x7f) rfl rfl (any_of HT_.out (by kernel_rfl)) (fun _ _ _ h => h) (Or.inr ⟨by rfl, rfl⟩) ?_ ?_
              rotate_left; · simp only [Act.put, sa_, sb_, sc_, i64_w, i32_w]; rfl
              refine pure_ (i := 7) (N := some 94) (v := undef) (a' := ?_) (bt_ 11 0xff) rfl rfl (any_of HT_.out (by kernel_rfl)) (fun _ _ _ h => h) (Or.inr ⟨by rfl, rfl⟩) ?_ ?_
              rotate_left; · simp only [Act.put, sa_, sb_, sc_, i64_w, i32_w]; rfl
              refine pure_ (i := 8) (N := some 95) (v := undef) (a' := ?_) (bt_ 11 0x1ff) rfl rfl (any_of HT_.out (by kernel_rfl)) (fun _ _ _ h => h) (Or.inr ⟨by rfl, rfl⟩) ?_ ?_
              rotate_left; · simp only [Act.put, sa_, sb_, sc_, i64_w, i32_w]; rfl
              refine pure_ (i := 9) (N := some 96) (v := ?_) (a' := ?_) (bt_ 11 0x3ff) rfl rfl (any_of HT_.out (by kernel_rfl)) (fun _ _ _ h => h) (Or.inl ⟨by rfl, ?_⟩) ?_ ?_
              rotate_left; · intro w'; go_simp; with_reducible rfl
              rotate_left; · simp only [Act.put, sa_, sb_, sc_, i64_w, i32_w]; rfl
              refine pure_ (i := 10) (N := some 2) (v := ?_) (a' := ?_) (bt_ 11 0x7ff) rfl rfl (any_of HT_.out (by kernel_rfl)) (fun _ _ _ h => h) (Or.inl ⟨by rfl, ?_⟩) ?_ ?_
              rotate_left; · intro w'; go_simp; with_reducible rfl
              rotate_left; · simp only [Act.put, sa_, sb_, sc_, i64_w, i32_w]; rfl
              refine done_ (done_of HT_.out (by kernel_rfl)) ?_
              try go_wp2
              go_ret
              exact ⟨by first | rfl | (simp [errW_none, errW_some] <;> rfl) | (simp [*, errW_none, errW_some] <;> rfl), by repeat (first | (with_reducible first | exact HB.out | apply below_alloc | apply pw_below_drewN | apply below_drew1 | refine below_set ?_ GE179.out | refine below_set ?_ GE184.out | refine below_set ?_ GE190.out | refine below_set ?_ GE195.out | refine below_set ?_ GE204.out) | exact HB.out)⟩

/-- THE ONE PURE STATEMENT of laws_FnTags: yours. -/
def laws_FnTags.Pure : Prop := ∀ (l0 : List Int), l0.length ≤ maxLen → l0.length * 1 ≤ 140737488351232 → (∀ x ∈ l0, (Lit.int .u8 x).wf = true) → ∃ k, laws_FnTags.f k l0 = some true
theorem laws_FnTags.walk (P : laws_FnTags.Pure) (a0 : Option Addr) (len0 cap0 : Nat) (z0 : List Int) (w : World) (w0 : (a0 = none ∧ len0 = 0 ∧ cap0 = 0 ∧ z0 = []) ∨ ∃ x, a0 = some x ∧ len0 ≤ cap0 ∧ cap0 ≤ maxLen ∧ z0.length = cap0 ∧ (∀ i, i < z0.length → w.cell? (x.add i) = some (.int .u8 (z0.getD i 0))) ∧ ∀ n ∈ z0, (Lit.int .u8 n).wf = true) (y0 : len0 * 1 ≤ 140737488351232) :
    Calls Try.prog 8 #[.slice a0 len0 cap0] w fun e w' => e = .returned (.bool true) ∧ Below w.heap.size w w' := by
  obtain ⟨l0, rfl, hr0, hm0, hw0, hc0⟩ := ReadsInt.ofRowC w0
  obtain ⟨k, h⟩ := P l0 hm0 y0 hw0
  refine (laws_FnTags.calls k _ _ l0 true w (Kd.C_of_reads (d := (0 : Int)) (h1 := fun _ => rfl) hr0) hc0 h).mono ?_
  rintro e w' ⟨rfl, hd⟩
  exact ⟨rfl, hd⟩

end Go.Proofs.Ytckpkjpcnlampaa.PFnTags

/- Began as a text of the kit's print over the program with some leaves' bodies turned; those leaves' own parts are the session's. -/
import Derived.Test.YtbfkiggcemlmgaaPFnLogsx0
import Derived.Test.YtbfkiggcemlmgaaPFnLogsx1
import Derived.Test.YtbfkiggcemlmgaaPFnLogsx5
import Derived.Test.YtbfkiggcemlmgaaPFnLogsx6
import Derived.Test.YtbfkiggcemlmgaaPFnLogsx7
namespace Go.Proofs.Ytbfkiggcemlmgaa.PFnLogs
open Go.RowKit Go.Proofs.YtbfkiggcemlmgaaW.PrintWords Go.Proofs.YtbfkiggcemlmgaaW.PrintLast Go.Proofs.YtbfkiggcemlmgaaW.PrintMore
attribute [local go_sem] max2_int min2_int max_two min_two max_three min_three max_four min_four   -- for this text's walks alone
set_option linter.unusedVariables false
set_option linter.unusedSimpArgs false

/-! ### laws_FnLogs: function 6 -/
def laws_FnLogs.j0 : Nat → Int → Int → Bool → Int → Int → Int → List Int → Int → Int → Int → List Int → Option (Bool)
  | 0, _, _, _, _, _, _, _, _, _, _, _ => none
  | k + 1, x5, x7, x72, x253000, x253001, x253002, x253003, x265000, x265001, x265002, x265003 => if x72 = true then (some false) else (if 0 ≤ x5 then (if ((x7 == (-1)) == ((Go.bits .and .i64 (shr .i64 x253001 x5) 1) == 1)) = true then (if x7 = (-1) then ((impl_WorstOf.f k x265000 x265001 x265002 x265003).bind fun t267 => ((impl_WorstOf.f k x253000 x253001 x253002 x253003).bind fun t268 => (some (decide (t267 ≥ t268))))) else (if x5 < (x253003.length : Int) then (if x7 = (rd x253003 x5) then ((impl_WorstOf.f k x265000 x265001 x265002 x265003).bind fun t270 => (if t270 ≥ x7 then ((impl_WorstOf.f k x265000 x265001 x265002 x265003).bind fun t271 => ((impl_WorstOf.f k x253000 x253001 x253002 x253003).bind fun t272 => (some (decide (t271 ≥ t272))))) else (some false))) else (some false)) else (none))) else (some false)) else (none))
def laws_FnLogs.f (k : Nat) (l0 : List Int) : Option (Bool) := (laws_big.f l0).bind fun t245 => (if t245 = true then (some true) else ((spec_DrawLog.f k l0).bind fun bt246 => ((spec_DrawPlaces.f k l0).bind fun t253 => (if 0 < (t253.length : Int) then ((impl_ReportError.f k bt246.1 bt246.2.1 bt246.2.2.1 bt246.2.2.2 (Int.tmod (rd t253 0) 16)).bind fun bt257 => ((impl_LogOk.f k bt246.1 bt246.2.1 bt246.2.2.1 bt246.2.2.2).bind fun t265 => (if t265 = true then ((impl_LogOk.f k bt257.1 bt257.2.1 bt257.2.2.1 bt257.2.2.2.1).bind fun t266 => (if t266 = true then (if 0 ≤ (Int.tmod (rd t253 0) 16) then (if (Go.bits .and .i64 (shr .i64 bt257.1 (Int.tmod (rd t253 0) 16)) 1) = 1 then (if (Go.bits .or .i64 bt257.1 bt246.1) = bt257.1 then (if bt246.1 = 0 then (laws_FnLogs.j0 k (Int.tmod (rd t253 0) 16) bt257.2.2.2.2 (bt257.2.2.1 != (Int.tmod (rd t253 0) 16)) bt246.1 bt246.2.1 bt246.2.2.1 bt246.2.2.2 bt257.1 bt257.2.1 bt257.2.2.1 bt257.2.2.2.1) else (if bt257.2.2.1 = bt246.2.2.1 then (laws_FnLogs.j0 k (Int.tmod (rd t253 0) 16) bt257.2.2.2.2 false bt246.1 bt246.2.1 bt246.2.2.1 bt246.2.2.2 bt257.1 bt257.2.1 bt257.2.2.1 bt257.2.2.2.1) else (laws_FnLogs.j0 k (Int.tmod (rd t253 0) 16) bt257.2.2.2.2 true bt246.1 bt246.2.1 bt246.2.2.1 bt246.2.2.2 bt257.1 bt257.2.1 bt257.2.2.1 bt257.2.2.2.1))) else (laws_FnLogs.j0 k (Int.tmod (rd t253 0) 16) bt257.2.2.2.2 true bt246.1 bt246.2.1 bt246.2.2.1 bt246.2.2.2 bt257.1 bt257.2.1 bt257.2.2.1 bt257.2.2.2.1)) else (laws_FnLogs.j0 k (Int.tmod (rd t253 0) 16) bt257.2.2.2.2 true bt246.1 bt246.2.1 bt246.2.2.1 bt246.2.2.2 bt257.1 bt257.2.1 bt257.2.2.1 bt257.2.2.2.1)) else (none)) else (laws_FnLogs.j0 k (Int.tmod (rd t253 0) 16) bt257.2.2.2.2 true bt246.1 bt246.2.1 bt246.2.2.1 bt246.2.2.2 bt257.1 bt257.2.1 bt257.2.2.1 bt257.2.2.2.1))) else (laws_FnLogs.j0 k (Int.tmod (rd t253 0) 16) bt257.2.2.2.2 true bt246.1 bt246.2.1 bt246.2.2.1 bt246.2.2.2 bt257.1 bt257.2.1 bt257.2.2.1 bt257.2.2.2.1)))) else (none)))))
theorem laws_FnLogs.mono_l : ∀ k, (∀ y0 y1 y2 y3 y4 y5 y6 y7 y8 y9 y10, LeO (laws_FnLogs.j0 k y0 y1 y2 y3 y4 y5 y6 y7 y8 y9 y10) (laws_FnLogs.j0 (k + 1) y0 y1 y2 y3 y4 y5 y6 y7 y8 y9 y10))
  | 0 => fun _ _ _ _ _ _ _ _ _ _ _ r h => by simp [laws_FnLogs.j0] at h
  | k + 1 => by
    have ih0 := laws_FnLogs.mono_l k
    · intro y0 y1 y2 y3 y4 y5 y6 y7 y8 y9 y10
      unfold laws_FnLogs.j0
      repeat' first
      | (with_reducible exact ih0 _ _ _ _ _ _ _ _ _ _ _)
      | (with_reducible exact impl_LogOk.mono _ _ _ _ _)
      | (with_reducible exact impl_ReportError.mono _ _ _ _ _ _)
      | (with_reducible exact impl_WorstOf.mono _ _ _ _ _)
      | (with_reducible exact spec_DrawLog.mono _ _)
      | (with_reducible exact spec_DrawPlaces.mono _ _)
      | (with_reducible exact LeO.refl _)
      | (with_reducible exact LeO.none _)
      | (with_reducible refine LeO.ite ?_ ?_)
      | (with_reducible refine LeO.bind ?_ (fun _ => ?_))
      | exact ih0 _ _ _ _ _ _ _ _ _ _ _
      | exact impl_LogOk.mono _ _ _ _ _
      | exact impl_ReportError.mono _ _ _ _ _ _
      | exact impl_WorstOf.mono _ _ _ _ _
      | exact spec_DrawLog.mono _ _
      | exact spec_DrawPlaces.mono _ _
      | exact LeO.none _
      | refine LeO.ite ?_ ?_
      | refine LeO.bind ?_ (fun _ => ?_)
theorem laws_FnLogs.mono : ∀ a0 k, LeO (laws_FnLogs.f k a0) (laws_FnLogs.f (k + 1) a0) := by
  intro a0 k
  have ih0 := laws_FnLogs.mono_l k
  unfold laws_FnLogs.f
  repeat' first
      | (with_reducible exact ih0 _ _ _ _ _ _ _ _ _ _ _)
      | (with_reducible exact impl_LogOk.mono _ _ _ _ _)
      | (with_reducible exact impl_ReportError.mono _ _ _ _ _ _)
      | (with_reducible exact impl_WorstOf.mono _ _ _ _ _)
      | (with_reducible exact spec_DrawLog.mono _ _)
      | (with_reducible exact spec_DrawPlaces.mono _ _)
      | (with_reducible exact LeO.refl _)
      | (with_reducible exact LeO.none _)
      | (with_reducible refine LeO.ite ?_ ?_)
      | (with_reducible refine LeO.bind ?_ (fun _ => ?_))
      | exact ih0 _ _ _ _ _ _ _ _ _ _ _
      | exact impl_LogOk.mono _ _ _ _ _
      | exact impl_ReportError.mono _ _ _ _ _ _
      | exact impl_WorstOf.mono _ _ _ _ _
      | exact spec_DrawLog.mono _ _
      | exact spec_DrawPlaces.mono _ _
      | exact LeO.none _
      | refine LeO.ite ?_ ?_
      | refine LeO.bind ?_ (fun _ => ?_)
def laws_FnLogs.T9 : Bool × List (List Nat × List Nat) := (true, [([], []), ([0], [0]), ([], []), ([2], [2]), ([], []), ([3, 4], [3, 4]), ([5], [5]), ([6], [6]), ([1, 7], [1, 7]), ([8], [8]), ([9], [9]), ([10, 9], [9, 10]), ([11, 9, 9], [9, 11]), ([12], [12]), ([12], [12]), ([14, 12], [12, 14]), ([12], [12]), ([15, 16, 12], [12, 15, 16]), ([17, 12], [12, 17]), ([13, 18, 12], [12, 13, 18]), ([19, 12, 12], [12, 19]), ([20], [20]), ([21, 20, 20], [20, 21]), ([20], [20]), ([22, 23, 20], [20, 22, 23]), ([20, 24, 12], [12, 20, 24]), ([12, 25, 9], [9, 12, 25]), ([9, 26], [9, 26]), ([27, 22], [27]), ([28], [28]), ([29, 28, 28], [28, 29]), ([28], [28]), ([31, 30, 28], [28, 31]), ([30, 32, 28], [28, 30, 32]), ([28, 33], [28, 33]), ([34, 32, 0, 1, 2, 3, 4, 5, 6, 7, 8, 9, 10, 11, 12, 13, 14, 15, 16, 17, 18, 19, 20, 21, 22, 23, 24, 25, 26, 27, 28, 29, 30, 31, 32, 33, 34], [34])])
def laws_FnLogs.B9 : List Nat := [0, 1, 0, 4, 0, 28, 60, 124, 255, 511, 1023, 2047, 4095, 8191, 8191, 24575, 8191, 122879, 253951, 524287, 1048575, 2097151, 4194303, 2097151, 16777215, 33554431, 67108863, 134217727, 268435455, 536870911, 1073741823, 536870911, 4294967295, 8589934591, 17179869183, 34359738367]
theorem laws_FnLogs.tab9 : rtab .any (opsOf Try.f6 9) = laws_FnLogs.T9 := by kernel_rfl
theorem laws_FnLogs.bits9 : waitsOk laws_FnLogs.T9.2 laws_FnLogs.B9 = true := by kernel_rfl
set_option maxHeartbeats 8000000 in
set_option maxRecDepth 100000 in
theorem laws_FnLogs.calls (k : Nat) (A0 : Option Addr) (c0 : Nat) (l0 : List Int) (r : Bool) (w : World) (hr0 : Kd.C (Kd.int .u8) w A0 l0.length l0) (hc0 : l0.length ≤ c0) (h : laws_FnLogs.f k l0 = some r) :
    Calls Try.prog 6 #[.slice A0 l0.length c0] w fun e w' => e = .returned (.bool r) ∧ Below w.heap.size w w' := by
  have hu29 := Try.underlying29
  have HR0 := Aside0.mk hr0
  have HC0 := Aside0.mk hc0
  clear hr0 hc0
  have HB := Aside0.mk (Below.refl w.heap.size w)
  have H : ((laws_big.f l0).bind fun t245 => (if t245 = true then (some true) else ((spec_DrawLog.f k l0).bind fun bt246 => ((spec_DrawPlaces.f k l0).bind fun t253 => (if 0 < (t253.length : Int) then ((impl_ReportError.f k bt246.1 bt246.2.1 bt246.2.2.1 bt246.2.2.2 (Int.tmod (rd t253 0) 16)).bind fun bt257 => ((impl_LogOk.f k bt246.1 bt246.2.1 bt246.2.2.1 bt246.2.2.2).bind fun t265 => (if t265 = true then ((impl_LogOk.f k bt257.1 bt257.2.1 bt257.2.2.1 bt257.2.2.2.1).bind fun t266 => (if t266 = true then (if 0 ≤ (Int.tmod (rd t253 0) 16) then (if (Go.bits .and .i64 (shr .i64 bt257.1 (Int.tmod (rd t253 0) 16)) 1) = 1 then (if (Go.bits .or .i64 bt257.1 bt246.1) = bt257.1 then (if bt246.1 = 0 then (laws_FnLogs.j0 k (Int.tmod (rd t253 0) 16) bt257.2.2.2.2 (bt257.2.2.1 != (Int.tmod (rd t253 0) 16)) bt246.1 bt246.2.1 bt246.2.2.1 bt246.2.2.2 bt257.1 bt257.2.1 bt257.2.2.1 bt257.2.2.2.1) else (if bt257.2.2.1 = bt246.2.2.1 then (laws_FnLogs.j0 k (Int.tmod (rd t253 0) 16) bt257.2.2.2.2 false bt246.1 bt246.2.1 bt246.2.2.1 bt246.2.2.2 bt257.1 bt257.2.1 bt257.2.2.1 bt257.2.2.2.1) else (laws_FnLogs.j0 k (Int.tmod (rd t253 0) 16) bt257.2.2.2.2 true bt246.1 bt246.2.1 bt246.2.2.1 bt246.2.2.2 bt257.1 bt257.2.1 bt257.2.2.1 bt257.2.2.2.1))) else (laws_FnLogs.j0 k (Int.tmod (rd t253 0) 16) bt257.2.2.2.2 true bt246.1 bt246.2.1 bt246.2.2.1 bt246.2.2.2 bt257.1 bt257.2.1 bt257.2.2.1 bt257.2.2.2.1)) else (laws_FnLogs.j0 k (Int.tmod (rd t253 0) 16) bt257.2.2.2.2 true bt246.1 bt246.2.1 bt246.2.2.1 bt246.2.2.2 bt257.1 bt257.2.1 bt257.2.2.1 bt257.2.2.2.1)) else (none)) else (laws_FnLogs.j0 k (Int.tmod (rd t253 0) 16) bt257.2.2.2.2 true bt246.1 bt246.2.1 bt246.2.2.1 bt246.2.2.2 bt257.1 bt257.2.1 bt257.2.2.1 bt257.2.2.2.1))) else (laws_FnLogs.j0 k (Int.tmod (rd t253 0) 16) bt257.2.2.2.2 true bt246.1 bt246.2.1 bt246.2.2.1 bt246.2.2.2 bt257.1 bt257.2.1 bt257.2.2.1 bt257.2.2.2.1)))) else (none)))))) = some r := h
  clear h
  replace H := Option.bind_eq_some_iff.mp H
  obtain ⟨t245, A20, H⟩ := H
  replace H : (if t245 = true then (some true) else ((spec_DrawLog.f k l0).bind fun bt246 => ((spec_DrawPlaces.f k l0).bind fun t253 => (if 0 < (t253.length : Int) then ((impl_ReportError.f k bt246.1 bt246.2.1 bt246.2.2.1 bt246.2.2.2 (Int.tmod (rd t253 0) 16)).bind fun bt257 => ((impl_LogOk.f k bt246.1 bt246.2.1 bt246.2.2.1 bt246.2.2.2).bind fun t265 => (if t265 = true then ((impl_LogOk.f k bt257.1 bt257.2.1 bt257.2.2.1 bt257.2.2.2.1).bind fun t266 => (if t266 = true then (if 0 ≤ (Int.tmod (rd t253 0) 16) then (if (Go.bits .and .i64 (shr .i64 bt257.1 (Int.tmod (rd t253 0) 16)) 1) = 1 then (if (Go.bits .or .i64 bt257.1 bt246.1) = bt257.1 then (if bt246.1 = 0 then (laws_FnLogs.j0 k (Int.tmod (rd t253 0) 16) bt257.2.2.2.2 (bt257.2.2.1 != (Int.tmod (rd t253 0) 16)) bt246.1 bt246.2.1 bt246.2.2.1 bt246.2.2.2 bt257.1 bt257.2.1 bt257.2.2.1 bt257.2.2.2.1) else (if bt257.2.2.1 = bt246.2.2.1 then (laws_FnLogs.j0 k (Int.tmod (rd t253 0) 16) bt257.2.2.2.2 false bt246.1 bt246.2.1 bt246.2.2.1 bt246.2.2.2 bt257.1 bt257.2.1 bt257.2.2.1 bt257.2.2.2.1) else (laws_FnLogs.j0 k (Int.tmod (rd t253 0) 16) bt257.2.2.2.2 true bt246.1 bt246.2.1 bt246.2.2.1 bt246.2.2.2 bt257.1 bt257.2.1 bt257.2.2.1 bt257.2.2.2.1))) else (laws_FnLogs.j0 k (Int.tmod (rd t253 0) 16) bt257.2.2.2.2 true bt246.1 bt246.2.1 bt246.2.2.1 bt246.2.2.2 bt257.1 bt257.2.1 bt257.2.2.1 bt257.2.2.2.1)) else (laws_FnLogs.j0 k (Int.tmod (rd t253 0) 16) bt257.2.2.2.2 true bt246.1 bt246.2.1 bt246.2.2.1 bt246.2.2.2 bt257.1 bt257.2.1 bt257.2.2.1 bt257.2.2.2.1)) else (none)) else (laws_FnLogs.j0 k (Int.tmod (rd t253 0) 16) bt257.2.2.2.2 true bt246.1 bt246.2.1 bt246.2.2.1 bt246.2.2.2 bt257.1 bt257.2.1 bt257.2.2.1 bt257.2.2.2.1))) else (laws_FnLogs.j0 k (Int.tmod (rd t253 0) 16) bt257.2.2.2.2 true bt246.1 bt246.2.1 bt246.2.2.1 bt246.2.2.2 bt257.1 bt257.2.1 bt257.2.2.1 bt257.2.2.2.1)))) else (none))))) = some r := H
  have A2 := Aside0.mk A20
  clear A20
  by_cases c3 : t245 = true
  · subst c3
    have H1 : (some true) = some r := by rw [if_pos rfl] at H; exact H
    clear H
    have H := H1
    clear H1
    obtain rfl := Option.some.inj H
    go_enter Try.func6, Try.ntmps6
    go_wp2_with (first | ((with_reducible refine gate_callee (f := 17) rfl ?_); refine goesL_ (some 9) rfl rfl Try.func17 (by kernel_rfl) rfl #[.slice A0 l0.length c0] rfl (by (try simp only [List.map_toArray, List.map_cons, List.map_nil]); first | done | rfl | (simp only [List.length_drop, List.length_take]; rfl)) ?_; (with_reducible refine (laws_big.calls _ _ l0 true _ ?side1 ?side2 A2.out).mono ?_); (case side1 => repeat (first | exact HR0.out | (with_reducible refine Kd.C_alloc ?_ _) | (with_reducible refine Kd.C_drewN ?_ _) | (with_reducible refine Kd.C_drew ?_))); (case side2 => exact HC0.out); rintro e w' ⟨rfl, ⟨nd, rfl⟩⟩; refine ⟨_, rfl, ?_⟩))
    go_ret
    exact ⟨by first | rfl | (simp [errW_none, errW_some] <;> rfl) | (simp [*, errW_none, errW_some] <;> rfl), by repeat (first | (with_reducible first | exact HB.out | apply below_alloc | apply pw_below_drewN | apply below_drew1) | exact HB.out)⟩
  · replace c3 := Bool.eq_false_iff.mpr c3
    subst c3
    have H1 : ((spec_DrawLog.f k l0).bind fun bt246 => ((spec_DrawPlaces.f k l0).bind fun t253 => (if 0 < (t253.length : Int) then ((impl_ReportError.f k bt246.1 bt246.2.1 bt246.2.2.1 bt246.2.2.2 (Int.tmod (rd t253 0) 16)).bind fun bt257 => ((impl_LogOk.f k bt246.1 bt246.2.1 bt246.2.2.1 bt246.2.2.2).bind fun t265 => (if t265 = true then ((impl_LogOk.f k bt257.1 bt257.2.1 bt257.2.2.1 bt257.2.2.2.1).bind fun t266 => (if t266 = true then (if 0 ≤ (Int.tmod (rd t253 0) 16) then (if (Go.bits .and .i64 (shr .i64 bt257.1 (Int.tmod (rd t253 0) 16)) 1) = 1 then (if (Go.bits .or .i64 bt257.1 bt246.1) = bt257.1 then (if bt246.1 = 0 then (laws_FnLogs.j0 k (Int.tmod (rd t253 0) 16) bt257.2.2.2.2 (bt257.2.2.1 != (Int.tmod (rd t253 0) 16)) bt246.1 bt246.2.1 bt246.2.2.1 bt246.2.2.2 bt257.1 bt257.2.1 bt257.2.2.1 bt257.2.2.2.1) else (if bt257.2.2.1 = bt246.2.2.1 then (laws_FnLogs.j0 k (Int.tmod (rd t253 0) 16) bt257.2.2.2.2 false bt246.1 bt246.2.1 bt246.2.2.1 bt246.2.2.2 bt257.1 bt257.2.1 bt257.2.2.1 bt257.2.2.2.1) else (laws_FnLogs.j0 k (Int.tmod (rd t253 0) 16) bt257.2.2.2.2 true bt246.1 bt246.2.1 bt246.2.2.1 bt246.2.2.2 bt257.1 bt257.2.1 bt257.2.2.1 bt257.2.2.2.1))) else (laws_FnLogs.j0 k (Int.tmod (rd t253 0) 16) bt257.2.2.2.2 true bt246.1 bt246.2.1 bt246.2.2.1 bt246.2.2.2 bt257.1 bt257.2.1 bt257.2.2.1 bt257.2.2.2.1)) else (laws_FnLogs.j0 k (Int.tmod (rd t253 0) 16) bt257.2.2.2.2 true bt246.1 bt246.2.1 bt246.2.2.1 bt246.2.2.2 bt257.1 bt257.2.1 bt257.2.2.1 bt257.2.2.2.1)) else (none)) else (laws_FnLogs.j0 k (Int.tmod (rd t253 0) 16) bt257.2.2.2.2 true bt246.1 bt246.2.1 bt246.2.2.1 bt246.2.2.2 bt257.1 bt257.2.1 bt257.2.2.1 bt257.2.2.2.1))) else (laws_FnLogs.j0 k (Int.tmod (rd t253 0) 16) bt257.2.2.2.2 true bt246.1 bt246.2.1 bt246.2.2.1 bt246.2.2.2 bt257.1 bt257.2.1 bt257.2.2.1 bt257.2.2.2.1)))) else (none)))) = some r := by rw [if_neg (show ¬ (false = true) by decide)] at H; exact H
    clear H
    have H := H1
    clear H1
    replace H := Option.bind_eq_some_iff.mp H
    obtain ⟨⟨t246, t247, t248, t249⟩, A40, H⟩ := H
    replace H : ((spec_DrawPlaces.f k l0).bind fun t253 => (if 0 < (t253.length : Int) then ((impl_ReportError.f k t246 t247 t248 t249 (Int.tmod (rd t253 0) 16)).bind fun bt257 => ((impl_LogOk.f k t246 t247 t248 t249).bind fun t265 => (if t265 = true then ((impl_LogOk.f k bt257.1 bt257.2.1 bt257.2.2.1 bt257.2.2.2.1).bind fun t266 => (if t266 = true then (if 0 ≤ (Int.tmod (rd t253 0) 16) then (if (Go.bits .and .i64 (shr .i64 bt257.1 (Int.tmod (rd t253 0) 16)) 1) = 1 then (if (Go.bits .or .i64 bt257.1 t246) = bt257.1 then (if t246 = 0 then (laws_FnLogs.j0 k (Int.tmod (rd t253 0) 16) bt257.2.2.2.2 (bt257.2.2.1 != (Int.tmod (rd t253 0) 16)) t246 t247 t248 t249 bt257.1 bt257.2.1 bt257.2.2.1 bt257.2.2.2.1) else (if bt257.2.2.1 = t248 then (laws_FnLogs.j0 k (Int.tmod (rd t253 0) 16) bt257.2.2.2.2 false t246 t247 t248 t249 bt257.1 bt257.2.1 bt257.2.2.1 bt257.2.2.2.1) else (laws_FnLogs.j0 k (Int.tmod (rd t253 0) 16) bt257.2.2.2.2 true t246 t247 t248 t249 bt257.1 bt257.2.1 bt257.2.2.1 bt257.2.2.2.1))) else (laws_FnLogs.j0 k (Int.tmod (rd t253 0) 16) bt257.2.2.2.2 true t246 t247 t248 t249 bt257.1 bt257.2.1 bt257.2.2.1 bt257.2.2.2.1)) else (laws_FnLogs.j0 k (Int.tmod (rd t253 0) 16) bt257.2.2.2.2 true t246 t247 t248 t249 bt257.1 bt257.2.1 bt257.2.2.1 bt257.2.2.2.1)) else (none)) else (laws_FnLogs.j0 k (Int.tmod (rd t253 0) 16) bt257.2.2.2.2 true t246 t247 t248 t249 bt257.1 bt257.2.1 bt257.2.2.1 bt257.2.2.2.1))) else (laws_FnLogs.j0 k (Int.tmod (rd t253 0) 16) bt257.2.2.2.2 true t246 t247 t248 t249 bt257.1 bt257.2.1 bt257.2.2.1 bt257.2.2.2.1)))) else (none))) = some r := H
    have A4 := Aside0.mk A40
    clear A40
    replace H := Option.bind_eq_some_iff.mp H
    obtain ⟨t253, A50, H⟩ := H
    replace H : (if 0 < (t253.length : Int) then ((impl_ReportError.f k t246 t247 t248 t249 (Int.tmod (rd t253 0) 16)).bind fun bt257 => ((impl_LogOk.f k t246 t247 t248 t249).bind fun t265 => (if t265 = true then ((impl_LogOk.f k bt257.1 bt257.2.1 bt257.2.2.1 bt257.2.2.2.1).bind fun t266 => (if t266 = true then (if 0 ≤ (Int.tmod (rd t253 0) 16) then (if (Go.bits .and .i64 (shr .i64 bt257.1 (Int.tmod (rd t253 0) 16)) 1) = 1 then (if (Go.bits .or .i64 bt257.1 t246) = bt257.1 then (if t246 = 0 then (laws_FnLogs.j0 k (Int.tmod (rd t253 0) 16) bt257.2.2.2.2 (bt257.2.2.1 != (Int.tmod (rd t253 0) 16)) t246 t247 t248 t249 bt257.1 bt257.2.1 bt257.2.2.1 bt257.2.2.2.1) else (if bt257.2.2.1 = t248 then (laws_FnLogs.j0 k (Int.tmod (rd t253 0) 16) bt257.2.2.2.2 false t246 t247 t248 t249 bt257.1 bt257.2.1 bt257.2.2.1 bt257.2.2.2.1) else (laws_FnLogs.j0 k (Int.tmod (rd t253 0) 16) bt257.2.2.2.2 true t246 t247 t248 t249 bt257.1 bt257.2.1 bt257.2.2.1 bt257.2.2.2.1))) else (laws_FnLogs.j0 k (Int.tmod (rd t253 0) 16) bt257.2.2.2.2 true t246 t247 t248 t249 bt257.1 bt257.2.1 bt257.2.2.1 bt257.2.2.2.1)) else (laws_FnLogs.j0 k (Int.tmod (rd t253 0) 16) bt257.2.2.2.2 true t246 t247 t248 t249 bt257.1 bt257.2.1 bt257.2.2.1 bt257.2.2.2.1)) else (none)) else (laws_FnLogs.j0 k (Int.tmod (rd t253 0) 16) bt257.2.2.2.2 true t246 t247 t248 t249 bt257.1 bt257.2.1 bt257.2.2.1 bt257.2.2.2.1))) else (laws_FnLogs.j0 k (Int.tmod (rd t253 0) 16) bt257.2.2.2.2 true t246 t247 t248 t249 bt257.1 bt257.2.1 bt257.2.2.1 bt257.2.2.2.1)))) else (none)) = some r := H
    have A5 := Aside0.mk A50
    clear A50
    by_cases c6 : 0 < (t253.length : Int)
    · rw [if_pos c6] at H
      have c6b0 : decide (0 < (t253.length : Int)) = true := decide_eq_true c6
      have c6b1 : decide (0 < t253.length) = true := decide_eq_true (by omega)
      clear c6
      replace H := Option.bind_eq_some_iff.mp H
      obtain ⟨⟨t257, t258, t259, t260, t263⟩, A70, H⟩ := H
      replace H : ((impl_LogOk.f k t246 t247 t248 t249).bind fun t265 => (if t265 = true then ((impl_LogOk.f k t257 t258 t259 t260).bind fun t266 => (if t266 = true then (if 0 ≤ (Int.tmod (rd t253 0) 16) then (if (Go.bits .and .i64 (shr .i64 t257 (Int.tmod (rd t253 0) 16)) 1) = 1 then (if (Go.bits .or .i64 t257 t246) = t257 then (if t246 = 0 then (laws_FnLogs.j0 k (Int.tmod (rd t253 0) 16) t263 (t259 != (Int.tmod (rd t253 0) 16)) t246 t247 t248 t249 t257 t258 t259 t260) else (if t259 = t248 then (laws_FnLogs.j0 k (Int.tmod (rd t253 0) 16) t263 false t246 t247 t248 t249 t257 t258 t259 t260) else (laws_FnLogs.j0 k (Int.tmod (rd t253 0) 16) t263 true t246 t247 t248 t249 t257 t258 t259 t260))) else (laws_FnLogs.j0 k (Int.tmod (rd t253 0) 16) t263 true t246 t247 t248 t249 t257 t258 t259 t260)) else (laws_FnLogs.j0 k (Int.tmod (rd t253 0) 16) t263 true t246 t247 t248 t249 t257 t258 t259 t260)) else (none)) else (laws_FnLogs.j0 k (Int.tmod (rd t253 0) 16) t263 true t246 t247 t248 t249 t257 t258 t259 t260))) else (laws_FnLogs.j0 k (Int.tmod (rd t253 0) 16) t263 true t246 t247 t248 t249 t257 t258 t259 t260))) = some r := H
      have A7 := Aside0.mk A70
      clear A70
      have HC8 := Aside0.mk H
      clear H
      go_enter Try.func6, Try.ntmps6
      go_upto_region 7 with (first | ((with_reducible refine gate_callee (f := 17) rfl ?_); refine goesL_ (some 9) rfl rfl Try.func17 (by kernel_rfl) rfl #[.slice A0 l0.length c0] rfl (by (try simp only [List.map_toArray, List.map_cons, List.map_nil]); first | done | rfl | (simp only [List.length_drop, List.length_take]; rfl)) ?_; (with_reducible refine (laws_big.calls _ _ l0 false _ ?side1 ?side2 A2.out).mono ?_); (case side1 => repeat (first | exact HR0.out | (with_reducible refine Kd.C_alloc ?_ _) | (with_reducible refine Kd.C_drewN ?_ _) | (with_reducible refine Kd.C_drew ?_))); (case side2 => exact HC0.out); rintro e w' ⟨rfl, ⟨nd, rfl⟩⟩; refine ⟨_, rfl, ?_⟩) | ((with_reducible refine gate_callee (f := 18) rfl ?_); refine goesL_ (some 11) rfl rfl Try.func18 (by kernel_rfl) rfl #[.slice A0 l0.length c0] rfl (by (try simp only [List.map_toArray, List.map_cons, List.map_nil]); first | done | rfl | (simp only [List.length_drop, List.length_take]; rfl)) ?_; (with_reducible refine (spec_DrawLog.calls k _ _ l0 t246 t247 t248 t249 _ ?side1 ?side2 A4.out).mono ?_); (case side1 => repeat (first | exact HR0.out | (with_reducible refine Kd.C_alloc ?_ _) | (with_reducible refine Kd.C_drewN ?_ _) | (with_reducible refine Kd.C_drew ?_))); (case side2 => exact HC0.out); rintro e w9 ⟨v250, rfl, ho0, hb⟩; refine ⟨_, rfl, ?_⟩; have n0_ := Aside0.mk (Kd.R_lower ho0 (below_size (bl_ HB))); have n1_ := Aside0.mk (below_step (bl_ HB) hb); clear HB; have HO251 := n0_; have HB := n1_; clear n0_ n1_; (try clear hb); (try clear hb2); (try clear hk); (try clear hi); (try clear ho0)) | ((with_reducible refine gate_dst (N := 3) rfl ?_); refine box_event ?hg (N := 3) ?hd (cs := #[.int .i64 0, .int .i64 0, .int .i64 0, .slice none 0 0]) (t := 29) ?hr ?_; (case hd => rfl); (case hg => rfl); (case hr => first | (go_simp; done) | (go_simp; rfl)); intro gb252 hg w10 hbox hb; have n0_ := Aside0.mk (Kd.R_below (by (with_reducible repeat (first | apply ra_ | apply rb_ | apply rc_)); exact HO251.out) hb); have n1_ := Aside0.mk (below_step (bl_ HB) hb); have n2_ := Aside0.mk (hbox); have n3_ := Aside0.mk ((by rw [hg]; exact (below_size (bl_ HB)) : w.heap.size ≤ gb252)); have n4_ := Aside0.mk ((by rw [hg]; exact (below_size (bl_ HB)) : w.heap.size ≤ gb252)); clear HO251; clear HB; have HO251 := n0_; have HB := n1_; have BK252 := n2_; have GW252 := n3_; have GE252 := n4_; clear n0_ n1_ n2_ n3_ n4_; clear hb hbox hg; obtain ⟨hcz11_0, hcz11_1, hcz11_2, hcz11_3, hfz11_0, hfz11_1, hfz11_2, hfz11_3⟩ := cf4_ BK252; obtain ⟨Ao12, co12, eo12⟩ := Kd.R_slice HO251.out; subst eo12) | ((with_reducible refine gate_callee (f := 19) rfl ?_); refine goesL_ (some 13) rfl rfl Try.func19 (by kernel_rfl) rfl #[.slice A0 l0.length c0] rfl (by (try simp only [List.map_toArray, List.map_cons, List.map_nil]); first | done | rfl | (simp only [List.length_drop, List.length_take]; rfl)) ?_; (with_reducible refine (spec_DrawPlaces.calls k _ _ l0 t253 _ ?side1 ?side2 A5.out).mono ?_); (case side1 => exact Kd.C_below HR0.out (by repeat (first | (with_reducible first | exact HB.out | apply below_alloc | apply pw_below_drewN | apply below_drew1 | refine below_set ?_ GE252.out) | exact HB.out))); (case side2 => exact HC0.out); rintro e w13 ⟨v254, rfl, ho0, hb⟩; refine ⟨_, rfl, ?_⟩; have n0_ := Aside0.mk (Kd.R_elder' (by (with_reducible repeat (first | apply ra_ | apply rb_ | apply rc_)); exact (Kd.R_mono (Kd.R_far (p := ⟨gb252, 3, none⟩) (Kd.R_far (p := ⟨gb252, 2, none⟩) (Kd.R_far (p := ⟨gb252, 1, none⟩) (Kd.R_far (p := ⟨gb252, 0, none⟩) (Kd.R_types HO251.out BK252.out (by decide)) (fun _ hk => hk.2) (.int .i64 t246)) (fun _ hk => hk.2) (.int .i64 t247)) (fun _ hk => hk.2) (.int .i64 t248)) (fun _ hk => hk.2) (.slice Ao12 t249.length co12)) (fun _ h_ => h_.1))) (Kd.R_base ho0) hb); have n1_ := Aside0.mk (Kd.R_lower (Kd.R_new' ho0 (Kd.R_lt (by (with_reducible repeat (first | apply ra_ | apply rb_ | apply rc_)); exact (Kd.R_mono (Kd.R_far (p := ⟨gb252, 3, none⟩) (Kd.R_far (p := ⟨gb252, 2, none⟩) (Kd.R_far (p := ⟨gb252, 1, none⟩) (Kd.R_far (p := ⟨gb252, 0, none⟩) (Kd.R_types HO251.out BK252.out (by decide)) (fun _ hk => hk.2) (.int .i64 t246)) (fun _ hk => hk.2) (.int .i64 t247)) (fun _ hk => hk.2) (.int .i64 t248)) (fun _ hk => hk.2) (.slice Ao12 t249.length co12)) (fun _ h_ => h_.1))))) (below_size (by repeat (first | (with_reducible first | exact HB.out | apply below_alloc | apply pw_below_drewN | apply below_drew1 | refine below_set ?_ GE252.out) | exact HB.out)))); have n2_ := Aside0.mk (blk_below (g := gb252) (o := .cells #[.int .i64 t246, .int .i64 t247, .int .i64 t248, .slice Ao12 t249.length co12] 29 (0, 0)) (by (with_reducible repeat (first | refine ba_ ?_ _ | refine bb_ ?_ | refine bc_ ?_ _)); refine blk_put (cs := #[.int .i64 t246, .int .i64 t247, .int .i64 t248, .slice none 0 0]) ?_ 3 _ rfl; (with_reducible repeat (first | refine ba_ ?_ _ | refine bb_ ?_ | refine bc_ ?_ _)); refine blk_put (cs := #[.int .i64 t246, .int .i64 t247, .int .i64 0, .slice none 0 0]) ?_ 2 _ rfl; (with_reducible repeat (first | refine ba_ ?_ _ | refine bb_ ?_ | refine bc_ ?_ _)); refine blk_put (cs := #[.int .i64 t246, .int .i64 0, .int .i64 0, .slice none 0 0]) ?_ 1 _ rfl; (with_reducible repeat (first | refine ba_ ?_ _ | refine bb_ ?_ | refine bc_ ?_ _)); refine blk_put (cs := #[.int .i64 0, .int .i64 0, .int .i64 0, .slice none 0 0]) ?_ 0 _ rfl; (with_reducible repeat (first | refine ba_ ?_ _ | refine bb_ ?_ | refine bc_ ?_ _)); exact BK252.out) hb); have n3_ := Aside0.mk (below_step (by repeat (first | (with_reducible first | exact HB.out | apply below_alloc | apply pw_below_drewN | apply below_drew1 | refine below_set ?_ GE252.out) | exact HB.out)) hb); clear HO251; clear BK252; clear HB; have HO251 := n0_; have HO255 := n1_; have BK252 := n2_; have HB := n3_; clear n0_ n1_ n2_ n3_; (try clear hb); (try clear hb2); (try clear hk); (try clear hi); (try clear ho0); obtain ⟨Ao14, co14, eo14⟩ := Kd.R_slice HO255.out; subst eo14; have p256 : 0 ≤ (0 : Int) := (by omega); have q256 : 0 < (t253.length : Int) := of_decide_eq_true (by first | (with_reducible assumption) | assumption); obtain ⟨ad256, e256, hx256_0⟩ := Kd.at_int (Kd.R_reads' HO255.out).2.2 0 p256 q256; cases e256; have qi256 : (0 < t253.length) = True := eq_true (by omega); (try rw [show ((0 : Int)).toNat = 0 from rfl] at hx256_0); (try rw [Addr.add_zero'] at hx256_0); replace p256 := eq_true p256; replace q256 := eq_true q256; obtain ⟨hcz15_0, hcz15_1, hcz15_2, hcz15_3, hfz15_0, hfz15_1, hfz15_2, hfz15_3⟩ := cf4_ BK252) | ((with_reducible refine gate_callee (f := 20) rfl ?_); refine goesL_ (some 21) rfl rfl Try.func20 (by kernel_rfl) rfl #[.agg #[.int .i64 t246, .int .i64 t247, .int .i64 t248, .slice Ao12 t249.length co12], .int .i64 (Int.tmod (rd t253 0) 16)] rfl (by (try simp only [List.map_toArray, List.map_cons, List.map_nil]); first | done | rfl | (simp only [List.length_drop, List.length_take]; rfl)) ?_; (with_reducible refine (impl_ReportError.calls k t246 t247 t248 _ _ t249 (Int.tmod (rd t253 0) 16) t257 t258 t259 t260 t263 _ ?side1 ?side2 A7.out).mono ?_); (case side1 => repeat (first | exact (Kd.R_reads' HO251.out).2.2 | (with_reducible refine Kd.C_alloc ?_ _) | (with_reducible refine Kd.C_drewN ?_ _) | (with_reducible refine Kd.C_drew ?_))); (case side2 => exact (Kd.R_reads' HO251.out).2.1); rintro e w16 ⟨v261, rfl, ho0, hb⟩; refine ⟨_, rfl, ?_⟩; have n0_ := Aside0.mk (Kd.R_elder' (by (with_reducible repeat (first | apply ra_ | apply rb_ | apply rc_)); exact HO251.out) (Kd.R_base ho0) hb); have n1_ := Aside0.mk (Kd.R_elder' (by (with_reducible repeat (first | apply ra_ | apply rb_ | apply rc_)); exact HO255.out) (Kd.R_base ho0) hb); have n2_ := Aside0.mk (Kd.R_lower (Kd.R_new' (Kd.R_new' ho0 (Kd.R_lt (by (with_reducible repeat (first | apply ra_ | apply rb_ | apply rc_)); exact HO251.out))) (Kd.R_lt (by (with_reducible repeat (first | apply ra_ | apply rb_ | apply rc_)); exact HO255.out))) (below_size (by repeat (first | (with_reducible first | exact HB.out | apply below_alloc | apply pw_below_drewN | apply below_drew1 | refine below_set ?_ GE252.out) | exact HB.out)))); have n3_ := Aside0.mk (blk_below (g := gb252) (o := .cells #[.int .i64 t246, .int .i64 t247, .int .i64 t248, .slice Ao12 t249.length co12] 29 (0, 0)) (bu_ BK252) hb); have n4_ := Aside0.mk (below_step (by repeat (first | (with_reducible first | exact HB.out | apply below_alloc | apply pw_below_drewN | apply below_drew1 | refine below_set ?_ GE252.out) | exact HB.out)) hb); clear HO251; clear HO255; clear BK252; clear HB; have HO251 := n0_; have HO255 := n1_; have HO262 := n2_; have BK252 := n3_; have HB := n4_; clear n0_ n1_ n2_ n3_ n4_; (try clear hb); (try clear hb2); (try clear hk); (try clear hi); (try clear ho0)) | ((with_reducible refine gate_dst (N := 6) rfl ?_); refine box_event ?hg (N := 6) ?hd (cs := #[.int .i64 0, .int .i64 0, .int .i64 0, .slice none 0 0]) (t := 29) ?hr ?_; (case hd => rfl); (case hg => rfl); (case hr => first | (go_simp; done) | (go_simp; rfl)); intro gb264 hg w17 hbox hb; have n0_ := Aside0.mk (Kd.R_below (by (with_reducible repeat (first | apply ra_ | apply rb_ | apply rc_)); exact HO251.out) hb); have n1_ := Aside0.mk (Kd.R_below (by (with_reducible repeat (first | apply ra_ | apply rb_ | apply rc_)); exact HO255.out) hb); have n2_ := Aside0.mk (Kd.R_below (by (with_reducible repeat (first | apply ra_ | apply rb_ | apply rc_)); exact HO262.out) hb); have n3_ := Aside0.mk (blk_below (g := gb252) (o := .cells #[.int .i64 t246, .int .i64 t247, .int .i64 t248, .slice Ao12 t249.length co12] 29 (0, 0)) (bu_ BK252) hb); have n4_ := Aside0.mk (below_step (by repeat (first | (with_reducible first | exact HB.out | apply below_alloc | apply pw_below_drewN | apply below_drew1 | refine below_set ?_ GE252.out) | exact HB.out)) hb); have n5_ := Aside0.mk (hbox); have n6_ := Aside0.mk ((by rw [hg]; exact (below_size (by repeat (first | (with_reducible first | exact HB.out | apply below_alloc | apply pw_below_drewN | apply below_drew1 | refine below_set ?_ GE252.out) | exact HB.out))) : w.heap.size ≤ gb264)); have n7_ := Aside0.mk ((by rw [hg]; exact (below_size (by repeat (first | (with_reducible first | exact HB.out | apply below_alloc | apply pw_below_drewN | apply below_drew1 | refine below_set ?_ GE252.out) | exact HB.out))) : w.heap.size ≤ gb264)); have n8_ := Aside0.mk ((by rw [hg]; exact Nat.ne_of_lt (blk_lt (g := gb252) (o := .cells #[.int .i64 t246, .int .i64 t247, .int .i64 t248, .slice Ao12 t249.length co12] 29 (0, 0)) (bu_ BK252)) : gb252 ≠ gb264)); have n9_ := Aside0.mk ((by rw [hg]; exact Nat.ne_of_gt (blk_lt (g := gb252) (o := .cells #[.int .i64 t246, .int .i64 t247, .int .i64 t248, .slice Ao12 t249.length co12] 29 (0, 0)) (bu_ BK252)) : gb264 ≠ gb252)); clear HO251; clear HO255; clear HO262; clear BK252; clear HB; have HO251 := n0_; have HO255 := n1_; have HO262 := n2_; have BK252 := n3_; have HB := n4_; have BK264 := n5_; have GW264 := n6_; have GE264 := n7_; have NB252_264 := n8_; have NB264_252 := n9_; clear n0_ n1_ n2_ n3_ n4_ n5_ n6_ n7_ n8_ n9_; clear hb hbox hg; have hnb18 := NB264_252.out; have hnc18 := NB252_264.out; obtain ⟨hcz19_0, hcz19_1, hcz19_2, hcz19_3, hfz19_0, hfz19_1, hfz19_2, hfz19_3⟩ := cf4_ BK264; obtain ⟨Ao20, co20, eo20⟩ := Kd.R_slice HO262.out; subst eo20))
      (try simp only [Act.put, List.setIfInBounds_toArray, List.set_cons_zero, List.set_cons_succ])
      go_cut [72] (fun v72 wc => ∃ (kq : Nat) (x72_7 : Bool), v72 = .bool x72_7 ∧ Aside0 (laws_FnLogs.j0 kq (Int.tmod (rd t253 0) 16) t263 x72_7 t246 t247 t248 t249 t257 t258 t259 t260 = some r) ∧ Aside0 (kq ≤ k) ∧ Aside0 (Kd.R (Kd.int .i64) 3 wc w.heap.size (fun k_ => some k_ ≠ ((.slice Ao20 t260.length co20) : Value).ownBlock) (.slice Ao12 t249.length co12) t249) ∧ Aside0 (Kd.R (Kd.int .i64) 3 wc w.heap.size (fun k_ => some k_ ≠ ((.slice Ao12 t249.length co12) : Value).ownBlock) (.slice Ao20 t260.length co20) t260) ∧ Aside0 (wc.heap[gb252]? = some (.cells #[.int .i64 t246, .int .i64 t247, .int .i64 t248, (.slice Ao12 t249.length co12)] 29 (0, 0))) ∧ Aside0 (wc.heap[gb264]? = some (.cells #[.int .i64 t257, .int .i64 t258, .int .i64 t259, (.slice Ao20 t260.length co20)] 29 (0, 0))) ∧ Aside0 (Below w.heap.size w wc))
      case first =>
        have H := HC8.out
        clear HC8
        replace H := Option.bind_eq_some_iff.mp H
        obtain ⟨t265, A210, H⟩ := H
        replace H : (if t265 = true then ((impl_LogOk.f k t257 t258 t259 t260).bind fun t266 => (if t266 = true then (if 0 ≤ (Int.tmod (rd t253 0) 16) then (if (Go.bits .and .i64 (shr .i64 t257 (Int.tmod (rd t253 0) 16)) 1) = 1 then (if (Go.bits .or .i64 t257 t246) = t257 then (if t246 = 0 then (laws_FnLogs.j0 k (Int.tmod (rd t253 0) 16) t263 (t259 != (Int.tmod (rd t253 0) 16)) t246 t247 t248 t249 t257 t258 t259 t260) else (if t259 = t248 then (laws_FnLogs.j0 k (Int.tmod (rd t253 0) 16) t263 false t246 t247 t248 t249 t257 t258 t259 t260) else (laws_FnLogs.j0 k (Int.tmod (rd t253 0) 16) t263 true t246 t247 t248 t249 t257 t258 t259 t260))) else (laws_FnLogs.j0 k (Int.tmod (rd t253 0) 16) t263 true t246 t247 t248 t249 t257 t258 t259 t260)) else (laws_FnLogs.j0 k (Int.tmod (rd t253 0) 16) t263 true t246 t247 t248 t249 t257 t258 t259 t260)) else (none)) else (laws_FnLogs.j0 k (Int.tmod (rd t253 0) 16) t263 true t246 t247 t248 t249 t257 t258 t259 t260))) else (laws_FnLogs.j0 k (Int.tmod (rd t253 0) 16) t263 true t246 t247 t248 t249 t257 t258 t259 t260)) = some r := H
        have A21 := Aside0.mk A210
        clear A210
        by_cases c22 : t265 = true
        · subst c22
          have H1 : ((impl_LogOk.f k t257 t258 t259 t260).bind fun t266 => (if t266 = true then (if 0 ≤ (Int.tmod (rd t253 0) 16) then (if (Go.bits .and .i64 (shr .i64 t257 (Int.tmod (rd t253 0) 16)) 1) = 1 then (if (Go.bits .or .i64 t257 t246) = t257 then (if t246 = 0 then (laws_FnLogs.j0 k (Int.tmod (rd t253 0) 16) t263 (t259 != (Int.tmod (rd t253 0) 16)) t246 t247 t248 t249 t257 t258 t259 t260) else (if t259 = t248 then (laws_FnLogs.j0 k (Int.tmod (rd t253 0) 16) t263 false t246 t247 t248 t249 t257 t258 t259 t260) else (laws_FnLogs.j0 k (Int.tmod (rd t253 0) 16) t263 true t246 t247 t248 t249 t257 t258 t259 t260))) else (laws_FnLogs.j0 k (Int.tmod (rd t253 0) 16) t263 true t246 t247 t248 t249 t257 t258 t259 t260)) else (laws_FnLogs.j0 k (Int.tmod (rd t253 0) 16) t263 true t246 t247 t248 t249 t257 t258 t259 t260)) else (none)) else (laws_FnLogs.j0 k (Int.tmod (rd t253 0) 16) t263 true t246 t247 t248 t249 t257 t258 t259 t260))) = some r := by rw [if_pos rfl] at H; exact H
          clear H
          have H := H1
          clear H1
          replace H := Option.bind_eq_some_iff.mp H
          obtain ⟨t266, A230, H⟩ := H
          replace H : (if t266 = true then (if 0 ≤ (Int.tmod (rd t253 0) 16) then (if (Go.bits .and .i64 (shr .i64 t257 (Int.tmod (rd t253 0) 16)) 1) = 1 then (if (Go.bits .or .i64 t257 t246) = t257 then (if t246 = 0 then (laws_FnLogs.j0 k (Int.tmod (rd t253 0) 16) t263 (t259 != (Int.tmod (rd t253 0) 16)) t246 t247 t248 t249 t257 t258 t259 t260) else (if t259 = t248 then (laws_FnLogs.j0 k (Int.tmod (rd t253 0) 16) t263 false t246 t247 t248 t249 t257 t258 t259 t260) else (laws_FnLogs.j0 k (Int.tmod (rd t253 0) 16) t263 true t246 t247 t248 t249 t257 t258 t259 t260))) else (laws_FnLogs.j0 k (Int.tmod (rd t253 0) 16) t263 true t246 t247 t248 t249 t257 t258 t259 t260)) else (laws_FnLogs.j0 k (Int.tmod (rd t253 0) 16) t263 true t246 t247 t248 t249 t257 t258 t259 t260)) else (none)) else (laws_FnLogs.j0 k (Int.tmod (rd t253 0) 16) t263 true t246 t247 t248 t249 t257 t258 t259 t260)) = some r := H
          have A23 := Aside0.mk A230
          clear A230
          by_cases c24 : t266 = true
          · subst c24
            have H1 : (if 0 ≤ (Int.tmod (rd t253 0) 16) then (if (Go.bits .and .i64 (shr .i64 t257 (Int.tmod (rd t253 0) 16)) 1) = 1 then (if (Go.bits .or .i64 t257 t246) = t257 then (if t246 = 0 then (laws_FnLogs.j0 k (Int.tmod (rd t253 0) 16) t263 (t259 != (Int.tmod (rd t253 0) 16)) t246 t247 t248 t249 t257 t258 t259 t260) else (if t259 = t248 then (laws_FnLogs.j0 k (Int.tmod (rd t253 0) 16) t263 false t246 t247 t248 t249 t257 t258 t259 t260) else (laws_FnLogs.j0 k (Int.tmod (rd t253 0) 16) t263 true t246 t247 t248 t249 t257 t258 t259 t260))) else (laws_FnLogs.j0 k (Int.tmod (rd t253 0) 16) t263 true t246 t247 t248 t249 t257 t258 t259 t260)) else (laws_FnLogs.j0 k (Int.tmod (rd t253 0) 16) t263 true t246 t247 t248 t249 t257 t258 t259 t260)) else (none)) = some r := by rw [if_pos rfl] at H; exact H
            clear H
            have H := H1
            clear H1
            obtain ⟨ji25, hji25⟩ : ∃ j_ : Int, (Int.tmod (rd t253 0) 16) = j_ := ⟨_, rfl⟩
            replace H : (if 0 ≤ (ji25) then (if (Go.bits .and .i64 (shr .i64 t257 (ji25)) 1) = 1 then (if (Go.bits .or .i64 t257 t246) = t257 then (if t246 = 0 then (laws_FnLogs.j0 k ji25 t263 (t259 != (ji25)) t246 t247 t248 t249 t257 t258 t259 t260) else (if t259 = t248 then (laws_FnLogs.j0 k ji25 t263 false t246 t247 t248 t249 t257 t258 t259 t260) else (laws_FnLogs.j0 k ji25 t263 true t246 t247 t248 t249 t257 t258 t259 t260))) else (laws_FnLogs.j0 k ji25 t263 true t246 t247 t248 t249 t257 t258 t259 t260)) else (laws_FnLogs.j0 k ji25 t263 true t246 t247 t248 t249 t257 t258 t259 t260)) else (none)) = some r := by first | (rw [hji25] at H; exact H) | (simp only [hji25] at H ⊢; exact H)
            (try rw [hji25] at A21)
            (try rw [hji25] at A23)
            by_cases c26 : 0 ≤ (ji25)
            · rw [if_pos c26] at H
              have c26b0 := eq_true c26
              have c26b1 : decide (0 ≤ (ji25)) = true := decide_eq_true c26
              clear c26
              obtain ⟨ji27, hji27⟩ : ∃ j_ : Int, (shr .i64 t257 (ji25)) = j_ := ⟨_, rfl⟩
              replace H : (if (Go.bits .and .i64 (ji27) 1) = 1 then (if (Go.bits .or .i64 t257 t246) = t257 then (if t246 = 0 then (laws_FnLogs.j0 k ji25 t263 (t259 != (ji25)) t246 t247 t248 t249 t257 t258 t259 t260) else (if t259 = t248 then (laws_FnLogs.j0 k ji25 t263 false t246 t247 t248 t249 t257 t258 t259 t260) else (laws_FnLogs.j0 k ji25 t263 true t246 t247 t248 t249 t257 t258 t259 t260))) else (laws_FnLogs.j0 k ji25 t263 true t246 t247 t248 t249 t257 t258 t259 t260)) else (laws_FnLogs.j0 k ji25 t263 true t246 t247 t248 t249 t257 t258 t259 t260)) = some r := by first | (rw [hji27] at H; exact H) | (simp only [hji27] at H ⊢; exact H)
              (try rw [hji27] at A21)
              (try rw [hji27] at A23)
              have hji27_ : (t257 / 2 ^ min (ji25).toNat 64) = ji27 := hji27
              have hji27z : (ji25) ≤ 64 → (t257 / 2 ^ (ji25).toNat) = ji27 := shr_small hji27
              by_cases c28 : (Go.bits .and .i64 (ji27) 1) = 1
              · rw [if_pos c28] at H
                have c28b0 : ((Go.bits .and .i64 (ji27) 1) == 1) = true := beq_iff_eq.mpr c28
                have c28b1 : ((Go.bits .and .i64 (ji27) 1) != 1) = false := bne_eq_false_iff_eq.mpr c28
                clear c28
                (first | rw [c28b0] | (simp only [i64_w, i32_w]; rw [c28b0]) | skip)
                by_cases c29 : (Go.bits .or .i64 t257 t246) = t257
                · rw [if_pos c29] at H
                  have c29b0 : ((Go.bits .or .i64 t257 t246) == t257) = true := beq_iff_eq.mpr c29
                  have c29b1 : ((Go.bits .or .i64 t257 t246) != t257) = false := bne_eq_false_iff_eq.mpr c29
                  clear c29
                  by_cases c30 : t246 = 0
                  · rw [if_pos c30] at H
                    have c30b0 : (t246 == 0) = true := beq_iff_eq.mpr c30
                    have c30b1 : (t246 != 0) = false := bne_eq_false_iff_eq.mpr c30
                    clear c30
                    have H' := Aside0.mk H
                    clear H
                    have hnb31 := NB252_264.out
                    have hnc31 := NB264_252.out
                    obtain ⟨hcz32_0, hcz32_1, hcz32_2, hcz32_3, hfz32_0, hfz32_1, hfz32_2, hfz32_3⟩ := cf4_ BK252
                    go_wp2_with (first | ((with_reducible refine gate_callee (f := 13) rfl ?_); refine goesL_ (some 25) rfl rfl Try.func13 (by kernel_rfl) rfl #[.agg #[.int .i64 t246, .int .i64 t247, .int .i64 t248, .slice Ao12 t249.length co12]] rfl (by (try simp only [List.map_toArray, List.map_cons, List.map_nil]); first | done | rfl | (simp only [List.length_drop, List.length_take]; rfl)) ?_; (with_reducible refine (impl_LogOk.calls k t246 t247 t248 _ _ t249 true _ ?side1 ?side2 A21.out).mono ?_); (case side1 => refine (Kd.R_reads' (e := 3) (base := w.heap.size) (ok := fun k_ => ((True ∧ some k_ ≠ (.slice (some ad256) t253.length co14 : Value).ownBlock) ∧ some k_ ≠ (.slice Ao20 t260.length co20 : Value).ownBlock)) (n := t249.length) (c := co12) ?_).2.2; exact (by (with_reducible repeat (first | apply ra_ | apply rb_ | apply rc_)); exact (Kd.R_mono (Kd.R_far (p := ⟨gb264, 3, none⟩) (Kd.R_far (p := ⟨gb264, 2, none⟩) (Kd.R_far (p := ⟨gb264, 1, none⟩) (Kd.R_far (p := ⟨gb264, 0, none⟩) (Kd.R_types HO251.out BK264.out (by decide)) (fun _ hk => hk.2) (.int .i64 t257)) (fun _ hk => hk.2) (.int .i64 t258)) (fun _ hk => hk.2) (.int .i64 t259)) (fun _ hk => hk.2) (.slice Ao20 t260.length co20)) (fun _ h_ => h_.1)))); (case side2 => exact (Kd.R_reads' HO251.out).2.1); rintro e w33 ⟨rfl, hb⟩; refine ⟨_, rfl, ?_⟩; have n0_ := Aside0.mk (Kd.R_below (by (with_reducible repeat (first | apply ra_ | apply rb_ | apply rc_)); exact (Kd.R_mono (Kd.R_far (p := ⟨gb264, 3, none⟩) (Kd.R_far (p := ⟨gb264, 2, none⟩) (Kd.R_far (p := ⟨gb264, 1, none⟩) (Kd.R_far (p := ⟨gb264, 0, none⟩) (Kd.R_types HO251.out BK264.out (by decide)) (fun _ hk => hk.2) (.int .i64 t257)) (fun _ hk => hk.2) (.int .i64 t258)) (fun _ hk => hk.2) (.int .i64 t259)) (fun _ hk => hk.2) (.slice Ao20 t260.length co20)) (fun _ h_ => h_.1))) hb); have n1_ := Aside0.mk (Kd.R_below (by (with_reducible repeat (first | apply ra_ | apply rb_ | apply rc_)); exact (Kd.R_mono (Kd.R_far (p := ⟨gb264, 3, none⟩) (Kd.R_far (p := ⟨gb264, 2, none⟩) (Kd.R_far (p := ⟨gb264, 1, none⟩) (Kd.R_far (p := ⟨gb264, 0, none⟩) (Kd.R_types HO255.out BK264.out (by decide)) (fun _ hk => hk.2) (.int .i64 t257)) (fun _ hk => hk.2) (.int .i64 t258)) (fun _ hk => hk.2) (.int .i64 t259)) (fun _ hk => hk.2) (.slice Ao20 t260.length co20)) (fun _ h_ => h_.1))) hb); have n2_ := Aside0.mk (Kd.R_below (by (with_reducible repeat (first | apply ra_ | apply rb_ | apply rc_)); exact (Kd.R_mono (Kd.R_far (p := ⟨gb264, 3, none⟩) (Kd.R_far (p := ⟨gb264, 2, none⟩) (Kd.R_far (p := ⟨gb264, 1, none⟩) (Kd.R_far (p := ⟨gb264, 0, none⟩) (Kd.R_types HO262.out BK264.out (by decide)) (fun _ hk => hk.2) (.int .i64 t257)) (fun _ hk => hk.2) (.int .i64 t258)) (fun _ hk => hk.2) (.int .i64 t259)) (fun _ hk => hk.2) (.slice Ao20 t260.length co20)) (fun _ h_ => h_.1))) hb); have n3_ := Aside0.mk (blk_below (g := gb252) (o := .cells #[.int .i64 t246, .int .i64 t247, .int .i64 t248, .slice Ao12 t249.length co12] 29 (0, 0)) (by (with_reducible repeat (first | refine ba_ ?_ _ | refine bb_ ?_ | refine bc_ ?_ _)); refine blk_far ?_ NB252_264.out _; (with_reducible repeat (first | refine ba_ ?_ _ | refine bb_ ?_ | refine bc_ ?_ _)); refine blk_far ?_ NB252_264.out _; (with_reducible repeat (first | refine ba_ ?_ _ | refine bb_ ?_ | refine bc_ ?_ _)); refine blk_far ?_ NB252_264.out _; (with_reducible repeat (first | refine ba_ ?_ _ | refine bb_ ?_ | refine bc_ ?_ _)); refine blk_far ?_ NB252_264.out _; (with_reducible repeat (first | refine ba_ ?_ _ | refine bb_ ?_ | refine bc_ ?_ _)); exact BK252.out) hb); have n4_ := Aside0.mk (blk_below (g := gb264) (o := .cells #[.int .i64 t257, .int .i64 t258, .int .i64 t259, .slice Ao20 t260.length co20] 29 (0, 0)) (by (with_reducible repeat (first | refine ba_ ?_ _ | refine bb_ ?_ | refine bc_ ?_ _)); refine blk_put (cs := #[.int .i64 t257, .int .i64 t258, .int .i64 t259, .slice none 0 0]) ?_ 3 _ rfl; (with_reducible repeat (first | refine ba_ ?_ _ | refine bb_ ?_ | refine bc_ ?_ _)); refine blk_put (cs := #[.int .i64 t257, .int .i64 t258, .int .i64 0, .slice none 0 0]) ?_ 2 _ rfl; (with_reducible repeat (first | refine ba_ ?_ _ | refine bb_ ?_ | refine bc_ ?_ _)); refine blk_put (cs := #[.int .i64 t257, .int .i64 0, .int .i64 0, .slice none 0 0]) ?_ 1 _ rfl; (with_reducible repeat (first | refine ba_ ?_ _ | refine bb_ ?_ | refine bc_ ?_ _)); refine blk_put (cs := #[.int .i64 0, .int .i64 0, .int .i64 0, .slice none 0 0]) ?_ 0 _ rfl; (with_reducible repeat (first | refine ba_ ?_ _ | refine bb_ ?_ | refine bc_ ?_ _)); exact BK264.out) hb); have n5_ := Aside0.mk (below_step (by repeat (first | (with_reducible first | exact HB.out | apply below_alloc | apply pw_below_drewN | apply below_drew1 | refine below_set ?_ GE252.out | refine below_set ?_ GE264.out) | exact HB.out)) hb); clear HO251; clear HO255; clear HO262; clear BK252; clear BK264; clear HB; have HO251 := n0_; have HO255 := n1_; have HO262 := n2_; have BK252 := n3_; have BK264 := n4_; have HB := n5_; clear n0_ n1_ n2_ n3_ n4_ n5_; (try clear hb); (try clear hb2); (try clear hk); (try clear hi); obtain ⟨hcz34_0, hcz34_1, hcz34_2, hcz34_3, hfz34_0, hfz34_1, hfz34_2, hfz34_3⟩ := cf4_ BK264) | (go_at_call 13; (with_reducible refine (impl_LogOk.calls k t257 t258 t259 _ _ t260 true _ ?side1 ?side2 A23.out).mono ?_); (case side1 => repeat (first | exact (Kd.R_reads' HO262.out).2.2 | (with_reducible refine Kd.C_alloc ?_ _) | (with_reducible refine Kd.C_drewN ?_ _) | (with_reducible refine Kd.C_drew ?_))); (case side2 => exact (Kd.R_reads' HO262.out).2.1); rintro e w35 ⟨rfl, hb⟩; have n0_ := Aside0.mk (Kd.R_below (by (with_reducible repeat (first | apply ra_ | apply rb_ | apply rc_)); exact HO251.out) hb); have n1_ := Aside0.mk (Kd.R_below (by (with_reducible repeat (first | apply ra_ | apply rb_ | apply rc_)); exact HO255.out) hb); have n2_ := Aside0.mk (Kd.R_below (by (with_reducible repeat (first | apply ra_ | apply rb_ | apply rc_)); exact HO262.out) hb); have n3_ := Aside0.mk (blk_below (g := gb252) (o := .cells #[.int .i64 t246, .int .i64 t247, .int .i64 t248, .slice Ao12 t249.length co12] 29 (0, 0)) (bu_ BK252) hb); have n4_ := Aside0.mk (blk_below (g := gb264) (o := .cells #[.int .i64 t257, .int .i64 t258, .int .i64 t259, .slice Ao20 t260.length co20] 29 (0, 0)) (bu_ BK264) hb); have n5_ := Aside0.mk (below_step (by repeat (first | (with_reducible first | exact HB.out | apply below_alloc | apply pw_below_drewN | apply below_drew1 | refine below_set ?_ GE252.out | refine below_set ?_ GE264.out) | exact HB.out)) hb); clear HO251; clear HO255; clear HO262; clear BK252; clear BK264; clear HB; have HO251 := n0_; have HO255 := n1_; have HO262 := n2_; have BK252 := n3_; have BK264 := n4_; have HB := n5_; clear n0_ n1_ n2_ n3_ n4_ n5_; (try clear hb); (try clear hb2); (try clear hk); (try clear hi); obtain ⟨hcz36_0, hcz36_1, hcz36_2, hcz36_3, hfz36_0, hfz36_1, hfz36_2, hfz36_3⟩ := cf4_ BK264; obtain ⟨hcz37_0, hcz37_1, hcz37_2, hcz37_3, hfz37_0, hfz37_1, hfz37_2, hfz37_3⟩ := cf4_ BK252))
                    subst hji25
                    go_meet
                    case rel => exact ⟨_, ((t259 != (Int.tmod (rd t253 0) 16))), (by first | rfl | (simp; done) | (simp only [← hji25] <;> (first | rfl | simp)) | (simp [*]; done)), H', ⟨by first | omega | exact Nat.le_refl _⟩, ⟨by (with_reducible repeat (first | apply ra_ | apply rb_ | apply rc_)); exact Kd.R_mono HO251.out (fun _ hk => hk.2)⟩, ⟨by (with_reducible repeat (first | apply ra_ | apply rb_ | apply rc_)); exact Kd.R_mono HO262.out (fun _ hk => hk.1.2)⟩, ⟨bu_ BK252⟩, ⟨bu_ BK264⟩, ⟨by repeat (first | (with_reducible first | exact HB.out | apply below_alloc | apply pw_below_drewN | apply below_drew1 | refine below_set ?_ GE252.out | refine below_set ?_ GE264.out) | exact HB.out)⟩⟩
                  · rw [if_neg c30] at H
                    have c30b0 : (t246 == 0) = false := beq_eq_false_iff_ne.mpr c30
                    have c30b1 : (t246 != 0) = true := bne_iff_ne.mpr c30
                    by_cases c38 : t259 = t248
                    · rw [if_pos c38] at H
                      have c38b0 : (t259 == t248) = true := beq_iff_eq.mpr c38
                      have c38b1 : (t259 != t248) = false := bne_eq_false_iff_eq.mpr c38
                      clear c38
                      have H' := Aside0.mk H
                      clear H
                      have hnb39 := NB252_264.out
                      have hnc39 := NB264_252.out
                      obtain ⟨hcz40_0, hcz40_1, hcz40_2, hcz40_3, hfz40_0, hfz40_1, hfz40_2, hfz40_3⟩ := cf4_ BK252
                      go_wp2_with (first | ((with_reducible refine gate_callee (f := 13) rfl ?_); refine goesL_ (some 25) rfl rfl Try.func13 (by kernel_rfl) rfl #[.agg #[.int .i64 t246, .int .i64 t247, .int .i64 t248, .slice Ao12 t249.length co12]] rfl (by (try simp only [List.map_toArray, List.map_cons, List.map_nil]); first | done | rfl | (simp only [List.length_drop, List.length_take]; rfl)) ?_; (with_reducible refine (impl_LogOk.calls k t246 t247 t248 _ _ t249 true _ ?side1 ?side2 A21.out).mono ?_); (case side1 => refine (Kd.R_reads' (e := 3) (base := w.heap.size) (ok := fun k_ => ((True ∧ some k_ ≠ (.slice (some ad256) t253.length co14 : Value).ownBlock) ∧ some k_ ≠ (.slice Ao20 t260.length co20 : Value).ownBlock)) (n := t249.length) (c := co12) ?_).2.2; exact (by (with_reducible repeat (first | apply ra_ | apply rb_ | apply rc_)); exact (Kd.R_mono (Kd.R_far (p := ⟨gb264, 3, none⟩) (Kd.R_far (p := ⟨gb264, 2, none⟩) (Kd.R_far (p := ⟨gb264, 1, none⟩) (Kd.R_far (p := ⟨gb264, 0, none⟩) (Kd.R_types HO251.out BK264.out (by decide)) (fun _ hk => hk.2) (.int .i64 t257)) (fun _ hk => hk.2) (.int .i64 t258)) (fun _ hk => hk.2) (.int .i64 t259)) (fun _ hk => hk.2) (.slice Ao20 t260.length co20)) (fun _ h_ => h_.1)))); (case side2 => exact (Kd.R_reads' HO251.out).2.1); rintro e w41 ⟨rfl, hb⟩; refine ⟨_, rfl, ?_⟩; have n0_ := Aside0.mk (Kd.R_below (by (with_reducible repeat (first | apply ra_ | apply rb_ | apply rc_)); exact (Kd.R_mono (Kd.R_far (p := ⟨gb264, 3, none⟩) (Kd.R_far (p := ⟨gb264, 2, none⟩) (Kd.R_far (p := ⟨gb264, 1, none⟩) (Kd.R_far (p := ⟨gb264, 0, none⟩) (Kd.R_types HO251.out BK264.out (by decide)) (fun _ hk => hk.2) (.int .i64 t257)) (fun _ hk => hk.2) (.int .i64 t258)) (fun _ hk => hk.2) (.int .i64 t259)) (fun _ hk => hk.2) (.slice Ao20 t260.length co20)) (fun _ h_ => h_.1))) hb); have n1_ := Aside0.mk (Kd.R_below (by (with_reducible repeat (first | apply ra_ | apply rb_ | apply rc_)); exact (Kd.R_mono (Kd.R_far (p := ⟨gb264, 3, none⟩) (Kd.R_far (p := ⟨gb264, 2, none⟩) (Kd.R_far (p := ⟨gb264, 1, none⟩) (Kd.R_far (p := ⟨gb264, 0, none⟩) (Kd.R_types HO255.out BK264.out (by decide)) (fun _ hk => hk.2) (.int .i64 t257)) (fun _ hk => hk.2) (.int .i64 t258)) (fun _ hk => hk.2) (.int .i64 t259)) (fun _ hk => hk.2) (.slice Ao20 t260.length co20)) (fun _ h_ => h_.1))) hb); have n2_ := Aside0.mk (Kd.R_below (by (with_reducible repeat (first | apply ra_ | apply rb_ | apply rc_)); exact (Kd.R_mono (Kd.R_far (p := ⟨gb264, 3, none⟩) (Kd.R_far (p := ⟨gb264, 2, none⟩) (Kd.R_far (p := ⟨gb264, 1, none⟩) (Kd.R_far (p := ⟨gb264, 0, none⟩) (Kd.R_types HO262.out BK264.out (by decide)) (fun _ hk => hk.2) (.int .i64 t257)) (fun _ hk => hk.2) (.int .i64 t258)) (fun _ hk => hk.2) (.int .i64 t259)) (fun _ hk => hk.2) (.slice Ao20 t260.length co20)) (fun _ h_ => h_.1))) hb); have n3_ := Aside0.mk (blk_below (g := gb252) (o := .cells #[.int .i64 t246, .int .i64 t247, .int .i64 t248, .slice Ao12 t249.length co12] 29 (0, 0)) (by (with_reducible repeat (first | refine ba_ ?_ _ | refine bb_ ?_ | refine bc_ ?_ _)); refine blk_far ?_ NB252_264.out _; (with_reducible repeat (first | refine ba_ ?_ _ | refine bb_ ?_ | refine bc_ ?_ _)); refine blk_far ?_ NB252_264.out _; (with_reducible repeat (first | refine ba_ ?_ _ | refine bb_ ?_ | refine bc_ ?_ _)); refine blk_far ?_ NB252_264.out _; (with_reducible repeat (first | refine ba_ ?_ _ | refine bb_ ?_ | refine bc_ ?_ _)); refine blk_far ?_ NB252_264.out _; (with_reducible repeat (first | refine ba_ ?_ _ | refine bb_ ?_ | refine bc_ ?_ _)); exact BK252.out) hb); have n4_ := Aside0.mk (blk_below (g := gb264) (o := .cells #[.int .i64 t257, .int .i64 t258, .int .i64 t259, .slice Ao20 t260.length co20] 29 (0, 0)) (by (with_reducible repeat (first | refine ba_ ?_ _ | refine bb_ ?_ | refine bc_ ?_ _)); refine blk_put (cs := #[.int .i64 t257, .int .i64 t258, .int .i64 t259, .slice none 0 0]) ?_ 3 _ rfl; (with_reducible repeat (first | refine ba_ ?_ _ | refine bb_ ?_ | refine bc_ ?_ _)); refine blk_put (cs := #[.int .i64 t257, .int .i64 t258, .int .i64 0, .slice none 0 0]) ?_ 2 _ rfl; (with_reducible repeat (first | refine ba_ ?_ _ | refine bb_ ?_ | refine bc_ ?_ _)); refine blk_put (cs := #[.int .i64 t257, .int .i64 0, .int .i64 0, .slice none 0 0]) ?_ 1 _ rfl; (with_reducible repeat (first | refine ba_ ?_ _ | refine bb_ ?_ | refine bc_ ?_ _)); refine blk_put (cs := #[.int .i64 0, .int .i64 0, .int .i64 0, .slice none 0 0]) ?_ 0 _ rfl; (with_reducible repeat (first | refine ba_ ?_ _ | refine bb_ ?_ | refine bc_ ?_ _)); exact BK264.out) hb); have n5_ := Aside0.mk (below_step (by repeat (first | (with_reducible first | exact HB.out | apply below_alloc | apply pw_below_drewN | apply below_drew1 | refine below_set ?_ GE252.out | refine below_set ?_ GE264.out) | exact HB.out)) hb); clear HO251; clear HO255; clear HO262; clear BK252; clear BK264; clear HB; have HO251 := n0_; have HO255 := n1_; have HO262 := n2_; have BK252 := n3_; have BK264 := n4_; have HB := n5_; clear n0_ n1_ n2_ n3_ n4_ n5_; (try clear hb); (try clear hb2); (try clear hk); (try clear hi); obtain ⟨hcz42_0, hcz42_1, hcz42_2, hcz42_3, hfz42_0, hfz42_1, hfz42_2, hfz42_3⟩ := cf4_ BK264) | (go_at_call 13; (with_reducible refine (impl_LogOk.calls k t257 t258 t259 _ _ t260 true _ ?side1 ?side2 A23.out).mono ?_); (case side1 => repeat (first | exact (Kd.R_reads' HO262.out).2.2 | (with_reducible refine Kd.C_alloc ?_ _) | (with_reducible refine Kd.C_drewN ?_ _) | (with_reducible refine Kd.C_drew ?_))); (case side2 => exact (Kd.R_reads' HO262.out).2.1); rintro e w43 ⟨rfl, hb⟩; have n0_ := Aside0.mk (Kd.R_below (by (with_reducible repeat (first | apply ra_ | apply rb_ | apply rc_)); exact HO251.out) hb); have n1_ := Aside0.mk (Kd.R_below (by (with_reducible repeat (first | apply ra_ | apply rb_ | apply rc_)); exact HO255.out) hb); have n2_ := Aside0.mk (Kd.R_below (by (with_reducible repeat (first | apply ra_ | apply rb_ | apply rc_)); exact HO262.out) hb); have n3_ := Aside0.mk (blk_below (g := gb252) (o := .cells #[.int .i64 t246, .int .i64 t247, .int .i64 t248, .slice Ao12 t249.length co12] 29 (0, 0)) (bu_ BK252) hb); have n4_ := Aside0.mk (blk_below (g := gb264) (o := .cells #[.int .i64 t257, .int .i64 t258, .int .i64 t259, .slice Ao20 t260.length co20] 29 (0, 0)) (bu_ BK264) hb); have n5_ := Aside0.mk (below_step (by repeat (first | (with_reducible first | exact HB.out | apply below_alloc | apply pw_below_drewN | apply below_drew1 | refine below_set ?_ GE252.out | refine below_set ?_ GE264.out) | exact HB.out)) hb); clear HO251; clear HO255; clear HO262; clear BK252; clear BK264; clear HB; have HO251 := n0_; have HO255 := n1_; have HO262 := n2_; have BK252 := n3_; have BK264 := n4_; have HB := n5_; clear n0_ n1_ n2_ n3_ n4_ n5_; (try clear hb); (try clear hb2); (try clear hk); (try clear hi); obtain ⟨hcz44_0, hcz44_1, hcz44_2, hcz44_3, hfz44_0, hfz44_1, hfz44_2, hfz44_3⟩ := cf4_ BK264; obtain ⟨hcz45_0, hcz45_1, hcz45_2, hcz45_3, hfz45_0, hfz45_1, hfz45_2, hfz45_3⟩ := cf4_ BK252))
                      subst hji25
                      go_meet
                      case rel => exact ⟨_, (false), (by first | rfl | (simp; done) | (simp [*]; done)), H', ⟨by first | omega | exact Nat.le_refl _⟩, ⟨by (with_reducible repeat (first | apply ra_ | apply rb_ | apply rc_)); exact Kd.R_mono HO251.out (fun _ hk => hk.2)⟩, ⟨by (with_reducible repeat (first | apply ra_ | apply rb_ | apply rc_)); exact Kd.R_mono HO262.out (fun _ hk => hk.1.2)⟩, ⟨bu_ BK252⟩, ⟨bu_ BK264⟩, ⟨by repeat (first | (with_reducible first | exact HB.out | apply below_alloc | apply pw_below_drewN | apply below_drew1 | refine below_set ?_ GE252.out | refine below_set ?_ GE264.out) | exact HB.out)⟩⟩
                    · rw [if_neg c38] at H
                      have c38b0 : (t259 == t248) = false := beq_eq_false_iff_ne.mpr c38
                      have c38b1 : (t259 != t248) = true := bne_iff_ne.mpr c38
                      have H' := Aside0.mk H
                      clear H
                      have hnb46 := NB252_264.out
                      have hnc46 := NB264_252.out
                      obtain ⟨hcz47_0, hcz47_1, hcz47_2, hcz47_3, hfz47_0, hfz47_1, hfz47_2, hfz47_3⟩ := cf4_ BK252
                      go_wp2_with (first | ((with_reducible refine gate_callee (f := 13) rfl ?_); refine goesL_ (some 25) rfl rfl Try.func13 (by kernel_rfl) rfl #[.agg #[.int .i64 t246, .int .i64 t247, .int .i64 t248, .slice Ao12 t249.length co12]] rfl (by (try simp only [List.map_toArray, List.map_cons, List.map_nil]); first | done | rfl | (simp only [List.length_drop, List.length_take]; rfl)) ?_; (with_reducible refine (impl_LogOk.calls k t246 t247 t248 _ _ t249 true _ ?side1 ?side2 A21.out).mono ?_); (case side1 => refine (Kd.R_reads' (e := 3) (base := w.heap.size) (ok := fun k_ => ((True ∧ some k_ ≠ (.slice (some ad256) t253.length co14 : Value).ownBlock) ∧ some k_ ≠ (.slice Ao20 t260.length co20 : Value).ownBlock)) (n := t249.length) (c := co12) ?_).2.2; exact (by (with_reducible repeat (first | apply ra_ | apply rb_ | apply rc_)); exact (Kd.R_mono (Kd.R_far (p := ⟨gb264, 3, none⟩) (Kd.R_far (p := ⟨gb264, 2, none⟩) (Kd.R_far (p := ⟨gb264, 1, none⟩) (Kd.R_far (p := ⟨gb264, 0, none⟩) (Kd.R_types HO251.out BK264.out (by decide)) (fun _ hk => hk.2) (.int .i64 t257)) (fun _ hk => hk.2) (.int .i64 t258)) (fun _ hk => hk.2) (.int .i64 t259)) (fun _ hk => hk.2) (.slice Ao20 t260.length co20)) (fun _ h_ => h_.1)))); (case side2 => exact (Kd.R_reads' HO251.out).2.1); rintro e w48 ⟨rfl, hb⟩; refine ⟨_, rfl, ?_⟩; have n0_ := Aside0.mk (Kd.R_below (by (with_reducible repeat (first | apply ra_ | apply rb_ | apply rc_)); exact (Kd.R_mono (Kd.R_far (p := ⟨gb264, 3, none⟩) (Kd.R_far (p := ⟨gb264, 2, none⟩) (Kd.R_far (p := ⟨gb264, 1, none⟩) (Kd.R_far (p := ⟨gb264, 0, none⟩) (Kd.R_types HO251.out BK264.out (by decide)) (fun _ hk => hk.2) (.int .i64 t257)) (fun _ hk => hk.2) (.int .i64 t258)) (fun _ hk => hk.2) (.int .i64 t259)) (fun _ hk => hk.2) (.slice Ao20 t260.length co20)) (fun _ h_ => h_.1))) hb); have n1_ := Aside0.mk (Kd.R_below (by (with_reducible repeat (first | apply ra_ | apply rb_ | apply rc_)); exact (Kd.R_mono (Kd.R_far (p := ⟨gb264, 3, none⟩) (Kd.R_far (p := ⟨gb264, 2, none⟩) (Kd.R_far (p := ⟨gb264, 1, none⟩) (Kd.R_far (p := ⟨gb264, 0, none⟩) (Kd.R_types HO255.out BK264.out (by decide)) (fun _ hk => hk.2) (.int .i64 t257)) (fun _ hk => hk.2) (.int .i64 t258)) (fun _ hk => hk.2) (.int .i64 t259)) (fun _ hk => hk.2) (.slice Ao20 t260.length co20)) (fun _ h_ => h_.1))) hb); have n2_ := Aside0.mk (Kd.R_below (by (with_reducible repeat (first | apply ra_ | apply rb_ | apply rc_)); exact (Kd.R_mono (Kd.R_far (p := ⟨gb264, 3, none⟩) (Kd.R_far (p := ⟨gb264, 2, none⟩) (Kd.R_far (p := ⟨gb264, 1, none⟩) (Kd.R_far (p := ⟨gb264, 0, none⟩) (Kd.R_types HO262.out BK264.out (by decide)) (fun _ hk => hk.2) (.int .i64 t257)) (fun _ hk => hk.2) (.int .i64 t258)) (fun _ hk => hk.2) (.int .i64 t259)) (fun _ hk => hk.2) (.slice Ao20 t260.length co20)) (fun _ h_ => h_.1))) hb); have n3_ := Aside0.mk (blk_below (g := gb252) (o := .cells #[.int .i64 t246, .int .i64 t247, .int .i64 t248, .slice Ao12 t249.length co12] 29 (0, 0)) (by (with_reducible repeat (first | refine ba_ ?_ _ | refine bb_ ?_ | refine bc_ ?_ _)); refine blk_far ?_ NB252_264.out _; (with_reducible repeat (first | refine ba_ ?_ _ | refine bb_ ?_ | refine bc_ ?_ _)); refine blk_far ?_ NB252_264.out _; (with_reducible repeat (first | refine ba_ ?_ _ | refine bb_ ?_ | refine bc_ ?_ _)); refine blk_far ?_ NB252_264.out _; (with_reducible repeat (first | refine ba_ ?_ _ | refine bb_ ?_ | refine bc_ ?_ _)); refine blk_far ?_ NB252_264.out _; (with_reducible repeat (first | refine ba_ ?_ _ | refine bb_ ?_ | refine bc_ ?_ _)); exact BK252.out) hb); have n4_ := Aside0.mk (blk_below (g := gb264) (o := .cells #[.int .i64 t257, .int .i64 t258, .int .i64 t259, .slice Ao20 t260.length co20] 29 (0, 0)) (by (with_reducible repeat (first | refine ba_ ?_ _ | refine bb_ ?_ | refine bc_ ?_ _)); refine blk_put (cs := #[.int .i64 t257, .int .i64 t258, .int .i64 t259, .slice none 0 0]) ?_ 3 _ rfl; (with_reducible repeat (first | refine ba_ ?_ _ | refine bb_ ?_ | refine bc_ ?_ _)); refine blk_put (cs := #[.int .i64 t257, .int .i64 t258, .int .i64 0, .slice none 0 0]) ?_ 2 _ rfl; (with_reducible repeat (first | refine ba_ ?_ _ | refine bb_ ?_ | refine bc_ ?_ _)); refine blk_put (cs := #[.int .i64 t257, .int .i64 0, .int .i64 0, .slice none 0 0]) ?_ 1 _ rfl; (with_reducible repeat (first | refine ba_ ?_ _ | refine bb_ ?_ | refine bc_ ?_ _)); refine blk_put (cs := #[.int .i64 0, .int .i64 0, .int .i64 0, .slice none 0 0]) ?_ 0 _ rfl; (with_reducible repeat (first | refine ba_ ?_ _ | refine bb_ ?_ | refine bc_ ?_ _)); exact BK264.out) hb); have n5_ := Aside0.mk (below_step (by repeat (first | (with_reducible first | exact HB.out | apply below_alloc | apply pw_below_drewN | apply below_drew1 | refine below_set ?_ GE252.out | refine below_set ?_ GE264.out) | exact HB.out)) hb); clear HO251; clear HO255; clear HO262; clear BK252; clear BK264; clear HB; have HO251 := n0_; have HO255 := n1_; have HO262 := n2_; have BK252 := n3_; have BK264 := n4_; have HB := n5_; clear n0_ n1_ n2_ n3_ n4_ n5_; (try clear hb); (try clear hb2); (try clear hk); (try clear hi); obtain ⟨hcz49_0, hcz49_1, hcz49_2, hcz49_3, hfz49_0, hfz49_1, hfz49_2, hfz49_3⟩ := cf4_ BK264) | (go_at_call 13; (with_reducible refine (impl_LogOk.calls k t257 t258 t259 _ _ t260 true _ ?side1 ?side2 A23.out).mono ?_); (case side1 => repeat (first | exact (Kd.R_reads' HO262.out).2.2 | (with_reducible refine Kd.C_alloc ?_ _) | (with_reducible refine Kd.C_drewN ?_ _) | (with_reducible refine Kd.C_drew ?_))); (case side2 => exact (Kd.R_reads' HO262.out).2.1); rintro e w50 ⟨rfl, hb⟩; have n0_ := Aside0.mk (Kd.R_below (by (with_reducible repeat (first | apply ra_ | apply rb_ | apply rc_)); exact HO251.out) hb); have n1_ := Aside0.mk (Kd.R_below (by (with_reducible repeat (first | apply ra_ | apply rb_ | apply rc_)); exact HO255.out) hb); have n2_ := Aside0.mk (Kd.R_below (by (with_reducible repeat (first | apply ra_ | apply rb_ | apply rc_)); exact HO262.out) hb); have n3_ := Aside0.mk (blk_below (g := gb252) (o := .cells #[.int .i64 t246, .int .i64 t247, .int .i64 t248, .slice Ao12 t249.length co12] 29 (0, 0)) (bu_ BK252) hb); have n4_ := Aside0.mk (blk_below (g := gb264) (o := .cells #[.int .i64 t257, .int .i64 t258, .int .i64 t259, .slice Ao20 t260.length co20] 29 (0, 0)) (bu_ BK264) hb); have n5_ := Aside0.mk (below_step (by repeat (first | (with_reducible first | exact HB.out | apply below_alloc | apply pw_below_drewN | apply below_drew1 | refine below_set ?_ GE252.out | refine below_set ?_ GE264.out) | exact HB.out)) hb); clear HO251; clear HO255; clear HO262; clear BK252; clear BK264; clear HB; have HO251 := n0_; have HO255 := n1_; have HO262 := n2_; have BK252 := n3_; have BK264 := n4_; have HB := n5_; clear n0_ n1_ n2_ n3_ n4_ n5_; (try clear hb); (try clear hb2); (try clear hk); (try clear hi); obtain ⟨hcz51_0, hcz51_1, hcz51_2, hcz51_3, hfz51_0, hfz51_1, hfz51_2, hfz51_3⟩ := cf4_ BK264; obtain ⟨hcz52_0, hcz52_1, hcz52_2, hcz52_3, hfz52_0, hfz52_1, hfz52_2, hfz52_3⟩ := cf4_ BK252))
                      subst hji25
                      go_meet
                      case rel => exact ⟨_, (true), (by first | rfl | (simp; done) | (simp [*]; done)), H', ⟨by first | omega | exact Nat.le_refl _⟩, ⟨by (with_reducible repeat (first | apply ra_ | apply rb_ | apply rc_)); exact Kd.R_mono HO251.out (fun _ hk => hk.2)⟩, ⟨by (with_reducible repeat (first | apply ra_ | apply rb_ | apply rc_)); exact Kd.R_mono HO262.out (fun _ hk => hk.1.2)⟩, ⟨bu_ BK252⟩, ⟨bu_ BK264⟩, ⟨by repeat (first | (with_reducible first | exact HB.out | apply below_alloc | apply pw_below_drewN | apply below_drew1 | refine below_set ?_ GE252.out | refine below_set ?_ GE264.out) | exact HB.out)⟩⟩
                · rw [if_neg c29] at H
                  have c29b0 : ((Go.bits .or .i64 t257 t246) == t257) = false := beq_eq_false_iff_ne.mpr c29
                  have c29b1 : ((Go.bits .or .i64 t257 t246) != t257) = true := bne_iff_ne.mpr c29
                  have H' := Aside0.mk H
                  clear H
                  have hnb53 := NB252_264.out
                  have hnc53 := NB264_252.out
                  obtain ⟨hcz54_0, hcz54_1, hcz54_2, hcz54_3, hfz54_0, hfz54_1, hfz54_2, hfz54_3⟩ := cf4_ BK252
                  go_wp2_with (first | ((with_reducible refine gate_callee (f := 13) rfl ?_); refine goesL_ (some 25) rfl rfl Try.func13 (by kernel_rfl) rfl #[.agg #[.int .i64 t246, .int .i64 t247, .int .i64 t248, .slice Ao12 t249.length co12]] rfl (by (try simp only [List.map_toArray, List.map_cons, List.map_nil]); first | done | rfl | (simp only [List.length_drop, List.length_take]; rfl)) ?_; (with_reducible refine (impl_LogOk.calls k t246 t247 t248 _ _ t249 true _ ?side1 ?side2 A21.out).mono ?_); (case side1 => refine (Kd.R_reads' (e := 3) (base := w.heap.size) (ok := fun k_ => ((True ∧ some k_ ≠ (.slice (some ad256) t253.length co14 : Value).ownBlock) ∧ some k_ ≠ (.slice Ao20 t260.length co20 : Value).ownBlock)) (n := t249.length) (c := co12) ?_).2.2; exact (by (with_reducible repeat (first | apply ra_ | apply rb_ | apply rc_)); exact (Kd.R_mono (Kd.R_far (p := ⟨gb264, 3, none⟩) (Kd.R_far (p := ⟨gb264, 2, none⟩) (Kd.R_far (p := ⟨gb264, 1, none⟩) (Kd.R_far (p := ⟨gb264, 0, none⟩) (Kd.R_types HO251.out BK264.out (by decide)) (fun _ hk => hk.2) (.int .i64 t257)) (fun _ hk => hk.2) (.int .i64 t258)) (fun _ hk => hk.2) (.int .i64 t259)) (fun _ hk => hk.2) (.slice Ao20 t260.length co20)) (fun _ h_ => h_.1)))); (case side2 => exact (Kd.R_reads' HO251.out).2.1); rintro e w55 ⟨rfl, hb⟩; refine ⟨_, rfl, ?_⟩; have n0_ := Aside0.mk (Kd.R_below (by (with_reducible repeat (first | apply ra_ | apply rb_ | apply rc_)); exact (Kd.R_mono (Kd.R_far (p := ⟨gb264, 3, none⟩) (Kd.R_far (p := ⟨gb264, 2, none⟩) (Kd.R_far (p := ⟨gb264, 1, none⟩) (Kd.R_far (p := ⟨gb264, 0, none⟩) (Kd.R_types HO251.out BK264.out (by decide)) (fun _ hk => hk.2) (.int .i64 t257)) (fun _ hk => hk.2) (.int .i64 t258)) (fun _ hk => hk.2) (.int .i64 t259)) (fun _ hk => hk.2) (.slice Ao20 t260.length co20)) (fun _ h_ => h_.1))) hb); have n1_ := Aside0.mk (Kd.R_below (by (with_reducible repeat (first | apply ra_ | apply rb_ | apply rc_)); exact (Kd.R_mono (Kd.R_far (p := ⟨gb264, 3, none⟩) (Kd.R_far (p := ⟨gb264, 2, none⟩) (Kd.R_far (p := ⟨gb264, 1, none⟩) (Kd.R_far (p := ⟨gb264, 0, none⟩) (Kd.R_types HO255.out BK264.out (by decide)) (fun _ hk => hk.2) (.int .i64 t257)) (fun _ hk => hk.2) (.int .i64 t258)) (fun _ hk => hk.2) (.int .i64 t259)) (fun _ hk => hk.2) (.slice Ao20 t260.length co20)) (fun _ h_ => h_.1))) hb); have n2_ := Aside0.mk (Kd.R_below (by (with_reducible repeat (first | apply ra_ | apply rb_ | apply rc_)); exact (Kd.R_mono (Kd.R_far (p := ⟨gb264, 3, none⟩) (Kd.R_far (p := ⟨gb264, 2, none⟩) (Kd.R_far (p := ⟨gb264, 1, none⟩) (Kd.R_far (p := ⟨gb264, 0, none⟩) (Kd.R_types HO262.out BK264.out (by decide)) (fun _ hk => hk.2) (.int .i64 t257)) (fun _ hk => hk.2) (.int .i64 t258)) (fun _ hk => hk.2) (.int .i64 t259)) (fun _ hk => hk.2) (.slice Ao20 t260.length co20)) (fun _ h_ => h_.1))) hb); have n3_ := Aside0.mk (blk_below (g := gb252) (o := .cells #[.int .i64 t246, .int .i64 t247, .int .i64 t248, .slice Ao12 t249.length co12] 29 (0, 0)) (by (with_reducible repeat (first | refine ba_ ?_ _ | refine bb_ ?_ | refine bc_ ?_ _)); refine blk_far ?_ NB252_264.out _; (with_reducible repeat (first | refine ba_ ?_ _ | refine bb_ ?_ | refine bc_ ?_ _)); refine blk_far ?_ NB252_264.out _; (with_reducible repeat (first | refine ba_ ?_ _ | refine bb_ ?_ | refine bc_ ?_ _)); refine blk_far ?_ NB252_264.out _; (with_reducible repeat (first | refine ba_ ?_ _ | refine bb_ ?_ | refine bc_ ?_ _)); refine blk_far ?_ NB252_264.out _; (with_reducible repeat (first | refine ba_ ?_ _ | refine bb_ ?_ | refine bc_ ?_ _)); exact BK252.out) hb); have n4_ := Aside0.mk (blk_below (g := gb264) (o := .cells #[.int .i64 t257, .int .i64 t258, .int .i64 t259, .slice Ao20 t260.length co20] 29 (0, 0)) (by (with_reducible repeat (first | refine ba_ ?_ _ | refine bb_ ?_ | refine bc_ ?_ _)); refine blk_put (cs := #[.int .i64 t257, .int .i64 t258, .int .i64 t259, .slice none 0 0]) ?_ 3 _ rfl; (with_reducible repeat (first | refine ba_ ?_ _ | refine bb_ ?_ | refine bc_ ?_ _)); refine blk_put (cs := #[.int .i64 t257, .int .i64 t258, .int .i64 0, .slice none 0 0]) ?_ 2 _ rfl; (with_reducible repeat (first | refine ba_ ?_ _ | refine bb_ ?_ | refine bc_ ?_ _)); refine blk_put (cs := #[.int .i64 t257, .int .i64 0, .int .i64 0, .slice none 0 0]) ?_ 1 _ rfl; (with_reducible repeat (first | refine ba_ ?_ _ | refine bb_ ?_ | refine bc_ ?_ _)); refine blk_put (cs := #[.int .i64 0, .int .i64 0, .int .i64 0, .slice none 0 0]) ?_ 0 _ rfl; (with_reducible repeat (first | refine ba_ ?_ _ | refine bb_ ?_ | refine bc_ ?_ _)); exact BK264.out) hb); have n5_ := Aside0.mk (below_step (by repeat (first | (with_reducible first | exact HB.out | apply below_alloc | apply pw_below_drewN | apply below_drew1 | refine below_set ?_ GE252.out | refine below_set ?_ GE264.out) | exact HB.out)) hb); clear HO251; clear HO255; clear HO262; clear BK252; clear BK264; clear HB; have HO251 := n0_; have HO255 := n1_; have HO262 := n2_; have BK252 := n3_; have BK264 := n4_; have HB := n5_; clear n0_ n1_ n2_ n3_ n4_ n5_; (try clear hb); (try clear hb2); (try clear hk); (try clear hi); obtain ⟨hcz56_0, hcz56_1, hcz56_2, hcz56_3, hfz56_0, hfz56_1, hfz56_2, hfz56_3⟩ := cf4_ BK264) | (go_at_call 13; (with_reducible refine (impl_LogOk.calls k t257 t258 t259 _ _ t260 true _ ?side1 ?side2 A23.out).mono ?_); (case side1 => repeat (first | exact (Kd.R_reads' HO262.out).2.2 | (with_reducible refine Kd.C_alloc ?_ _) | (with_reducible refine Kd.C_drewN ?_ _) | (with_reducible refine Kd.C_drew ?_))); (case side2 => exact (Kd.R_reads' HO262.out).2.1); rintro e w57 ⟨rfl, hb⟩; have n0_ := Aside0.mk (Kd.R_below (by (with_reducible repeat (first | apply ra_ | apply rb_ | apply rc_)); exact HO251.out) hb); have n1_ := Aside0.mk (Kd.R_below (by (with_reducible repeat (first | apply ra_ | apply rb_ | apply rc_)); exact HO255.out) hb); have n2_ := Aside0.mk (Kd.R_below (by (with_reducible repeat (first | apply ra_ | apply rb_ | apply rc_)); exact HO262.out) hb); have n3_ := Aside0.mk (blk_below (g := gb252) (o := .cells #[.int .i64 t246, .int .i64 t247, .int .i64 t248, .slice Ao12 t249.length co12] 29 (0, 0)) (bu_ BK252) hb); have n4_ := Aside0.mk (blk_below (g := gb264) (o := .cells #[.int .i64 t257, .int .i64 t258, .int .i64 t259, .slice Ao20 t260.length co20] 29 (0, 0)) (bu_ BK264) hb); have n5_ := Aside0.mk (below_step (by repeat (first | (with_reducible first | exact HB.out | apply below_alloc | apply pw_below_drewN | apply below_drew1 | refine below_set ?_ GE252.out | refine below_set ?_ GE264.out) | exact HB.out)) hb); clear HO251; clear HO255; clear HO262; clear BK252; clear BK264; clear HB; have HO251 := n0_; have HO255 := n1_; have HO262 := n2_; have BK252 := n3_; have BK264 := n4_; have HB := n5_; clear n0_ n1_ n2_ n3_ n4_ n5_; (try clear hb); (try clear hb2); (try clear hk); (try clear hi); obtain ⟨hcz58_0, hcz58_1, hcz58_2, hcz58_3, hfz58_0, hfz58_1, hfz58_2, hfz58_3⟩ := cf4_ BK264; obtain ⟨hcz59_0, hcz59_1, hcz59_2, hcz59_3, hfz59_0, hfz59_1, hfz59_2, hfz59_3⟩ := cf4_ BK252))
                  subst hji25
                  go_meet
                  case rel => exact ⟨_, (true), (by first | rfl | (simp; done) | (simp [*]; done)), H', ⟨by first | omega | exact Nat.le_refl _⟩, ⟨by (with_reducible repeat (first | apply ra_ | apply rb_ | apply rc_)); exact Kd.R_mono HO251.out (fun _ hk => hk.2)⟩, ⟨by (with_reducible repeat (first | apply ra_ | apply rb_ | apply rc_)); exact Kd.R_mono HO262.out (fun _ hk => hk.1.2)⟩, ⟨bu_ BK252⟩, ⟨bu_ BK264⟩, ⟨by repeat (first | (with_reducible first | exact HB.out | apply below_alloc | apply pw_below_drewN | apply below_drew1 | refine below_set ?_ GE252.out | refine below_set ?_ GE264.out) | exact HB.out)⟩⟩
              · rw [if_neg c28] at H
                have c28b0 : ((Go.bits .and .i64 (ji27) 1) == 1) = false := beq_eq_false_iff_ne.mpr c28
                have c28b1 : ((Go.bits .and .i64 (ji27) 1) != 1) = true := bne_iff_ne.mpr c28
                (first | rw [c28b0] | (simp only [i64_w, i32_w]; rw [c28b0]) | skip)
                have H' := Aside0.mk H
                clear H
                have hnb60 := NB252_264.out
                have hnc60 := NB264_252.out
                obtain ⟨hcz61_0, hcz61_1, hcz61_2, hcz61_3, hfz61_0, hfz61_1, hfz61_2, hfz61_3⟩ := cf4_ BK252
                go_wp2_with (first | ((with_reducible refine gate_callee (f := 13) rfl ?_); refine goesL_ (some 25) rfl rfl Try.func13 (by kernel_rfl) rfl #[.agg #[.int .i64 t246, .int .i64 t247, .int .i64 t248, .slice Ao12 t249.length co12]] rfl (by (try simp only [List.map_toArray, List.map_cons, List.map_nil]); first | done | rfl | (simp only [List.length_drop, List.length_take]; rfl)) ?_; (with_reducible refine (impl_LogOk.calls k t246 t247 t248 _ _ t249 true _ ?side1 ?side2 A21.out).mono ?_); (case side1 => refine (Kd.R_reads' (e := 3) (base := w.heap.size) (ok := fun k_ => ((True ∧ some k_ ≠ (.slice (some ad256) t253.length co14 : Value).ownBlock) ∧ some k_ ≠ (.slice Ao20 t260.length co20 : Value).ownBlock)) (n := t249.length) (c := co12) ?_).2.2; exact (by (with_reducible repeat (first | apply ra_ | apply rb_ | apply rc_)); exact (Kd.R_mono (Kd.R_far (p := ⟨gb264, 3, none⟩) (Kd.R_far (p := ⟨gb264, 2, none⟩) (Kd.R_far (p := ⟨gb264, 1, none⟩) (Kd.R_far (p := ⟨gb264, 0, none⟩) (Kd.R_types HO251.out BK264.out (by decide)) (fun _ hk => hk.2) (.int .i64 t257)) (fun _ hk => hk.2) (.int .i64 t258)) (fun _ hk => hk.2) (.int .i64 t259)) (fun _ hk => hk.2) (.slice Ao20 t260.length co20)) (fun _ h_ => h_.1)))); (case side2 => exact (Kd.R_reads' HO251.out).2.1); rintro e w62 ⟨rfl, hb⟩; refine ⟨_, rfl, ?_⟩; have n0_ := Aside0.mk (Kd.R_below (by (with_reducible repeat (first | apply ra_ | apply rb_ | apply rc_)); exact (Kd.R_mono (Kd.R_far (p := ⟨gb264, 3, none⟩) (Kd.R_far (p := ⟨gb264, 2, none⟩) (Kd.R_far (p := ⟨gb264, 1, none⟩) (Kd.R_far (p := ⟨gb264, 0, none⟩) (Kd.R_types HO251.out BK264.out (by decide)) (fun _ hk => hk.2) (.int .i64 t257)) (fun _ hk => hk.2) (.int .i64 t258)) (fun _ hk => hk.2) (.int .i64 t259)) (fun _ hk => hk.2) (.slice Ao20 t260.length co20)) (fun _ h_ => h_.1))) hb); have n1_ := Aside0.mk (Kd.R_below (by (with_reducible repeat (first | apply ra_ | apply rb_ | apply rc_)); exact (Kd.R_mono (Kd.R_far (p := ⟨gb264, 3, none⟩) (Kd.R_far (p := ⟨gb264, 2, none⟩) (Kd.R_far (p := ⟨gb264, 1, none⟩) (Kd.R_far (p := ⟨gb264, 0, none⟩) (Kd.R_types HO255.out BK264.out (by decide)) (fun _ hk => hk.2) (.int .i64 t257)) (fun _ hk => hk.2) (.int .i64 t258)) (fun _ hk => hk.2) (.int .i64 t259)) (fun _ hk => hk.2) (.slice Ao20 t260.length co20)) (fun _ h_ => h_.1))) hb); have n2_ := Aside0.mk (Kd.R_below (by (with_reducible repeat (first | apply ra_ | apply rb_ | apply rc_)); exact (Kd.R_mono (Kd.R_far (p := ⟨gb264, 3, none⟩) (Kd.R_far (p := ⟨gb264, 2, none⟩) (Kd.R_far (p := ⟨gb264, 1, none⟩) (Kd.R_far (p := ⟨gb264, 0, none⟩) (Kd.R_types HO262.out BK264.out (by decide)) (fun _ hk => hk.2) (.int .i64 t257)) (fun _ hk => hk.2) (.int .i64 t258)) (fun _ hk => hk.2) (.int .i64 t259)) (fun _ hk => hk.2) (.slice Ao20 t260.length co20)) (fun _ h_ => h_.1))) hb); have n3_ := Aside0.mk (blk_below (g := gb252) (o := .cells #[.int .i64 t246, .int .i64 t247, .int .i64 t248, .slice Ao12 t249.length co12] 29 (0, 0)) (by (with_reducible repeat (first | refine ba_ ?_ _ | refine bb_ ?_ | refine bc_ ?_ _)); refine blk_far ?_ NB252_264.out _; (with_reducible repeat (first | refine ba_ ?_ _ | refine bb_ ?_ | refine bc_ ?_ _)); refine blk_far ?_ NB252_264.out _; (with_reducible repeat (first | refine ba_ ?_ _ | refine bb_ ?_ | refine bc_ ?_ _)); refine blk_far ?_ NB252_264.out _; (with_reducible repeat (first | refine ba_ ?_ _ | refine bb_ ?_ | refine bc_ ?_ _)); refine blk_far ?_ NB252_264.out _; (with_reducible repeat (first | refine ba_ ?_ _ | refine bb_ ?_ | refine bc_ ?_ _)); exact BK252.out) hb); have n4_ := Aside0.mk (blk_below (g := gb264) (o := .cells #[.int .i64 t257, .int .i64 t258, .int .i64 t259, .slice Ao20 t260.length co20] 29 (0, 0)) (by (with_reducible repeat (first | refine ba_ ?_ _ | refine bb_ ?_ | refine bc_ ?_ _)); refine blk_put (cs := #[.int .i64 t257, .int .i64 t258, .int .i64 t259, .slice none 0 0]) ?_ 3 _ rfl; (with_reducible repeat (first | refine ba_ ?_ _ | refine bb_ ?_ | refine bc_ ?_ _)); refine blk_put (cs := #[.int .i64 t257, .int .i64 t258, .int .i64 0, .slice none 0 0]) ?_ 2 _ rfl; (with_reducible repeat (first | refine ba_ ?_ _ | refine bb_ ?_ | refine bc_ ?_ _)); refine blk_put (cs := #[.int .i64 t257, .int .i64 0, .int .i64 0, .slice none 0 0]) ?_ 1 _ rfl; (with_reducible repeat (first | refine ba_ ?_ _ | refine bb_ ?_ | refine bc_ ?_ _)); refine blk_put (cs := #[.int .i64 0, .int .i64 0, .int .i64 0, .slice none 0 0]) ?_ 0 _ rfl; (with_reducible repeat (first | refine ba_ ?_ _ | refine bb_ ?_ | refine bc_ ?_ _)); exact BK264.out) hb); have n5_ := Aside0.mk (below_step (by repeat (first | (with_reducible first | exact HB.out | apply below_alloc | apply pw_below_drewN | apply below_drew1 | refine below_set ?_ GE252.out | refine below_set ?_ GE264.out) | exact HB.out)) hb); clear HO251; clear HO255; clear HO262; clear BK252; clear BK264; clear HB; have HO251 := n0_; have HO255 := n1_; have HO262 := n2_; have BK252 := n3_; have BK264 := n4_; have HB := n5_; clear n0_ n1_ n2_ n3_ n4_ n5_; (try clear hb); (try clear hb2); (try clear hk); (try clear hi); obtain ⟨hcz63_0, hcz63_1, hcz63_2, hcz63_3, hfz63_0, hfz63_1, hfz63_2, hfz63_3⟩ := cf4_ BK264) | (go_at_call 13; (with_reducible refine (impl_LogOk.calls k t257 t258 t259 _ _ t260 true _ ?side1 ?side2 A23.out).mono ?_); (case side1 => repeat (first | exact (Kd.R_reads' HO262.out).2.2 | (with_reducible refine Kd.C_alloc ?_ _) | (with_reducible refine Kd.C_drewN ?_ _) | (with_reducible refine Kd.C_drew ?_))); (case side2 => exact (Kd.R_reads' HO262.out).2.1); rintro e w64 ⟨rfl, hb⟩; have n0_ := Aside0.mk (Kd.R_below (by (with_reducible repeat (first | apply ra_ | apply rb_ | apply rc_)); exact HO251.out) hb); have n1_ := Aside0.mk (Kd.R_below (by (with_reducible repeat (first | apply ra_ | apply rb_ | apply rc_)); exact HO255.out) hb); have n2_ := Aside0.mk (Kd.R_below (by (with_reducible repeat (first | apply ra_ | apply rb_ | apply rc_)); exact HO262.out) hb); have n3_ := Aside0.mk (blk_below (g := gb252) (o := .cells #[.int .i64 t246, .int .i64 t247, .int .i64 t248, .slice Ao12 t249.length co12] 29 (0, 0)) (bu_ BK252) hb); have n4_ := Aside0.mk (blk_below (g := gb264) (o := .cells #[.int .i64 t257, .int .i64 t258, .int .i64 t259, .slice Ao20 t260.length co20] 29 (0, 0)) (bu_ BK264) hb); have n5_ := Aside0.mk (below_step (by repeat (first | (with_reducible first | exact HB.out | apply below_alloc | apply pw_below_drewN | apply below_drew1 | refine below_set ?_ GE252.out | refine below_set ?_ GE264.out) | exact HB.out)) hb); clear HO251; clear HO255; clear HO262; clear BK252; clear BK264; clear HB; have HO251 := n0_; have HO255 := n1_; have HO262 := n2_; have BK252 := n3_; have BK264 := n4_; have HB := n5_; clear n0_ n1_ n2_ n3_ n4_ n5_; (try clear hb); (try clear hb2); (try clear hk); (try clear hi); obtain ⟨hcz65_0, hcz65_1, hcz65_2, hcz65_3, hfz65_0, hfz65_1, hfz65_2, hfz65_3⟩ := cf4_ BK264))
                subst hji25
                go_meet
                case rel => exact ⟨_, (true), (by first | rfl | (simp; done) | (simp [*]; done)), H', ⟨by first | omega | exact Nat.le_refl _⟩, ⟨by (with_reducible repeat (first | apply ra_ | apply rb_ | apply rc_)); exact Kd.R_mono HO251.out (fun _ hk => hk.2)⟩, ⟨by (with_reducible repeat (first | apply ra_ | apply rb_ | apply rc_)); exact Kd.R_mono HO262.out (fun _ hk => hk.1.2)⟩, ⟨bu_ BK252⟩, ⟨bu_ BK264⟩, ⟨by repeat (first | (with_reducible first | exact HB.out | apply below_alloc | apply pw_below_drewN | apply below_drew1 | refine below_set ?_ GE252.out | refine below_set ?_ GE264.out) | exact HB.out)⟩⟩
            · rw [if_neg c26] at H
              exact absurd H (by simp)
          · replace c24 := Bool.eq_false_iff.mpr c24
            subst c24
            have H1 : (laws_FnLogs.j0 k (Int.tmod (rd t253 0) 16) t263 true t246 t247 t248 t249 t257 t258 t259 t260) = some r := by rw [if_neg (show ¬ (false = true) by decide)] at H; exact H
            clear H
            have H := H1
            clear H1
            have H' := Aside0.mk H
            clear H
            have hnb66 := NB252_264.out
            have hnc66 := NB264_252.out
            obtain ⟨hcz67_0, hcz67_1, hcz67_2, hcz67_3, hfz67_0, hfz67_1, hfz67_2, hfz67_3⟩ := cf4_ BK252
            go_wp2_with (first | ((with_reducible refine gate_callee (f := 13) rfl ?_); refine goesL_ (some 25) rfl rfl Try.func13 (by kernel_rfl) rfl #[.agg #[.int .i64 t246, .int .i64 t247, .int .i64 t248, .slice Ao12 t249.length co12]] rfl (by (try simp only [List.map_toArray, List.map_cons, List.map_nil]); first | done | rfl | (simp only [List.length_drop, List.length_take]; rfl)) ?_; (with_reducible refine (impl_LogOk.calls k t246 t247 t248 _ _ t249 true _ ?side1 ?side2 A21.out).mono ?_); (case side1 => refine (Kd.R_reads' (e := 3) (base := w.heap.size) (ok := fun k_ => ((True ∧ some k_ ≠ (.slice (some ad256) t253.length co14 : Value).ownBlock) ∧ some k_ ≠ (.slice Ao20 t260.length co20 : Value).ownBlock)) (n := t249.length) (c := co12) ?_).2.2; exact (by (with_reducible repeat (first | apply ra_ | apply rb_ | apply rc_)); exact (Kd.R_mono (Kd.R_far (p := ⟨gb264, 3, none⟩) (Kd.R_far (p := ⟨gb264, 2, none⟩) (Kd.R_far (p := ⟨gb264, 1, none⟩) (Kd.R_far (p := ⟨gb264, 0, none⟩) (Kd.R_types HO251.out BK264.out (by decide)) (fun _ hk => hk.2) (.int .i64 t257)) (fun _ hk => hk.2) (.int .i64 t258)) (fun _ hk => hk.2) (.int .i64 t259)) (fun _ hk => hk.2) (.slice Ao20 t260.length co20)) (fun _ h_ => h_.1)))); (case side2 => exact (Kd.R_reads' HO251.out).2.1); rintro e w68 ⟨rfl, hb⟩; refine ⟨_, rfl, ?_⟩; have n0_ := Aside0.mk (Kd.R_below (by (with_reducible repeat (first | apply ra_ | apply rb_ | apply rc_)); exact (Kd.R_mono (Kd.R_far (p := ⟨gb264, 3, none⟩) (Kd.R_far (p := ⟨gb264, 2, none⟩) (Kd.R_far (p := ⟨gb264, 1, none⟩) (Kd.R_far (p := ⟨gb264, 0, none⟩) (Kd.R_types HO251.out BK264.out (by decide)) (fun _ hk => hk.2) (.int .i64 t257)) (fun _ hk => hk.2) (.int .i64 t258)) (fun _ hk => hk.2) (.int .i64 t259)) (fun _ hk => hk.2) (.slice Ao20 t260.length co20)) (fun _ h_ => h_.1))) hb); have n1_ := Aside0.mk (Kd.R_below (by (with_reducible repeat (first | apply ra_ | apply rb_ | apply rc_)); exact (Kd.R_mono (Kd.R_far (p := ⟨gb264, 3, none⟩) (Kd.R_far (p := ⟨gb264, 2, none⟩) (Kd.R_far (p := ⟨gb264, 1, none⟩) (Kd.R_far (p := ⟨gb264, 0, none⟩) (Kd.R_types HO255.out BK264.out (by decide)) (fun _ hk => hk.2) (.int .i64 t257)) (fun _ hk => hk.2) (.int .i64 t258)) (fun _ hk => hk.2) (.int .i64 t259)) (fun _ hk => hk.2) (.slice Ao20 t260.length co20)) (fun _ h_ => h_.1))) hb); have n2_ := Aside0.mk (Kd.R_below (by (with_reducible repeat (first | apply ra_ | apply rb_ | apply rc_)); exact (Kd.R_mono (Kd.R_far (p := ⟨gb264, 3, none⟩) (Kd.R_far (p := ⟨gb264, 2, none⟩) (Kd.R_far (p := ⟨gb264, 1, none⟩) (Kd.R_far (p := ⟨gb264, 0, none⟩) (Kd.R_types HO262.out BK264.out (by decide)) (fun _ hk => hk.2) (.int .i64 t257)) (fun _ hk => hk.2) (.int .i64 t258)) (fun _ hk => hk.2) (.int .i64 t259)) (fun _ hk => hk.2) (.slice Ao20 t260.length co20)) (fun _ h_ => h_.1))) hb); have n3_ := Aside0.mk (blk_below (g := gb252) (o := .cells #[.int .i64 t246, .int .i64 t247, .int .i64 t248, .slice Ao12 t249.length co12] 29 (0, 0)) (by (with_reducible repeat (first | refine ba_ ?_ _ | refine bb_ ?_ | refine bc_ ?_ _)); refine blk_far ?_ NB252_264.out _; (with_reducible repeat (first | refine ba_ ?_ _ | refine bb_ ?_ | refine bc_ ?_ _)); refine blk_far ?_ NB252_264.out _; (with_reducible repeat (first | refine ba_ ?_ _ | refine bb_ ?_ | refine bc_ ?_ _)); refine blk_far ?_ NB252_264.out _; (with_reducible repeat (first | refine ba_ ?_ _ | refine bb_ ?_ | refine bc_ ?_ _)); refine blk_far ?_ NB252_264.out _; (with_reducible repeat (first | refine ba_ ?_ _ | refine bb_ ?_ | refine bc_ ?_ _)); exact BK252.out) hb); have n4_ := Aside0.mk (blk_below (g := gb264) (o := .cells #[.int .i64 t257, .int .i64 t258, .int .i64 t259, .slice Ao20 t260.length co20] 29 (0, 0)) (by (with_reducible repeat (first | refine ba_ ?_ _ | refine bb_ ?_ | refine bc_ ?_ _)); refine blk_put (cs := #[.int .i64 t257, .int .i64 t258, .int .i64 t259, .slice none 0 0]) ?_ 3 _ rfl; (with_reducible repeat (first | refine ba_ ?_ _ | refine bb_ ?_ | refine bc_ ?_ _)); refine blk_put (cs := #[.int .i64 t257, .int .i64 t258, .int .i64 0, .slice none 0 0]) ?_ 2 _ rfl; (with_reducible repeat (first | refine ba_ ?_ _ | refine bb_ ?_ | refine bc_ ?_ _)); refine blk_put (cs := #[.int .i64 t257, .int .i64 0, .int .i64 0, .slice none 0 0]) ?_ 1 _ rfl; (with_reducible repeat (first | refine ba_ ?_ _ | refine bb_ ?_ | refine bc_ ?_ _)); refine blk_put (cs := #[.int .i64 0, .int .i64 0, .int .i64 0, .slice none 0 0]) ?_ 0 _ rfl; (with_reducible repeat (first | refine ba_ ?_ _ | refine bb_ ?_ | refine bc_ ?_ _)); exact BK264.out) hb); have n5_ := Aside0.mk (below_step (by repeat (first | (with_reducible first | exact HB.out | apply below_alloc | apply pw_below_drewN | apply below_drew1 | refine below_set ?_ GE252.out | refine below_set ?_ GE264.out) | exact HB.out)) hb); clear HO251; clear HO255; clear HO262; clear BK252; clear BK264; clear HB; have HO251 := n0_; have HO255 := n1_; have HO262 := n2_; have BK252 := n3_; have BK264 := n4_; have HB := n5_; clear n0_ n1_ n2_ n3_ n4_ n5_; (try clear hb); (try clear hb2); (try clear hk); (try clear hi); obtain ⟨hcz69_0, hcz69_1, hcz69_2, hcz69_3, hfz69_0, hfz69_1, hfz69_2, hfz69_3⟩ := cf4_ BK264) | (go_at_call 13; (with_reducible refine (impl_LogOk.calls k t257 t258 t259 _ _ t260 false _ ?side1 ?side2 A23.out).mono ?_); (case side1 => repeat (first | exact (Kd.R_reads' HO262.out).2.2 | (with_reducible refine Kd.C_alloc ?_ _) | (with_reducible refine Kd.C_drewN ?_ _) | (with_reducible refine Kd.C_drew ?_))); (case side2 => exact (Kd.R_reads' HO262.out).2.1); rintro e w70 ⟨rfl, hb⟩; have n0_ := Aside0.mk (Kd.R_below (by (with_reducible repeat (first | apply ra_ | apply rb_ | apply rc_)); exact HO251.out) hb); have n1_ := Aside0.mk (Kd.R_below (by (with_reducible repeat (first | apply ra_ | apply rb_ | apply rc_)); exact HO255.out) hb); have n2_ := Aside0.mk (Kd.R_below (by (with_reducible repeat (first | apply ra_ | apply rb_ | apply rc_)); exact HO262.out) hb); have n3_ := Aside0.mk (blk_below (g := gb252) (o := .cells #[.int .i64 t246, .int .i64 t247, .int .i64 t248, .slice Ao12 t249.length co12] 29 (0, 0)) (bu_ BK252) hb); have n4_ := Aside0.mk (blk_below (g := gb264) (o := .cells #[.int .i64 t257, .int .i64 t258, .int .i64 t259, .slice Ao20 t260.length co20] 29 (0, 0)) (bu_ BK264) hb); have n5_ := Aside0.mk (below_step (by repeat (first | (with_reducible first | exact HB.out | apply below_alloc | apply pw_below_drewN | apply below_drew1 | refine below_set ?_ GE252.out | refine below_set ?_ GE264.out) | exact HB.out)) hb); clear HO251; clear HO255; clear HO262; clear BK252; clear BK264; clear HB; have HO251 := n0_; have HO255 := n1_; have HO262 := n2_; have BK252 := n3_; have BK264 := n4_; have HB := n5_; clear n0_ n1_ n2_ n3_ n4_ n5_; (try clear hb); (try clear hb2); (try clear hk); (try clear hi)))
            go_meet
            case rel => exact ⟨_, (true), (by first | rfl | (simp; done) | (simp [*]; done)), H', ⟨by first | omega | exact Nat.le_refl _⟩, ⟨by (with_reducible repeat (first | apply ra_ | apply rb_ | apply rc_)); exact Kd.R_mono HO251.out (fun _ hk => hk.2)⟩, ⟨by (with_reducible repeat (first | apply ra_ | apply rb_ | apply rc_)); exact Kd.R_mono HO262.out (fun _ hk => hk.1.2)⟩, ⟨bu_ BK252⟩, ⟨bu_ BK264⟩, ⟨by repeat (first | (with_reducible first | exact HB.out | apply below_alloc | apply pw_below_drewN | apply below_drew1 | refine below_set ?_ GE252.out | refine below_set ?_ GE264.out) | exact HB.out)⟩⟩
        · replace c22 := Bool.eq_false_iff.mpr c22
          subst c22
          have H1 : (laws_FnLogs.j0 k (Int.tmod (rd t253 0) 16) t263 true t246 t247 t248 t249 t257 t258 t259 t260) = some r := by rw [if_neg (show ¬ (false = true) by decide)] at H; exact H
          clear H
          have H := H1
          clear H1
          have H' := Aside0.mk H
          clear H
          have hnb71 := NB252_264.out
          have hnc71 := NB264_252.out
          obtain ⟨hcz72_0, hcz72_1, hcz72_2, hcz72_3, hfz72_0, hfz72_1, hfz72_2, hfz72_3⟩ := cf4_ BK252
          go_wp2_with (first | ((with_reducible refine gate_callee (f := 13) rfl ?_); refine goesL_ (some 25) rfl rfl Try.func13 (by kernel_rfl) rfl #[.agg #[.int .i64 t246, .int .i64 t247, .int .i64 t248, .slice Ao12 t249.length co12]] rfl (by (try simp only [List.map_toArray, List.map_cons, List.map_nil]); first | done | rfl | (simp only [List.length_drop, List.length_take]; rfl)) ?_; (with_reducible refine (impl_LogOk.calls k t246 t247 t248 _ _ t249 false _ ?side1 ?side2 A21.out).mono ?_); (case side1 => refine (Kd.R_reads' (e := 3) (base := w.heap.size) (ok := fun k_ => ((True ∧ some k_ ≠ (.slice (some ad256) t253.length co14 : Value).ownBlock) ∧ some k_ ≠ (.slice Ao20 t260.length co20 : Value).ownBlock)) (n := t249.length) (c := co12) ?_).2.2; exact (by (with_reducible repeat (first | apply ra_ | apply rb_ | apply rc_)); exact (Kd.R_mono (Kd.R_far (p := ⟨gb264, 3, none⟩) (Kd.R_far (p := ⟨gb264, 2, none⟩) (Kd.R_far (p := ⟨gb264, 1, none⟩) (Kd.R_far (p := ⟨gb264, 0, none⟩) (Kd.R_types HO251.out BK264.out (by decide)) (fun _ hk => hk.2) (.int .i64 t257)) (fun _ hk => hk.2) (.int .i64 t258)) (fun _ hk => hk.2) (.int .i64 t259)) (fun _ hk => hk.2) (.slice Ao20 t260.length co20)) (fun _ h_ => h_.1)))); (case side2 => exact (Kd.R_reads' HO251.out).2.1); rintro e w73 ⟨rfl, hb⟩; refine ⟨_, rfl, ?_⟩; have n0_ := Aside0.mk (Kd.R_below (by (with_reducible repeat (first | apply ra_ | apply rb_ | apply rc_)); exact (Kd.R_mono (Kd.R_far (p := ⟨gb264, 3, none⟩) (Kd.R_far (p := ⟨gb264, 2, none⟩) (Kd.R_far (p := ⟨gb264, 1, none⟩) (Kd.R_far (p := ⟨gb264, 0, none⟩) (Kd.R_types HO251.out BK264.out (by decide)) (fun _ hk => hk.2) (.int .i64 t257)) (fun _ hk => hk.2) (.int .i64 t258)) (fun _ hk => hk.2) (.int .i64 t259)) (fun _ hk => hk.2) (.slice Ao20 t260.length co20)) (fun _ h_ => h_.1))) hb); have n1_ := Aside0.mk (Kd.R_below (by (with_reducible repeat (first | apply ra_ | apply rb_ | apply rc_)); exact (Kd.R_mono (Kd.R_far (p := ⟨gb264, 3, none⟩) (Kd.R_far (p := ⟨gb264, 2, none⟩) (Kd.R_far (p := ⟨gb264, 1, none⟩) (Kd.R_far (p := ⟨gb264, 0, none⟩) (Kd.R_types HO255.out BK264.out (by decide)) (fun _ hk => hk.2) (.int .i64 t257)) (fun _ hk => hk.2) (.int .i64 t258)) (fun _ hk => hk.2) (.int .i64 t259)) (fun _ hk => hk.2) (.slice Ao20 t260.length co20)) (fun _ h_ => h_.1))) hb); have n2_ := Aside0.mk (Kd.R_below (by (with_reducible repeat (first | apply ra_ | apply rb_ | apply rc_)); exact (Kd.R_mono (Kd.R_far (p := ⟨gb264, 3, none⟩) (Kd.R_far (p := ⟨gb264, 2, none⟩) (Kd.R_far (p := ⟨gb264, 1, none⟩) (Kd.R_far (p := ⟨gb264, 0, none⟩) (Kd.R_types HO262.out BK264.out (by decide)) (fun _ hk => hk.2) (.int .i64 t257)) (fun _ hk => hk.2) (.int .i64 t258)) (fun _ hk => hk.2) (.int .i64 t259)) (fun _ hk => hk.2) (.slice Ao20 t260.length co20)) (fun _ h_ => h_.1))) hb); have n3_ := Aside0.mk (blk_below (g := gb252) (o := .cells #[.int .i64 t246, .int .i64 t247, .int .i64 t248, .slice Ao12 t249.length co12] 29 (0, 0)) (by (with_reducible repeat (first | refine ba_ ?_ _ | refine bb_ ?_ | refine bc_ ?_ _)); refine blk_far ?_ NB252_264.out _; (with_reducible repeat (first | refine ba_ ?_ _ | refine bb_ ?_ | refine bc_ ?_ _)); refine blk_far ?_ NB252_264.out _; (with_reducible repeat (first | refine ba_ ?_ _ | refine bb_ ?_ | refine bc_ ?_ _)); refine blk_far ?_ NB252_264.out _; (with_reducible repeat (first | refine ba_ ?_ _ | refine bb_ ?_ | refine bc_ ?_ _)); refine blk_far ?_ NB252_264.out _; (with_reducible repeat (first | refine ba_ ?_ _ | refine bb_ ?_ | refine bc_ ?_ _)); exact BK252.out) hb); have n4_ := Aside0.mk (blk_below (g := gb264) (o := .cells #[.int .i64 t257, .int .i64 t258, .int .i64 t259, .slice Ao20 t260.length co20] 29 (0, 0)) (by (with_reducible repeat (first | refine ba_ ?_ _ | refine bb_ ?_ | refine bc_ ?_ _)); refine blk_put (cs := #[.int .i64 t257, .int .i64 t258, .int .i64 t259, .slice none 0 0]) ?_ 3 _ rfl; (with_reducible repeat (first | refine ba_ ?_ _ | refine bb_ ?_ | refine bc_ ?_ _)); refine blk_put (cs := #[.int .i64 t257, .int .i64 t258, .int .i64 0, .slice none 0 0]) ?_ 2 _ rfl; (with_reducible repeat (first | refine ba_ ?_ _ | refine bb_ ?_ | refine bc_ ?_ _)); refine blk_put (cs := #[.int .i64 t257, .int .i64 0, .int .i64 0, .slice none 0 0]) ?_ 1 _ rfl; (with_reducible repeat (first | refine ba_ ?_ _ | refine bb_ ?_ | refine bc_ ?_ _)); refine blk_put (cs := #[.int .i64 0, .int .i64 0, .int .i64 0, .slice none 0 0]) ?_ 0 _ rfl; (with_reducible repeat (first | refine ba_ ?_ _ | refine bb_ ?_ | refine bc_ ?_ _)); exact BK264.out) hb); have n5_ := Aside0.mk (below_step (by repeat (first | (with_reducible first | exact HB.out | apply below_alloc | apply pw_below_drewN | apply below_drew1 | refine below_set ?_ GE252.out | refine below_set ?_ GE264.out) | exact HB.out)) hb); clear HO251; clear HO255; clear HO262; clear BK252; clear BK264; clear HB; have HO251 := n0_; have HO255 := n1_; have HO262 := n2_; have BK252 := n3_; have BK264 := n4_; have HB := n5_; clear n0_ n1_ n2_ n3_ n4_ n5_; (try clear hb); (try clear hb2); (try clear hk); (try clear hi)))
          go_meet
          case rel => exact ⟨_, (true), (by first | rfl | (simp; done) | (simp [*]; done)), H', ⟨by first | omega | exact Nat.le_refl _⟩, ⟨by (with_reducible repeat (first | apply ra_ | apply rb_ | apply rc_)); exact Kd.R_mono HO251.out (fun _ hk => hk.2)⟩, ⟨by (with_reducible repeat (first | apply ra_ | apply rb_ | apply rc_)); exact Kd.R_mono HO262.out (fun _ hk => hk.1.2)⟩, ⟨bu_ BK252⟩, ⟨bu_ BK264⟩, ⟨by repeat (first | (with_reducible first | exact HB.out | apply below_alloc | apply pw_below_drewN | apply below_drew1 | refine below_set ?_ GE252.out | refine below_set ?_ GE264.out) | exact HB.out)⟩⟩
      case rest =>
        clear HC8
        try clear c1; try clear c2; try clear p2; try clear q2; try clear hx2; try clear qi2; try clear c3; try clear c4; try clear c5; try clear c6; try clear c6b0; try clear c6b1; try clear c7; try clear c13; try clear c17; try clear c18; try clear c19; try clear c20; try clear c22; try clear c24; try clear p25; try clear q25; try clear hx25; try clear qi25; try clear c26; try clear c26b0; try clear c26b1; try clear c28; try clear c28b0; try clear c28b1
        try clear c29; try clear c29b0; try clear c29b1; try clear c30; try clear c30b0; try clear c30b1; try clear c31; try clear c38; try clear c38b0; try clear c38b1; try clear c39; try clear c46; try clear c53; try clear c60; try clear c66; try clear c71; try clear hcz11_0; try clear hcz11_1; try clear hcz11_2; try clear hcz11_3; try clear hcz15_0; try clear hcz15_1; try clear hcz15_2; try clear hcz15_3; try clear hcz19_0; try clear hcz19_1; try clear hcz19_2; try clear hcz19_3; try clear hcz32_0; try clear hcz32_1
        try clear hcz32_2; try clear hcz32_3; try clear hcz34_0; try clear hcz34_1; try clear hcz34_2; try clear hcz34_3; try clear hcz36_0; try clear hcz36_1; try clear hcz36_2; try clear hcz36_3; try clear hcz37_0; try clear hcz37_1; try clear hcz37_2; try clear hcz37_3; try clear hcz40_0; try clear hcz40_1; try clear hcz40_2; try clear hcz40_3; try clear hcz42_0; try clear hcz42_1; try clear hcz42_2; try clear hcz42_3; try clear hcz44_0; try clear hcz44_1; try clear hcz44_2; try clear hcz44_3; try clear hcz45_0; try clear hcz45_1; try clear hcz45_2; try clear hcz45_3
        try clear hcz47_0; try clear hcz47_1; try clear hcz47_2; try clear hcz47_3; try clear hcz49_0; try clear hcz49_1; try clear hcz49_2; try clear hcz49_3; try clear hcz51_0; try clear hcz51_1; try clear hcz51_2; try clear hcz51_3; try clear hcz52_0; try clear hcz52_1; try clear hcz52_2; try clear hcz52_3; try clear hcz54_0; try clear hcz54_1; try clear hcz54_2; try clear hcz54_3; try clear hcz56_0; try clear hcz56_1; try clear hcz56_2; try clear hcz56_3; try clear hcz58_0; try clear hcz58_1; try clear hcz58_2; try clear hcz58_3; try clear hcz59_0; try clear hcz59_1
        try clear hcz59_2; try clear hcz59_3; try clear hcz61_0; try clear hcz61_1; try clear hcz61_2; try clear hcz61_3; try clear hcz63_0; try clear hcz63_1; try clear hcz63_2; try clear hcz63_3; try clear hcz65_0; try clear hcz65_1; try clear hcz65_2; try clear hcz65_3; try clear hcz67_0; try clear hcz67_1; try clear hcz67_2; try clear hcz67_3; try clear hcz69_0; try clear hcz69_1; try clear hcz69_2; try clear hcz69_3; try clear hcz72_0; try clear hcz72_1; try clear hcz72_2; try clear hcz72_3; try clear hfz11_0; try clear hfz11_1; try clear hfz11_2; try clear hfz11_3
        try clear hfz15_0; try clear hfz15_1; try clear hfz15_2; try clear hfz15_3; try clear hfz19_0; try clear hfz19_1; try clear hfz19_2; try clear hfz19_3; try clear hfz32_0; try clear hfz32_1; try clear hfz32_2; try clear hfz32_3; try clear hfz34_0; try clear hfz34_1; try clear hfz34_2; try clear hfz34_3; try clear hfz36_0; try clear hfz36_1; try clear hfz36_2; try clear hfz36_3; try clear hfz37_0; try clear hfz37_1; try clear hfz37_2; try clear hfz37_3; try clear hfz40_0; try clear hfz40_1; try clear hfz40_2; try clear hfz40_3; try clear hfz42_0; try clear hfz42_1
        try clear hfz42_2; try clear hfz42_3; try clear hfz44_0; try clear hfz44_1; try clear hfz44_2; try clear hfz44_3; try clear hfz45_0; try clear hfz45_1; try clear hfz45_2; try clear hfz45_3; try clear hfz47_0; try clear hfz47_1; try clear hfz47_2; try clear hfz47_3; try clear hfz49_0; try clear hfz49_1; try clear hfz49_2; try clear hfz49_3; try clear hfz51_0; try clear hfz51_1; try clear hfz51_2; try clear hfz51_3; try clear hfz52_0; try clear hfz52_1; try clear hfz52_2; try clear hfz52_3; try clear hfz54_0; try clear hfz54_1; try clear hfz54_2; try clear hfz54_3
        try clear hfz56_0; try clear hfz56_1; try clear hfz56_2; try clear hfz56_3; try clear hfz58_0; try clear hfz58_1; try clear hfz58_2; try clear hfz58_3; try clear hfz59_0; try clear hfz59_1; try clear hfz59_2; try clear hfz59_3; try clear hfz61_0; try clear hfz61_1; try clear hfz61_2; try clear hfz61_3; try clear hfz63_0; try clear hfz63_1; try clear hfz63_2; try clear hfz63_3; try clear hfz65_0; try clear hfz65_1; try clear hfz65_2; try clear hfz65_3; try clear hfz67_0; try clear hfz67_1; try clear hfz67_2; try clear hfz67_3; try clear hfz69_0; try clear hfz69_1
        try clear hfz69_2; try clear hfz69_3; try clear hfz72_0; try clear hfz72_1; try clear hfz72_2; try clear hfz72_3; try clear hx256_0; try clear p256; try clear q256
        obtain ⟨kq, x72_7, rfl, HA, HJ7, HO_253003, HO_265003, BK252, BK264, HB⟩ := hcut
        cases kq with
        | zero => exact absurd HA.out (by simp [laws_FnLogs.j0])
        | succ kj7 =>
          have H := HA.out
          clear HA
          simp only [laws_FnLogs.j0] at H
          by_cases c74 : x72_7 = true
          · subst c74
            have H1 : (some false) = some r := by rw [if_pos rfl] at H; exact H
            clear H
            have H := H1
            clear H1
            obtain rfl := Option.some.inj H
            go_wp2
            go_ret
            exact ⟨by first | rfl | (simp [errW_none, errW_some] <;> rfl) | (simp [*, errW_none, errW_some] <;> rfl), by repeat (first | (with_reducible first | exact HB.out | apply below_alloc | apply pw_below_drewN | apply below_drew1 | refine below_set ?_ GE252.out | refine below_set ?_ GE264.out) | exact HB.out)⟩
          · replace c74 := Bool.eq_false_iff.mpr c74
            subst c74
            have H1 : (if 0 ≤ (Int.tmod (rd t253 0) 16) then (if ((t263 == (-1)) == ((Go.bits .and .i64 (shr .i64 t247 (Int.tmod (rd t253 0) 16)) 1) == 1)) = true then (if t263 = (-1) then ((impl_WorstOf.f kj7 t257 t258 t259 t260).bind fun t267 => ((impl_WorstOf.f kj7 t246 t247 t248 t249).bind fun t268 => (some (decide (t267 ≥ t268))))) else (if (Int.tmod (rd t253 0) 16) < (t249.length : Int) then (if t263 = (rd t249 (Int.tmod (rd t253 0) 16)) then ((impl_WorstOf.f kj7 t257 t258 t259 t260).bind fun t270 => (if t270 ≥ t263 then ((impl_WorstOf.f kj7 t257 t258 t259 t260).bind fun t271 => ((impl_WorstOf.f kj7 t246 t247 t248 t249).bind fun t272 => (some (decide (t271 ≥ t272))))) else (some false))) else (some false)) else (none))) else (some false)) else (none)) = some r := by rw [if_neg (show ¬ (false = true) by decide)] at H; exact H
            clear H
            have H := H1
            clear H1
            obtain ⟨ji75, hji75⟩ : ∃ j_ : Int, (Int.tmod (rd t253 0) 16) = j_ := ⟨_, rfl⟩
            replace H : (if 0 ≤ (ji75) then (if ((t263 == (-1)) == ((Go.bits .and .i64 (shr .i64 t247 (ji75)) 1) == 1)) = true then (if t263 = (-1) then ((impl_WorstOf.f kj7 t257 t258 t259 t260).bind fun t267 => ((impl_WorstOf.f kj7 t246 t247 t248 t249).bind fun t268 => (some (decide (t267 ≥ t268))))) else (if (ji75) < (t249.length : Int) then (if t263 = (rd t249 (ji75)) then ((impl_WorstOf.f kj7 t257 t258 t259 t260).bind fun t270 => (if t270 ≥ t263 then ((impl_WorstOf.f kj7 t257 t258 t259 t260).bind fun t271 => ((impl_WorstOf.f kj7 t246 t247 t248 t249).bind fun t272 => (some (decide (t271 ≥ t272))))) else (some false))) else (some false)) else (none))) else (some false)) else (none)) = some r := by first | (rw [hji75] at H; exact H) | (simp only [hji75] at H ⊢; exact H)
            by_cases c76 : 0 ≤ (ji75)
            · rw [if_pos c76] at H
              have c76b0 := eq_true c76
              have c76b1 : decide (0 ≤ (ji75)) = true := decide_eq_true c76
              clear c76
              obtain ⟨ji77, hji77⟩ : ∃ j_ : Int, (shr .i64 t247 (ji75)) = j_ := ⟨_, rfl⟩
              replace H : (if ((t263 == (-1)) == ((Go.bits .and .i64 (ji77) 1) == 1)) = true then (if t263 = (-1) then ((impl_WorstOf.f kj7 t257 t258 t259 t260).bind fun t267 => ((impl_WorstOf.f kj7 t246 t247 t248 t249).bind fun t268 => (some (decide (t267 ≥ t268))))) else (if (ji75) < (t249.length : Int) then (if t263 = (rd t249 (ji75)) then ((impl_WorstOf.f kj7 t257 t258 t259 t260).bind fun t270 => (if t270 ≥ t263 then ((impl_WorstOf.f kj7 t257 t258 t259 t260).bind fun t271 => ((impl_WorstOf.f kj7 t246 t247 t248 t249).bind fun t272 => (some (decide (t271 ≥ t272))))) else (some false))) else (some false)) else (none))) else (some false)) = some r := by first | (rw [hji77] at H; exact H) | (simp only [hji77] at H ⊢; exact H)
              have hji77_ : (t247 / 2 ^ min (ji75).toNat 64) = ji77 := hji77
              have hji77z : (ji75) ≤ 64 → (t247 / 2 ^ (ji75).toNat) = ji77 := shr_small hji77
              by_cases c78 : ((t263 == (-1)) == ((Go.bits .and .i64 (ji77) 1) == 1)) = true
              · rw [if_pos c78] at H
                have c78a := Aside0.mk c78
                clear c78
                by_cases c79 : t263 = (-1)
                · rw [if_pos c79] at H
                  have c79b0 : (t263 == (-1)) = true := beq_iff_eq.mpr c79
                  have c78e : Go.bits .and .i64 ji77 1 = 1 := by have h := c78a.out; rw [c79b0] at h; simpa using h
                  have c79b1 : (t263 != (-1)) = false := bne_eq_false_iff_eq.mpr c79
                  clear c79
                  replace H := Option.bind_eq_some_iff.mp H
                  obtain ⟨t267, A800, H⟩ := H
                  replace H : ((impl_WorstOf.f kj7 t246 t247 t248 t249).bind fun t268 => (some (decide (t267 ≥ t268)))) = some r := H
                  have A80 := Aside0.mk A800
                  clear A800
                  replace H := Option.bind_eq_some_iff.mp H
                  obtain ⟨t268, A810, H⟩ := H
                  replace H : (some (decide (t267 ≥ t268))) = some r := H
                  have A81 := Aside0.mk A810
                  clear A810
                  obtain rfl := Option.some.inj H
                  try go_wp2
                  have n0_ := Aside0.mk (Kd.R_drew HO_253003.out)
                  have n1_ := Aside0.mk (Kd.R_drew HO_265003.out)
                  have n2_ := Aside0.mk (blk_drew BK252.out)
                  have n3_ := Aside0.mk (blk_drew BK264.out)
                  have n4_ := Aside0.mk (below_drew1 HB.out)
                  clear HO_253003
                  clear HO_265003
                  clear BK252
                  clear BK264
                  clear HB
                  have HO_253003 := n0_
                  have HO_265003 := n1_
                  have BK252 := n2_
                  have BK264 := n3_
                  have HB := n4_
                  clear n0_ n1_ n2_ n3_ n4_
                  refine start_ (n := 36) (S := fun w' => w'.cell? ⟨gb252, 0, none⟩ = some (.int .i64 t246) ∧ w'.cell? ⟨gb252, 1, none⟩ = some (.int .i64 t247) ∧ w'.cell? ⟨gb252, 2, none⟩ = some (.int .i64 t248) ∧ w'.cell? ⟨gb252, 3, none⟩ = some (.slice Ao12 t249.length co12) ∧ w'.cell? ⟨gb264, 0, none⟩ = some (.int .i64 t257) ∧ w'.cell? ⟨gb264, 1, none⟩ = some (.int .i64 t258) ∧ w'.cell? ⟨gb264, 2, none⟩ = some (.int .i64 t259) ∧ w'.cell? ⟨gb264, 3, none⟩ = some (.slice Ao20 t260.length co20)) (ds := []) (bt_ 36 0) (by kernel_rfl) rfl (by kernel_rfl) ⟨(blk_cell BK252.out 0).trans rfl, (blk_cell BK252.out 1).trans rfl, (blk_cell BK252.out 2).trans rfl, (blk_cell BK252.out 3).trans rfl, (blk_cell BK264.out 0).trans rfl, (blk_cell BK264.out 1).trans rfl, (blk_cell BK264.out 2).trans rfl, (blk_cell BK264.out 3).trans rfl⟩ (fun hHeld => ?_); refine with_tabW laws_FnLogs.tab9 laws_FnLogs.bits9 (fun HT_ HW_ => ?_)
                  generalize wc.drew = w82 at HO_253003 HO_265003 BK252 BK264 HB hHeld ⊢
                  refine pure_ (i := 0) (N := some 73) (v := ?_) (a' := ?_) (bt_ 36 1) rfl rfl (any_of HT_.out (by kernel_rfl)) (fun _ _ _ h => h) (Or.inl ⟨by kernel_rfl, ?_⟩) ?_ ?_
                  rotate_left; · intro w'; go_simp; with_reducible rfl
                  rotate_left; · simp only [Act.put, sa_, sb_, sc_, i64_w, i32_w]; rfl
                  refine pure_ (i := 1) (N := some 74) (v := ?_) (a' := ?_) (bt_ 36 3) rfl rfl (any_of HT_.out (by kernel_rfl)) (fun _ _ _ h => h) (Or.inl ⟨by kernel_rfl, ?_⟩) ?_ ?_
                  rotate_left; · intro w'; go_simp; with_reducible rfl
                  rotate_left; · simp only [Act.put, sa_, sb_, sc_, i64_w, i32_w]; rfl
                  refine pure_ (i := 2) (N := some 75) (v := ?_) (a' := ?_) (bt_ 36 7) rfl rfl (any_of HT_.out (by kernel_rfl)) (fun _ _ _ h => h) (Or.inl ⟨by kernel_rfl, ?_⟩) ?_ ?_
                  rotate_left; · intro w'; go_simp; with_reducible rfl
                  rotate_left; · simp only [Act.put, sa_, sb_, sc_, i64_w, i32_w]; rfl
                  refine pure_ (i := 4) (N := some 77) (v := ?_) (a' := ?_) (bt_ 36 0x17) rfl rfl (any_of HT_.out (by kernel_rfl)) (fun _ _ _ h => h) (Or.inl ⟨by kernel_rfl, ?_⟩) ?_ ?_
                  rotate_left; · intro w'; go_simp; with_reducible rfl
                  rotate_left; · simp only [Act.put, sa_, sb_, sc_, i64_w, i32_w]; rfl
                  refine take_ (i := 3) (N := some 76) (v := ?_) (a' := ?_) (bt_ 36 0x1f) rfl rfl (take_ofW HT_.out HW_.out (by kernel_rfl)) (fun _ _ _ h => h) (Or.inl ⟨by rfl, ?_⟩) hHeld ?_ ?_
                  rotate_left
                  · rintro w' ⟨s0, s1, s2, s3, s4, s5, s6, s7⟩
                    go_simp
                    with_reducible rfl
                  rotate_left; · simp only [Act.put, sa_, sb_, sc_, i64_w, i32_w]; rfl
                  refine pure_ (i := 5) (N := some 78) (v := ?_) (a' := ?_) (bt_ 36 0x3f) rfl rfl (any_of HT_.out (by kernel_rfl)) (fun _ _ _ h => h) (Or.inl ⟨by kernel_rfl, ?_⟩) ?_ ?_
                  rotate_left; · intro w'; go_simp; with_reducible rfl
                  rotate_left; · simp only [Act.put, sa_, sb_, sc_, i64_w, i32_w]; rfl
                  refine pure_ (i := 6) (N := some 79) (v := ?_) (a' := ?_) (bt_ 36 0x7f) rfl rfl (any_of HT_.out (by kernel_rfl)) (fun _ _ _ h => h) (Or.inl ⟨by kernel_rfl, ?_⟩) ?_ ?_
                  rotate_left; · intro w'; go_simp; with_reducible rfl
                  rotate_left; · simp only [Act.put, sa_, sb_, sc_, i64_w, i32_w]; rfl
                  refine pure_ (i := 7) (N := some 80) (v := ?_) (a' := ?_) (bt_ 36 0xff) rfl rfl (any_of HT_.out (by kernel_rfl)) (fun _ _ _ h => h) (Or.inl ⟨by kernel_rfl, ?_⟩) ?_ ?_
                  rotate_left; · intro w'; go_simp; with_reducible rfl
                  rotate_left; · simp only [Act.put, sa_, sb_, sc_, i64_w, i32_w]; rfl
                  refine pure_ (i := 8) (N := some 81) (v := ?_) (a' := ?_) (bt_ 36 0x1ff) rfl rfl (any_of HT_.out (by kernel_rfl)) (fun _ _ _ h => h) (Or.inl ⟨by kernel_rfl, ?_⟩) ?_ ?_
                  rotate_left; · intro w'; go_simp; with_reducible rfl
                  rotate_left; · simp only [Act.put, sa_, sb_, sc_, i64_w, i32_w]; rfl
                  refine pure_ (i := 9) (N := some 82) (v := ?_) (a' := ?_) (bt_ 36 0x3ff) rfl rfl (any_of HT_.out (by kernel_rfl)) (fun _ _ _ h => h) (Or.inl ⟨by kernel_rfl, ?_⟩) ?_ ?_
                  rotate_left; · intro w'; go_simp; with_reducible rfl
                  rotate_left; · simp only [Act.put, sa_, sb_, sc_, i64_w, i32_w]; rfl
                  refine pure_ (i := 10) (N := some 83) (v := ?_) (a' := ?_) (bt_ 36 0x7ff) rfl rfl (any_of HT_.out (by kernel_rfl)) (fun _ _ _ h => h) (Or.inl ⟨by kernel_rfl, ?_⟩) ?_ ?_
                  rotate_left; · intro w'; go_simp; with_reducible rfl
                  rotate_left; · simp only [Act.put, sa_, sb_, sc_, i64_w, i32_w]; rfl
                  refine pure_ (i := 11) (N := some 84) (v := ?_) (a' := ?_) (bt_ 36 0xfff) rfl rfl (any_of HT_.out (by kernel_rfl)) (fun _ _ _ h => h) (Or.inl ⟨by kernel_rfl, ?_⟩) ?_ ?_
                  rotate_left; · intro w'; go_simp; with_reducible rfl
                  rotate_left; · simp only [Act.put, sa_, sb_, sc_, i64_w, i32_w]; rfl
                  refine pure_ (i := 12) (N := some 85) (v := ?_) (a' := ?_) (bt_ 36 0x1fff) rfl rfl (any_of HT_.out (by kernel_rfl)) (fun _ _ _ h => h) (Or.inl ⟨by kernel_rfl, ?_⟩) ?_ ?_
                  rotate_left; · intro w'; go_simp; with_reducible rfl
                  rotate_left; · simp only [Act.put, sa_, sb_, sc_, i64_w, i32_w]; rfl
                  refine pure_ (i := 13) (N := some 86) (v := undef) (a' := ?_) (bt_ 36 0x3fff) rfl rfl (any_of HT_.out (by kernel_rfl)) (fun _ _ _ h => h) (Or.inr ⟨by rfl, rfl⟩) ?_ ?_
                  rotate_left; · simp only [Act.put, sa_, sb_, sc_, i64_w, i32_w]; rfl
                  refine pure_ (i := 14) (N := some 87) (v := undef) (a' := ?_) (bt_ 36 0x7fff) rfl rfl (any_of HT_.out (by kernel_rfl)) (fun _ _ _ h => h) (Or.inr ⟨by rfl, rfl⟩) ?_ ?_
                  rotate_left; · simp only [Act.put, sa_, sb_, sc_, i64_w, i32_w]; rfl
                  refine pure_ (i := 15) (N := some 88) (v := undef) (a' := ?_) (bt_ 36 0xffff) rfl rfl (any_of HT_.out (by kernel_rfl)) (fun _ _ _ h => h) (Or.inr ⟨by rfl, rfl⟩) ?_ ?_
                  rotate_left; · simp only [Act.put, sa_, sb_, sc_, i64_w, i32_w]; rfl
                  refine pure_ (i := 16) (N := some 89) (v := undef) (a' := ?_) (bt_ 36 0x1ffff) rfl rfl (any_of HT_.out (by kernel_rfl)) (fun _ _ _ h => h) (Or.inr ⟨by rfl, rfl⟩) ?_ ?_
                  rotate_left; · simp only [Act.put, sa_, sb_, sc_, i64_w, i32_w]; rfl
                  refine pure_ (i := 17) (N := some 90) (v := undef) (a' := ?_) (bt_ 36 0x3ffff) rfl rfl (any_of HT_.out (by kernel_rfl)) (fun _ _ _ h => h) (Or.inr ⟨by rfl, rfl⟩) ?_ ?_
                  rotate_left; · simp only [Act.put, sa_, sb_, sc_, i64_w, i32_w]; rfl
                  refine pure_ (i := 18) (N := some 91) (v := undef) (a' := ?_) (bt_ 36 0x7ffff) rfl rfl (any_of HT_.out (by kernel_rfl)) (fun _ _ _ h => h) (Or.inr ⟨by rfl, rfl⟩) ?_ ?_
                  rotate_left; · simp only [Act.put, sa_, sb_, sc_, i64_w, i32_w]; rfl
                  refine pure_ (i := 19) (N := some 92) (v := undef) (a' := ?_) (bt_ 36 0xfffff) rfl rfl (any_of HT_.out (by kernel_rfl)) (fun _ _ _ h => h) (Or.inr ⟨by rfl, rfl⟩) ?_ ?_
                  rotate_left; · simp only [Act.put, sa_, sb_, sc_, i64_w, i32_w]; rfl
                  refine pure_ (i := 20) (N := some 93) (v := undef) (a' := ?_) (bt_ 36 0x1fffff) rfl rfl (any_of HT_.out (by kernel_rfl)) (fun _ _ _ h => h) (Or.inr ⟨by rfl, rfl⟩) ?_ ?_
                  rotate_left; · simp only [Act.put, sa_, sb_, sc_, i64_w, i32_w]; rfl
                  refine pure_ (i := 21) (N := some 94) (v := undef) (a' := ?_) (bt_ 36 0x3fffff) rfl rfl (any_of HT_.out (by kernel_rfl)) (fun _ _ _ h => h) (Or.inr ⟨by rfl, rfl⟩) ?_ ?_
                  rotate_left; · simp only [Act.put, sa_, sb_, sc_, i64_w, i32_w]; rfl
                  refine pure_ (i := 22) (N := some 95) (v := undef) (a' := ?_) (bt_ 36 0x7fffff) rfl rfl (any_of HT_.out (by kernel_rfl)) (fun _ _ _ h => h) (Or.inr ⟨by rfl, rfl⟩) ?_ ?_
                  rotate_left; · simp only [Act.put, sa_, sb_, sc_, i64_w, i32_w]; rfl
                  refine pure_ (i := 23) (N := some 96) (v := undef) (a' := ?_) (bt_ 36 0xffffff) rfl rfl (any_of HT_.out (by kernel_rfl)) (fun _ _ _ h => h) (Or.inr ⟨by rfl, rfl⟩) ?_ ?_
                  rotate_left; · simp only [Act.put, sa_, sb_, sc_, i64_w, i32_w]; rfl
                  refine pure_ (i := 24) (N := some 97) (v := undef) (a' := ?_) (bt_ 36 0x1ffffff) rfl rfl (any_of HT_.out (by kernel_rfl)) (fun _ _ _ h => h) (Or.inr ⟨by rfl, rfl⟩) ?_ ?_
                  rotate_left; · simp only [Act.put, sa_, sb_, sc_, i64_w, i32_w]; rfl
                  refine pure_ (i := 25) (N := some 98) (v := undef) (a' := ?_) (bt_ 36 0x3ffffff) rfl rfl (any_of HT_.out (by kernel_rfl)) (fun _ _ _ h => h) (Or.inr ⟨by rfl, rfl⟩) ?_ ?_
                  rotate_left; · simp only [Act.put, sa_, sb_, sc_, i64_w, i32_w]; rfl
                  refine pure_ (i := 26) (N := some 99) (v := ?_) (a' := ?_) (bt_ 36 0x7ffffff) rfl rfl (any_of HT_.out (by kernel_rfl)) (fun _ _ _ h => h) (Or.inl ⟨by kernel_rfl, ?_⟩) ?_ ?_
                  rotate_left; · intro w'; go_simp; with_reducible rfl
                  rotate_left; · simp only [Act.put, sa_, sb_, sc_, i64_w, i32_w]; rfl
                  refine pure_ (i := 27) (N := some 100) (v := ?_) (a' := ?_) (bt_ 36 0xfffffff) rfl rfl (any_of HT_.out (by kernel_rfl)) (fun _ _ _ h => h) (Or.inl ⟨by kernel_rfl, ?_⟩) ?_ ?_
                  rotate_left; · intro w'; go_simp; with_reducible rfl
                  rotate_left; · simp only [Act.put, sa_, sb_, sc_, i64_w, i32_w]; rfl
                  refine pure_ (i := 28) (N := some 101) (v := ?_) (a' := ?_) (bt_ 36 0x1fffffff) rfl rfl (any_of HT_.out (by kernel_rfl)) (fun _ _ _ h => h) (Or.inl ⟨by kernel_rfl, ?_⟩) ?_ ?_
                  rotate_left; · intro w'; go_simp; with_reducible rfl
                  rotate_left; · simp only [Act.put, sa_, sb_, sc_, i64_w, i32_w]; rfl
                  refine take_ (i := 29) (N := some 102) (v := ?_) (a' := ?_) (bt_ 36 0x3fffffff) rfl rfl (take_ofW HT_.out HW_.out (by kernel_rfl)) (fun _ _ _ h => h) (Or.inl ⟨by rfl, ?_⟩) hHeld ?_ ?_
                  rotate_left
                  · rintro w' ⟨s0, s1, s2, s3, s4, s5, s6, s7⟩
                    go_simp
                    with_reducible rfl
                  rotate_left; · simp only [Act.put, sa_, sb_, sc_, i64_w, i32_w]; rfl
                  refine take_ (i := 31) (N := some 104) (v := ?_) (a' := ?_) (bt_ 36 0xbfffffff) rfl rfl (take_ofW HT_.out HW_.out (by kernel_rfl)) (fun _ _ _ h => h) (Or.inl ⟨by rfl, ?_⟩) hHeld ?_ ?_
                  rotate_left
                  · rintro w' ⟨s0, s1, s2, s3, s4, s5, s6, s7⟩
                    go_simp
                    with_reducible rfl
                  rotate_left; · simp only [Act.put, sa_, sb_, sc_, i64_w, i32_w]; rfl
                  refine one_ (i := 30) (N := some 103) (bt_ 36 0xffffffff) rfl rfl (one_of HT_.out (by kernel_rfl)) (by decide) (fun K hK => ?_)
                  refine goes_ Try.func16 (by kernel_rfl) rfl #[.agg #[.int .i64 t257, .int .i64 t258, .int .i64 t259, .slice Ao20 t260.length co20]] (by rfl) rfl rfl (by (try simp only [List.map_toArray, List.map_cons, List.map_nil]); first | done | rfl | (simp only [List.length_drop, List.length_take]; rfl)) ?_
                  with_reducible refine (impl_WorstOf.calls kj7 t257 t258 t259 _ _ t260 t267 _ ?side1 ?side2 A80.out).mono ?_
                  (case side1 => repeat (first | exact (Kd.R_reads' HO_265003.out).2.2 | (with_reducible refine Kd.C_alloc ?_ _) | (with_reducible refine Kd.C_drewN ?_ _) | (with_reducible refine Kd.C_drew ?_)))
                  (case side2 => exact (Kd.R_reads' HO_265003.out).2.1)
                  rintro e w83 ⟨rfl, hb⟩
                  refine ⟨_, rfl, ?_⟩
                  have n0_ := Aside0.mk (Kd.R_below (by (with_reducible repeat (first | apply ra_ | apply rb_ | apply rc_)); exact HO_253003.out) hb)
                  have n1_ := Aside0.mk (Kd.R_below (by (with_reducible repeat (first | apply ra_ | apply rb_ | apply rc_)); exact HO_265003.out) hb)
                  have n2_ := Aside0.mk (blk_below (g := gb252) (o := .cells #[.int .i64 t246, .int .i64 t247, .int .i64 t248, .slice Ao12 t249.length co12] 29 (0, 0)) (bu_ BK252) hb)
                  have n3_ := Aside0.mk (blk_below (g := gb264) (o := .cells #[.int .i64 t257, .int .i64 t258, .int .i64 t259, .slice Ao20 t260.length co20] 29 (0, 0)) (bu_ BK264) hb)
                  have n4_ := Aside0.mk (below_step (by repeat (first | (with_reducible first | exact HB.out | apply below_alloc | apply pw_below_drewN | apply below_drew1 | refine below_set ?_ GE252.out | refine below_set ?_ GE264.out) | exact HB.out)) hb)
                  clear HO_253003
                  clear HO_265003
                  clear BK252
                  clear BK264
                  clear HB
                  have HO_253003 := n0_
                  have HO_265003 := n1_
                  have BK252 := n2_
                  have BK264 := n3_
                  have HB := n4_
                  clear n0_ n1_ n2_ n3_ n4_
                  (try clear hb)
                  (try clear hb2)
                  (try clear hk)
                  (try clear hi)
                  refine hK.out _ _ ⟨(blk_cell BK252.out 0).trans rfl, (blk_cell BK252.out 1).trans rfl, (blk_cell BK252.out 2).trans rfl, (blk_cell BK252.out 3).trans rfl, (blk_cell BK264.out 0).trans rfl, (blk_cell BK264.out 1).trans rfl, (blk_cell BK264.out 2).trans rfl, (blk_cell BK264.out 3).trans rfl⟩ (fun hHeld => ?_)
                  clear hK K
                  refine norm_ (a' := ?_) ?_ ?_
                  rotate_left
                  · show Act.put _ (some 103) _ = _
                    simp only [Act.put, sa_, sb_, sc_, i64_w, i32_w]
                    rfl
                  refine one_ (i := 32) (N := some 105) (bt_ 36 0x1ffffffff) rfl rfl (one_of HT_.out (by kernel_rfl)) (by decide) (fun K hK => ?_)
                  refine goes_ Try.func16 (by kernel_rfl) rfl #[.agg #[.int .i64 t246, .int .i64 t247, .int .i64 t248, .slice Ao12 t249.length co12]] (by rfl) rfl rfl (by (try simp only [List.map_toArray, List.map_cons, List.map_nil]); first | done | rfl | (simp only [List.length_drop, List.length_take]; rfl)) ?_
                  with_reducible refine (impl_WorstOf.calls kj7 t246 t247 t248 _ _ t249 t268 _ ?side1 ?side2 A81.out).mono ?_
                  (case side1 => repeat (first | exact (Kd.R_reads' HO_253003.out).2.2 | (with_reducible refine Kd.C_alloc ?_ _) | (with_reducible refine Kd.C_drewN ?_ _) | (with_reducible refine Kd.C_drew ?_)))
                  (case side2 => exact (Kd.R_reads' HO_253003.out).2.1)
                  rintro e w84 ⟨rfl, hb⟩
                  refine ⟨_, rfl, ?_⟩
                  have n0_ := Aside0.mk (Kd.R_below (by (with_reducible repeat (first | apply ra_ | apply rb_ | apply rc_)); exact HO_253003.out) hb)
                  have n1_ := Aside0.mk (Kd.R_below (by (with_reducible repeat (first | apply ra_ | apply rb_ | apply rc_)); exact HO_265003.out) hb)
                  have n2_ := Aside0.mk (blk_below (g := gb252) (o := .cells #[.int .i64 t246, .int .i64 t247, .int .i64 t248, .slice Ao12 t249.length co12] 29 (0, 0)) (bu_ BK252) hb)
                  have n3_ := Aside0.mk (blk_below (g := gb264) (o := .cells #[.int .i64 t257, .int .i64 t258, .int .i64 t259, .slice Ao20 t260.length co20] 29 (0, 0)) (bu_ BK264) hb)
                  have n4_ := Aside0.mk (below_step (by repeat (first | (with_reducible first | exact HB.out | apply below_alloc | apply pw_below_drewN | apply below_drew1 | refine below_set ?_ GE252.out | refine below_set ?_ GE264.out) | exact HB.out)) hb)
                  clear HO_253003
                  clear HO_265003
                  clear BK252
                  clear BK264
                  clear HB
                  have HO_253003 := n0_
                  have HO_265003 := n1_
                  have BK252 := n2_
                  have BK264 := n3_
                  have HB := n4_
                  clear n0_ n1_ n2_ n3_ n4_
                  (try clear hb)
                  (try clear hb2)
                  (try clear hk)
                  (try clear hi)
                  refine hK.out _ _ ⟨(blk_cell BK252.out 0).trans rfl, (blk_cell BK252.out 1).trans rfl, (blk_cell BK252.out 2).trans rfl, (blk_cell BK252.out 3).trans rfl, (blk_cell BK264.out 0).trans rfl, (blk_cell BK264.out 1).trans rfl, (blk_cell BK264.out 2).trans rfl, (blk_cell BK264.out 3).trans rfl⟩ (fun hHeld => ?_)
                  clear hK K
                  refine norm_ (a' := ?_) ?_ ?_
                  rotate_left
                  · show Act.put _ (some 105) _ = _
                    simp only [Act.put, sa_, sb_, sc_, i64_w, i32_w]
                    rfl
                  refine pure_ (i := 33) (N := some 106) (v := ?_) (a' := ?_) (bt_ 36 0x3ffffffff) rfl rfl (any_of HT_.out (by kernel_rfl)) (fun _ _ _ h => h) (Or.inl ⟨by kernel_rfl, ?_⟩) ?_ ?_
                  rotate_left; · intro w'; go_simp; with_reducible rfl
                  rotate_left; · simp only [Act.put, sa_, sb_, sc_, i64_w, i32_w]; rfl
                  refine pure_ (i := 34) (N := some 107) (v := ?_) (a' := ?_) (bt_ 36 0x7ffffffff) rfl rfl (any_of HT_.out (by kernel_rfl)) (fun _ _ _ h => h) (Or.inl ⟨by kernel_rfl, ?_⟩) ?_ ?_
                  rotate_left; · intro w'; go_simp; with_reducible rfl
                  rotate_left; · simp only [Act.put, sa_, sb_, sc_, i64_w, i32_w]; rfl
                  refine pure_ (i := 35) (N := some 2) (v := ?_) (a' := ?_) (bt_ 36 0xfffffffff) rfl rfl (any_of HT_.out (by kernel_rfl)) (fun _ _ _ h => h) (Or.inl ⟨by kernel_rfl, ?_⟩) ?_ ?_
                  rotate_left; · intro w'; go_simp; with_reducible rfl
                  rotate_left; · simp only [Act.put, sa_, sb_, sc_, i64_w, i32_w]; rfl
                  refine done_ (done_of HT_.out (by kernel_rfl)) ?_
                  try go_wp2
                  go_ret
                  exact ⟨by first | rfl | (simp [errW_none, errW_some] <;> rfl) | (simp only [← hji75, ← hji77]; first | rfl | (simp [errW_none, errW_some] <;> rfl)) | (simp [*, errW_none, errW_some] <;> rfl), by repeat (first | (with_reducible first | exact HB.out | apply below_alloc | apply pw_below_drewN | apply below_drew1 | refine below_set ?_ GE252.out | refine below_set ?_ GE264.out) | exact HB.out)⟩
                · rw [if_neg c79] at H
                  have c79b0 : (t263 == (-1)) = false := beq_eq_false_iff_ne.mpr c79
                  have c78e : (Go.bits .and .i64 ji77 1 == 1) = false := by have h := c78a.out; rw [c79b0] at h; simpa using h
                  have c79b1 : (t263 != (-1)) = true := bne_iff_ne.mpr c79
                  by_cases c85 : (ji75) < (t249.length : Int)
                  · rw [if_pos c85] at H
                    have c85b0 : decide ((ji75) < (t249.length : Int)) = true := decide_eq_true c85
                    clear c85
                    by_cases c86 : t263 = (rd t249 (ji75))
                    · rw [if_pos c86] at H
                      have c86b0 : (t263 == (rd t249 (ji75))) = true := beq_iff_eq.mpr c86
                      have c86b1 : (t263 != (rd t249 (ji75))) = false := bne_eq_false_iff_eq.mpr c86
                      clear c86
                      replace H := Option.bind_eq_some_iff.mp H
                      obtain ⟨t270, A870, H⟩ := H
                      replace H : (if t270 ≥ t263 then ((impl_WorstOf.f kj7 t257 t258 t259 t260).bind fun t271 => ((impl_WorstOf.f kj7 t246 t247 t248 t249).bind fun t272 => (some (decide (t271 ≥ t272))))) else (some false)) = some r := H
                      have A87 := Aside0.mk A870
                      clear A870
                      by_cases c88 : t270 ≥ t263
                      · rw [if_pos c88] at H
                        have c88b0 : decide (t263 ≤ t270) = true := decide_eq_true c88
                        clear c88
                        replace H := Option.bind_eq_some_iff.mp H
                        obtain ⟨t271, A890, H⟩ := H
                        replace H : ((impl_WorstOf.f kj7 t246 t247 t248 t249).bind fun t272 => (some (decide (t271 ≥ t272)))) = some r := H
                        have A89 := Aside0.mk A890
                        clear A890
                        replace H := Option.bind_eq_some_iff.mp H
                        obtain ⟨t272, A900, H⟩ := H
                        replace H : (some (decide (t271 ≥ t272))) = some r := H
                        have A90 := Aside0.mk A900
                        clear A900
                        obtain rfl := Option.some.inj H
                        try go_wp2
                        have n0_ := Aside0.mk (Kd.R_drew HO_253003.out)
                        have n1_ := Aside0.mk (Kd.R_drew HO_265003.out)
                        have n2_ := Aside0.mk (blk_drew BK252.out)
                        have n3_ := Aside0.mk (blk_drew BK264.out)
                        have n4_ := Aside0.mk (below_drew1 HB.out)
                        clear HO_253003
                        clear HO_265003
                        clear BK252
                        clear BK264
                        clear HB
                        have HO_253003 := n0_
                        have HO_265003 := n1_
                        have BK252 := n2_
                        have BK264 := n3_
                        have HB := n4_
                        clear n0_ n1_ n2_ n3_ n4_
                        have p269 : 0 ≤ ((ji75) : Int) := of_decide_eq_true (by first | (with_reducible assumption) | assumption)
                        have q269 : (ji75) < (t249.length : Int) := of_decide_eq_true (by first | (with_reducible assumption) | assumption)
                        obtain ⟨ad269, e269, hx269_0⟩ := Kd.at_int (Kd.R_reads' HO_253003.out).2.2 (ji75) p269 q269
                        cases e269
                        replace p269 := eq_true p269
                        replace q269 := eq_true q269
                        refine start_ (n := 36) (S := fun w' => w'.cell? ⟨gb252, 0, none⟩ = some (.int .i64 t246) ∧ w'.cell? ⟨gb252, 1, none⟩ = some (.int .i64 t247) ∧ w'.cell? ⟨gb252, 2, none⟩ = some (.int .i64 t248) ∧ w'.cell? ⟨gb252, 3, none⟩ = some (.slice (some ad269) t249.length co12) ∧ w'.cell? ⟨gb264, 0, none⟩ = some (.int .i64 t257) ∧ w'.cell? ⟨gb264, 1, none⟩ = some (.int .i64 t258) ∧ w'.cell? ⟨gb264, 2, none⟩ = some (.int .i64 t259) ∧ w'.cell? ⟨gb264, 3, none⟩ = some (.slice Ao20 t260.length co20) ∧ w'.cell? (ad269.add ((ji75)).toNat) = some (.int .i64 (rd t249 (ji75)))) (ds := []) (bt_ 36 0) (by kernel_rfl) rfl (by kernel_rfl) ⟨(blk_cell BK252.out 0).trans rfl, (blk_cell BK252.out 1).trans rfl, (blk_cell BK252.out 2).trans rfl, (blk_cell BK252.out 3).trans rfl, (blk_cell BK264.out 0).trans rfl, (blk_cell BK264.out 1).trans rfl, (blk_cell BK264.out 2).trans rfl, (blk_cell BK264.out 3).trans rfl, hx269_0⟩ (fun hHeld => ?_); refine with_tabW laws_FnLogs.tab9 laws_FnLogs.bits9 (fun HT_ HW_ => ?_)
                        generalize wc.drew = w91 at HO_253003 HO_265003 BK252 BK264 HB hx269_0 hHeld ⊢
                        refine pure_ (i := 0) (N := some 73) (v := ?_) (a' := ?_) (bt_ 36 1) rfl rfl (any_of HT_.out (by kernel_rfl)) (fun _ _ _ h => h) (Or.inl ⟨by kernel_rfl, ?_⟩) ?_ ?_
                        rotate_left; · intro w'; go_simp; with_reducible rfl
                        rotate_left; · simp only [Act.put, sa_, sb_, sc_, i64_w, i32_w]; rfl
                        refine pure_ (i := 1) (N := some 74) (v := ?_) (a' := ?_) (bt_ 36 3) rfl rfl (any_of HT_.out (by kernel_rfl)) (fun _ _ _ h => h) (Or.inl ⟨by kernel_rfl, ?_⟩) ?_ ?_
                        rotate_left; · intro w'; go_simp; with_reducible rfl
                        rotate_left; · simp only [Act.put, sa_, sb_, sc_, i64_w, i32_w]; rfl
                        refine pure_ (i := 2) (N := some 75) (v := ?_) (a' := ?_) (bt_ 36 7) rfl rfl (any_of HT_.out (by kernel_rfl)) (fun _ _ _ h => h) (Or.inl ⟨by kernel_rfl, ?_⟩) ?_ ?_
                        rotate_left; · intro w'; go_simp; with_reducible rfl
                        rotate_left; · simp only [Act.put, sa_, sb_, sc_, i64_w, i32_w]; rfl
                        refine pure_ (i := 4) (N := some 77) (v := ?_) (a' := ?_) (bt_ 36 0x17) rfl rfl (any_of HT_.out (by kernel_rfl)) (fun _ _ _ h => h) (Or.inl ⟨by kernel_rfl, ?_⟩) ?_ ?_
                        rotate_left; · intro w'; go_simp; with_reducible rfl
                        rotate_left; · simp only [Act.put, sa_, sb_, sc_, i64_w, i32_w]; rfl
                        refine take_ (i := 3) (N := some 76) (v := ?_) (a' := ?_) (bt_ 36 0x1f) rfl rfl (take_ofW HT_.out HW_.out (by kernel_rfl)) (fun _ _ _ h => h) (Or.inl ⟨by rfl, ?_⟩) hHeld ?_ ?_
                        rotate_left
                        · rintro w' ⟨s0, s1, s2, s3, s4, s5, s6, s7, s8⟩
                          go_simp
                          with_reducible rfl
                        rotate_left; · simp only [Act.put, sa_, sb_, sc_, i64_w, i32_w]; rfl
                        refine pure_ (i := 5) (N := some 78) (v := ?_) (a' := ?_) (bt_ 36 0x3f) rfl rfl (any_of HT_.out (by kernel_rfl)) (fun _ _ _ h => h) (Or.inl ⟨by kernel_rfl, ?_⟩) ?_ ?_
                        rotate_left; · intro w'; go_simp; with_reducible rfl
                        rotate_left; · simp only [Act.put, sa_, sb_, sc_, i64_w, i32_w]; rfl
                        refine pure_ (i := 6) (N := some 79) (v := ?_) (a' := ?_) (bt_ 36 0x7f) rfl rfl (any_of HT_.out (by kernel_rfl)) (fun _ _ _ h => h) (Or.inl ⟨by kernel_rfl, ?_⟩) ?_ ?_
                        rotate_left; · intro w'; go_simp; with_reducible rfl
                        rotate_left; · simp only [Act.put, sa_, sb_, sc_, i64_w, i32_w]; rfl
                        refine pure_ (i := 7) (N := some 80) (v := ?_) (a' := ?_) (bt_ 36 0xff) rfl rfl (any_of HT_.out (by kernel_rfl)) (fun _ _ _ h => h) (Or.inl ⟨by kernel_rfl, ?_⟩) ?_ ?_
                        rotate_left; · intro w'; go_simp; with_reducible rfl
                        rotate_left; · simp only [Act.put, sa_, sb_, sc_, i64_w, i32_w]; rfl
                        refine pure_ (i := 8) (N := some 81) (v := ?_) (a' := ?_) (bt_ 36 0x1ff) rfl rfl (any_of HT_.out (by kernel_rfl)) (fun _ _ _ h => h) (Or.inl ⟨by kernel_rfl, ?_⟩) ?_ ?_
                        rotate_left; · intro w'; go_simp; with_reducible rfl
                        rotate_left; · simp only [Act.put, sa_, sb_, sc_, i64_w, i32_w]; rfl
                        refine pure_ (i := 9) (N := some 82) (v := ?_) (a' := ?_) (bt_ 36 0x3ff) rfl rfl (any_of HT_.out (by kernel_rfl)) (fun _ _ _ h => h) (Or.inl ⟨by kernel_rfl, ?_⟩) ?_ ?_
                        rotate_left; · intro w'; go_simp; with_reducible rfl
                        rotate_left; · simp only [Act.put, sa_, sb_, sc_, i64_w, i32_w]; rfl
                        refine pure_ (i := 10) (N := some 83) (v := ?_) (a' := ?_) (bt_ 36 0x7ff) rfl rfl (any_of HT_.out (by kernel_rfl)) (fun _ _ _ h => h) (Or.inl ⟨by kernel_rfl, ?_⟩) ?_ ?_
                        rotate_left; · intro w'; go_simp; with_reducible rfl
                        rotate_left; · simp only [Act.put, sa_, sb_, sc_, i64_w, i32_w]; rfl
                        refine pure_ (i := 11) (N := some 84) (v := ?_) (a' := ?_) (bt_ 36 0xfff) rfl rfl (any_of HT_.out (by kernel_rfl)) (fun _ _ _ h => h) (Or.inl ⟨by kernel_rfl, ?_⟩) ?_ ?_
                        rotate_left; · intro w'; go_simp; with_reducible rfl
                        rotate_left; · simp only [Act.put, sa_, sb_, sc_, i64_w, i32_w]; rfl
                        refine pure_ (i := 12) (N := some 85) (v := ?_) (a' := ?_) (bt_ 36 0x1fff) rfl rfl (any_of HT_.out (by kernel_rfl)) (fun _ _ _ h => h) (Or.inl ⟨by kernel_rfl, ?_⟩) ?_ ?_
                        rotate_left; · intro w'; go_simp; with_reducible rfl
                        rotate_left; · simp only [Act.put, sa_, sb_, sc_, i64_w, i32_w]; rfl
                        refine pure_ (i := 13) (N := some 86) (v := ?_) (a' := ?_) (bt_ 36 0x3fff) rfl rfl (any_of HT_.out (by kernel_rfl)) (fun _ _ _ h => h) (Or.inl ⟨by kernel_rfl, ?_⟩) ?_ ?_
                        rotate_left; · intro w'; go_simp; with_reducible rfl
                        rotate_left; · simp only [Act.put, sa_, sb_, sc_, i64_w, i32_w]; rfl
                        refine pure_ (i := 14) (N := some 87) (v := ?_) (a' := ?_) (bt_ 36 0x7fff) rfl rfl (any_of HT_.out (by kernel_rfl)) (fun _ _ _ h => h) (Or.inl ⟨by kernel_rfl, ?_⟩) ?_ ?_
                        rotate_left; · intro w'; go_simp; with_reducible rfl
                        rotate_left; · simp only [Act.put, sa_, sb_, sc_, i64_w, i32_w]; rfl
                        refine pure_ (i := 16) (N := some 89) (v := ?_) (a' := ?_) (bt_ 36 0x17fff) rfl rfl (any_of HT_.out (by kernel_rfl)) (fun _ _ _ h => h) (Or.inl ⟨by kernel_rfl, ?_⟩) ?_ ?_
                        rotate_left; · intro w'; go_simp; with_reducible rfl
                        rotate_left; · simp only [Act.put, sa_, sb_, sc_, i64_w, i32_w]; rfl
                        refine take_ (i := 15) (N := some 88) (v := ?_) (a' := ?_) (bt_ 36 0x1ffff) rfl rfl (take_ofW HT_.out HW_.out (by kernel_rfl)) (fun _ _ _ h => h) (Or.inl ⟨by rfl, ?_⟩) hHeld ?_ ?_
                        rotate_left
                        · rintro w' ⟨s0, s1, s2, s3, s4, s5, s6, s7, s8⟩
                          go_simp
                          with_reducible rfl
                        rotate_left; · simp only [Act.put, sa_, sb_, sc_, i64_w, i32_w]; rfl
                        refine pure_ (i := 17) (N := some 90) (v := ?_) (a' := ?_) (bt_ 36 0x3ffff) rfl rfl (any_of HT_.out (by kernel_rfl)) (fun _ _ _ h => h) (Or.inl ⟨by kernel_rfl, ?_⟩) ?_ ?_
                        rotate_left; · intro w'; go_simp; with_reducible rfl
                        rotate_left; · simp only [Act.put, sa_, sb_, sc_, i64_w, i32_w]; rfl
                        refine take_ (i := 18) (N := some 91) (v := ?_) (a' := ?_) (bt_ 36 0x7ffff) rfl rfl (take_ofW HT_.out HW_.out (by kernel_rfl)) (fun _ _ _ h => h) (Or.inl ⟨by rfl, ?_⟩) hHeld ?_ ?_
                        rotate_left
                        · rintro w' ⟨s0, s1, s2, s3, s4, s5, s6, s7, s8⟩
                          go_simp
                          with_reducible rfl
                        rotate_left; · simp only [Act.put, sa_, sb_, sc_, i64_w, i32_w]; rfl
                        refine pure_ (i := 19) (N := some 92) (v := ?_) (a' := ?_) (bt_ 36 0xfffff) rfl rfl (any_of HT_.out (by kernel_rfl)) (fun _ _ _ h => h) (Or.inl ⟨by kernel_rfl, ?_⟩) ?_ ?_
                        rotate_left; · intro w'; go_simp; with_reducible rfl
                        rotate_left; · simp only [Act.put, sa_, sb_, sc_, i64_w, i32_w]; rfl
                        refine pure_ (i := 20) (N := some 93) (v := ?_) (a' := ?_) (bt_ 36 0x1fffff) rfl rfl (any_of HT_.out (by kernel_rfl)) (fun _ _ _ h => h) (Or.inl ⟨by kernel_rfl, ?_⟩) ?_ ?_
                        rotate_left; · intro w'; go_simp; with_reducible rfl
                        rotate_left; · simp only [Act.put, sa_, sb_, sc_, i64_w, i32_w]; rfl
                        refine pure_ (i := 23) (N := some 96) (v := ?_) (a' := ?_) (bt_ 36 0x9fffff) rfl rfl (any_of HT_.out (by kernel_rfl)) (fun _ _ _ h => h) (Or.inl ⟨by kernel_rfl, ?_⟩) ?_ ?_
                        rotate_left; · intro w'; go_simp; with_reducible rfl
                        rotate_left; · simp only [Act.put, sa_, sb_, sc_, i64_w, i32_w]; rfl
                        refine take_ (i := 21) (N := some 94) (v := ?_) (a' := ?_) (bt_ 36 0xbfffff) rfl rfl (take_ofW HT_.out HW_.out (by kernel_rfl)) (fun _ _ _ h => h) (Or.inl ⟨by rfl, ?_⟩) hHeld ?_ ?_
                        rotate_left
                        · rintro w' ⟨s0, s1, s2, s3, s4, s5, s6, s7, s8⟩
                          go_simp
                          with_reducible rfl
                        rotate_left; · simp only [Act.put, sa_, sb_, sc_, i64_w, i32_w]; rfl
                        refine one_ (i := 22) (N := some 95) (bt_ 36 0xffffff) rfl rfl (one_of HT_.out (by kernel_rfl)) (by decide) (fun K hK => ?_)
                        refine goes_ Try.func16 (by kernel_rfl) rfl #[.agg #[.int .i64 t257, .int .i64 t258, .int .i64 t259, .slice Ao20 t260.length co20]] (by rfl) rfl rfl (by (try simp only [List.map_toArray, List.map_cons, List.map_nil]); first | done | rfl | (simp only [List.length_drop, List.length_take]; rfl)) ?_
                        with_reducible refine (impl_WorstOf.calls kj7 t257 t258 t259 _ _ t260 t270 _ ?side1 ?side2 A87.out).mono ?_
                        (case side1 => repeat (first | exact (Kd.R_reads' HO_265003.out).2.2 | (with_reducible refine Kd.C_alloc ?_ _) | (with_reducible refine Kd.C_drewN ?_ _) | (with_reducible refine Kd.C_drew ?_)))
                        (case side2 => exact (Kd.R_reads' HO_265003.out).2.1)
                        rintro e w92 ⟨rfl, hb⟩
                        have HS8_ := (hb.cell (World.block_lt_of_cell? _ _ (hHeld.2.2.2.2.2.2.2.2))).trans (hHeld.2.2.2.2.2.2.2.2)
                        refine ⟨_, rfl, ?_⟩
                        have n0_ := Aside0.mk (Kd.R_below (by (with_reducible repeat (first | apply ra_ | apply rb_ | apply rc_)); exact HO_253003.out) hb)
                        have n1_ := Aside0.mk (Kd.R_below (by (with_reducible repeat (first | apply ra_ | apply rb_ | apply rc_)); exact HO_265003.out) hb)
                        have n2_ := Aside0.mk (blk_below (g := gb252) (o := .cells #[.int .i64 t246, .int .i64 t247, .int .i64 t248, .slice (some ad269) t249.length co12] 29 (0, 0)) (bu_ BK252) hb)
                        have n3_ := Aside0.mk (blk_below (g := gb264) (o := .cells #[.int .i64 t257, .int .i64 t258, .int .i64 t259, .slice Ao20 t260.length co20] 29 (0, 0)) (bu_ BK264) hb)
                        have n4_ := Aside0.mk (below_step (by repeat (first | (with_reducible first | exact HB.out | apply below_alloc | apply pw_below_drewN | apply below_drew1 | refine below_set ?_ GE252.out | refine below_set ?_ GE264.out) | exact HB.out)) hb)
                        clear HO_253003
                        clear HO_265003
                        clear BK252
                        clear BK264
                        clear HB
                        have HO_253003 := n0_
                        have HO_265003 := n1_
                        have BK252 := n2_
                        have BK264 := n3_
                        have HB := n4_
                        clear n0_ n1_ n2_ n3_ n4_
                        (try clear hb)
                        (try clear hb2)
                        (try clear hk)
                        (try clear hi)
                        refine hK.out _ _ ⟨(blk_cell BK252.out 0).trans rfl, (blk_cell BK252.out 1).trans rfl, (blk_cell BK252.out 2).trans rfl, (blk_cell BK252.out 3).trans rfl, (blk_cell BK264.out 0).trans rfl, (blk_cell BK264.out 1).trans rfl, (blk_cell BK264.out 2).trans rfl, (blk_cell BK264.out 3).trans rfl, HS8_⟩ (fun hHeld => ?_)
                        clear hK K
                        refine norm_ (a' := ?_) ?_ ?_
                        rotate_left
                        · show Act.put _ (some 95) _ = _
                          simp only [Act.put, sa_, sb_, sc_, i64_w, i32_w]
                          rfl
                        refine pure_ (i := 24) (N := some 97) (v := ?_) (a' := ?_) (bt_ 36 0x1ffffff) rfl rfl (any_of HT_.out (by kernel_rfl)) (fun _ _ _ h => h) (Or.inl ⟨by kernel_rfl, ?_⟩) ?_ ?_
                        rotate_left; · intro w'; go_simp; with_reducible rfl
                        rotate_left; · simp only [Act.put, sa_, sb_, sc_, i64_w, i32_w]; rfl
                        refine pure_ (i := 25) (N := some 98) (v := ?_) (a' := ?_) (bt_ 36 0x3ffffff) rfl rfl (any_of HT_.out (by kernel_rfl)) (fun _ _ _ h => h) (Or.inl ⟨by kernel_rfl, ?_⟩) ?_ ?_
                        rotate_left; · intro w'; go_simp; with_reducible rfl
                        rotate_left; · simp only [Act.put, sa_, sb_, sc_, i64_w, i32_w]; rfl
                        refine pure_ (i := 26) (N := some 99) (v := ?_) (a' := ?_) (bt_ 36 0x7ffffff) rfl rfl (any_of HT_.out (by kernel_rfl)) (fun _ _ _ h => h) (Or.inl ⟨by kernel_rfl, ?_⟩) ?_ ?_
                        rotate_left; · intro w'; go_simp; with_reducible rfl
                        rotate_left; · simp only [Act.put, sa_, sb_, sc_, i64_w, i32_w]; rfl
                        refine pure_ (i := 27) (N := some 100) (v := ?_) (a' := ?_) (bt_ 36 0xfffffff) rfl rfl (any_of HT_.out (by kernel_rfl)) (fun _ _ _ h => h) (Or.inl ⟨by kernel_rfl, ?_⟩) ?_ ?_
                        rotate_left; · intro w'; go_simp; with_reducible rfl
                        rotate_left; · simp only [Act.put, sa_, sb_, sc_, i64_w, i32_w]; rfl
                        refine pure_ (i := 28) (N := some 101) (v := ?_) (a' := ?_) (bt_ 36 0x1fffffff) rfl rfl (any_of HT_.out (by kernel_rfl)) (fun _ _ _ h => h) (Or.inl ⟨by kernel_rfl, ?_⟩) ?_ ?_
                        rotate_left; · intro w'; go_simp; with_reducible rfl
                        rotate_left; · simp only [Act.put, sa_, sb_, sc_, i64_w, i32_w]; rfl
                        refine take_ (i := 29) (N := some 102) (v := ?_) (a' := ?_) (bt_ 36 0x3fffffff) rfl rfl (take_ofW HT_.out HW_.out (by kernel_rfl)) (fun _ _ _ h => h) (Or.inl ⟨by rfl, ?_⟩) hHeld ?_ ?_
                        rotate_left
                        · rintro w' ⟨s0, s1, s2, s3, s4, s5, s6, s7, s8⟩
                          go_simp
                          with_reducible rfl
                        rotate_left; · simp only [Act.put, sa_, sb_, sc_, i64_w, i32_w]; rfl
                        refine take_ (i := 31) (N := some 104) (v := ?_) (a' := ?_) (bt_ 36 0xbfffffff) rfl rfl (take_ofW HT_.out HW_.out (by kernel_rfl)) (fun _ _ _ h => h) (Or.inl ⟨by rfl, ?_⟩) hHeld ?_ ?_
                        rotate_left
                        · rintro w' ⟨s0, s1, s2, s3, s4, s5, s6, s7, s8⟩
                          go_simp
                          with_reducible rfl
                        rotate_left; · simp only [Act.put, sa_, sb_, sc_, i64_w, i32_w]; rfl
                        refine one_ (i := 30) (N := some 103) (bt_ 36 0xffffffff) rfl rfl (one_of HT_.out (by kernel_rfl)) (by decide) (fun K hK => ?_)
                        refine goes_ Try.func16 (by kernel_rfl) rfl #[.agg #[.int .i64 t257, .int .i64 t258, .int .i64 t259, .slice Ao20 t260.length co20]] (by rfl) rfl rfl (by (try simp only [List.map_toArray, List.map_cons, List.map_nil]); first | done | rfl | (simp only [List.length_drop, List.length_take]; rfl)) ?_
                        with_reducible refine (impl_WorstOf.calls kj7 t257 t258 t259 _ _ t260 t271 _ ?side1 ?side2 A89.out).mono ?_
                        (case side1 => repeat (first | exact (Kd.R_reads' HO_265003.out).2.2 | (with_reducible refine Kd.C_alloc ?_ _) | (with_reducible refine Kd.C_drewN ?_ _) | (with_reducible refine Kd.C_drew ?_)))
                        (case side2 => exact (Kd.R_reads' HO_265003.out).2.1)
                        rintro e w93 ⟨rfl, hb⟩
                        have HS8_ := (hb.cell (World.block_lt_of_cell? _ _ (hHeld.2.2.2.2.2.2.2.2))).trans (hHeld.2.2.2.2.2.2.2.2)
                        refine ⟨_, rfl, ?_⟩
                        have n0_ := Aside0.mk (Kd.R_below (by (with_reducible repeat (first | apply ra_ | apply rb_ | apply rc_)); exact HO_253003.out) hb)
                        have n1_ := Aside0.mk (Kd.R_below (by (with_reducible repeat (first | apply ra_ | apply rb_ | apply rc_)); exact HO_265003.out) hb)
                        have n2_ := Aside0.mk (blk_below (g := gb252) (o := .cells #[.int .i64 t246, .int .i64 t247, .int .i64 t248, .slice (some ad269) t249.length co12] 29 (0, 0)) (bu_ BK252) hb)
                        have n3_ := Aside0.mk (blk_below (g := gb264) (o := .cells #[.int .i64 t257, .int .i64 t258, .int .i64 t259, .slice Ao20 t260.length co20] 29 (0, 0)) (bu_ BK264) hb)
                        have n4_ := Aside0.mk (below_step (by repeat (first | (with_reducible first | exact HB.out | apply below_alloc | apply pw_below_drewN | apply below_drew1 | refine below_set ?_ GE252.out | refine below_set ?_ GE264.out) | exact HB.out)) hb)
                        clear HO_253003
                        clear HO_265003
                        clear BK252
                        clear BK264
                        clear HB
                        have HO_253003 := n0_
                        have HO_265003 := n1_
                        have BK252 := n2_
                        have BK264 := n3_
                        have HB := n4_
                        clear n0_ n1_ n2_ n3_ n4_
                        (try clear hb)
                        (try clear hb2)
                        (try clear hk)
                        (try clear hi)
                        refine hK.out _ _ ⟨(blk_cell BK252.out 0).trans rfl, (blk_cell BK252.out 1).trans rfl, (blk_cell BK252.out 2).trans rfl, (blk_cell BK252.out 3).trans rfl, (blk_cell BK264.out 0).trans rfl, (blk_cell BK264.out 1).trans rfl, (blk_cell BK264.out 2).trans rfl, (blk_cell BK264.out 3).trans rfl, HS8_⟩ (fun hHeld => ?_)
                        clear hK K
                        refine norm_ (a' := ?_) ?_ ?_
                        rotate_left
                        · show Act.put _ (some 103) _ = _
                          simp only [Act.put, sa_, sb_, sc_, i64_w, i32_w]
                          rfl
                        refine one_ (i := 32) (N := some 105) (bt_ 36 0x1ffffffff) rfl rfl (one_of HT_.out (by kernel_rfl)) (by decide) (fun K hK => ?_)
                        refine goes_ Try.func16 (by kernel_rfl) rfl #[.agg #[.int .i64 t246, .int .i64 t247, .int .i64 t248, .slice (some ad269) t249.length co12]] (by rfl) rfl rfl (by (try simp only [List.map_toArray, List.map_cons, List.map_nil]); first | done | rfl | (simp only [List.length_drop, List.length_take]; rfl)) ?_
                        with_reducible refine (impl_WorstOf.calls kj7 t246 t247 t248 _ _ t249 t272 _ ?side1 ?side2 A90.out).mono ?_
                        (case side1 => repeat (first | exact (Kd.R_reads' HO_253003.out).2.2 | (with_reducible refine Kd.C_alloc ?_ _) | (with_reducible refine Kd.C_drewN ?_ _) | (with_reducible refine Kd.C_drew ?_)))
                        (case side2 => exact (Kd.R_reads' HO_253003.out).2.1)
                        rintro e w94 ⟨rfl, hb⟩
                        have HS8_ := (hb.cell (World.block_lt_of_cell? _ _ (hHeld.2.2.2.2.2.2.2.2))).trans (hHeld.2.2.2.2.2.2.2.2)
                        refine ⟨_, rfl, ?_⟩
                        have n0_ := Aside0.mk (Kd.R_below (by (with_reducible repeat (first | apply ra_ | apply rb_ | apply rc_)); exact HO_253003.out) hb)
                        have n1_ := Aside0.mk (Kd.R_below (by (with_reducible repeat (first | apply ra_ | apply rb_ | apply rc_)); exact HO_265003.out) hb)
                        have n2_ := Aside0.mk (blk_below (g := gb252) (o := .cells #[.int .i64 t246, .int .i64 t247, .int .i64 t248, .slice (some ad269) t249.length co12] 29 (0, 0)) (bu_ BK252) hb)
                        have n3_ := Aside0.mk (blk_below (g := gb264) (o := .cells #[.int .i64 t257, .int .i64 t258, .int .i64 t259, .slice Ao20 t260.length co20] 29 (0, 0)) (bu_ BK264) hb)
                        have n4_ := Aside0.mk (below_step (by repeat (first | (with_reducible first | exact HB.out | apply below_alloc | apply pw_below_drewN | apply below_drew1 | refine below_set ?_ GE252.out | refine below_set ?_ GE264.out) | exact HB.out)) hb)
                        clear HO_253003
                        clear HO_265003
                        clear BK252
                        clear BK264
                        clear HB
                        have HO_253003 := n0_
                        have HO_265003 := n1_
                        have BK252 := n2_
                        have BK264 := n3_
                        have HB := n4_
                        clear n0_ n1_ n2_ n3_ n4_
                        (try clear hb)
                        (try clear hb2)
                        (try clear hk)
                        (try clear hi)
                        refine hK.out _ _ ⟨(blk_cell BK252.out 0).trans rfl, (blk_cell BK252.out 1).trans rfl, (blk_cell BK252.out 2).trans rfl, (blk_cell BK252.out 3).trans rfl, (blk_cell BK264.out 0).trans rfl, (blk_cell BK264.out 1).trans rfl, (blk_cell BK264.out 2).trans rfl, (blk_cell BK264.out 3).trans rfl, HS8_⟩ (fun hHeld => ?_)
                        clear hK K
                        refine norm_ (a' := ?_) ?_ ?_
                        rotate_left
                        · show Act.put _ (some 105) _ = _
                          simp only [Act.put, sa_, sb_, sc_, i64_w, i32_w]
                          rfl
                        refine pure_ (i := 33) (N := some 106) (v := ?_) (a' := ?_) (bt_ 36 0x3ffffffff) rfl rfl (any_of HT_.out (by kernel_rfl)) (fun _ _ _ h => h) (Or.inl ⟨by kernel_rfl, ?_⟩) ?_ ?_
                        rotate_left; · intro w'; go_simp; with_reducible rfl
                        rotate_left; · simp only [Act.put, sa_, sb_, sc_, i64_w, i32_w]; rfl
                        refine pure_ (i := 34) (N := some 107) (v := ?_) (a' := ?_) (bt_ 36 0x7ffffffff) rfl rfl (any_of HT_.out (by kernel_rfl)) (fun _ _ _ h => h) (Or.inl ⟨by kernel_rfl, ?_⟩) ?_ ?_
                        rotate_left; · intro w'; go_simp; with_reducible rfl
                        rotate_left; · simp only [Act.put, sa_, sb_, sc_, i64_w, i32_w]; rfl
                        refine pure_ (i := 35) (N := some 2) (v := ?_) (a' := ?_) (bt_ 36 0xfffffffff) rfl rfl (any_of HT_.out (by kernel_rfl)) (fun _ _ _ h => h) (Or.inl ⟨by kernel_rfl, ?_⟩) ?_ ?_
                        rotate_left; · intro w'; go_simp; with_reducible rfl
                        rotate_left; · simp only [Act.put, sa_, sb_, sc_, i64_w, i32_w]; rfl
                        refine done_ (done_of HT_.out (by kernel_rfl)) ?_
                        try go_wp2
                        go_ret
                        exact ⟨by first | rfl | (simp [errW_none, errW_some] <;> rfl) | (simp only [← hji75, ← hji77]; first | rfl | (simp [errW_none, errW_some] <;> rfl)) | (simp [*, errW_none, errW_some] <;> rfl), by repeat (first | (with_reducible first | exact HB.out | apply below_alloc | apply pw_below_drewN | apply below_drew1 | refine below_set ?_ GE252.out | refine below_set ?_ GE264.out) | exact HB.out)⟩
                      · rw [if_neg c88] at H
                        have c88b0 : decide (t263 ≤ t270) = false := decide_eq_false c88
                        clear c88
                        obtain rfl := Option.some.inj H
                        try go_wp2
                        have n0_ := Aside0.mk (Kd.R_drew HO_253003.out)
                        have n1_ := Aside0.mk (Kd.R_drew HO_265003.out)
                        have n2_ := Aside0.mk (blk_drew BK252.out)
                        have n3_ := Aside0.mk (blk_drew BK264.out)
                        have n4_ := Aside0.mk (below_drew1 HB.out)
                        clear HO_253003
                        clear HO_265003
                        clear BK252
                        clear BK264
                        clear HB
                        have HO_253003 := n0_
                        have HO_265003 := n1_
                        have BK252 := n2_
                        have BK264 := n3_
                        have HB := n4_
                        clear n0_ n1_ n2_ n3_ n4_
                        have p269 : 0 ≤ ((ji75) : Int) := of_decide_eq_true (by first | (with_reducible assumption) | assumption)
                        have q269 : (ji75) < (t249.length : Int) := of_decide_eq_true (by first | (with_reducible assumption) | assumption)
                        obtain ⟨ad269, e269, hx269_0⟩ := Kd.at_int (Kd.R_reads' HO_253003.out).2.2 (ji75) p269 q269
                        cases e269
                        replace p269 := eq_true p269
                        replace q269 := eq_true q269
                        refine start_ (n := 36) (S := fun w' => w'.cell? ⟨gb252, 0, none⟩ = some (.int .i64 t246) ∧ w'.cell? ⟨gb252, 1, none⟩ = some (.int .i64 t247) ∧ w'.cell? ⟨gb252, 2, none⟩ = some (.int .i64 t248) ∧ w'.cell? ⟨gb252, 3, none⟩ = some (.slice (some ad269) t249.length co12) ∧ w'.cell? ⟨gb264, 0, none⟩ = some (.int .i64 t257) ∧ w'.cell? ⟨gb264, 1, none⟩ = some (.int .i64 t258) ∧ w'.cell? ⟨gb264, 2, none⟩ = some (.int .i64 t259) ∧ w'.cell? ⟨gb264, 3, none⟩ = some (.slice Ao20 t260.length co20) ∧ w'.cell? (ad269.add ((ji75)).toNat) = some (.int .i64 (rd t249 (ji75)))) (ds := []) (bt_ 36 0) (by kernel_rfl) rfl (by kernel_rfl) ⟨(blk_cell BK252.out 0).trans rfl, (blk_cell BK252.out 1).trans rfl, (blk_cell BK252.out 2).trans rfl, (blk_cell BK252.out 3).trans rfl, (blk_cell BK264.out 0).trans rfl, (blk_cell BK264.out 1).trans rfl, (blk_cell BK264.out 2).trans rfl, (blk_cell BK264.out 3).trans rfl, hx269_0⟩ (fun hHeld => ?_); refine with_tabW laws_FnLogs.tab9 laws_FnLogs.bits9 (fun HT_ HW_ => ?_)
                        generalize wc.drew = w95 at HO_253003 HO_265003 BK252 BK264 HB hx269_0 hHeld ⊢
                        refine pure_ (i := 0) (N := some 73) (v := ?_) (a' := ?_) (bt_ 36 1) rfl rfl (any_of HT_.out (by kernel_rfl)) (fun _ _ _ h => h) (Or.inl ⟨by kernel_rfl, ?_⟩) ?_ ?_
                        rotate_left; · intro w'; go_simp; with_reducible rfl
                        rotate_left; · simp only [Act.put, sa_, sb_, sc_, i64_w, i32_w]; rfl
                        refine pure_ (i := 1) (N := some 74) (v := ?_) (a' := ?_) (bt_ 36 3) rfl rfl (any_of HT_.out (by kernel_rfl)) (fun _ _ _ h => h) (Or.inl ⟨by kernel_rfl, ?_⟩) ?_ ?_
                        rotate_left; · intro w'; go_simp; with_reducible rfl
                        rotate_left; · simp only [Act.put, sa_, sb_, sc_, i64_w, i32_w]; rfl
                        refine pure_ (i := 2) (N := some 75) (v := ?_) (a' := ?_) (bt_ 36 7) rfl rfl (any_of HT_.out (by kernel_rfl)) (fun _ _ _ h => h) (Or.inl ⟨by kernel_rfl, ?_⟩) ?_ ?_
                        rotate_left; · intro w'; go_simp; with_reducible rfl
                        rotate_left; · simp only [Act.put, sa_, sb_, sc_, i64_w, i32_w]; rfl
                        refine pure_ (i := 4) (N := some 77) (v := ?_) (a' := ?_) (bt_ 36 0x17) rfl rfl (any_of HT_.out (by kernel_rfl)) (fun _ _ _ h => h) (Or.inl ⟨by kernel_rfl, ?_⟩) ?_ ?_
                        rotate_left; · intro w'; go_simp; with_reducible rfl
                        rotate_left; · simp only [Act.put, sa_, sb_, sc_, i64_w, i32_w]; rfl
                        refine take_ (i := 3) (N := some 76) (v := ?_) (a' := ?_) (bt_ 36 0x1f) rfl rfl (take_ofW HT_.out HW_.out (by kernel_rfl)) (fun _ _ _ h => h) (Or.inl ⟨by rfl, ?_⟩) hHeld ?_ ?_
                        rotate_left
                        · rintro w' ⟨s0, s1, s2, s3, s4, s5, s6, s7, s8⟩
                          go_simp
                          with_reducible rfl
                        rotate_left; · simp only [Act.put, sa_, sb_, sc_, i64_w, i32_w]; rfl
                        refine pure_ (i := 5) (N := some 78) (v := ?_) (a' := ?_) (bt_ 36 0x3f) rfl rfl (any_of HT_.out (by kernel_rfl)) (fun _ _ _ h => h) (Or.inl ⟨by kernel_rfl, ?_⟩) ?_ ?_
                        rotate_left; · intro w'; go_simp; with_reducible rfl
                        rotate_left; · simp only [Act.put, sa_, sb_, sc_, i64_w, i32_w]; rfl
                        refine pure_ (i := 6) (N := some 79) (v := ?_) (a' := ?_) (bt_ 36 0x7f) rfl rfl (any_of HT_.out (by kernel_rfl)) (fun _ _ _ h => h) (Or.inl ⟨by kernel_rfl, ?_⟩) ?_ ?_
                        rotate_left; · intro w'; go_simp; with_reducible rfl
                        rotate_left; · simp only [Act.put, sa_, sb_, sc_, i64_w, i32_w]; rfl
                        refine pure_ (i := 7) (N := some 80) (v := ?_) (a' := ?_) (bt_ 36 0xff) rfl rfl (any_of HT_.out (by kernel_rfl)) (fun _ _ _ h => h) (Or.inl ⟨by kernel_rfl, ?_⟩) ?_ ?_
                        rotate_left; · intro w'; go_simp; with_reducible rfl
                        rotate_left; · simp only [Act.put, sa_, sb_, sc_, i64_w, i32_w]; rfl
                        refine pure_ (i := 8) (N := some 81) (v := ?_) (a' := ?_) (bt_ 36 0x1ff) rfl rfl (any_of HT_.out (by kernel_rfl)) (fun _ _ _ h => h) (Or.inl ⟨by kernel_rfl, ?_⟩) ?_ ?_
                        rotate_left; · intro w'; go_simp; with_reducible rfl
                        rotate_left; · simp only [Act.put, sa_, sb_, sc_, i64_w, i32_w]; rfl
                        refine pure_ (i := 9) (N := some 82) (v := ?_) (a' := ?_) (bt_ 36 0x3ff) rfl rfl (any_of HT_.out (by kernel_rfl)) (fun _ _ _ h => h) (Or.inl ⟨by kernel_rfl, ?_⟩) ?_ ?_
                        rotate_left; · intro w'; go_simp; with_reducible rfl
                        rotate_left; · simp only [Act.put, sa_, sb_, sc_, i64_w, i32_w]; rfl
                        refine pure_ (i := 10) (N := some 83) (v := ?_) (a' := ?_) (bt_ 36 0x7ff) rfl rfl (any_of HT_.out (by kernel_rfl)) (fun _ _ _ h => h) (Or.inl ⟨by kernel_rfl, ?_⟩) ?_ ?_
                        rotate_left; · intro w'; go_simp; with_reducible rfl
                        rotate_left; · simp only [Act.put, sa_, sb_, sc_, i64_w, i32_w]; rfl
                        refine pure_ (i := 11) (N := some 84) (v := ?_) (a' := ?_) (bt_ 36 0xfff) rfl rfl (any_of HT_.out (by kernel_rfl)) (fun _ _ _ h => h) (Or.inl ⟨by kernel_rfl, ?_⟩) ?_ ?_
                        rotate_left; · intro w'; go_simp; with_reducible rfl
                        rotate_left; · simp only [Act.put, sa_, sb_, sc_, i64_w, i32_w]; rfl
                        refine pure_ (i := 12) (N := some 85) (v := ?_) (a' := ?_) (bt_ 36 0x1fff) rfl rfl (any_of HT_.out (by kernel_rfl)) (fun _ _ _ h => h) (Or.inl ⟨by kernel_rfl, ?_⟩) ?_ ?_
                        rotate_left; · intro w'; go_simp; with_reducible rfl
                        rotate_left; · simp only [Act.put, sa_, sb_, sc_, i64_w, i32_w]; rfl
                        refine pure_ (i := 13) (N := some 86) (v := ?_) (a' := ?_) (bt_ 36 0x3fff) rfl rfl (any_of HT_.out (by kernel_rfl)) (fun _ _ _ h => h) (Or.inl ⟨by kernel_rfl, ?_⟩) ?_ ?_
                        rotate_left; · intro w'; go_simp; with_reducible rfl
                        rotate_left; · simp only [Act.put, sa_, sb_, sc_, i64_w, i32_w]; rfl
                        refine pure_ (i := 14) (N := some 87) (v := ?_) (a' := ?_) (bt_ 36 0x7fff) rfl rfl (any_of HT_.out (by kernel_rfl)) (fun _ _ _ h => h) (Or.inl ⟨by kernel_rfl, ?_⟩) ?_ ?_
                        rotate_left; · intro w'; go_simp; with_reducible rfl
                        rotate_left; · simp only [Act.put, sa_, sb_, sc_, i64_w, i32_w]; rfl
                        refine pure_ (i := 16) (N := some 89) (v := ?_) (a' := ?_) (bt_ 36 0x17fff) rfl rfl (any_of HT_.out (by kernel_rfl)) (fun _ _ _ h => h) (Or.inl ⟨by kernel_rfl, ?_⟩) ?_ ?_
                        rotate_left; · intro w'; go_simp; with_reducible rfl
                        rotate_left; · simp only [Act.put, sa_, sb_, sc_, i64_w, i32_w]; rfl
                        refine take_ (i := 15) (N := some 88) (v := ?_) (a' := ?_) (bt_ 36 0x1ffff) rfl rfl (take_ofW HT_.out HW_.out (by kernel_rfl)) (fun _ _ _ h => h) (Or.inl ⟨by rfl, ?_⟩) hHeld ?_ ?_
                        rotate_left
                        · rintro w' ⟨s0, s1, s2, s3, s4, s5, s6, s7, s8⟩
                          go_simp
                          with_reducible rfl
                        rotate_left; · simp only [Act.put, sa_, sb_, sc_, i64_w, i32_w]; rfl
                        refine pure_ (i := 17) (N := some 90) (v := ?_) (a' := ?_) (bt_ 36 0x3ffff) rfl rfl (any_of HT_.out (by kernel_rfl)) (fun _ _ _ h => h) (Or.inl ⟨by kernel_rfl, ?_⟩) ?_ ?_
                        rotate_left; · intro w'; go_simp; with_reducible rfl
                        rotate_left; · simp only [Act.put, sa_, sb_, sc_, i64_w, i32_w]; rfl
                        refine take_ (i := 18) (N := some 91) (v := ?_) (a' := ?_) (bt_ 36 0x7ffff) rfl rfl (take_ofW HT_.out HW_.out (by kernel_rfl)) (fun _ _ _ h => h) (Or.inl ⟨by rfl, ?_⟩) hHeld ?_ ?_
                        rotate_left
                        · rintro w' ⟨s0, s1, s2, s3, s4, s5, s6, s7, s8⟩
                          go_simp
                          with_reducible rfl
                        rotate_left; · simp only [Act.put, sa_, sb_, sc_, i64_w, i32_w]; rfl
                        refine pure_ (i := 19) (N := some 92) (v := ?_) (a' := ?_) (bt_ 36 0xfffff) rfl rfl (any_of HT_.out (by kernel_rfl)) (fun _ _ _ h => h) (Or.inl ⟨by kernel_rfl, ?_⟩) ?_ ?_
                        rotate_left; · intro w'; go_simp; with_reducible rfl
                        rotate_left; · simp only [Act.put, sa_, sb_, sc_, i64_w, i32_w]; rfl
                        refine pure_ (i := 20) (N := some 93) (v := ?_) (a' := ?_) (bt_ 36 0x1fffff) rfl rfl (any_of HT_.out (by kernel_rfl)) (fun _ _ _ h => h) (Or.inl ⟨by kernel_rfl, ?_⟩) ?_ ?_
                        rotate_left; · intro w'; go_simp; with_reducible rfl
                        rotate_left; · simp only [Act.put, sa_, sb_, sc_, i64_w, i32_w]; rfl
                        refine pure_ (i := 23) (N := some 96) (v := ?_) (a' := ?_) (bt_ 36 0x9fffff) rfl rfl (any_of HT_.out (by kernel_rfl)) (fun _ _ _ h => h) (Or.inl ⟨by kernel_rfl, ?_⟩) ?_ ?_
                        rotate_left; · intro w'; go_simp; with_reducible rfl
                        rotate_left; · simp only [Act.put, sa_, sb_, sc_, i64_w, i32_w]; rfl
                        refine take_ (i := 21) (N := some 94) (v := ?_) (a' := ?_) (bt_ 36 0xbfffff) rfl rfl (take_ofW HT_.out HW_.out (by kernel_rfl)) (fun _ _ _ h => h) (Or.inl ⟨by rfl, ?_⟩) hHeld ?_ ?_
                        rotate_left
                        · rintro w' ⟨s0, s1, s2, s3, s4, s5, s6, s7, s8⟩
                          go_simp
                          with_reducible rfl
                        rotate_left; · simp only [Act.put, sa_, sb_, sc_, i64_w, i32_w]; rfl
                        refine one_ (i := 22) (N := some 95) (bt_ 36 0xffffff) rfl rfl (one_of HT_.out (by kernel_rfl)) (by decide) (fun K hK => ?_)
                        refine goes_ Try.func16 (by kernel_rfl) rfl #[.agg #[.int .i64 t257, .int .i64 t258, .int .i64 t259, .slice Ao20 t260.length co20]] (by rfl) rfl rfl (by (try simp only [List.map_toArray, List.map_cons, List.map_nil]); first | done | rfl | (simp only [List.length_drop, List.length_take]; rfl)) ?_
                        with_reducible refine (impl_WorstOf.calls kj7 t257 t258 t259 _ _ t260 t270 _ ?side1 ?side2 A87.out).mono ?_
                        (case side1 => repeat (first | exact (Kd.R_reads' HO_265003.out).2.2 | (with_reducible refine Kd.C_alloc ?_ _) | (with_reducible refine Kd.C_drewN ?_ _) | (with_reducible refine Kd.C_drew ?_)))
                        (case side2 => exact (Kd.R_reads' HO_265003.out).2.1)
                        rintro e w96 ⟨rfl, hb⟩
                        have HS8_ := (hb.cell (World.block_lt_of_cell? _ _ (hHeld.2.2.2.2.2.2.2.2))).trans (hHeld.2.2.2.2.2.2.2.2)
                        refine ⟨_, rfl, ?_⟩
                        have n0_ := Aside0.mk (Kd.R_below (by (with_reducible repeat (first | apply ra_ | apply rb_ | apply rc_)); exact HO_253003.out) hb)
                        have n1_ := Aside0.mk (Kd.R_below (by (with_reducible repeat (first | apply ra_ | apply rb_ | apply rc_)); exact HO_265003.out) hb)
                        have n2_ := Aside0.mk (blk_below (g := gb252) (o := .cells #[.int .i64 t246, .int .i64 t247, .int .i64 t248, .slice (some ad269) t249.length co12] 29 (0, 0)) (bu_ BK252) hb)
                        have n3_ := Aside0.mk (blk_below (g := gb264) (o := .cells #[.int .i64 t257, .int .i64 t258, .int .i64 t259, .slice Ao20 t260.length co20] 29 (0, 0)) (bu_ BK264) hb)
                        have n4_ := Aside0.mk (below_step (by repeat (first | (with_reducible first | exact HB.out | apply below_alloc | apply pw_below_drewN | apply below_drew1 | refine below_set ?_ GE252.out | refine below_set ?_ GE264.out) | exact HB.out)) hb)
                        clear HO_253003
                        clear HO_265003
                        clear BK252
                        clear BK264
                        clear HB
                        have HO_253003 := n0_
                        have HO_265003 := n1_
                        have BK252 := n2_
                        have BK264 := n3_
                        have HB := n4_
                        clear n0_ n1_ n2_ n3_ n4_
                        (try clear hb)
                        (try clear hb2)
                        (try clear hk)
                        (try clear hi)
                        refine hK.out _ _ ⟨(blk_cell BK252.out 0).trans rfl, (blk_cell BK252.out 1).trans rfl, (blk_cell BK252.out 2).trans rfl, (blk_cell BK252.out 3).trans rfl, (blk_cell BK264.out 0).trans rfl, (blk_cell BK264.out 1).trans rfl, (blk_cell BK264.out 2).trans rfl, (blk_cell BK264.out 3).trans rfl, HS8_⟩ (fun hHeld => ?_)
                        clear hK K
                        refine norm_ (a' := ?_) ?_ ?_
                        rotate_left
                        · show Act.put _ (some 95) _ = _
                          simp only [Act.put, sa_, sb_, sc_, i64_w, i32_w]
                          rfl
                        refine pure_ (i := 24) (N := some 97) (v := ?_) (a' := ?_) (bt_ 36 0x1ffffff) rfl rfl (any_of HT_.out (by kernel_rfl)) (fun _ _ _ h => h) (Or.inl ⟨by kernel_rfl, ?_⟩) ?_ ?_
                        rotate_left; · intro w'; go_simp; with_reducible rfl
                        rotate_left; · simp only [Act.put, sa_, sb_, sc_, i64_w, i32_w]; rfl
                        refine pure_ (i := 25) (N := some 98) (v := ?_) (a' := ?_) (bt_ 36 0x3ffffff) rfl rfl (any_of HT_.out (by kernel_rfl)) (fun _ _ _ h => h) (Or.inl ⟨by kernel_rfl, ?_⟩) ?_ ?_
                        rotate_left; · intro w'; go_simp; with_reducible rfl
                        rotate_left; · simp only [Act.put, sa_, sb_, sc_, i64_w, i32_w]; rfl
                        refine pure_ (i := 26) (N := some 99) (v := ?_) (a' := ?_) (bt_ 36 0x7ffffff) rfl rfl (any_of HT_.out (by kernel_rfl)) (fun _ _ _ h => h) (Or.inl ⟨by kernel_rfl, ?_⟩) ?_ ?_
                        rotate_left; · intro w'; go_simp; with_reducible rfl
                        rotate_left; · simp only [Act.put, sa_, sb_, sc_, i64_w, i32_w]; rfl
                        refine pure_ (i := 27) (N := some 100) (v := ?_) (a' := ?_) (bt_ 36 0xfffffff) rfl rfl (any_of HT_.out (by kernel_rfl)) (fun _ _ _ h => h) (Or.inl ⟨by kernel_rfl, ?_⟩) ?_ ?_
                        rotate_left; · intro w'; go_simp; with_reducible rfl
                        rotate_left; · simp only [Act.put, sa_, sb_, sc_, i64_w, i32_w]; rfl
                        refine pure_ (i := 28) (N := some 101) (v := ?_) (a' := ?_) (bt_ 36 0x1fffffff) rfl rfl (any_of HT_.out (by kernel_rfl)) (fun _ _ _ h => h) (Or.inl ⟨by kernel_rfl, ?_⟩) ?_ ?_
                        rotate_left; · intro w'; go_simp; with_reducible rfl
                        rotate_left; · simp only [Act.put, sa_, sb_, sc_, i64_w, i32_w]; rfl
                        refine pure_ (i := 29) (N := some 102) (v := undef) (a' := ?_) (bt_ 36 0x3fffffff) rfl rfl (any_of HT_.out (by kernel_rfl)) (fun _ _ _ h => h) (Or.inr ⟨by rfl, rfl⟩) ?_ ?_
                        rotate_left; · simp only [Act.put, sa_, sb_, sc_, i64_w, i32_w]; rfl
                        refine pure_ (i := 30) (N := some 103) (v := undef) (a' := ?_) (bt_ 36 0x7fffffff) rfl rfl (any_of HT_.out (by kernel_rfl)) (fun _ _ _ h => h) (Or.inr ⟨by rfl, rfl⟩) ?_ ?_
                        rotate_left; · simp only [Act.put, sa_, sb_, sc_, i64_w, i32_w]; rfl
                        refine pure_ (i := 31) (N := some 104) (v := undef) (a' := ?_) (bt_ 36 0xffffffff) rfl rfl (any_of HT_.out (by kernel_rfl)) (fun _ _ _ h => h) (Or.inr ⟨by rfl, rfl⟩) ?_ ?_
                        rotate_left; · simp only [Act.put, sa_, sb_, sc_, i64_w, i32_w]; rfl
                        refine pure_ (i := 32) (N := some 105) (v := undef) (a' := ?_) (bt_ 36 0x1ffffffff) rfl rfl (any_of HT_.out (by kernel_rfl)) (fun _ _ _ h => h) (Or.inr ⟨by rfl, rfl⟩) ?_ ?_
                        rotate_left; · simp only [Act.put, sa_, sb_, sc_, i64_w, i32_w]; rfl
                        refine pure_ (i := 33) (N := some 106) (v := undef) (a' := ?_) (bt_ 36 0x3ffffffff) rfl rfl (any_of HT_.out (by kernel_rfl)) (fun _ _ _ h => h) (Or.inr ⟨by rfl, rfl⟩) ?_ ?_
                        rotate_left; · simp only [Act.put, sa_, sb_, sc_, i64_w, i32_w]; rfl
                        refine pure_ (i := 34) (N := some 107) (v := ?_) (a' := ?_) (bt_ 36 0x7ffffffff) rfl rfl (any_of HT_.out (by kernel_rfl)) (fun _ _ _ h => h) (Or.inl ⟨by kernel_rfl, ?_⟩) ?_ ?_
                        rotate_left; · intro w'; go_simp; with_reducible rfl
                        rotate_left; · simp only [Act.put, sa_, sb_, sc_, i64_w, i32_w]; rfl
                        refine pure_ (i := 35) (N := some 2) (v := ?_) (a' := ?_) (bt_ 36 0xfffffffff) rfl rfl (any_of HT_.out (by kernel_rfl)) (fun _ _ _ h => h) (Or.inl ⟨by kernel_rfl, ?_⟩) ?_ ?_
                        rotate_left; · intro w'; go_simp; with_reducible rfl
                        rotate_left; · simp only [Act.put, sa_, sb_, sc_, i64_w, i32_w]; rfl
                        refine done_ (done_of HT_.out (by kernel_rfl)) ?_
                        try go_wp2
                        go_ret
                        exact ⟨by first | rfl | (simp [errW_none, errW_some] <;> rfl) | (simp only [← hji75, ← hji77]; first | rfl | (simp [errW_none, errW_some] <;> rfl)) | (simp [*, errW_none, errW_some] <;> rfl), by repeat (first | (with_reducible first | exact HB.out | apply below_alloc | apply pw_below_drewN | apply below_drew1 | refine below_set ?_ GE252.out | refine below_set ?_ GE264.out) | exact HB.out)⟩
                    · rw [if_neg c86] at H
                      have c86b0 : (t263 == (rd t249 (ji75))) = false := beq_eq_false_iff_ne.mpr c86
                      have c86b1 : (t263 != (rd t249 (ji75))) = true := bne_iff_ne.mpr c86
                      obtain rfl := Option.some.inj H
                      try go_wp2
                      have n0_ := Aside0.mk (Kd.R_drew HO_253003.out)
                      have n1_ := Aside0.mk (Kd.R_drew HO_265003.out)
                      have n2_ := Aside0.mk (blk_drew BK252.out)
                      have n3_ := Aside0.mk (blk_drew BK264.out)
                      have n4_ := Aside0.mk (below_drew1 HB.out)
                      clear HO_253003
                      clear HO_265003
                      clear BK252
                      clear BK264
                      clear HB
                      have HO_253003 := n0_
                      have HO_265003 := n1_
                      have BK252 := n2_
                      have BK264 := n3_
                      have HB := n4_
                      clear n0_ n1_ n2_ n3_ n4_
                      have p269 : 0 ≤ ((ji75) : Int) := of_decide_eq_true (by first | (with_reducible assumption) | assumption)
                      have q269 : (ji75) < (t249.length : Int) := of_decide_eq_true (by first | (with_reducible assumption) | assumption)
                      obtain ⟨ad269, e269, hx269_0⟩ := Kd.at_int (Kd.R_reads' HO_253003.out).2.2 (ji75) p269 q269
                      cases e269
                      replace p269 := eq_true p269
                      replace q269 := eq_true q269
                      refine start_ (n := 36) (S := fun w' => w'.cell? ⟨gb252, 0, none⟩ = some (.int .i64 t246) ∧ w'.cell? ⟨gb252, 1, none⟩ = some (.int .i64 t247) ∧ w'.cell? ⟨gb252, 2, none⟩ = some (.int .i64 t248) ∧ w'.cell? ⟨gb252, 3, none⟩ = some (.slice (some ad269) t249.length co12) ∧ w'.cell? (ad269.add ((ji75)).toNat) = some (.int .i64 (rd t249 (ji75)))) (ds := []) (bt_ 36 0) (by kernel_rfl) rfl (by kernel_rfl) ⟨(blk_cell BK252.out 0).trans rfl, (blk_cell BK252.out 1).trans rfl, (blk_cell BK252.out 2).trans rfl, (blk_cell BK252.out 3).trans rfl, hx269_0⟩ (fun hHeld => ?_); refine with_tabW laws_FnLogs.tab9 laws_FnLogs.bits9 (fun HT_ HW_ => ?_)
                      generalize wc.drew = w97 at HO_253003 HO_265003 BK252 BK264 HB hx269_0 hHeld ⊢
                      refine pure_ (i := 0) (N := some 73) (v := ?_) (a' := ?_) (bt_ 36 1) rfl rfl (any_of HT_.out (by kernel_rfl)) (fun _ _ _ h => h) (Or.inl ⟨by kernel_rfl, ?_⟩) ?_ ?_
                      rotate_left; · intro w'; go_simp; with_reducible rfl
                      rotate_left; · simp only [Act.put, sa_, sb_, sc_, i64_w, i32_w]; rfl
                      refine pure_ (i := 1) (N := some 74) (v := ?_) (a' := ?_) (bt_ 36 3) rfl rfl (any_of HT_.out (by kernel_rfl)) (fun _ _ _ h => h) (Or.inl ⟨by kernel_rfl, ?_⟩) ?_ ?_
                      rotate_left; · intro w'; go_simp; with_reducible rfl
                      rotate_left; · simp only [Act.put, sa_, sb_, sc_, i64_w, i32_w]; rfl
                      refine pure_ (i := 2) (N := some 75) (v := ?_) (a' := ?_) (bt_ 36 7) rfl rfl (any_of HT_.out (by kernel_rfl)) (fun _ _ _ h => h) (Or.inl ⟨by kernel_rfl, ?_⟩) ?_ ?_
                      rotate_left; · intro w'; go_simp; with_reducible rfl
                      rotate_left; · simp only [Act.put, sa_, sb_, sc_, i64_w, i32_w]; rfl
                      refine pure_ (i := 4) (N := some 77) (v := ?_) (a' := ?_) (bt_ 36 0x17) rfl rfl (any_of HT_.out (by kernel_rfl)) (fun _ _ _ h => h) (Or.inl ⟨by kernel_rfl, ?_⟩) ?_ ?_
                      rotate_left; · intro w'; go_simp; with_reducible rfl
                      rotate_left; · simp only [Act.put, sa_, sb_, sc_, i64_w, i32_w]; rfl
                      refine take_ (i := 3) (N := some 76) (v := ?_) (a' := ?_) (bt_ 36 0x1f) rfl rfl (take_ofW HT_.out HW_.out (by kernel_rfl)) (fun _ _ _ h => h) (Or.inl ⟨by rfl, ?_⟩) hHeld ?_ ?_
                      rotate_left
                      · rintro w' ⟨s0, s1, s2, s3, s4⟩
                        go_simp
                        with_reducible rfl
                      rotate_left; · simp only [Act.put, sa_, sb_, sc_, i64_w, i32_w]; rfl
                      refine pure_ (i := 5) (N := some 78) (v := ?_) (a' := ?_) (bt_ 36 0x3f) rfl rfl (any_of HT_.out (by kernel_rfl)) (fun _ _ _ h => h) (Or.inl ⟨by kernel_rfl, ?_⟩) ?_ ?_
                      rotate_left; · intro w'; go_simp; with_reducible rfl
                      rotate_left; · simp only [Act.put, sa_, sb_, sc_, i64_w, i32_w]; rfl
                      refine pure_ (i := 6) (N := some 79) (v := ?_) (a' := ?_) (bt_ 36 0x7f) rfl rfl (any_of HT_.out (by kernel_rfl)) (fun _ _ _ h => h) (Or.inl ⟨by kernel_rfl, ?_⟩) ?_ ?_
                      rotate_left; · intro w'; go_simp; with_reducible rfl
                      rotate_left; · simp only [Act.put, sa_, sb_, sc_, i64_w, i32_w]; rfl
                      refine pure_ (i := 7) (N := some 80) (v := ?_) (a' := ?_) (bt_ 36 0xff) rfl rfl (any_of HT_.out (by kernel_rfl)) (fun _ _ _ h => h) (Or.inl ⟨by kernel_rfl, ?_⟩) ?_ ?_
                      rotate_left; · intro w'; go_simp; with_reducible rfl
                      rotate_left; · simp only [Act.put, sa_, sb_, sc_, i64_w, i32_w]; rfl
                      refine pure_ (i := 8) (N := some 81) (v := ?_) (a' := ?_) (bt_ 36 0x1ff) rfl rfl (any_of HT_.out (by kernel_rfl)) (fun _ _ _ h => h) (Or.inl ⟨by kernel_rfl, ?_⟩) ?_ ?_
                      rotate_left; · intro w'; go_simp; with_reducible rfl
                      rotate_left; · simp only [Act.put, sa_, sb_, sc_, i64_w, i32_w]; rfl
                      refine pure_ (i := 9) (N := some 82) (v := ?_) (a' := ?_) (bt_ 36 0x3ff) rfl rfl (any_of HT_.out (by kernel_rfl)) (fun _ _ _ h => h) (Or.inl ⟨by kernel_rfl, ?_⟩) ?_ ?_
                      rotate_left; · intro w'; go_simp; with_reducible rfl
                      rotate_left; · simp only [Act.put, sa_, sb_, sc_, i64_w, i32_w]; rfl
                      refine pure_ (i := 10) (N := some 83) (v := ?_) (a' := ?_) (bt_ 36 0x7ff) rfl rfl (any_of HT_.out (by kernel_rfl)) (fun _ _ _ h => h) (Or.inl ⟨by kernel_rfl, ?_⟩) ?_ ?_
                      rotate_left; · intro w'; go_simp; with_reducible rfl
                      rotate_left; · simp only [Act.put, sa_, sb_, sc_, i64_w, i32_w]; rfl
                      refine pure_ (i := 11) (N := some 84) (v := ?_) (a' := ?_) (bt_ 36 0xfff) rfl rfl (any_of HT_.out (by kernel_rfl)) (fun _ _ _ h => h) (Or.inl ⟨by kernel_rfl, ?_⟩) ?_ ?_
                      rotate_left; · intro w'; go_simp; with_reducible rfl
                      rotate_left; · simp only [Act.put, sa_, sb_, sc_, i64_w, i32_w]; rfl
                      refine pure_ (i := 12) (N := some 85) (v := ?_) (a' := ?_) (bt_ 36 0x1fff) rfl rfl (any_of HT_.out (by kernel_rfl)) (fun _ _ _ h => h) (Or.inl ⟨by kernel_rfl, ?_⟩) ?_ ?_
                      rotate_left; · intro w'; go_simp; with_reducible rfl
                      rotate_left; · simp only [Act.put, sa_, sb_, sc_, i64_w, i32_w]; rfl
                      refine pure_ (i := 13) (N := some 86) (v := ?_) (a' := ?_) (bt_ 36 0x3fff) rfl rfl (any_of HT_.out (by kernel_rfl)) (fun _ _ _ h => h) (Or.inl ⟨by kernel_rfl, ?_⟩) ?_ ?_
                      rotate_left; · intro w'; go_simp; with_reducible rfl
                      rotate_left; · simp only [Act.put, sa_, sb_, sc_, i64_w, i32_w]; rfl
                      refine pure_ (i := 14) (N := some 87) (v := ?_) (a' := ?_) (bt_ 36 0x7fff) rfl rfl (any_of HT_.out (by kernel_rfl)) (fun _ _ _ h => h) (Or.inl ⟨by kernel_rfl, ?_⟩) ?_ ?_
                      rotate_left; · intro w'; go_simp; with_reducible rfl
                      rotate_left; · simp only [Act.put, sa_, sb_, sc_, i64_w, i32_w]; rfl
                      refine pure_ (i := 16) (N := some 89) (v := ?_) (a' := ?_) (bt_ 36 0x17fff) rfl rfl (any_of HT_.out (by kernel_rfl)) (fun _ _ _ h => h) (Or.inl ⟨by kernel_rfl, ?_⟩) ?_ ?_
                      rotate_left; · intro w'; go_simp; with_reducible rfl
                      rotate_left; · simp only [Act.put, sa_, sb_, sc_, i64_w, i32_w]; rfl
                      refine take_ (i := 15) (N := some 88) (v := ?_) (a' := ?_) (bt_ 36 0x1ffff) rfl rfl (take_ofW HT_.out HW_.out (by kernel_rfl)) (fun _ _ _ h => h) (Or.inl ⟨by rfl, ?_⟩) hHeld ?_ ?_
                      rotate_left
                      · rintro w' ⟨s0, s1, s2, s3, s4⟩
                        go_simp
                        with_reducible rfl
                      rotate_left; · simp only [Act.put, sa_, sb_, sc_, i64_w, i32_w]; rfl
                      refine pure_ (i := 17) (N := some 90) (v := ?_) (a' := ?_) (bt_ 36 0x3ffff) rfl rfl (any_of HT_.out (by kernel_rfl)) (fun _ _ _ h => h) (Or.inl ⟨by kernel_rfl, ?_⟩) ?_ ?_
                      rotate_left; · intro w'; go_simp; with_reducible rfl
                      rotate_left; · simp only [Act.put, sa_, sb_, sc_, i64_w, i32_w]; rfl
                      refine take_ (i := 18) (N := some 91) (v := ?_) (a' := ?_) (bt_ 36 0x7ffff) rfl rfl (take_ofW HT_.out HW_.out (by kernel_rfl)) (fun _ _ _ h => h) (Or.inl ⟨by rfl, ?_⟩) hHeld ?_ ?_
                      rotate_left
                      · rintro w' ⟨s0, s1, s2, s3, s4⟩
                        go_simp
                        with_reducible rfl
                      rotate_left; · simp only [Act.put, sa_, sb_, sc_, i64_w, i32_w]; rfl
                      refine pure_ (i := 19) (N := some 92) (v := ?_) (a' := ?_) (bt_ 36 0xfffff) rfl rfl (any_of HT_.out (by kernel_rfl)) (fun _ _ _ h => h) (Or.inl ⟨by kernel_rfl, ?_⟩) ?_ ?_
                      rotate_left; · intro w'; go_simp; with_reducible rfl
                      rotate_left; · simp only [Act.put, sa_, sb_, sc_, i64_w, i32_w]; rfl
                      refine pure_ (i := 20) (N := some 93) (v := ?_) (a' := ?_) (bt_ 36 0x1fffff) rfl rfl (any_of HT_.out (by kernel_rfl)) (fun _ _ _ h => h) (Or.inl ⟨by kernel_rfl, ?_⟩) ?_ ?_
                      rotate_left; · intro w'; go_simp; with_reducible rfl
                      rotate_left; · simp only [Act.put, sa_, sb_, sc_, i64_w, i32_w]; rfl
                      refine pure_ (i := 21) (N := some 94) (v := undef) (a' := ?_) (bt_ 36 0x3fffff) rfl rfl (any_of HT_.out (by kernel_rfl)) (fun _ _ _ h => h) (Or.inr ⟨by rfl, rfl⟩) ?_ ?_
                      rotate_left; · simp only [Act.put, sa_, sb_, sc_, i64_w, i32_w]; rfl
                      refine pure_ (i := 22) (N := some 95) (v := undef) (a' := ?_) (bt_ 36 0x7fffff) rfl rfl (any_of HT_.out (by kernel_rfl)) (fun _ _ _ h => h) (Or.inr ⟨by rfl, rfl⟩) ?_ ?_
                      rotate_left; · simp only [Act.put, sa_, sb_, sc_, i64_w, i32_w]; rfl
                      refine pure_ (i := 23) (N := some 96) (v := undef) (a' := ?_) (bt_ 36 0xffffff) rfl rfl (any_of HT_.out (by kernel_rfl)) (fun _ _ _ h => h) (Or.inr ⟨by rfl, rfl⟩) ?_ ?_
                      rotate_left; · simp only [Act.put, sa_, sb_, sc_, i64_w, i32_w]; rfl
                      refine pure_ (i := 24) (N := some 97) (v := undef) (a' := ?_) (bt_ 36 0x1ffffff) rfl rfl (any_of HT_.out (by kernel_rfl)) (fun _ _ _ h => h) (Or.inr ⟨by rfl, rfl⟩) ?_ ?_
                      rotate_left; · simp only [Act.put, sa_, sb_, sc_, i64_w, i32_w]; rfl
                      refine pure_ (i := 25) (N := some 98) (v := ?_) (a' := ?_) (bt_ 36 0x3ffffff) rfl rfl (any_of HT_.out (by kernel_rfl)) (fun _ _ _ h => h) (Or.inl ⟨by kernel_rfl, ?_⟩) ?_ ?_
                      rotate_left; · intro w'; go_simp; with_reducible rfl
                      rotate_left; · simp only [Act.put, sa_, sb_, sc_, i64_w, i32_w]; rfl
                      refine pure_ (i := 26) (N := some 99) (v := ?_) (a' := ?_) (bt_ 36 0x7ffffff) rfl rfl (any_of HT_.out (by kernel_rfl)) (fun _ _ _ h => h) (Or.inl ⟨by kernel_rfl, ?_⟩) ?_ ?_
                      rotate_left; · intro w'; go_simp; with_reducible rfl
                      rotate_left; · simp only [Act.put, sa_, sb_, sc_, i64_w, i32_w]; rfl
                      refine pure_ (i := 27) (N := some 100) (v := ?_) (a' := ?_) (bt_ 36 0xfffffff) rfl rfl (any_of HT_.out (by kernel_rfl)) (fun _ _ _ h => h) (Or.inl ⟨by kernel_rfl, ?_⟩) ?_ ?_
                      rotate_left; · intro w'; go_simp; with_reducible rfl
                      rotate_left; · simp only [Act.put, sa_, sb_, sc_, i64_w, i32_w]; rfl
                      refine pure_ (i := 28) (N := some 101) (v := ?_) (a' := ?_) (bt_ 36 0x1fffffff) rfl rfl (any_of HT_.out (by kernel_rfl)) (fun _ _ _ h => h) (Or.inl ⟨by kernel_rfl, ?_⟩) ?_ ?_
                      rotate_left; · intro w'; go_simp; with_reducible rfl
                      rotate_left; · simp only [Act.put, sa_, sb_, sc_, i64_w, i32_w]; rfl
                      refine pure_ (i := 29) (N := some 102) (v := undef) (a' := ?_) (bt_ 36 0x3fffffff) rfl rfl (any_of HT_.out (by kernel_rfl)) (fun _ _ _ h => h) (Or.inr ⟨by rfl, rfl⟩) ?_ ?_
                      rotate_left; · simp only [Act.put, sa_, sb_, sc_, i64_w, i32_w]; rfl
                      refine pure_ (i := 30) (N := some 103) (v := undef) (a' := ?_) (bt_ 36 0x7fffffff) rfl rfl (any_of HT_.out (by kernel_rfl)) (fun _ _ _ h => h) (Or.inr ⟨by rfl, rfl⟩) ?_ ?_
                      rotate_left; · simp only [Act.put, sa_, sb_, sc_, i64_w, i32_w]; rfl
                      refine pure_ (i := 31) (N := some 104) (v := undef) (a' := ?_) (bt_ 36 0xffffffff) rfl rfl (any_of HT_.out (by kernel_rfl)) (fun _ _ _ h => h) (Or.inr ⟨by rfl, rfl⟩) ?_ ?_
                      rotate_left; · simp only [Act.put, sa_, sb_, sc_, i64_w, i32_w]; rfl
                      refine pure_ (i := 32) (N := some 105) (v := undef) (a' := ?_) (bt_ 36 0x1ffffffff) rfl rfl (any_of HT_.out (by kernel_rfl)) (fun _ _ _ h => h) (Or.inr ⟨by rfl, rfl⟩) ?_ ?_
                      rotate_left; · simp only [Act.put, sa_, sb_, sc_, i64_w, i32_w]; rfl
                      refine pure_ (i := 33) (N := some 106) (v := undef) (a' := ?_) (bt_ 36 0x3ffffffff) rfl rfl (any_of HT_.out (by kernel_rfl)) (fun _ _ _ h => h) (Or.inr ⟨by rfl, rfl⟩) ?_ ?_
                      rotate_left; · simp only [Act.put, sa_, sb_, sc_, i64_w, i32_w]; rfl
                      refine pure_ (i := 34) (N := some 107) (v := ?_) (a' := ?_) (bt_ 36 0x7ffffffff) rfl rfl (any_of HT_.out (by kernel_rfl)) (fun _ _ _ h => h) (Or.inl ⟨by kernel_rfl, ?_⟩) ?_ ?_
                      rotate_left; · intro w'; go_simp; with_reducible rfl
                      rotate_left; · simp only [Act.put, sa_, sb_, sc_, i64_w, i32_w]; rfl
                      refine pure_ (i := 35) (N := some 2) (v := ?_) (a' := ?_) (bt_ 36 0xfffffffff) rfl rfl (any_of HT_.out (by kernel_rfl)) (fun _ _ _ h => h) (Or.inl ⟨by kernel_rfl, ?_⟩) ?_ ?_
                      rotate_left; · intro w'; go_simp; with_reducible rfl
                      rotate_left; · simp only [Act.put, sa_, sb_, sc_, i64_w, i32_w]; rfl
                      refine done_ (done_of HT_.out (by kernel_rfl)) ?_
                      try go_wp2
                      go_ret
                      exact ⟨by first | rfl | (simp [errW_none, errW_some] <;> rfl) | (simp only [← hji75, ← hji77]; first | rfl | (simp [errW_none, errW_some] <;> rfl)) | (simp [*, errW_none, errW_some] <;> rfl), by repeat (first | (with_reducible first | exact HB.out | apply below_alloc | apply pw_below_drewN | apply below_drew1 | refine below_set ?_ GE252.out | refine below_set ?_ GE264.out) | exact HB.out)⟩
                  · rw [if_neg c85] at H
                    exact absurd H (by simp)
              · rw [if_neg c78] at H
                have c78b0 : ((t263 == (-1)) == ((Go.bits .and .i64 (ji77) 1) == 1)) = false := by simpa using c78
                (try (have c78b1 : decide ((t263 == (-1)) = ((Go.bits .and .i64 (ji77) 1) == 1)) = false := by simpa using c78))
                (try (have c78b2 : ((t263 == (-1)) == ((Go.bits .and .i64 (ji77) 1) == 1)) = false := by simpa using c78))
                (try (have c78b3 : ¬ ((t263 == (-1)) = ((Go.bits .and .i64 (ji77) 1) == 1)) := by simpa using c78))
                clear c78
                obtain rfl := Option.some.inj H
                try go_wp2
                have n0_ := Aside0.mk (Kd.R_drew HO_253003.out)
                have n1_ := Aside0.mk (Kd.R_drew HO_265003.out)
                have n2_ := Aside0.mk (blk_drew BK252.out)
                have n3_ := Aside0.mk (blk_drew BK264.out)
                have n4_ := Aside0.mk (below_drew1 HB.out)
                clear HO_253003
                clear HO_265003
                clear BK252
                clear BK264
                clear HB
                have HO_253003 := n0_
                have HO_265003 := n1_
                have BK252 := n2_
                have BK264 := n3_
                have HB := n4_
                clear n0_ n1_ n2_ n3_ n4_
                refine start_ (n := 36) (S := fun w' => w'.cell? ⟨gb252, 0, none⟩ = some (.int .i64 t246) ∧ w'.cell? ⟨gb252, 1, none⟩ = some (.int .i64 t247) ∧ w'.cell? ⟨gb252, 2, none⟩ = some (.int .i64 t248) ∧ w'.cell? ⟨gb252, 3, none⟩ = some (.slice Ao12 t249.length co12)) (ds := []) (bt_ 36 0) (by kernel_rfl) rfl (by kernel_rfl) ⟨(blk_cell BK252.out 0).trans rfl, (blk_cell BK252.out 1).trans rfl, (blk_cell BK252.out 2).trans rfl, (blk_cell BK252.out 3).trans rfl⟩ (fun hHeld => ?_); refine with_tabW laws_FnLogs.tab9 laws_FnLogs.bits9 (fun HT_ HW_ => ?_)
                generalize wc.drew = w98 at HO_253003 HO_265003 BK252 BK264 HB hHeld ⊢
                refine pure_ (i := 0) (N := some 73) (v := ?_) (a' := ?_) (bt_ 36 1) rfl rfl (any_of HT_.out (by kernel_rfl)) (fun _ _ _ h => h) (Or.inl ⟨by kernel_rfl, ?_⟩) ?_ ?_
                rotate_left; · intro w'; go_simp; with_reducible rfl
                rotate_left; · simp only [Act.put, sa_, sb_, sc_, i64_w, i32_w]; rfl
                refine pure_ (i := 1) (N := some 74) (v := ?_) (a' := ?_) (bt_ 36 3) rfl rfl (any_of HT_.out (by kernel_rfl)) (fun _ _ _ h => h) (Or.inl ⟨by kernel_rfl, ?_⟩) ?_ ?_
                rotate_left; · intro w'; go_simp; with_reducible rfl
                rotate_left; · simp only [Act.put, sa_, sb_, sc_, i64_w, i32_w]; rfl
                refine pure_ (i := 2) (N := some 75) (v := ?_) (a' := ?_) (bt_ 36 7) rfl rfl (any_of HT_.out (by kernel_rfl)) (fun _ _ _ h => h) (Or.inl ⟨by kernel_rfl, ?_⟩) ?_ ?_
                rotate_left; · intro w'; go_simp; with_reducible rfl
                rotate_left; · simp only [Act.put, sa_, sb_, sc_, i64_w, i32_w]; rfl
                refine pure_ (i := 4) (N := some 77) (v := ?_) (a' := ?_) (bt_ 36 0x17) rfl rfl (any_of HT_.out (by kernel_rfl)) (fun _ _ _ h => h) (Or.inl ⟨by kernel_rfl, ?_⟩) ?_ ?_
                rotate_left; · intro w'; go_simp; with_reducible rfl
                rotate_left; · simp only [Act.put, sa_, sb_, sc_, i64_w, i32_w]; rfl
                refine take_ (i := 3) (N := some 76) (v := ?_) (a' := ?_) (bt_ 36 0x1f) rfl rfl (take_ofW HT_.out HW_.out (by kernel_rfl)) (fun _ _ _ h => h) (Or.inl ⟨by rfl, ?_⟩) hHeld ?_ ?_
                rotate_left
                · rintro w' ⟨s0, s1, s2, s3⟩
                  go_simp
                  with_reducible rfl
                rotate_left; · simp only [Act.put, sa_, sb_, sc_, i64_w, i32_w]; rfl
                refine pure_ (i := 5) (N := some 78) (v := ?_) (a' := ?_) (bt_ 36 0x3f) rfl rfl (any_of HT_.out (by kernel_rfl)) (fun _ _ _ h => h) (Or.inl ⟨by kernel_rfl, ?_⟩) ?_ ?_
                rotate_left; · intro w'; go_simp; with_reducible rfl
                rotate_left; · simp only [Act.put, sa_, sb_, sc_, i64_w, i32_w]; rfl
                refine pure_ (i := 6) (N := some 79) (v := ?_) (a' := ?_) (bt_ 36 0x7f) rfl rfl (any_of HT_.out (by kernel_rfl)) (fun _ _ _ h => h) (Or.inl ⟨by kernel_rfl, ?_⟩) ?_ ?_
                rotate_left; · intro w'; go_simp; with_reducible rfl
                rotate_left; · simp only [Act.put, sa_, sb_, sc_, i64_w, i32_w]; rfl
                refine pure_ (i := 7) (N := some 80) (v := ?_) (a' := ?_) (bt_ 36 0xff) rfl rfl (any_of HT_.out (by kernel_rfl)) (fun _ _ _ h => h) (Or.inl ⟨by kernel_rfl, ?_⟩) ?_ ?_
                rotate_left; · intro w'; go_simp; with_reducible rfl
                rotate_left; · simp only [Act.put, sa_, sb_, sc_, i64_w, i32_w]; rfl
                refine pure_ (i := 8) (N := some 81) (v := ?_) (a' := ?_) (bt_ 36 0x1ff) rfl rfl (any_of HT_.out (by kernel_rfl)) (fun _ _ _ h => h) (Or.inl ⟨by kernel_rfl, ?_⟩) ?_ ?_
                rotate_left; · intro w'; go_simp; with_reducible rfl
                rotate_left; · simp only [Act.put, sa_, sb_, sc_, i64_w, i32_w]; rfl
                refine pure_ (i := 9) (N := some 82) (v := ?_) (a' := ?_) (bt_ 36 0x3ff) rfl rfl (any_of HT_.out (by kernel_rfl)) (fun _ _ _ h => h) (Or.inl ⟨by kernel_rfl, ?_⟩) ?_ ?_
                rotate_left; · intro w'; go_simp; with_reducible rfl
                rotate_left; · simp only [Act.put, sa_, sb_, sc_, i64_w, i32_w]; rfl
                refine pure_ (i := 10) (N := some 83) (v := undef) (a' := ?_) (bt_ 36 0x7ff) rfl rfl (any_of HT_.out (by kernel_rfl)) (fun _ _ _ h => h) (Or.inr ⟨by rfl, rfl⟩) ?_ ?_
                rotate_left; · simp only [Act.put, sa_, sb_, sc_, i64_w, i32_w]; rfl
                refine pure_ (i := 11) (N := some 84) (v := undef) (a' := ?_) (bt_ 36 0xfff) rfl rfl (any_of HT_.out (by kernel_rfl)) (fun _ _ _ h => h) (Or.inr ⟨by rfl, rfl⟩) ?_ ?_
                rotate_left; · simp only [Act.put, sa_, sb_, sc_, i64_w, i32_w]; rfl
                refine pure_ (i := 12) (N := some 85) (v := undef) (a' := ?_) (bt_ 36 0x1fff) rfl rfl (any_of HT_.out (by kernel_rfl)) (fun _ _ _ h => h) (Or.inr ⟨by rfl, rfl⟩) ?_ ?_
                rotate_left; · simp only [Act.put, sa_, sb_, sc_, i64_w, i32_w]; rfl
                refine pure_ (i := 13) (N := some 86) (v := undef) (a' := ?_) (bt_ 36 0x3fff) rfl rfl (any_of HT_.out (by kernel_rfl)) (fun _ _ _ h => h) (Or.inr ⟨by rfl, rfl⟩) ?_ ?_
                rotate_left; · simp only [Act.put, sa_, sb_, sc_, i64_w, i32_w]; rfl
                refine pure_ (i := 14) (N := some 87) (v := undef) (a' := ?_) (bt_ 36 0x7fff) rfl rfl (any_of HT_.out (by kernel_rfl)) (fun _ _ _ h => h) (Or.inr ⟨by rfl, rfl⟩) ?_ ?_
                rotate_left; · simp only [Act.put, sa_, sb_, sc_, i64_w, i32_w]; rfl
                refine pure_ (i := 15) (N := some 88) (v := undef) (a' := ?_) (bt_ 36 0xffff) rfl rfl (any_of HT_.out (by kernel_rfl)) (fun _ _ _ h => h) (Or.inr ⟨by rfl, rfl⟩) ?_ ?_
                rotate_left; · simp only [Act.put, sa_, sb_, sc_, i64_w, i32_w]; rfl
                refine pure_ (i := 16) (N := some 89) (v := undef) (a' := ?_) (bt_ 36 0x1ffff) rfl rfl (any_of HT_.out (by kernel_rfl)) (fun _ _ _ h => h) (Or.inr ⟨by rfl, rfl⟩) ?_ ?_
                rotate_left; · simp only [Act.put, sa_, sb_, sc_, i64_w, i32_w]; rfl
                refine pure_ (i := 17) (N := some 90) (v := undef) (a' := ?_) (bt_ 36 0x3ffff) rfl rfl (any_of HT_.out (by kernel_rfl)) (fun _ _ _ h => h) (Or.inr ⟨by rfl, rfl⟩) ?_ ?_
                rotate_left; · simp only [Act.put, sa_, sb_, sc_, i64_w, i32_w]; rfl
                refine pure_ (i := 18) (N := some 91) (v := undef) (a' := ?_) (bt_ 36 0x7ffff) rfl rfl (any_of HT_.out (by kernel_rfl)) (fun _ _ _ h => h) (Or.inr ⟨by rfl, rfl⟩) ?_ ?_
                rotate_left; · simp only [Act.put, sa_, sb_, sc_, i64_w, i32_w]; rfl
                refine pure_ (i := 19) (N := some 92) (v := undef) (a' := ?_) (bt_ 36 0xfffff) rfl rfl (any_of HT_.out (by kernel_rfl)) (fun _ _ _ h => h) (Or.inr ⟨by rfl, rfl⟩) ?_ ?_
                rotate_left; · simp only [Act.put, sa_, sb_, sc_, i64_w, i32_w]; rfl
                refine pure_ (i := 20) (N := some 93) (v := undef) (a' := ?_) (bt_ 36 0x1fffff) rfl rfl (any_of HT_.out (by kernel_rfl)) (fun _ _ _ h => h) (Or.inr ⟨by rfl, rfl⟩) ?_ ?_
                rotate_left; · simp only [Act.put, sa_, sb_, sc_, i64_w, i32_w]; rfl
                refine pure_ (i := 21) (N := some 94) (v := undef) (a' := ?_) (bt_ 36 0x3fffff) rfl rfl (any_of HT_.out (by kernel_rfl)) (fun _ _ _ h => h) (Or.inr ⟨by rfl, rfl⟩) ?_ ?_
                rotate_left; · simp only [Act.put, sa_, sb_, sc_, i64_w, i32_w]; rfl
                refine pure_ (i := 22) (N := some 95) (v := undef) (a' := ?_) (bt_ 36 0x7fffff) rfl rfl (any_of HT_.out (by kernel_rfl)) (fun _ _ _ h => h) (Or.inr ⟨by rfl, rfl⟩) ?_ ?_
                rotate_left; · simp only [Act.put, sa_, sb_, sc_, i64_w, i32_w]; rfl
                refine pure_ (i := 23) (N := some 96) (v := undef) (a' := ?_) (bt_ 36 0xffffff) rfl rfl (any_of HT_.out (by kernel_rfl)) (fun _ _ _ h => h) (Or.inr ⟨by rfl, rfl⟩) ?_ ?_
                rotate_left; · simp only [Act.put, sa_, sb_, sc_, i64_w, i32_w]; rfl
                refine pure_ (i := 24) (N := some 97) (v := undef) (a' := ?_) (bt_ 36 0x1ffffff) rfl rfl (any_of HT_.out (by kernel_rfl)) (fun _ _ _ h => h) (Or.inr ⟨by rfl, rfl⟩) ?_ ?_
                rotate_left; · simp only [Act.put, sa_, sb_, sc_, i64_w, i32_w]; rfl
                refine pure_ (i := 25) (N := some 98) (v := undef) (a' := ?_) (bt_ 36 0x3ffffff) rfl rfl (any_of HT_.out (by kernel_rfl)) (fun _ _ _ h => h) (Or.inr ⟨by rfl, rfl⟩) ?_ ?_
                rotate_left; · simp only [Act.put, sa_, sb_, sc_, i64_w, i32_w]; rfl
                refine pure_ (i := 26) (N := some 99) (v := undef) (a' := ?_) (bt_ 36 0x7ffffff) rfl rfl (any_of HT_.out (by kernel_rfl)) (fun _ _ _ h => h) (Or.inr ⟨by rfl, rfl⟩) ?_ ?_
                rotate_left; · simp only [Act.put, sa_, sb_, sc_, i64_w, i32_w]; rfl
                refine pure_ (i := 27) (N := some 100) (v := ?_) (a' := ?_) (bt_ 36 0xfffffff) rfl rfl (any_of HT_.out (by kernel_rfl)) (fun _ _ _ h => h) (Or.inl ⟨by kernel_rfl, ?_⟩) ?_ ?_
                rotate_left; · intro w'; go_simp; with_reducible rfl
                rotate_left; · simp only [Act.put, sa_, sb_, sc_, i64_w, i32_w]; rfl
                refine pure_ (i := 28) (N := some 101) (v := ?_) (a' := ?_) (bt_ 36 0x1fffffff) rfl rfl (any_of HT_.out (by kernel_rfl)) (fun _ _ _ h => h) (Or.inl ⟨by kernel_rfl, ?_⟩) ?_ ?_
                rotate_left; · intro w'; go_simp; with_reducible rfl
                rotate_left; · simp only [Act.put, sa_, sb_, sc_, i64_w, i32_w]; rfl
                refine pure_ (i := 29) (N := some 102) (v := undef) (a' := ?_) (bt_ 36 0x3fffffff) rfl rfl (any_of HT_.out (by kernel_rfl)) (fun _ _ _ h => h) (Or.inr ⟨by rfl, rfl⟩) ?_ ?_
                rotate_left; · simp only [Act.put, sa_, sb_, sc_, i64_w, i32_w]; rfl
                refine pure_ (i := 30) (N := some 103) (v := undef) (a' := ?_) (bt_ 36 0x7fffffff) rfl rfl (any_of HT_.out (by kernel_rfl)) (fun _ _ _ h => h) (Or.inr ⟨by rfl, rfl⟩) ?_ ?_
                rotate_left; · simp only [Act.put, sa_, sb_, sc_, i64_w, i32_w]; rfl
                refine pure_ (i := 31) (N := some 104) (v := undef) (a' := ?_) (bt_ 36 0xffffffff) rfl rfl (any_of HT_.out (by kernel_rfl)) (fun _ _ _ h => h) (Or.inr ⟨by rfl, rfl⟩) ?_ ?_
                rotate_left; · simp only [Act.put, sa_, sb_, sc_, i64_w, i32_w]; rfl
                refine pure_ (i := 32) (N := some 105) (v := undef) (a' := ?_) (bt_ 36 0x1ffffffff) rfl rfl (any_of HT_.out (by kernel_rfl)) (fun _ _ _ h => h) (Or.inr ⟨by rfl, rfl⟩) ?_ ?_
                rotate_left; · simp only [Act.put, sa_, sb_, sc_, i64_w, i32_w]; rfl
                refine pure_ (i := 33) (N := some 106) (v := undef) (a' := ?_) (bt_ 36 0x3ffffffff) rfl rfl (any_of HT_.out (by kernel_rfl)) (fun _ _ _ h => h) (Or.inr ⟨by rfl, rfl⟩) ?_ ?_
                rotate_left; · simp only [Act.put, sa_, sb_, sc_, i64_w, i32_w]; rfl
                refine pure_ (i := 34) (N := some 107) (v := ?_) (a' := ?_) (bt_ 36 0x7ffffffff) rfl rfl (any_of HT_.out (by kernel_rfl)) (fun _ _ _ h => h) (Or.inl ⟨by kernel_rfl, ?_⟩) ?_ ?_
                rotate_left; · intro w'; go_simp; with_reducible rfl
                rotate_left; · simp only [Act.put, sa_, sb_, sc_, i64_w, i32_w]; rfl
                refine pure_ (i := 35) (N := some 2) (v := ?_) (a' := ?_) (bt_ 36 0xfffffffff) rfl rfl (any_of HT_.out (by kernel_rfl)) (fun _ _ _ h => h) (Or.inl ⟨by kernel_rfl, ?_⟩) ?_ ?_
                rotate_left; · intro w'; go_simp; with_reducible rfl
                rotate_left; · simp only [Act.put, sa_, sb_, sc_, i64_w, i32_w]; rfl
                refine done_ (done_of HT_.out (by kernel_rfl)) ?_
                try go_wp2
                go_ret
                exact ⟨by first | rfl | (simp [errW_none, errW_some] <;> rfl) | (simp only [← hji75, ← hji77]; first | rfl | (simp [errW_none, errW_some] <;> rfl)) | (simp [*, errW_none, errW_some] <;> rfl), by repeat (first | (with_reducible first | exact HB.out | apply below_alloc | apply pw_below_drewN | apply below_drew1 | refine below_set ?_ GE252.out | refine below_set ?_ GE264.out) | exact HB.out)⟩
            · rw [if_neg c76] at H
              exact absurd H (by simp)
    · rw [if_neg c6] at H
      exact absurd H (by simp)

/-- THE ONE PURE STATEMENT of laws_FnLogs: yours. -/
def laws_FnLogs.Pure : Prop := ∀ (l0 : List Int), l0.length ≤ maxLen → l0.length * 1 ≤ 140737488351232 → (∀ x ∈ l0, (Lit.int .u8 x).wf = true) → ∃ k, laws_FnLogs.f k l0 = some true
theorem laws_FnLogs.walk (P : laws_FnLogs.Pure) (a0 : Option Addr) (len0 cap0 : Nat) (z0 : List Int) (w : World) (w0 : (a0 = none ∧ len0 = 0 ∧ cap0 = 0 ∧ z0 = []) ∨ ∃ x, a0 = some x ∧ len0 ≤ cap0 ∧ cap0 ≤ maxLen ∧ z0.length = cap0 ∧ (∀ i, i < z0.length → w.cell? (x.add i) = some (.int .u8 (z0.getD i 0))) ∧ ∀ n ∈ z0, (Lit.int .u8 n).wf = true) (y0 : len0 * 1 ≤ 140737488351232) :
    Calls Try.prog 6 #[.slice a0 len0 cap0] w fun e w' => e = .returned (.bool true) ∧ Below w.heap.size w w' := by
  obtain ⟨l0, rfl, hr0, hm0, hw0, hc0⟩ := ReadsInt.ofRowC w0
  obtain ⟨k, h⟩ := P l0 hm0 y0 hw0
  refine (laws_FnLogs.calls k _ _ l0 true w (Kd.C_of_reads (d := (0 : Int)) (h1 := fun _ => rfl) hr0) hc0 h).mono ?_
  rintro e w' ⟨rfl, hd⟩
  exact ⟨rfl, hd⟩

end Go.Proofs.Ytbfkiggcemlmgaa.PFnLogs

/- What the functions of FnExactProduce give, in plain terms. -/
import Derived.Test.YtmbmapbdbbnaeaaFFnExactProduce
import Derived.Test.YtmbmapbdbbnaeaaTiPL
set_option linter.unusedVariables false
set_option linter.unusedSimpArgs false
set_option maxRecDepth 100000
namespace Go.Proofs.YtmbmapbdbbnaeaaT
open Go
theorem bnd_to {A R : Type} {x : Option A} {a : A} {f : A → Option R} {r : Option R} (h : x = some a) (g : f a = r) : bnd x f = r := by rw [h]; exact g
theorem brF_to {R : Type} {b : Bool} {x y r : Option R} (h : b = false) (g : y = r) : brB b x y = r := by rw [h]; exact g
theorem brT_to {R : Type} {b : Bool} {x y r : Option R} (h : b = true) (g : x = r) : brB b x y = r := by rw [h]; exact g
theorem chk_to {R : Type} {b : Bool} {x r : Option R} (h : b = true) (g : x = r) : chk b x = r := by rw [h]; exact g
theorem iNe_self (a : Int) : iNe a a = false := by simp [iNe]
theorem bNe_self (a : Bool) : bNe a a = false := by simp [bNe]
theorem bNot_t : bNot true = false := rfl
theorem iLt_no {a b : Int} (h : b ≤ a) : iLt a b = false := by simp [iLt, h]
theorem iLt_yes {a b : Int} (h : a < b) : iLt a b = true := by simp [iLt, h]
theorem iter_from {X R : Type} {f : (X → Option R) → X → Option R} {x0 : X} (s : Nat → X) (N : Nat) {r : R} (h0 : x0 = s 0) (step : ∀ rec i, i < N → f rec (s i) = rec (s (i + 1))) (done : ∀ rec, f rec (s N) = some r) {n : Nat} (hn : N < n) :
    iter f n x0 = some r := by rw [h0]; exact iter_upto s N step done hn
theorem cLen_yes {n b : Int} (h : n * b ≤ 35184372088832) : cLen n b = true := @decide_eq_true _ (Classical.propDecidable _) h

theorem iLe_eq (a b : Int) : iLe a b = decide (a ≤ b) := rfl
theorem iLt_eq (a b : Int) : iLt a b = decide (a < b) := rfl
theorem iEq_eq (a b : Int) : iEq a b = decide (a = b) := by by_cases h : a = b <;> simp [iEq, h]
theorem iNe_eq (a b : Int) : iNe a b = !decide (a = b) := by by_cases h : a = b <;> simp [iNe, h]
theorem bNot_eq (a : Bool) : bNot a = !a := rfl
/-- A loop that looks for the first element with a quality. -/
theorem iter_find {R : Type} {α : Type} {X : Type} {f : (X → Option R) → X → Option R} (s : Nat → X) (xs : List α) (p : α → Bool) (r : R) (e : Nat → R)
    (go : ∀ rec (i : Nat) (h : i < xs.length), p xs[i] = true → f rec (s i) = rec (s (i + 1))) (stop : ∀ rec (i : Nat) (h : i < xs.length), p xs[i] = false → f rec (s i) = some (e i)) (done : ∀ rec, f rec (s xs.length) = some r) {n : Nat} (hn : xs.length < n) :
    iter f n (s 0) = some (match xs.findIdx? (fun x => !p x) with | some i => e i | none => r) := by
  suffices H : ∀ d i n, i + d = xs.length → d < n → (∀ j (h : j < xs.length), j < i → p xs[j] = true) → iter f n (s i) = some (match xs.findIdx? (fun x => !p x) with | some i => e i | none => r) from H xs.length 0 n (by omega) hn (fun j _ h => by omega)
  intro d
  induction d with
  | zero =>
    intro i n hi hn hp
    obtain ⟨m, rfl⟩ : ∃ m, n = m + 1 := ⟨n - 1, by omega⟩
    obtain rfl : i = xs.length := by omega
    have : xs.findIdx? (fun x => !p x) = none := by
      rw [List.findIdx?_eq_none_iff]
      intro x hx
      obtain ⟨j, hj, rfl⟩ := List.mem_iff_getElem.1 hx
      simp [hp j hj (by omega)]
    rw [this]
    exact done _
  | succ d ih =>
    intro i n hi hn hp
    obtain ⟨m, rfl⟩ : ∃ m, n = m + 1 := ⟨n - 1, by omega⟩
    show f (iter f m) (s i) = _
    have hlt : i < xs.length := by omega
    by_cases hq : p xs[i] = false
    · rw [stop _ i hlt hq]
      have : xs.findIdx? (fun x => !p x) = some i := by
        rw [List.findIdx?_eq_some_iff_getElem]
        exact ⟨hlt, by simp [hq], fun j hj => by simp [hp j (by omega) hj]⟩
      rw [this]
    · have hq : p xs[i] = true := by simpa using hq
      rw [go _ i hlt hq]
      refine ih (i + 1) m (by omega) (by omega) fun j h hj => ?_
      rcases Nat.lt_or_ge j i with h' | h'
      · exact hp j h h'
      · obtain rfl : j = i := by omega
        exact hq
theorem getD_lt {α : Type} (d : α) (xs : List α) {i : Nat} (h : i < xs.length) : xs.getD i d = xs[i] := by
  rw [List.getD_eq_getElem?_getD, List.getElem?_eq_getElem h]; rfl
theorem bEq_eq (a b : Bool) : bEq a b = decide (a = b) := by cases a <;> cases b <;> rfl
theorem bNe_eq (a b : Bool) : bNe a b = !decide (a = b) := by cases a <;> cases b <;> rfl
theorem brB_nb {R : Type} (b : Bool) (x y : Option R) : brB (!b) x y = brB b y x := by cases b <;> rfl
theorem brB_dec {R : Type} (p : Prop) [Decidable p] (x y : Option R) : brB (decide p) x y = if p then x else y := by by_cases h : p <;> simp [h, brB]
theorem if_idx {R : Type} {i n : Nat} {x : Option R} (h : i < n) : (if 0 ≤ (i : Int) ∧ (i : Int) < (n : Int) then x else none) = x := if_pos (by omega)
theorem l01In_eq (k : Nat) (x a b : Int) : spec_l01In.f k x a b = some (decide (a ≤ x ∧ x ≤ b)) := by
  simp only [spec_l01In.f, iLt_eq, iLe_eq, iEq_eq, iNe_eq, bNot_eq, bEq_eq, bNe_eq, brB_nb, brB_dec, brB_true, brB_false, chk_idx, chk_len, chk_make, chk_sub, bnd_one, rLen_eq, rGet_nat, rSet_nat, rApp_eq, ↓reduceIte]; split <;> rename_i h <;> simp [h]
theorem within_eq (k : Nat) (x a b : Int) : impl_within.f k x a b = some (decide (a ≤ x ∧ x ≤ b)) := by
  simp only [impl_within.f, iLt_eq, iLe_eq, iEq_eq, iNe_eq, bNot_eq, bEq_eq, bNe_eq, brB_nb, brB_dec, brB_true, brB_false, chk_idx, chk_len, chk_make, chk_sub, bnd_one, rLen_eq, rGet_nat, rSet_nat, rApp_eq, ↓reduceIte]; split <;> rename_i h <;> simp [h]
theorem specIsId_eq (k : Nat) (a : Int) : spec_IsId.f k a = some (decide (0 ≤ a ∧ a ≤ 255)) := by simp only [spec_IsId.f, l01In_eq, bnd_one]
theorem implIsId_eq (k : Nat) (a : Int) : impl_IsId.f k a = some (decide (0 ≤ a ∧ a ≤ 255)) := by simp only [impl_IsId.f, within_eq, bnd_one]
theorem toIntS_ev (xs : List Int) (hn : xs.length ≤ 1048576) (k : Nat) (hk : xs.length < k) : laws_toIntS.f k xs = some xs := by
  simp only [laws_toIntS.f, laws_toIntS.l0, iLt_eq, iLe_eq, iEq_eq, iNe_eq, bNot_eq, bEq_eq, bNe_eq, brB_nb, brB_dec, brB_true, brB_false, chk_idx, chk_len, chk_make, chk_sub, bnd_one, rLen_eq, rGet_nat, rSet_nat, rApp_eq, ↓reduceIte]
  rw [if_pos (by omega), rRep_nat]
  have h := iter_upto (f := fun (rec : (List Int × List Int × Int) → Option (List Int)) (x : List Int × List Int × Int) => laws_toIntS.s0 k rec x.1 x.2.1 x.2.2)
    (fun i => (xs, fill (fun j => xs.getD j 0) (List.replicate xs.length 0) i, (i : Int))) xs.length (r := xs) (fun rec i hi => ?_) (fun rec => ?_) hk
  · rw [fill_zero] at h; exact h
  · simp only [laws_toIntS.s0, fill_len (show i ≤ (List.replicate xs.length (0:Int)).length by simp; omega), List.length_replicate, iLt_eq, iLe_eq, iEq_eq, iNe_eq, bNot_eq, bEq_eq, bNe_eq, brB_nb, brB_dec, brB_true, brB_false, chk_idx, chk_len, chk_make, chk_sub, bnd_one, rLen_eq, rGet_nat, rSet_nat, rApp_eq, ↓reduceIte]
    rw [if_pos (by omega), if_idx hi, if_idx hi, fill_set (by simpa using hi), next_id hi (by omega)]
  · have h2 := fill_end (g := fun j => xs.getD j 0) (xs := List.replicate xs.length (0 : Int))
    rw [List.length_replicate] at h2
    simp only [laws_toIntS.s0, h2, range_getD, iLt_eq, iLe_eq, iEq_eq, iNe_eq, bNot_eq, bEq_eq, bNe_eq, brB_nb, brB_dec, brB_true, brB_false, chk_idx, chk_len, chk_make, chk_sub, bnd_one, rLen_eq, rGet_nat, rSet_nat, rApp_eq, ↓reduceIte]
    rw [if_neg (by omega)]
theorem eqIntS_refl (xs : List Int) (hn : xs.length ≤ 4611686018427387904) (k : Nat) (hk : xs.length < k) : laws_eqIntS.f k xs xs = some true := by
  simp only [laws_eqIntS.f, laws_eqIntS.l0, iLt_eq, iLe_eq, iEq_eq, iNe_eq, bNot_eq, bEq_eq, bNe_eq, brB_nb, brB_dec, brB_true, brB_false, chk_idx, chk_len, chk_make, chk_sub, bnd_one, rLen_eq, rGet_nat, rSet_nat, rApp_eq, ↓reduceIte]
  refine iter_upto (f := fun (rec : (List Int × List Int × Int) → Option Bool) (x : List Int × List Int × Int) => laws_eqIntS.s0 k rec x.1 x.2.1 x.2.2) (fun i => (xs, xs, (i : Int))) xs.length (fun rec i hi => ?_) (fun rec => ?_) hk
  · simp only [laws_eqIntS.s0, iLt_eq, iLe_eq, iEq_eq, iNe_eq, bNot_eq, bEq_eq, bNe_eq, brB_nb, brB_dec, brB_true, brB_false, chk_idx, chk_len, chk_make, chk_sub, bnd_one, rLen_eq, rGet_nat, rSet_nat, rApp_eq, ↓reduceIte]
    rw [if_pos (by omega), if_idx hi, if_idx hi, next_id hi hn]
  · simp only [laws_eqIntS.s0, iLt_eq, iLe_eq, iEq_eq, iNe_eq, bNot_eq, bEq_eq, bNe_eq, brB_nb, brB_dec, brB_true, brB_false, chk_idx, chk_len, chk_make, chk_sub, bnd_one, rLen_eq, rGet_nat, rSet_nat, rApp_eq, ↓reduceIte]
    rw [if_neg (by omega)]
/-- The marks of a row of numbers. -/
def marks (m : Int) (n : Nat) : List Int := (List.range n).map fun (j : Nat) => m + (j : Int)
theorem marks_len (m : Int) (n : Nat) : (marks m n).length = n := by simp [marks]
theorem markIntS_ev (xs : List Int) (m : Int) (hn : xs.length ≤ 1000000000000) (h0 : 0 ≤ m) (h1 : m ≤ 1000000000000) (k : Nat) (hk : xs.length < k) : laws_markIntS.f k xs m = some (m + xs.length, marks m xs.length) := by
  simp only [laws_markIntS.f, laws_markIntS.l0]
  have h := iter_upto (f := fun (rec : (List Int × Int × Int) → Option (Int × List Int)) (x : List Int × Int × Int) => laws_markIntS.s0 k rec x.1 x.2.1 x.2.2)
    (fun i => (fill (fun (j : Nat) => m + (j : Int)) xs i, m + (i : Int), (i : Int))) xs.length (r := (m + xs.length, marks m xs.length)) (fun rec i hi => ?_) (fun rec => ?_) hk
  · rw [fill_zero] at h; simpa using h
  · simp only [laws_markIntS.s0, fill_len (Nat.le_of_lt hi), iLt_eq, iLe_eq, iEq_eq, iNe_eq, bNot_eq, bEq_eq, bNe_eq, brB_nb, brB_dec, brB_true, brB_false, chk_idx, chk_len, chk_make, chk_sub, bnd_one, rLen_eq, rGet_nat, rSet_nat, rApp_eq, ↓reduceIte]
    rw [if_pos (by omega), if_idx hi, fill_set hi, next_id hi (by omega), iAdd_id (by omega) (by omega)]
    congr 3
    omega
  · simp only [laws_markIntS.s0, fill_end, List.length_map, List.length_range, iLt_eq, iLe_eq, iEq_eq, iNe_eq, bNot_eq, bEq_eq, bNe_eq, brB_nb, brB_dec, brB_true, brB_false, chk_idx, chk_len, chk_make, chk_sub, bnd_one, rLen_eq, rGet_nat, rSet_nat, rApp_eq, ↓reduceIte]
    rw [if_neg (by omega)]
    rfl
theorem heldIntS_ev (n : Nat) (m : Int) (hn : n ≤ 1000000000000) (h0 : 0 ≤ m) (h1 : m ≤ 1000000000000) (k : Nat) (hk : n < k) : laws_heldIntS.f k (marks m n) m = some (m + n) := by
  simp only [laws_heldIntS.f, laws_heldIntS.l0]
  have h := iter_upto (f := fun (rec : (List Int × Int × Int) → Option Int) (x : List Int × Int × Int) => laws_heldIntS.s0 k rec x.1 x.2.1 x.2.2)
    (fun i => (marks m n, m + (i : Int), (i : Int))) n (r := m + n) (fun rec i hi => ?_) (fun rec => ?_) hk
  · simpa using h
  · simp only [laws_heldIntS.s0, marks_len, iLt_eq, iLe_eq, iEq_eq, iNe_eq, bNot_eq, bEq_eq, bNe_eq, brB_nb, brB_dec, brB_true, brB_false, chk_idx, chk_len, chk_make, chk_sub, bnd_one, rLen_eq, rGet_nat, rSet_nat, rApp_eq, ↓reduceIte]
    rw [if_pos (by omega), if_idx hi, marks, range_get n hi, if_pos rfl, next_id hi (by omega), iAdd_id (by omega) (by omega)]
    congr 3
    omega
  · simp only [laws_heldIntS.s0, marks_len, iLt_eq, iLe_eq, iEq_eq, iNe_eq, bNot_eq, bEq_eq, bNe_eq, brB_nb, brB_dec, brB_true, brB_false, chk_idx, chk_len, chk_make, chk_sub, bnd_one, rLen_eq, rGet_nat, rSet_nat, rApp_eq, ↓reduceIte]
    rw [if_neg (by omega)]
/-- All are words. -/
def wordsOk (l : List Int) : Bool := l.all fun x => decide (0 ≤ x ∧ x ≤ 65535)
theorem findIdx_all {α : Type} (l : List α) (p : α → Bool) : (match l.findIdx? (fun x => !p x) with | some _ => false | none => true) = l.all p := by
  cases h : l.findIdx? (fun x => !p x) with
  | none =>
    rw [List.findIdx?_eq_none_iff] at h
    symm
    rw [List.all_eq_true]
    intro x hx
    simpa using h x hx
  | some i =>
    rw [List.findIdx?_eq_some_iff_getElem] at h
    obtain ⟨hi, h1, _⟩ := h
    symm
    rw [← Bool.not_eq_true, List.all_eq_true]
    intro hall
    have := hall _ (List.getElem_mem hi)
    simp [this] at h1
theorem found_iff {α : Type} (l : List α) (p : α → Bool) : iLe 0 (match l.findIdx? (fun x => !p x) with | some i => (i : Int) | none => -1) = !l.all p := by
  rw [← findIdx_all]
  cases l.findIdx? (fun x => !p x) with
  | none => rfl
  | some i => simp [iLe]
theorem l04Words_ev (l : List Int) (hl : l.length ≤ 4611686018427387904) (k : Nat) (hk : l.length < k) : spec_l04Words.f k l = some (wordsOk l) := by
  simp only [spec_l04Words.f, spec_l04Words.l0]
  have h := iter_find (f := fun (rec : (List Int × Int) → Option Bool) (x : List Int × Int) => spec_l04Words.s0 k rec x.1 x.2) (fun i => (l, (i : Int))) l (fun x => decide (0 ≤ x ∧ x ≤ 65535)) true (fun _ => false)
    (fun rec i hi hp => ?_) (fun rec i hi hp => ?_) (fun rec => ?_) hk
  · exact h.trans (congrArg some (findIdx_all l _))
  · simp only [spec_l04Words.s0, l01In_eq, getD_lt _ _ hi, iLt_eq, iLe_eq, iEq_eq, iNe_eq, bNot_eq, bEq_eq, bNe_eq, brB_nb, brB_dec, brB_true, brB_false, chk_idx, chk_len, chk_make, chk_sub, bnd_one, rLen_eq, rGet_nat, rSet_nat, rApp_eq, ↓reduceIte]
    rw [if_pos (by omega), if_idx hi, next_id hi hl]
    rw [if_pos (of_decide_eq_true hp)]
  · simp only [spec_l04Words.s0, l01In_eq, getD_lt _ _ hi, iLt_eq, iLe_eq, iEq_eq, iNe_eq, bNot_eq, bEq_eq, bNe_eq, brB_nb, brB_dec, brB_true, brB_false, chk_idx, chk_len, chk_make, chk_sub, bnd_one, rLen_eq, rGet_nat, rSet_nat, rApp_eq, ↓reduceIte]
    rw [if_pos (by omega), if_idx hi]
    rw [if_neg (of_decide_eq_false hp)]
  · simp only [spec_l04Words.s0, iLt_eq, iLe_eq, iEq_eq, iNe_eq, bNot_eq, bEq_eq, bNe_eq, brB_nb, brB_dec, brB_true, brB_false, chk_idx, chk_len, chk_make, chk_sub, bnd_one, rLen_eq, rGet_nat, rSet_nat, rApp_eq, ↓reduceIte]
    rw [if_neg (by omega)]
theorem isWord_eq (k : Nat) (x : Int) : impl_isWord.f k x = some (decide (0 ≤ x ∧ x ≤ 65535)) := by simp only [impl_isWord.f, within_eq, bnd_one]
theorem indexNotWord2 (l : List Int) (hl : l.length ≤ 4611686018427387904) (k : Nat) (hk : l.length < k) : slices_IndexFunc_int_impl_Packet__dataOk_1.f k l = some (match l.findIdx? (fun x => !decide (0 ≤ x ∧ x ≤ 65535)) with | some i => (i : Int) | none => -1) := by
  simp only [slices_IndexFunc_int_impl_Packet__dataOk_1.f, slices_IndexFunc_int_impl_Packet__dataOk_1.l0]
  refine iter_find (f := fun (rec : (List Int × Int × Int) → Option Int) (x : List Int × Int × Int) => slices_IndexFunc_int_impl_Packet__dataOk_1.s0 k rec x.1 x.2.1 x.2.2) (fun i => (l, rLen l, (i : Int))) l (fun x => decide (0 ≤ x ∧ x ≤ 65535)) (-1) (fun i => (i : Int)) (fun rec i hi hp => ?_) (fun rec i hi hp => ?_) (fun rec => ?_) hk
  · simp only [slices_IndexFunc_int_impl_Packet__dataOk_1.s0, impl_Packet__dataOk_1.f, isWord_eq, getD_lt _ _ hi, iLt_eq, iLe_eq, iEq_eq, iNe_eq, bNot_eq, bEq_eq, bNe_eq, brB_nb, brB_dec, brB_true, brB_false, chk_idx, chk_len, chk_make, chk_sub, bnd_one, rLen_eq, rGet_nat, rSet_nat, rApp_eq, ↓reduceIte]
    rw [if_pos (by omega), if_idx hi, next_id hi hl]
    rw [if_pos (of_decide_eq_true hp)]
  · simp only [slices_IndexFunc_int_impl_Packet__dataOk_1.s0, impl_Packet__dataOk_1.f, isWord_eq, getD_lt _ _ hi, iLt_eq, iLe_eq, iEq_eq, iNe_eq, bNot_eq, bEq_eq, bNe_eq, brB_nb, brB_dec, brB_true, brB_false, chk_idx, chk_len, chk_make, chk_sub, bnd_one, rLen_eq, rGet_nat, rSet_nat, rApp_eq, ↓reduceIte]
    rw [if_pos (by omega), if_idx hi]
    rw [if_neg (of_decide_eq_false hp)]
  · simp only [slices_IndexFunc_int_impl_Packet__dataOk_1.s0, iLt_eq, iLe_eq, iEq_eq, iNe_eq, bNot_eq, bEq_eq, bNe_eq, brB_nb, brB_dec, brB_true, brB_false, chk_idx, chk_len, chk_make, chk_sub, bnd_one, rLen_eq, rGet_nat, rSet_nat, rApp_eq, ↓reduceIte]
    rw [if_neg (by omega)]
theorem brB_and {x : Option Bool} {b c : Bool} (h : x = some c) : brB b x (some false) = some (b && c) := by cases b <;> simp [brB, h]
theorem if_and {p : Prop} [Decidable p] {x : Option Bool} {c : Bool} (h : x = some c) : (if p then x else some false) = some (decide p && c) := by by_cases hp : p <;> simp [hp, h]
/-- A packet is valid: n is how many data it has, w says that they are words. -/
def packP (a0 a1 a2 a3 a4 a5 a6 n : Int) : Prop := (0 ≤ a1 ∧ a1 ≤ 255) ∧ (
  (a0 = 1 ∧ (1 ≤ n ∧ n ≤ 8) ∧ (0 ≤ a3 ∧ a3 ≤ 65536 - n) ∧ a6 = 0 ∧ a2 = 0 ∧ a4 = 0 ∧ a5 = 0) ∨
  (a0 = 2 ∧ (1 ≤ n ∧ n ≤ 8) ∧ a3 = 0 ∧ a6 = 0 ∧ a2 = 0 ∧ a4 = 0 ∧ a5 = 0) ∨
  (a0 = 3 ∧ n = 0 ∧ (1 ≤ a4 ∧ a4 ≤ 64) ∧ (0 ≤ a3 ∧ a3 ≤ 65536 - a4) ∧ (0 ≤ a5 ∧ a5 ≤ 7) ∧ a6 = 0 ∧ a2 = 0) ∨
  (a0 = 4 ∧ n = 0 ∧ (0 ≤ a3 ∧ a3 ≤ 63) ∧ (0 ≤ a2 ∧ a2 ≤ 255) ∧ (0 ≤ a5 ∧ a5 ≤ 7) ∧ a6 = 0 ∧ a4 = 0) ∨
  (a0 = 5 ∧ n = 1 ∧ (0 ≤ a3 ∧ a3 ≤ 63) ∧ (0 ≤ a2 ∧ a2 ≤ 255) ∧ (0 ≤ a5 ∧ a5 ≤ 7) ∧ a6 = 0 ∧ a4 = 0) ∨
  (a0 = 6 ∧ a3 = 0 ∧ (0 ≤ a2 ∧ a2 ≤ 255) ∧ (0 ≤ a5 ∧ a5 ≤ 7) ∧ (0 ≤ a6 ∧ a6 ≤ 2) ∧ (0 ≤ a4 ∧ a4 ≤ 64) ∧ (n = 0 ∨ (a6 = 0 ∧ n ≤ 8 ∧ n ≤ a4))))
instance (a0 a1 a2 a3 a4 a5 a6 n : Int) : Decidable (packP a0 a1 a2 a3 a4 a5 a6 n) := by unfold packP; infer_instance
def packB (a0 a1 a2 a3 a4 a5 a6 : Int) (l : List Int) : Bool := wordsOk l && decide (packP a0 a1 a2 a3 a4 a5 a6 (l.length : Int))
theorem some_iff {b c : Bool} (h : b = true ↔ c = true) : some b = some c := by rw [Bool.eq_iff_iff.2 h]
theorem l04Zero_eq (k : Nat) (a0 a1 a2 a3 a4 a5 a6 : Int) (l : List Int) (x y z : Bool) : spec_l04Zero.f k a0 a1 a2 a3 a4 a5 a6 l x y z = some (decide ((x = true ∨ a2 = 0) ∧ (y = true ∨ a4 = 0) ∧ (z = true ∨ a5 = 0))) := by
  simp only [spec_l04Zero.f, iLt_eq, iLe_eq, iEq_eq, iNe_eq, bNot_eq, bEq_eq, bNe_eq, brB_nb, brB_dec, brB_true, brB_false, chk_idx, chk_len, chk_make, chk_sub, bnd_one, rLen_eq, rGet_nat, rSet_nat, rApp_eq, ↓reduceIte]
  cases x <;> cases y <;> cases z <;> simp only [iLt_eq, iLe_eq, iEq_eq, iNe_eq, bNot_eq, bEq_eq, bNe_eq, brB_nb, brB_dec, brB_true, brB_false, chk_idx, chk_len, chk_make, chk_sub, bnd_one, rLen_eq, rGet_nat, rSet_nat, rApp_eq, ↓reduceIte] <;> (repeat' split) <;> simp_all
theorem specIsPacket_ev (a0 a1 a2 a3 a4 a5 a6 : Int) (l : List Int) (hl : l.length ≤ 1048576) (h3 : (Lit.int .i64 a3).wf = true) (h4 : (Lit.int .i64 a4).wf = true) (k : Nat) (hk : l.length < k) : spec_IsPacket.f k a0 a1 a2 a3 a4 a5 a6 l = some (packB a0 a1 a2 a3 a4 a5 a6 l) := by
  rw [wf64] at h3 h4
  simp only [spec_IsPacket.f, specIsId_eq, l01In_eq, l04Words_ev l (by omega) k hk, l04Zero_eq, iLt_eq, iLe_eq, iEq_eq, iNe_eq, bNot_eq, bEq_eq, bNe_eq, brB_nb, brB_dec, brB_true, brB_false, chk_idx, chk_len, chk_make, chk_sub, bnd_one, rLen_eq, rGet_nat, rSet_nat, rApp_eq, ↓reduceIte]
  rw [iSub_id (a := 65536) (b := (l.length : Int)) (by omega) (by omega)]
  simp only [packB, iSub_w, w64, iMin]
  generalize wordsOk l = w
  generalize (l.length : Int) = n at *
  cases w with
  | false => simp only [iLt_eq, iLe_eq, iEq_eq, iNe_eq, bNot_eq, bEq_eq, bNe_eq, brB_nb, brB_dec, brB_true, brB_false, chk_idx, chk_len, chk_make, chk_sub, bnd_one, rLen_eq, rGet_nat, rSet_nat, rApp_eq, ↓reduceIte, Bool.false_and]; split <;> rfl
  | true =>
    simp only [iLt_eq, iLe_eq, iEq_eq, iNe_eq, bNot_eq, bEq_eq, bNe_eq, brB_nb, brB_dec, brB_true, brB_false, chk_idx, chk_len, chk_make, chk_sub, bnd_one, rLen_eq, rGet_nat, rSet_nat, rApp_eq, ↓reduceIte, Bool.true_and]
    by_cases b0 : 0 ≤ a1 ∧ a1 ≤ 255
    · rw [if_pos b0]
      by_cases b1 : a0 = 1
      · subst b1; simp only [↓reduceIte]; (repeat' split) <;> (refine some_iff ?_ <;> (try simp only [packP, decide_eq_true_eq, Bool.false_eq_true, false_iff, true_iff, Int.reduceEq, false_or, or_false, false_and, true_and, and_true, and_false, true_or, or_true, iff_self, iff_false, iff_true] at *) <;> first | omega | (intro h; omega) | (constructor <;> intro h <;> omega) | trivial)
      by_cases b2 : a0 = 2
      · subst b2; simp only [Int.reduceEq, ↓reduceIte]; (repeat' split) <;> (refine some_iff ?_ <;> (try simp only [packP, decide_eq_true_eq, Bool.false_eq_true, false_iff, true_iff, Int.reduceEq, false_or, or_false, false_and, true_and, and_true, and_false, true_or, or_true, iff_self, iff_false, iff_true] at *) <;> first | omega | (intro h; omega) | (constructor <;> intro h <;> omega) | trivial)
      by_cases b3 : a0 = 3
      · subst b3; simp only [Int.reduceEq, ↓reduceIte]; (repeat' split) <;> (refine some_iff ?_ <;> (try simp only [packP, decide_eq_true_eq, Bool.false_eq_true, false_iff, true_iff, Int.reduceEq, false_or, or_false, false_and, true_and, and_true, and_false, true_or, or_true, iff_self, iff_false, iff_true] at *) <;> first | omega | (intro h; omega) | (constructor <;> intro h <;> omega) | trivial)
      by_cases b4 : a0 = 4
      · subst b4; simp only [Int.reduceEq, ↓reduceIte]; (repeat' split) <;> (refine some_iff ?_ <;> (try simp only [packP, decide_eq_true_eq, Bool.false_eq_true, false_iff, true_iff, Int.reduceEq, false_or, or_false, false_and, true_and, and_true, and_false, true_or, or_true, iff_self, iff_false, iff_true] at *) <;> first | omega | (intro h; omega) | (constructor <;> intro h <;> omega) | trivial)
      by_cases b5 : a0 = 5
      · subst b5; simp only [Int.reduceEq, ↓reduceIte]; (repeat' split) <;> (refine some_iff ?_ <;> (try simp only [packP, decide_eq_true_eq, Bool.false_eq_true, false_iff, true_iff, Int.reduceEq, false_or, or_false, false_and, true_and, and_true, and_false, true_or, or_true, iff_self, iff_false, iff_true] at *) <;> first | omega | (intro h; omega) | (constructor <;> intro h <;> omega) | trivial)
      by_cases b6 : a0 = 6
      · subst b6; simp only [Int.reduceEq, ↓reduceIte]; (repeat' split) <;> (refine some_iff ?_ <;> (try simp only [packP, decide_eq_true_eq, Bool.false_eq_true, false_iff, true_iff, Int.reduceEq, false_or, or_false, false_and, true_and, and_true, and_false, true_or, or_true, iff_self, iff_false, iff_true] at *) <;> first | omega | (intro h; omega) | (constructor <;> intro h <;> omega) | trivial)
      rw [if_neg b1, if_neg b2, if_neg b3, if_neg b4, if_neg b5, if_neg b6]
      exact congrArg some (decide_eq_false (by unfold packP; omega)).symm
    · rw [if_neg b0]
      exact congrArg some (decide_eq_false (by unfold packP; omega)).symm
/-- How many data a packet may have. -/
def dataP (a0 a4 a6 n : Int) : Prop := if a0 = 1 ∨ a0 = 2 then 1 ≤ n ∧ n ≤ 8 else if a0 = 5 then n = 1 else if a0 = 6 ∧ a6 = 0 then n ≤ 8 ∧ n ≤ a4 else n = 0
instance (a0 a4 a6 n : Int) : Decidable (dataP a0 a4 a6 n) := by unfold dataP; infer_instance
theorem dataOk_ev (a0 a1 a2 a3 a4 a5 a6 : Int) (l : List Int) (hl : l.length ≤ 4611686018427387904) (k : Nat) (hk : l.length < k) : impl_Packet__dataOk.f k a0 a1 a2 a3 a4 a5 a6 l = some (wordsOk l && decide (dataP a0 a4 a6 (l.length : Int))) := by
  simp only [impl_Packet__dataOk.f, slices_ContainsFunc_int_impl_Packet__dataOk_1.f, indexNotWord2 l hl k hk, bnd_one, found_iff l (fun x => decide (0 ≤ x ∧ x ≤ 65535)), within_eq]
  rw [show (l.all fun x => decide (0 ≤ x ∧ x ≤ 65535)) = wordsOk l from rfl]
  simp only [iLt_eq, iLe_eq, iEq_eq, iNe_eq, bNot_eq, bEq_eq, bNe_eq, brB_nb, brB_dec, brB_true, brB_false, chk_idx, chk_len, chk_make, chk_sub, bnd_one, rLen_eq, rGet_nat, rSet_nat, rApp_eq, ↓reduceIte]
  cases wordsOk l with
  | false => rfl
  | true =>
    simp only [iLt_eq, iLe_eq, iEq_eq, iNe_eq, bNot_eq, bEq_eq, bNe_eq, brB_nb, brB_dec, brB_true, brB_false, chk_idx, chk_len, chk_make, chk_sub, bnd_one, rLen_eq, rGet_nat, rSet_nat, rApp_eq, ↓reduceIte, Bool.true_and]
    unfold dataP
    by_cases b1 : a0 = 1
    · subst b1; simp only [Int.reduceEq, or_false, false_or, or_true, true_or, iLt_eq, iLe_eq, iEq_eq, iNe_eq, bNot_eq, bEq_eq, bNe_eq, brB_nb, brB_dec, brB_true, brB_false, chk_idx, chk_len, chk_make, chk_sub, bnd_one, rLen_eq, rGet_nat, rSet_nat, rApp_eq, ↓reduceIte]; (try rfl)
    by_cases b2 : a0 = 2
    · subst b2; simp only [Int.reduceEq, or_false, false_or, or_true, true_or, iLt_eq, iLe_eq, iEq_eq, iNe_eq, bNot_eq, bEq_eq, bNe_eq, brB_nb, brB_dec, brB_true, brB_false, chk_idx, chk_len, chk_make, chk_sub, bnd_one, rLen_eq, rGet_nat, rSet_nat, rApp_eq, ↓reduceIte]; (try rfl)
    by_cases b5 : a0 = 5
    · subst b5; simp only [Int.reduceEq, or_false, false_or, or_true, true_or, or_self, iLt_eq, iLe_eq, iEq_eq, iNe_eq, bNot_eq, bEq_eq, bNe_eq, brB_nb, brB_dec, brB_true, brB_false, chk_idx, chk_len, chk_make, chk_sub, bnd_one, rLen_eq, rGet_nat, rSet_nat, rApp_eq, ↓reduceIte]
    by_cases b6 : a0 = 6
    · subst b6; simp only [Int.reduceEq, or_false, false_or, or_true, true_or, or_self, true_and, iLt_eq, iLe_eq, iEq_eq, iNe_eq, bNot_eq, bEq_eq, bNe_eq, brB_nb, brB_dec, brB_true, brB_false, chk_idx, chk_len, chk_make, chk_sub, bnd_one, rLen_eq, rGet_nat, rSet_nat, rApp_eq, ↓reduceIte]; (repeat' split) <;> (refine some_iff ?_ <;> (try simp only [decide_eq_true_eq, Bool.false_eq_true, false_iff, true_iff, Int.reduceEq, false_or, or_false, false_and, true_and, and_true, and_false, true_or, or_true, iff_self, iff_false, iff_true] at *) <;> first | omega | (intro h; omega) | (constructor <;> intro h <;> omega) | trivial)
    simp only [b1, b2, b5, b6, or_self, false_and, iLt_eq, iLe_eq, iEq_eq, iNe_eq, bNot_eq, bEq_eq, bNe_eq, brB_nb, brB_dec, brB_true, brB_false, chk_idx, chk_len, chk_make, chk_sub, bnd_one, rLen_eq, rGet_nat, rSet_nat, rApp_eq, ↓reduceIte]
def addrP (a0 a3 a4 n : Int) : Prop := if a0 = 1 then (0 ≤ a3 ∧ a3 ≤ 65535) ∧ n ≤ 65536 - a3 else if a0 = 3 then (0 ≤ a3 ∧ a3 ≤ 65535) ∧ a4 ≤ 65536 - a3 else if a0 = 4 ∨ a0 = 5 then 0 ≤ a3 ∧ a3 ≤ 63 else a3 = 0
instance (a0 a3 a4 n : Int) : Decidable (addrP a0 a3 a4 n) := by unfold addrP; infer_instance
theorem addressOk_eq (k : Nat) (a0 a1 a2 a3 a4 a5 a6 : Int) (l : List Int) (h3 : (Lit.int .i64 a3).wf = true) : impl_Packet__addressOk.f k a0 a1 a2 a3 a4 a5 a6 l = some (decide (addrP a0 a3 a4 (l.length : Int))) := by
  rw [wf64] at h3
  simp only [impl_Packet__addressOk.f, within_eq, impl_Packet__words.f, iSub_w, w64, iLt_eq, iLe_eq, iEq_eq, iNe_eq, bNot_eq, bEq_eq, bNe_eq, brB_nb, brB_dec, brB_true, brB_false, chk_idx, chk_len, chk_make, chk_sub, bnd_one, rLen_eq, rGet_nat, rSet_nat, rApp_eq, ↓reduceIte]
  generalize (l.length : Int) = n
  unfold addrP
  by_cases b1 : a0 = 1
  · subst b1; simp only [Int.reduceEq, iLt_eq, iLe_eq, iEq_eq, iNe_eq, bNot_eq, bEq_eq, bNe_eq, brB_nb, brB_dec, brB_true, brB_false, chk_idx, chk_len, chk_make, chk_sub, bnd_one, rLen_eq, rGet_nat, rSet_nat, rApp_eq, ↓reduceIte]; (repeat' split) <;> (refine some_iff ?_ <;> (try simp only [decide_eq_true_eq, Bool.false_eq_true, false_iff, true_iff, Int.reduceEq, false_or, or_false, false_and, true_and, and_true, and_false, true_or, or_true, iff_self, iff_false, iff_true] at *) <;> first | omega | (intro h; omega) | (constructor <;> intro h <;> omega) | trivial)
  by_cases b3 : a0 = 3
  · subst b3; simp only [Int.reduceEq, iLt_eq, iLe_eq, iEq_eq, iNe_eq, bNot_eq, bEq_eq, bNe_eq, brB_nb, brB_dec, brB_true, brB_false, chk_idx, chk_len, chk_make, chk_sub, bnd_one, rLen_eq, rGet_nat, rSet_nat, rApp_eq, ↓reduceIte]; (repeat' split) <;> (refine some_iff ?_ <;> (try simp only [decide_eq_true_eq, Bool.false_eq_true, false_iff, true_iff, Int.reduceEq, false_or, or_false, false_and, true_and, and_true, and_false, true_or, or_true, iff_self, iff_false, iff_true] at *) <;> first | omega | (intro h; omega) | (constructor <;> intro h <;> omega) | trivial)
  by_cases b4 : a0 = 4
  · subst b4; simp only [Int.reduceEq, or_false, false_or, or_true, true_or, iLt_eq, iLe_eq, iEq_eq, iNe_eq, bNot_eq, bEq_eq, bNe_eq, brB_nb, brB_dec, brB_true, brB_false, chk_idx, chk_len, chk_make, chk_sub, bnd_one, rLen_eq, rGet_nat, rSet_nat, rApp_eq, ↓reduceIte]
  by_cases b5 : a0 = 5
  · subst b5; simp only [Int.reduceEq, or_false, false_or, or_true, true_or, iLt_eq, iLe_eq, iEq_eq, iNe_eq, bNot_eq, bEq_eq, bNe_eq, brB_nb, brB_dec, brB_true, brB_false, chk_idx, chk_len, chk_make, chk_sub, bnd_one, rLen_eq, rGet_nat, rSet_nat, rApp_eq, ↓reduceIte]
  simp only [b1, b3, b4, b5, or_self, iLt_eq, iLe_eq, iEq_eq, iNe_eq, bNot_eq, bEq_eq, bNe_eq, brB_nb, brB_dec, brB_true, brB_false, chk_idx, chk_len, chk_make, chk_sub, bnd_one, rLen_eq, rGet_nat, rSet_nat, rApp_eq, ↓reduceIte]
def lenP (a0 a4 : Int) : Prop := if a0 = 3 then 1 ≤ a4 ∧ a4 ≤ 64 else if a0 = 6 then 0 ≤ a4 ∧ a4 ≤ 64 else a4 = 0
instance (a0 a4 : Int) : Decidable (lenP a0 a4) := by unfold lenP; infer_instance
theorem lengthOk_eq (k : Nat) (a0 a1 a2 a3 a4 a5 a6 : Int) (l : List Int) : impl_Packet__lengthOk.f k a0 a1 a2 a3 a4 a5 a6 l = some (decide (lenP a0 a4)) := by
  simp only [impl_Packet__lengthOk.f, within_eq, iLt_eq, iLe_eq, iEq_eq, iNe_eq, bNot_eq, bEq_eq, bNe_eq, brB_nb, brB_dec, brB_true, brB_false, chk_idx, chk_len, chk_make, chk_sub, bnd_one, rLen_eq, rGet_nat, rSet_nat, rApp_eq, ↓reduceIte]
  unfold lenP
  (repeat' split) <;> rfl
theorem implIsPacket_ev (a0 a1 a2 a3 a4 a5 a6 : Int) (l : List Int) (hl : l.length ≤ 1048576) (h3 : (Lit.int .i64 a3).wf = true) (h4 : (Lit.int .i64 a4).wf = true) (k : Nat) (hk : l.length < k) : impl_IsPacket.f k a0 a1 a2 a3 a4 a5 a6 l = some (packB a0 a1 a2 a3 a4 a5 a6 l) := by
  by_cases b0 : 1 ≤ a0 ∧ a0 ≤ 6
  · simp only [impl_IsPacket.f, implIsId_eq, within_eq, dataOk_ev a0 a1 a2 a3 a4 a5 a6 l (by omega) k hk, addressOk_eq k a0 a1 a2 a3 a4 a5 a6 l h3, lengthOk_eq, bnd_one, iEq_eq, iNe_eq, brB_nb, bNot_eq, packB]
    rw [decide_eq_true b0]
    generalize wordsOk l = w
    generalize (l.length : Int) = n at *
    have : a0 = 1 ∨ a0 = 2 ∨ a0 = 3 ∨ a0 = 4 ∨ a0 = 5 ∨ a0 = 6 := by omega
    cases w with
    | false =>
      rcases this with rfl | rfl | rfl | rfl | rfl | rfl <;> simp only [Int.reduceEq, Int.reduceLE, decide_true, decide_false, bnd_one, brB_true, brB_false, brB_dec, and_self, and_true, and_false, true_and, false_and, Bool.false_and, ↓reduceIte] <;> (repeat' split) <;> rfl
    | true =>
      rcases this with rfl | rfl | rfl | rfl | rfl | rfl <;> simp only [Int.reduceEq, Int.reduceLE, decide_true, decide_false, bnd_one, brB_true, brB_false, brB_dec, and_self, and_true, and_false, true_and, false_and, Bool.true_and, dataP, packP, addrP, lenP, or_true, true_or, or_false, false_or, ↓reduceIte] <;> (repeat' split) <;> (refine some_iff ?_ <;> (try simp only [decide_eq_true_eq, Bool.false_eq_true, false_iff, true_iff, Int.reduceEq, false_or, or_false, false_and, true_and, and_true, and_false, true_or, or_true, iff_self, iff_false, iff_true] at *) <;> first | omega | (intro h; omega) | (constructor <;> intro h <;> omega) | trivial)
  · simp only [impl_IsPacket.f, within_eq, packB, bnd_one, decide_eq_false b0, bNot_eq, Bool.not_false, brB_true]
    rw [show decide (packP a0 a1 a2 a3 a4 a5 a6 (l.length : Int)) = false from decide_eq_false (by unfold packP; omega), Bool.and_false]
theorem eqPacket_refl (a0 a1 a2 a3 a4 a5 a6 : Int) (l : List Int) (hl : l.length ≤ 4611686018427387904) (k : Nat) (hk : l.length < k) : laws_eqPacket.f k a0 a1 a2 a3 a4 a5 a6 l a0 a1 a2 a3 a4 a5 a6 l = some true := by
  simp only [laws_eqPacket.f, eqIntS_refl l hl k hk, iLt_eq, iLe_eq, iEq_eq, iNe_eq, bNot_eq, bEq_eq, bNe_eq, brB_nb, brB_dec, brB_true, brB_false, chk_idx, chk_len, chk_make, chk_sub, bnd_one, rLen_eq, rGet_nat, rSet_nat, rApp_eq, ↓reduceIte, decide_true]
theorem szBoolS_eq (k : Nat) (l : List Bool) (n : Int) (hl : l.length ≤ 9223372036854775807) (h0 : 0 ≤ n) (h1 : n ≤ 1048576) : laws_szBoolS.f k l n = some (if (l.length : Int) ≤ n then n - l.length else -1) := by
  simp only [laws_szBoolS.f, brB_lt, rLen_eq]
  rw [iSub_id (by omega) (by omega)]
  by_cases h : (l.length : Int) ≤ n
  · rw [if_neg (by omega), if_pos h]
  · rw [if_pos (by omega), if_neg h]
theorem toBoolS_ev (xs : List Bool) (hn : xs.length ≤ 1048576) (k : Nat) (hk : xs.length < k) : laws_toBoolS.f k xs = some xs := by
  simp only [laws_toBoolS.f, laws_toBoolS.l0, iLt_eq, iLe_eq, iEq_eq, iNe_eq, bNot_eq, bEq_eq, bNe_eq, brB_nb, brB_dec, brB_true, brB_false, chk_idx, chk_len, chk_make, chk_sub, bnd_one, rLen_eq, rGet_nat, rSet_nat, rApp_eq, ↓reduceIte]
  rw [if_pos (by omega), rRep_nat]
  have h := iter_upto (f := fun (rec : (List Bool × List Bool × Int) → Option (List Bool)) (x : List Bool × List Bool × Int) => laws_toBoolS.s0 k rec x.1 x.2.1 x.2.2)
    (fun i => (xs, fill (fun j => xs.getD j false) (List.replicate xs.length false) i, (i : Int))) xs.length (r := xs) (fun rec i hi => ?_) (fun rec => ?_) hk
  · rw [fill_zero] at h; exact h
  · simp only [laws_toBoolS.s0, fill_len (show i ≤ (List.replicate xs.length false).length by simp; omega), List.length_replicate, iLt_eq, iLe_eq, iEq_eq, iNe_eq, bNot_eq, bEq_eq, bNe_eq, brB_nb, brB_dec, brB_true, brB_false, chk_idx, chk_len, chk_make, chk_sub, bnd_one, rLen_eq, rGet_nat, rSet_nat, rApp_eq, ↓reduceIte]
    rw [if_pos (by omega), if_idx hi, if_idx hi, fill_set (by simpa using hi), next_id hi (by omega)]
  · have h2 := fill_end (g := fun j => xs.getD j false) (xs := List.replicate xs.length false)
    rw [List.length_replicate] at h2
    simp only [laws_toBoolS.s0, h2, range_getD, iLt_eq, iLe_eq, iEq_eq, iNe_eq, bNot_eq, bEq_eq, bNe_eq, brB_nb, brB_dec, brB_true, brB_false, chk_idx, chk_len, chk_make, chk_sub, bnd_one, rLen_eq, rGet_nat, rSet_nat, rApp_eq, ↓reduceIte]
    rw [if_neg (by omega)]
theorem eqBoolS_refl (xs : List Bool) (hn : xs.length ≤ 4611686018427387904) (k : Nat) (hk : xs.length < k) : laws_eqBoolS.f k xs xs = some true := by
  simp only [laws_eqBoolS.f, laws_eqBoolS.l0, iLt_eq, iLe_eq, iEq_eq, iNe_eq, bNot_eq, bEq_eq, bNe_eq, brB_nb, brB_dec, brB_true, brB_false, chk_idx, chk_len, chk_make, chk_sub, bnd_one, rLen_eq, rGet_nat, rSet_nat, rApp_eq, ↓reduceIte]
  refine iter_upto (f := fun (rec : (List Bool × List Bool × Int) → Option Bool) (x : List Bool × List Bool × Int) => laws_eqBoolS.s0 k rec x.1 x.2.1 x.2.2) (fun i => (xs, xs, (i : Int))) xs.length (fun rec i hi => ?_) (fun rec => ?_) hk
  · simp only [laws_eqBoolS.s0, iLt_eq, iLe_eq, iEq_eq, iNe_eq, bNot_eq, bEq_eq, bNe_eq, brB_nb, brB_dec, brB_true, brB_false, chk_idx, chk_len, chk_make, chk_sub, bnd_one, rLen_eq, rGet_nat, rSet_nat, rApp_eq, ↓reduceIte]
    rw [if_pos (by omega), if_idx hi, if_idx hi, next_id hi hn]
  · simp only [laws_eqBoolS.s0, iLt_eq, iLe_eq, iEq_eq, iNe_eq, bNot_eq, bEq_eq, bNe_eq, brB_nb, brB_dec, brB_true, brB_false, chk_idx, chk_len, chk_make, chk_sub, bnd_one, rLen_eq, rGet_nat, rSet_nat, rApp_eq, ↓reduceIte]
    rw [if_neg (by omega)]
/-- The marks of a row of answers. -/
def bmarks (m : Int) (n : Nat) : List Bool := (List.range n).map fun (j : Nat) => decide (iRem (m + (j : Int)) 3 = 0)
theorem markBoolS_ev (xs : List Bool) (m : Int) (hn : xs.length ≤ 1000000000000) (h0 : 0 ≤ m) (h1 : m ≤ 1000000000000) (k : Nat) (hk : xs.length < k) : laws_markBoolS.f k xs m = some (m + xs.length, bmarks m xs.length) := by
  simp only [laws_markBoolS.f, laws_markBoolS.l0]
  have h := iter_upto (f := fun (rec : (List Bool × Int × Int) → Option (Int × List Bool)) (x : List Bool × Int × Int) => laws_markBoolS.s0 k rec x.1 x.2.1 x.2.2)
    (fun i => (fill (fun (j : Nat) => decide (iRem (m + (j : Int)) 3 = 0)) xs i, m + (i : Int), (i : Int))) xs.length (r := (m + xs.length, bmarks m xs.length)) (fun rec i hi => ?_) (fun rec => ?_) hk
  · rw [fill_zero] at h; simpa using h
  · simp only [laws_markBoolS.s0, fill_len (Nat.le_of_lt hi), chk_nz, Int.reduceEq, iLt_eq, iLe_eq, iEq_eq, iNe_eq, bNot_eq, bEq_eq, bNe_eq, brB_nb, brB_dec, brB_true, brB_false, chk_idx, chk_len, chk_make, chk_sub, bnd_one, rLen_eq, rGet_nat, rSet_nat, rApp_eq, ↓reduceIte]
    rw [if_pos (by omega), if_idx hi, fill_set hi, next_id hi (by omega), iAdd_id (by omega) (by omega)]
    congr 3
    omega
  · simp only [laws_markBoolS.s0, fill_end, List.length_map, List.length_range, iLt_eq, iLe_eq, iEq_eq, iNe_eq, bNot_eq, bEq_eq, bNe_eq, brB_nb, brB_dec, brB_true, brB_false, chk_idx, chk_len, chk_make, chk_sub, bnd_one, rLen_eq, rGet_nat, rSet_nat, rApp_eq, ↓reduceIte]
    rw [if_neg (by omega)]
    rfl
theorem szVectors_eq (k : Nat) (e : Int) (a b : List Bool) (n : Int) (ha : a.length ≤ 9223372036854775807) (hb : b.length ≤ 9223372036854775807) (h0 : 0 ≤ n) (h1 : n ≤ 1048576) : laws_szVectors.f k e a b n = some (if (a.length : Int) + b.length ≤ n then n - a.length - b.length else -1) := by
  simp only [laws_szVectors.f, szBoolS_eq k a n ha h0 h1, iLt_eq, iLe_eq, iEq_eq, iNe_eq, bNot_eq, bEq_eq, bNe_eq, brB_nb, brB_dec, brB_true, brB_false, chk_idx, chk_len, chk_make, chk_sub, bnd_one, rLen_eq, rGet_nat, rSet_nat, rApp_eq, ↓reduceIte]
  by_cases h : (a.length : Int) ≤ n
  · rw [if_pos h, if_neg (by omega), szBoolS_eq k b (n - a.length) hb (by omega) (by omega)]
    simp only [iLt_eq, iLe_eq, iEq_eq, iNe_eq, bNot_eq, bEq_eq, bNe_eq, brB_nb, brB_dec, brB_true, brB_false, chk_idx, chk_len, chk_make, chk_sub, bnd_one, rLen_eq, rGet_nat, rSet_nat, rApp_eq, ↓reduceIte]
    (repeat' split) <;> first | rfl | omega
  · rw [if_neg h, if_pos (by omega), if_neg (by omega)]
theorem toVectors_ev (e : Int) (a b : List Bool) (ha : a.length ≤ 1048576) (hb : b.length ≤ 1048576) (k : Nat) (hk : a.length + b.length < k) : laws_toVectors.f k e a b = some (e, a, b) := by
  simp only [laws_toVectors.f, toBoolS_ev a ha k (by omega), toBoolS_ev b hb k (by omega), bnd_one]
theorem eqVectors_refl (e : Int) (a b : List Bool) (ha : a.length ≤ 4611686018427387904) (hb : b.length ≤ 4611686018427387904) (k : Nat) (hk : a.length + b.length < k) : laws_eqVectors.f k e a b e a b = some true := by
  simp only [laws_eqVectors.f, eqBoolS_refl a ha k (by omega), eqBoolS_refl b hb k (by omega), iLt_eq, iLe_eq, iEq_eq, iNe_eq, bNot_eq, bEq_eq, bNe_eq, brB_nb, brB_dec, brB_true, brB_false, chk_idx, chk_len, chk_make, chk_sub, bnd_one, rLen_eq, rGet_nat, rSet_nat, rApp_eq, ↓reduceIte, decide_true]
theorem markVectors_ev (e : Int) (a b : List Bool) (m : Int) (ha : a.length ≤ 10000000000) (hb : b.length ≤ 10000000000) (h0 : 0 ≤ m) (h1 : m ≤ 10000000000) (k : Nat) (hk : a.length + b.length < k) :
    laws_markVectors.f k e a b m = some (m + a.length + b.length, bmarks m a.length, bmarks (m + a.length) b.length) := by
  simp only [laws_markVectors.f, markBoolS_ev a m (by omega) h0 (by omega) k (by omega), markBoolS_ev b (m + a.length) (by omega) (by omega) (by omega) k (by omega), bnd_one]
/-- No vector is pending that is not masked. -/
def pendB (a b : List Bool) : Bool := (List.range a.length).all fun i => !b.getD i false || a.getD i false
/-- Vectors are valid. -/
def vecB (e : Int) (a b : List Bool) : Bool := decide (1 ≤ (a.length : Int) ∧ (a.length : Int) ≤ 8) && (decide ((b.length : Int) = (a.length : Int)) && (decide (0 ≤ e ∧ e ≤ 65535) && pendB a b))
theorem specVectorsOk_ev (e : Int) (a b : List Bool) (hb : b.length ≤ 1048576) (ha : a.length ≤ 1048576) (k : Nat) (hk : a.length + b.length < k) : spec_VectorsOk.f k e a b = some (vecB e a b) := by
  simp only [spec_VectorsOk.f, l01In_eq, spec_VectorsOk.l0, iLt_eq, iLe_eq, iEq_eq, iNe_eq, bNot_eq, bEq_eq, bNe_eq, brB_nb, brB_dec, brB_true, brB_false, chk_idx, chk_len, chk_make, chk_sub, bnd_one, rLen_eq, rGet_nat, rSet_nat, rApp_eq, ↓reduceIte]
  refine if_and ?_
  by_cases h : (b.length : Int) = (a.length : Int)
  · rw [if_pos h, decide_eq_true h, Bool.true_and]
    refine if_and ?_
    have h' := iter_find (f := fun (rec : (Int × Int × List Bool × List Bool) → Option Bool) (x : Int × Int × List Bool × List Bool) => spec_VectorsOk.s0 k rec x.1 x.2.1 x.2.2.1 x.2.2.2) (fun i => ((i : Int), e, a, b)) (List.range a.length) (fun i => !b.getD i false || a.getD i false) true (fun _ => false)
      (fun rec i hi hp => ?_) (fun rec i hi hp => ?_) (fun rec => ?_) (n := k) (by simp; omega)
    · exact h'.trans (congrArg some (findIdx_all _ _))
    · simp only [List.length_range] at hi
      simp only [List.getElem_range] at hp
      simp only [spec_VectorsOk.s0, iLt_eq, iLe_eq, iEq_eq, iNe_eq, bNot_eq, bEq_eq, bNe_eq, brB_nb, brB_dec, brB_true, brB_false, chk_idx, chk_len, chk_make, chk_sub, bnd_one, rLen_eq, rGet_nat, rSet_nat, rApp_eq, ↓reduceIte]
      rw [if_pos (by omega), if_idx (by omega), if_idx hi, next_id hi (by omega)]
      cases h1 : b.getD i false <;> cases h2 : a.getD i false <;> rw [h1, h2] at hp <;> first | rfl | cases hp
    · simp only [List.length_range] at hi
      simp only [List.getElem_range] at hp
      simp only [spec_VectorsOk.s0, iLt_eq, iLe_eq, iEq_eq, iNe_eq, bNot_eq, bEq_eq, bNe_eq, brB_nb, brB_dec, brB_true, brB_false, chk_idx, chk_len, chk_make, chk_sub, bnd_one, rLen_eq, rGet_nat, rSet_nat, rApp_eq, ↓reduceIte]
      rw [if_pos (by omega), if_idx (by omega), if_idx hi]
      cases h1 : b.getD i false <;> cases h2 : a.getD i false <;> rw [h1, h2] at hp <;> first | rfl | cases hp
    · simp only [spec_VectorsOk.s0, List.length_range, iLt_eq, iLe_eq, iEq_eq, iNe_eq, bNot_eq, bEq_eq, bNe_eq, brB_nb, brB_dec, brB_true, brB_false, chk_idx, chk_len, chk_make, chk_sub, bnd_one, rLen_eq, rGet_nat, rSet_nat, rApp_eq, ↓reduceIte]
      rw [if_neg (by omega)]
  · rw [if_neg h, decide_eq_false h, Bool.false_and]
theorem implVectorsOk_ev (e : Int) (a b : List Bool) (hb : b.length ≤ 1048576) (ha : a.length ≤ 1048576) (k : Nat) (hk : a.length + b.length < k) : impl_VectorsOk.f k e a b = some (vecB e a b) := by
  simp only [impl_VectorsOk.f, within_eq, impl_VectorsOk.l0, iLt_eq, iLe_eq, iEq_eq, iNe_eq, bNot_eq, bEq_eq, bNe_eq, brB_nb, brB_dec, brB_true, brB_false, chk_idx, chk_len, chk_make, chk_sub, bnd_one, rLen_eq, rGet_nat, rSet_nat, rApp_eq, ↓reduceIte]
  refine if_and ?_
  by_cases h : (b.length : Int) = (a.length : Int)
  · rw [if_pos h, decide_eq_true h, Bool.true_and]
    refine if_and ?_
    have h' := iter_find (f := fun (rec : (List Bool × Int × Int × Int × List Bool × List Bool) → Option (Bool)) (x : List Bool × Int × Int × Int × List Bool × List Bool) => impl_VectorsOk.s0 k rec x.1 x.2.1 x.2.2.1 x.2.2.2.1 x.2.2.2.2.1 x.2.2.2.2.2) (fun i => (b, (b.length : Int), (i : Int), e, a, b)) (List.range a.length) (fun i => !b.getD i false || a.getD i false) true (fun _ => false)
      (fun rec i hi hp => ?_) (fun rec i hi hp => ?_) (fun rec => ?_) (n := k) (by simp; omega)
    · exact h'.trans (congrArg some (findIdx_all _ _))
    · simp only [List.length_range] at hi
      simp only [List.getElem_range] at hp
      simp only [impl_VectorsOk.s0, iLt_eq, iLe_eq, iEq_eq, iNe_eq, bNot_eq, bEq_eq, bNe_eq, brB_nb, brB_dec, brB_true, brB_false, chk_idx, chk_len, chk_make, chk_sub, bnd_one, rLen_eq, rGet_nat, rSet_nat, rApp_eq, ↓reduceIte]
      rw [if_pos (by omega), if_idx (by omega), if_idx hi, next_id hi (by omega)]
      cases h1 : b.getD i false <;> cases h2 : a.getD i false <;> rw [h1, h2] at hp <;> first | rfl | cases hp
    · simp only [List.length_range] at hi
      simp only [List.getElem_range] at hp
      simp only [impl_VectorsOk.s0, iLt_eq, iLe_eq, iEq_eq, iNe_eq, bNot_eq, bEq_eq, bNe_eq, brB_nb, brB_dec, brB_true, brB_false, chk_idx, chk_len, chk_make, chk_sub, bnd_one, rLen_eq, rGet_nat, rSet_nat, rApp_eq, ↓reduceIte]
      rw [if_pos (by omega), if_idx (by omega), if_idx hi]
      cases h1 : b.getD i false <;> cases h2 : a.getD i false <;> rw [h1, h2] at hp <;> first | rfl | cases hp
    · simp only [impl_VectorsOk.s0, List.length_range, iLt_eq, iLe_eq, iEq_eq, iNe_eq, bNot_eq, bEq_eq, bNe_eq, brB_nb, brB_dec, brB_true, brB_false, chk_idx, chk_len, chk_make, chk_sub, bnd_one, rLen_eq, rGet_nat, rSet_nat, rApp_eq, ↓reduceIte]
      rw [if_neg (by omega)]
  · rw [if_neg h, decide_eq_false h, Bool.false_and]
/-- The vector is one of these, and the device may call. -/
def hasB (e : Int) (a b : List Bool) (d v : Int) : Bool := vecB e a b && (decide (0 ≤ d ∧ d ≤ 255) && decide (0 ≤ v ∧ v ≤ (a.length : Int) - 1))
/-- What the raising of a vector gives. -/
def raiseB (ok : Bool) (e : Int) (a b : List Bool) (d v : Int) : Int × List Bool × List Bool × Int × Int × Int × Int × Int × Int × Int × List Int × Bool :=
  if ok = true then (if a.getD v.toNat false = true then (e, a, b.set v.toNat true, 0, 0, 0, 0, 0, 0, 0, [], true) else (e, a, b, 1, d, 0, e, 0, 0, 0, [v], true)) else (e, a, b, 0, 0, 0, 0, 0, 0, 0, [], false)
theorem raiseB_len (ok : Bool) (e : Int) (a b : List Bool) (d v : Int) : (raiseB ok e a b d v).2.1.length = a.length ∧ (raiseB ok e a b d v).2.2.1.length = b.length ∧ (raiseB ok e a b d v).2.2.2.2.2.2.2.2.2.2.1.length ≤ 1 := by
  unfold raiseB; (repeat' split) <;> simp
theorem hasB_lt {e : Int} {a b : List Bool} {d v : Int} (h : hasB e a b d v = true) : 0 ≤ v ∧ v < a.length ∧ v < b.length := by
  simp only [hasB, vecB, Bool.and_eq_true, decide_eq_true_eq] at h
  omega
theorem l30Ok_ev (e : Int) (a b : List Bool) (d v : Int) (hb : b.length ≤ 1048576) (ha : a.length ≤ 1048576) (k : Nat) (hk : a.length + b.length < k) : spec_l30Ok.f k e a b d v = some (hasB e a b d v) := by
  simp only [spec_l30Ok.f, specVectorsOk_ev e a b hb ha k hk, specIsId_eq, l01In_eq, bnd_one, rLen_eq]
  rw [iSub_id (by omega) (by omega)]
  exact brB_and (brB_and rfl)
theorem hasVector_ev (e : Int) (a b : List Bool) (d v : Int) (hb : b.length ≤ 1048576) (ha : a.length ≤ 1048576) (k : Nat) (hk : a.length + b.length < k) : impl_hasVector.f k e a b d v = some (hasB e a b d v) := by
  simp only [impl_hasVector.f, implVectorsOk_ev e a b hb ha k hk, implIsId_eq, within_eq, bnd_one, rLen_eq]
  rw [iSub_id (by omega) (by omega)]
  exact brB_and (brB_and rfl)
theorem l30Copy_eq (k : Nat) (e : Int) (a b : List Bool) (hb : b.length ≤ 1048576) (ha : a.length ≤ 1048576) : spec_l30Copy.f k e a b = some (e, a, b) := by
  simp only [spec_l30Copy.f, List.nil_append, iLt_eq, iLe_eq, iEq_eq, iNe_eq, bNot_eq, bEq_eq, bNe_eq, brB_nb, brB_dec, brB_true, brB_false, chk_idx, chk_len, chk_make, chk_sub, bnd_one, rLen_eq, rGet_nat, rSet_nat, rApp_eq, ↓reduceIte]
  rw [if_pos (by omega), if_pos (by omega)]
theorem copyVectors_eq (k : Nat) (e : Int) (a b : List Bool) (hb : b.length ≤ 1048576) (ha : a.length ≤ 1048576) : impl_copyVectors.f k e a b = some (e, a, b) := by
  simp only [impl_copyVectors.f, slices_Clone_bool.f, iLt_eq, iLe_eq, iEq_eq, iNe_eq, bNot_eq, bEq_eq, bNe_eq, brB_nb, brB_dec, brB_true, brB_false, chk_idx, chk_len, chk_make, chk_sub, bnd_one, rLen_eq, rGet_nat, rSet_nat, rApp_eq, ↓reduceIte]
  rw [if_pos (by omega), if_pos (by omega)]
  rfl
theorem rGet_in {α : Type} (d : α) (l : List α) {v : Int} (h : 0 ≤ v) : rGet d l v = l.getD v.toNat d := rfl
theorem rSet_in {α : Type} (l : List α) {v : Int} (x : α) (h : 0 ≤ v) : rSet l v x = l.set v.toNat x := rfl
theorem specRaise_ev (e : Int) (a b : List Bool) (d v : Int) (hb : b.length ≤ 1048576) (ha : a.length ≤ 1048576) (k : Nat) (hk : a.length + b.length < k) : spec_RaiseVector.f k e a b d v = some (raiseB (hasB e a b d v) e a b d v) := by
  simp only [spec_RaiseVector.f, l30Copy_eq k e a b hb ha, l30Ok_ev e a b d v hb ha k hk, raiseB, iLt_eq, iLe_eq, iEq_eq, iNe_eq, bNot_eq, bEq_eq, bNe_eq, brB_nb, brB_dec, brB_true, brB_false, chk_idx, chk_len, chk_make, chk_sub, bnd_one, rLen_eq, rGet_nat, rSet_nat, rApp_eq, ↓reduceIte]
  cases h : hasB e a b d v with
  | false => rfl
  | true =>
    have := hasB_lt h
    simp only [iLt_eq, iLe_eq, iEq_eq, iNe_eq, bNot_eq, bEq_eq, bNe_eq, brB_nb, brB_dec, brB_true, brB_false, chk_idx, chk_len, chk_make, chk_sub, bnd_one, rLen_eq, rGet_nat, rSet_nat, rApp_eq, ↓reduceIte]
    rw [if_pos (by omega), if_pos (by omega), rGet_in _ _ this.1, rSet_in _ _ this.1]
    cases a.getD v.toNat false <;> rfl
theorem implRaise_ev (e : Int) (a b : List Bool) (d v : Int) (hb : b.length ≤ 1048576) (ha : a.length ≤ 1048576) (k : Nat) (hk : a.length + b.length < k) : impl_RaiseVector.f k e a b d v = some (raiseB (hasB e a b d v) e a b d v) := by
  simp only [impl_RaiseVector.f, copyVectors_eq k e a b hb ha, hasVector_ev e a b d v hb ha k hk, impl_call.f, raiseB, iLt_eq, iLe_eq, iEq_eq, iNe_eq, bNot_eq, bEq_eq, bNe_eq, brB_nb, brB_dec, brB_true, brB_false, chk_idx, chk_len, chk_make, chk_sub, bnd_one, rLen_eq, rGet_nat, rSet_nat, rApp_eq, ↓reduceIte]
  cases h : hasB e a b d v with
  | false => rfl
  | true =>
    have := hasB_lt h
    simp only [iLt_eq, iLe_eq, iEq_eq, iNe_eq, bNot_eq, bEq_eq, bNe_eq, brB_nb, brB_dec, brB_true, brB_false, chk_idx, chk_len, chk_make, chk_sub, bnd_one, rLen_eq, rGet_nat, rSet_nat, rApp_eq, ↓reduceIte]
    rw [if_pos (by omega), if_pos (by omega), rGet_in _ _ this.1, rSet_in _ _ this.1]
    cases a.getD v.toNat false <;> rfl

/-- How many numbers nested rows have. -/
def rSum {α : Type} (z : α → Nat) (l : List α) : Nat := (l.map z).sum
theorem rSum_cons {α : Type} (z : α → Nat) (x : α) (l : List α) : rSum z (x :: l) = z x + rSum z l := by simp [rSum]
theorem rGet_rSet {α : Type} (d : α) {l : List α} {i : Nat} (h : i < l.length) (x : α) : rGet d (rSet l (i : Int) x) (i : Int) = x := by
  rw [rGet_nat, rSet_nat]; simp [h]
theorem rSet_rSet {α : Type} (l : List α) (i : Int) (x y : α) : rSet (rSet l i x) i y = rSet l i y := by simp [rSet]
theorem rLen_rSet {α : Type} (l : List α) (i : Int) (x : α) : rLen (rSet l i x) = rLen l := by simp [rLen, rSet]
theorem len_rSet {α : Type} (l : List α) (i : Int) (x : α) : (rSet l i x).length = l.length := by simp [rSet]
theorem nam_eq {A R : Type} (x : A) (f : A → Option R) : nam x f = f x := rfl
def offs {α : Type} (w : α → Nat) (xs : List α) (s : Int) (i : Nat) : Int := s + (rSum w (xs.take i) : Nat)
theorem offs_zero {α : Type} (w : α → Nat) (xs : List α) (s : Int) : offs w xs s 0 = s := by simp [offs, rSum]
theorem offs_succ {α : Type} (w : α → Nat) (xs : List α) (s : Int) {i : Nat} (h : i < xs.length) : offs w xs s (i + 1) = offs w xs s i + w xs[i] := by
  have : rSum w (xs.take (i + 1)) = rSum w (xs.take i) + w xs[i] := by
    unfold rSum
    rw [List.take_succ_eq_append_getElem h, List.map_append, List.sum_append]
    simp
  simp only [offs, this]
  omega
theorem offs_le {α : Type} (w : α → Nat) : ∀ (xs : List α) (s : Int) (i : Nat), offs w xs s i ≤ s + (rSum w xs : Nat)
  | [], s, i => by simp [offs, rSum]
  | x :: xs, s, 0 => by simp [offs, rSum]; omega
  | x :: xs, s, i + 1 => by
    have := offs_le w xs s i
    simp only [offs, List.take_succ_cons, rSum_cons] at this ⊢
    omega
theorem offs_ge {α : Type} (w : α → Nat) (xs : List α) (s : Int) (i : Nat) : s ≤ offs w xs s i := by simp only [offs]; omega
abbrev Pk : Type := Int × Int × Int × Int × Int × Int × Int × List Int
def pGot (p : Int × Int × Int × Int × Int × Int × Int × List Int) : Nat := p.2.2.2.2.2.2.2.length
theorem eqPacketS_refl (xs : List (Int × Int × Int × Int × Int × Int × Int × List Int)) (hn : xs.length ≤ 1048576) (hz : ∀ x ∈ xs, pGot x ≤ 1048576) (k : Nat) (hk : 3000000 < k) : laws_eqPacketS.f k xs xs = some true := by
  simp only [laws_eqPacketS.f, laws_eqPacketS.l0, iNe_eq, decide_true, Bool.not_true, brB_false]
  refine iter_upto (f := fun (rec : ((List (Int × Int × Int × Int × Int × Int × Int × List Int)) × (List (Int × Int × Int × Int × Int × Int × Int × List Int)) × Int) → Option (Bool)) (x : (List (Int × Int × Int × Int × Int × Int × Int × List Int)) × (List (Int × Int × Int × Int × Int × Int × Int × List Int)) × Int) => laws_eqPacketS.s0 k rec x.1 x.2.1 x.2.2) (fun i => (xs, xs, (i : Int))) xs.length (fun rec i hi => ?_) (fun rec => ?_) (by omega)
  · have e : rGet (0, 0, 0, 0, 0, 0, 0, []) xs (i : Int) = xs[i] := getD_lt _ _ hi
    have hg := hz _ (List.getElem_mem hi)
    simp only [laws_eqPacketS.s0, e, iLt_eq, brB_dec, chk_idx, rLen_eq]
    rw [if_pos (by omega), if_idx hi, if_idx hi, eqPacket_refl _ _ _ _ _ _ _ _ (by unfold pGot at hg; omega) k (by unfold pGot at hg; omega), next_id hi (by omega)]; rfl
  · simp only [laws_eqPacketS.s0, iLt_eq, brB_dec, rLen_eq]
    rw [if_neg (by omega)]
def pMark (x : Int × Int × Int × Int × Int × Int × Int × List Int) (s : Int) : Int × Int × Int × Int × Int × Int × Int × List Int := (s, s + 1, s + 2, s + 3, s + 4, s + 5, s + 6, marks (s + 7) x.2.2.2.2.2.2.2.length)
def pN (x : Int × Int × Int × Int × Int × Int × Int × List Int) : Nat := x.2.2.2.2.2.2.2.length + 7
theorem rSum_p (o : List (Int × Int × Int × Int × Int × Int × Int × List Int)) : rSum pN o = rSum pGot o + 7 * o.length := by
  induction o with
  | nil => rfl
  | cons x o ih => rw [rSum_cons, rSum_cons, ih, List.length_cons, pN, pGot]; omega
def pMarks (xs : List (Int × Int × Int × Int × Int × Int × Int × List Int)) (s : Int) : List (Int × Int × Int × Int × Int × Int × Int × List Int) := (List.range xs.length).map fun j => pMark (xs.getD j (0, 0, 0, 0, 0, 0, 0, [])) (offs pN xs s j)
theorem markPacketS_ev (xs : List (Int × Int × Int × Int × Int × Int × Int × List Int)) (s : Int) (hn : xs.length ≤ 1048576) (hz : ∀ x ∈ xs, pGot x ≤ 1048576) (h0 : 0 ≤ s) (hb : s + (rSum pN xs : Nat) ≤ 100000000000) (k : Nat) (hk : 3000000 < k) :
    laws_markPacketS.f k xs s = some (offs pN xs s xs.length, pMarks xs s) := by
  simp only [laws_markPacketS.f, laws_markPacketS.l0]
  have h := iter_upto (f := fun (rec : ((List (Int × Int × Int × Int × Int × Int × Int × List Int)) × Int × Int) → Option (Int × List (Int × Int × Int × Int × Int × Int × Int × List Int))) (x : (List (Int × Int × Int × Int × Int × Int × Int × List Int)) × Int × Int) => laws_markPacketS.s0 k rec x.1 x.2.1 x.2.2)
    (fun i => (fill (fun j => pMark (xs.getD j (0, 0, 0, 0, 0, 0, 0, [])) (offs pN xs s j)) xs i, offs pN xs s i, (i : Int))) xs.length (r := (offs pN xs s xs.length, pMarks xs s)) (fun rec i hi => ?_) (fun rec => ?_) (n := k) (by omega)
  · rw [fill_zero, offs_zero] at h; exact h
  · have e' : xs.getD i (0, 0, 0, 0, 0, 0, 0, []) = xs[i] := getD_lt _ _ hi
    have hg : pGot xs[i] ≤ 1048576 := hz _ (List.getElem_mem hi)
    unfold pGot at hg
    have a1 := offs_le pN xs s (i + 1)
    have a2 := offs_ge pN xs s i
    rw [offs_succ pN xs s hi] at a1 ⊢
    have hw : pN xs[i] = xs[i].2.2.2.2.2.2.2.length + 7 := rfl
    have hl : i < (fill (fun j => pMark (xs.getD j (0, 0, 0, 0, 0, 0, 0, [])) (offs pN xs s j)) xs i).length := by rw [fill_len (Nat.le_of_lt hi)]; exact hi
    have hget : rGet (0, 0, 0, 0, 0, 0, 0, []) (fill (fun j => pMark (xs.getD j (0, 0, 0, 0, 0, 0, 0, [])) (offs pN xs s j)) xs i) (i : Int) = xs[i] := by
      rw [rGet_nat, fill_get i (Nat.le_refl _), e']
    have hset := fill_set (g := fun j => pMark (xs.getD j (0, 0, 0, 0, 0, 0, 0, [])) (offs pN xs s j)) hi
    have hL := fill_len (g := fun j => pMark (xs.getD j (0, 0, 0, 0, 0, 0, 0, [])) (offs pN xs s j)) (xs := xs) (Nat.le_of_lt hi)
    generalize fill (fun j => pMark (xs.getD j (0, 0, 0, 0, 0, 0, 0, [])) (offs pN xs s j)) xs i = L at hl hget hset hL ⊢
    simp only [laws_markPacketS.s0, nam_eq, rGet_rSet _ hl, rSet_rSet, rLen_rSet, hget, iLt_eq, brB_dec, chk_idx, rLen_eq, len_rSet, hL]
    have q1 : iAdd .i64 (offs pN xs s i) 1 = offs pN xs s i + 1 := iAdd_id (by omega) (by omega)
    have q2 : iAdd .i64 (offs pN xs s i + 1) 1 = offs pN xs s i + 2 := by rw [iAdd_id (by omega) (by omega)]; omega
    have q3 : iAdd .i64 (offs pN xs s i + 2) 1 = offs pN xs s i + 3 := by rw [iAdd_id (by omega) (by omega)]; omega
    have q4 : iAdd .i64 (offs pN xs s i + 3) 1 = offs pN xs s i + 4 := by rw [iAdd_id (by omega) (by omega)]; omega
    have q5 : iAdd .i64 (offs pN xs s i + 4) 1 = offs pN xs s i + 5 := by rw [iAdd_id (by omega) (by omega)]; omega
    have q6 : iAdd .i64 (offs pN xs s i + 5) 1 = offs pN xs s i + 6 := by rw [iAdd_id (by omega) (by omega)]; omega
    have q7 : iAdd .i64 (offs pN xs s i + 6) 1 = offs pN xs s i + 7 := by rw [iAdd_id (by omega) (by omega)]; omega
    simp only [q1, q2, q3, q4, q5, q6, q7]
    rw [if_pos (by omega), if_idx hi, if_idx hi, if_idx hi, if_idx hi, if_idx hi, if_idx hi, if_idx hi, if_idx hi, markIntS_ev _ _ (by omega) (by omega) (by omega) k (by omega), bnd_one]
    dsimp only
    rw [next_id hi (by omega), rSet_nat, show offs pN xs s i + (pN xs[i] : Int) = offs pN xs s i + 7 + (xs[i].2.2.2.2.2.2.2.length : Int) by omega, ← hset, e']
    rfl
  · have h2 := fill_end (g := fun j => pMark (xs.getD j (0, 0, 0, 0, 0, 0, 0, [])) (offs pN xs s j)) (xs := xs)
    simp only [laws_markPacketS.s0, h2, iLt_eq, brB_dec, rLen_eq, List.length_map, List.length_range]
    rw [if_neg (by omega)]
    rfl
theorem pMarks_get (xs : List (Int × Int × Int × Int × Int × Int × Int × List Int)) (s : Int) {i : Nat} (hi : i < xs.length) : rGet (0, 0, 0, 0, 0, 0, 0, []) (pMarks xs s) (i : Int) = pMark xs[i] (offs pN xs s i) := by
  rw [rGet_nat]
  simp [pMarks, hi]
theorem pMarks_len (xs : List (Int × Int × Int × Int × Int × Int × Int × List Int)) (s : Int) : (pMarks xs s).length = xs.length := by simp [pMarks]
theorem heldPacketS_ev (xs : List (Int × Int × Int × Int × Int × Int × Int × List Int)) (s : Int) (hn : xs.length ≤ 1048576) (hz : ∀ x ∈ xs, pGot x ≤ 1048576) (h0 : 0 ≤ s) (hb : s + (rSum pN xs : Nat) ≤ 100000000000) (k : Nat) (hk : 3000000 < k) :
    laws_heldPacketS.f k (pMarks xs s) s = some (offs pN xs s xs.length) := by
  simp only [laws_heldPacketS.f, laws_heldPacketS.l0]
  have h := iter_upto (f := fun (rec : ((List (Int × Int × Int × Int × Int × Int × Int × List Int)) × Int × Int) → Option Int) (x : (List (Int × Int × Int × Int × Int × Int × Int × List Int)) × Int × Int) => laws_heldPacketS.s0 k rec x.1 x.2.1 x.2.2)
    (fun i => (pMarks xs s, offs pN xs s i, (i : Int))) xs.length (r := offs pN xs s xs.length) (fun rec i hi => ?_) (fun rec => ?_) (n := k) (by omega)
  · rw [offs_zero] at h; exact h
  · have hg : pGot xs[i] ≤ 1048576 := hz _ (List.getElem_mem hi)
    unfold pGot at hg
    have a1 := offs_le pN xs s (i + 1)
    have a2 := offs_ge pN xs s i
    rw [offs_succ pN xs s hi] at a1 ⊢
    have hw : pN xs[i] = xs[i].2.2.2.2.2.2.2.length + 7 := rfl
    have q1 : iAdd .i64 (offs pN xs s i) 1 = offs pN xs s i + 1 := iAdd_id (by omega) (by omega)
    have q2 : iAdd .i64 (offs pN xs s i + 1) 1 = offs pN xs s i + 2 := by rw [iAdd_id (by omega) (by omega)]; omega
    have q3 : iAdd .i64 (offs pN xs s i + 2) 1 = offs pN xs s i + 3 := by rw [iAdd_id (by omega) (by omega)]; omega
    have q4 : iAdd .i64 (offs pN xs s i + 3) 1 = offs pN xs s i + 4 := by rw [iAdd_id (by omega) (by omega)]; omega
    have q5 : iAdd .i64 (offs pN xs s i + 4) 1 = offs pN xs s i + 5 := by rw [iAdd_id (by omega) (by omega)]; omega
    have q6 : iAdd .i64 (offs pN xs s i + 5) 1 = offs pN xs s i + 6 := by rw [iAdd_id (by omega) (by omega)]; omega
    have q7 : iAdd .i64 (offs pN xs s i + 6) 1 = offs pN xs s i + 7 := by rw [iAdd_id (by omega) (by omega)]; omega
    simp only [laws_heldPacketS.s0, pMarks_get xs s hi, pMark, iLt_eq, iNe_eq, brB_nb, brB_dec, chk_idx, rLen_eq, pMarks_len, q1, q2, q3, q4, q5, q6, q7]
    rw [if_pos (by omega), if_idx hi, if_pos trivial, if_idx hi, if_pos trivial, if_idx hi, if_pos trivial, if_idx hi, if_pos trivial, if_idx hi, if_pos trivial, if_idx hi, if_pos trivial, if_idx hi, if_pos trivial, if_idx hi, heldIntS_ev _ _ (by omega) (by omega) (by omega) k (by omega), bnd_one,
      if_neg (by omega), next_id hi (by omega), show offs pN xs s i + 7 + (xs[i].2.2.2.2.2.2.2.length : Int) = offs pN xs s i + (pN xs[i] : Int) by omega]
  · simp only [laws_heldPacketS.s0, pMarks_len, iLt_eq, brB_dec, rLen_eq]
    rw [if_neg (by omega)]

theorem iMin_comm (a b : Int) : iMin a b = iMin b a := by unfold iMin; split <;> split <;> omega
/-- The i-th part of the data, its packet. -/
def chunkN (l : List Int) (i : Nat) : List Int := (l.drop (8 * i)).take 8
def wrP (id a : Int) (l : List Int) (i : Nat) : Pk := (1, id, 0, a + (8 * i : Nat), 0, 0, 0, chunkN l i)
def wrOk (id a : Int) (l : List Int) (i : Nat) : Bool := packB 1 id 0 (a + (8 * i : Nat)) 0 0 0 (chunkN l i)
def prodN (l : List Int) : Nat := (l.length + 7) / 8
def sendB (out : List Pk) (r : Int × List Bool × List Bool × Int × Int × Int × Int × Int × Int × Int × List Int × Bool) : List Pk × Bool :=
  if r.2.2.2.2.2.2.2.2.2.2.2 = true ∧ packB r.2.2.2.1 r.2.2.2.2.1 r.2.2.2.2.2.1 r.2.2.2.2.2.2.1 r.2.2.2.2.2.2.2.1 r.2.2.2.2.2.2.2.2.1 r.2.2.2.2.2.2.2.2.2.1 r.2.2.2.2.2.2.2.2.2.2.1 = true then
    (out ++ [(r.2.2.2.1, r.2.2.2.2.1, r.2.2.2.2.2.1, r.2.2.2.2.2.2.1, r.2.2.2.2.2.2.2.1, r.2.2.2.2.2.2.2.2.1, r.2.2.2.2.2.2.2.2.2.1, r.2.2.2.2.2.2.2.2.2.2.1)], true) else ([], false)
def prodB (id a : Int) (l : List Int) (v e : Int) (m p : List Bool) : List Pk × Bool :=
  if (0 < l.length → 0 ≤ a ∧ a ≤ 65535) ∧ (List.range (prodN l)).all (wrOk id a l) = true then sendB ((List.range (prodN l)).map (wrP id a l)) (raiseB (hasB e m p id v) e m p id v) else ([], false)
theorem first_bad (ok : Nat → Bool) : ∀ n, ∃ N, N ≤ n ∧ (∀ i, i < N → ok i = true) ∧ (N = n ∨ (N < n ∧ ok N = false))
  | 0 => ⟨0, Nat.le_refl _, fun i hi => by omega, .inl rfl⟩
  | n + 1 => by
    obtain ⟨N, h1, h2, h3⟩ := first_bad ok n
    rcases h3 with rfl | ⟨h3, h4⟩
    · cases h : ok N with
      | true => exact ⟨N + 1, Nat.le_refl _, fun i hi => by rcases Nat.lt_succ_iff_lt_or_eq.1 hi with h' | rfl; exact h2 i h'; exact h, .inl rfl⟩
      | false => exact ⟨N, by omega, h2, .inr ⟨by omega, h⟩⟩
    · exact ⟨N, by omega, h2, .inr ⟨by omega, h4⟩⟩
theorem all_range {ok : Nat → Bool} {n N : Nat} (h2 : ∀ i, i < N → ok i = true) (h3 : N = n ∨ (N < n ∧ ok N = false)) : (List.range n).all ok = decide (N = n) := by
  rcases h3 with rfl | ⟨h3, h4⟩
  · rw [decide_eq_true rfl]
    exact List.all_eq_true.2 fun i hi => h2 i (List.mem_range.1 hi)
  · rw [decide_eq_false (by omega), Bool.eq_false_iff]
    intro h
    have := List.all_eq_true.1 h N (List.mem_range.2 h3)
    rw [h4] at this; cases this
theorem chunkN_len (l : List Int) (i : Nat) : (chunkN l i).length = min 8 (l.length - 8 * i) := by simp [chunkN]
theorem cut_eq (l : List Int) (i : Nat) (hi : 8 * i < l.length) (hl : l.length ≤ 1048576) : rSub l ((8 * i : Nat) : Int) (iMin (iAdd .i64 ((8 * i : Nat) : Int) 8) (rLen l)) = chunkN l i := by
  unfold rSub iMin chunkN
  rw [iAdd_id (by omega) (by omega), rLen_eq, List.drop_take]
  have e : ((if (l.length : Int) < ((8 * i : Nat) : Int) + 8 then (l.length : Int) else ((8 * i : Nat) : Int) + 8)).toNat - ((8 * i : Nat) : Int).toNat = min 8 (l.length - 8 * i) := by split <;> omega
  rw [e, show ((8 * i : Nat) : Int).toNat = 8 * i by omega]
  rcases Nat.le_total 8 (l.length - 8 * i) with h | h
  · rw [Nat.min_eq_left h]
  · rw [Nat.min_eq_right h, List.take_of_length_le (by simp), List.take_of_length_le (by simp; omega)]
theorem raiseB_wf {e : Int} (he : (Lit.int .i64 e).wf = true) (ok : Bool) (m p : List Bool) (d v : Int) : (Lit.int .i64 (raiseB ok e m p d v).2.2.2.2.2.2.1).wf = true ∧ (Lit.int .i64 (raiseB ok e m p d v).2.2.2.2.2.2.2.1).wf = true := by
  unfold raiseB
  (repeat' split) <;> exact ⟨by first | exact he | rfl, rfl⟩
theorem prodN_le (l : List Int) (hl : l.length ≤ 1048576) : prodN l ≤ 131072 := by unfold prodN; omega
theorem implProdLoop (id a : Int) (l : List Int) (v e : Int) (m p : List Bool) (ha : 0 < l.length → 0 ≤ a ∧ a ≤ 65535) (hl : l.length ≤ 1048576) (hm : m.length ≤ 1048576) (hp : p.length ≤ 1048576) (he : (Lit.int .i64 e).wf = true) (k : Nat) (hk : 3000000 < k) :
    impl_Produce.l1 k k l v 0 id a e m p [] false [] = some (if (List.range (prodN l)).all (wrOk id a l) = true then sendB ((List.range (prodN l)).map (wrP id a l)) (raiseB (hasB e m p id v) e m p id v) else ([], false)) := by
  obtain ⟨N, hN, hg, hend⟩ := first_bad (wrOk id a l) (prodN l)
  have hn := prodN_le l hl
  rw [all_range hg hend]
  unfold impl_Produce.l1
  refine iter_from (fun i => (((8 * i : Nat) : Int), id, a + ((min (8 * i) l.length : Nat) : Int), e, m, p, [], false, (List.range i).map (wrP id a l))) N (by simp) (fun rec i hi => ?_) (fun rec => ?_) (n := k) (by omega)
  · have hlt : 8 * i < l.length := by unfold prodN at hN; omega
    have hmin : min (8 * i) l.length = 8 * i := Nat.min_eq_left (by omega)
    have hc : chunkAt l ((8 * i : Nat) : Int) 8 = chunkN l i := cut_eq l i hlt hl
    have hcl := chunkN_len l i
    have ha' := ha (by omega)
    have hpk := hg i hi
    show impl_Produce.s1 k l v rec ((8 * i : Nat) : Int) id (a + ((min (8 * i) l.length : Nat) : Int)) e m p [] false ((List.range i).map (wrP id a l)) = _
    unfold impl_Produce.s1
    rw [hc, hmin]
    refine brT_to (iLt_yes (by rw [rLen_eq]; omega)) (bnd_to (a := chunkN l i) (chk_to (cLen_yes (by rw [rLen_eq]; omega)) rfl) (bnd_to (implIsPacket_ev 1 id 0 _ 0 0 0 (chunkN l i) (by omega) (by rw [wf64]; omega) rfl k (by omega)) ?_))
    refine brF_to (by rw [show packB 1 id 0 (a + ((8 * i : Nat) : Int)) 0 0 0 (chunkN l i) = true from hpk]; rfl) (chk_to (cLen_yes (by rw [rLen_eq, rApp_eq]; simp only [List.length_append, List.length_map, List.length_range, List.length_cons, List.length_nil]; omega)) ?_)
    have h1 : iAdd .i64 ((8 * i : Nat) : Int) 8 = ((8 * (i + 1) : Nat) : Int) := by rw [iAdd_id (by omega) (by omega)]; omega
    have h2 : iAdd .i64 (a + ((8 * i : Nat) : Int)) (rLen (chunkN l i)) = a + ((min (8 * (i + 1)) l.length : Nat) : Int) := by
      rw [rLen_eq, hcl, iAdd_id (by omega) (by omega)]; omega
    rw [h1, h2, rApp_eq, List.range_succ, List.map_append]
    rfl
  · have hNl : (8 * N < l.length ↔ N < prodN l) := by unfold prodN at *; omega
    show impl_Produce.s1 k l v rec ((8 * N : Nat) : Int) id (a + ((min (8 * N) l.length : Nat) : Int)) e m p [] false ((List.range N).map (wrP id a l)) = _
    unfold impl_Produce.s1
    rcases hend with rfl | ⟨hlt, hbad⟩
    · rw [decide_eq_true rfl, if_pos rfl]
      refine brF_to (iLt_no (by rw [rLen_eq]; omega)) (bnd_to (implRaise_ev e m p id v hp hm k (by omega)) ?_)
      obtain ⟨w1, w2⟩ := raiseB_wf he (hasB e m p id v) m p id v
      have wl := (raiseB_len (hasB e m p id v) e m p id v).2.2
      generalize raiseB (hasB e m p id v) e m p id v = r at *
      obtain ⟨r0, r1, r2, q0, q1, q2, q3, q4, q5, q6, ql, ok⟩ := r
      dsimp only at w1 w2 wl ⊢
      unfold sendB
      dsimp only
      cases ok with
      | false => exact brT_to rfl (by rw [if_neg (by simp)])
      | true =>
        refine brF_to rfl (bnd_to (implIsPacket_ev q0 q1 q2 q3 q4 q5 q6 ql (by omega) w1 w2 k (by omega)) ?_)
        cases hq : packB q0 q1 q2 q3 q4 q5 q6 ql with
        | false => exact brT_to rfl (by rw [if_neg (by simp)])
        | true => exact brF_to rfl (chk_to (cLen_yes (by rw [rLen_eq, rApp_eq]; simp only [List.length_append, List.length_map, List.length_range, List.length_cons, List.length_nil]; omega)) (by rw [if_pos ⟨rfl, rfl⟩]; rfl))
    · have h8 : 8 * N < l.length := hNl.2 hlt
      have hmin : min (8 * N) l.length = 8 * N := Nat.min_eq_left (by omega)
      have hc : chunkAt l ((8 * N : Nat) : Int) 8 = chunkN l N := cut_eq l N h8 hl
      have hcl := chunkN_len l N
      have ha' := ha (by omega)
      rw [decide_eq_false (by omega), if_neg (by simp), hc, hmin]
      refine brT_to (iLt_yes (by rw [rLen_eq]; omega)) (bnd_to (a := chunkN l N) (chk_to (cLen_yes (by rw [rLen_eq]; omega)) rfl) (bnd_to (implIsPacket_ev 1 id 0 _ 0 0 0 (chunkN l N) (by omega) (by rw [wf64]; omega) rfl k (by omega)) ?_))
      exact brT_to (by rw [show packB 1 id 0 (a + ((8 * N : Nat) : Int)) 0 0 0 (chunkN l N) = false from hbad]; rfl) rfl
theorem implProd_ev (id a : Int) (l : List Int) (v e : Int) (m p : List Bool) (hl : l.length ≤ 1048576) (hm : m.length ≤ 1048576) (hp : p.length ≤ 1048576) (he : (Lit.int .i64 e).wf = true) (k : Nat) (hk : 3000000 < k) :
    impl_Produce.f k id a l v e m p = some (prodB id a l v e m p) := by
  unfold impl_Produce.f
  refine bnd_to (within_eq k a 0 65535) ?_
  have h8 : cSub 1 8 65536 = true := decide_eq_true (by omega)
  have hx : bAnd (cSub 1 8 65536) (cLen (rLen l) 8) = true := by rw [h8, cLen_yes (by rw [rLen_eq]; omega)]; rfl
  by_cases ha : 0 ≤ a ∧ a ≤ 65535
  · refine brF_to (by rw [decide_eq_true ha]; rfl) (chk_to h8 (chk_to hx ?_))
    rw [implProdLoop id a l v e m p (fun _ => ha) hl hm hp he k hk]
    unfold prodB
    by_cases c : (List.range (prodN l)).all (wrOk id a l) = true
    · rw [if_pos c, if_pos ⟨fun _ => ha, c⟩]
    · rw [if_neg c, if_neg (fun h => c h.2)]
  · refine brT_to (by rw [decide_eq_false ha]; rfl) ?_
    by_cases h0 : 0 < l.length
    · refine brT_to (iLt_yes (by rw [rLen_eq]; omega)) ?_
      unfold prodB
      rw [if_neg (fun h => ha (h.1 h0))]
    · refine brF_to (iLt_no (by rw [rLen_eq]; omega)) (chk_to h8 (chk_to hx ?_))
      have e1 : impl_Produce.l0 k k l v 0 id a e m p [] false [] = impl_Produce.l1 k k l v 0 id a e m p [] false [] := rfl
      rw [e1, implProdLoop id a l v e m p (fun h => absurd h h0) hl hm hp he k hk]
      unfold prodB
      by_cases c : (List.range (prodN l)).all (wrOk id a l) = true
      · rw [if_pos c, if_pos ⟨fun h => absurd h h0, c⟩]
      · rw [if_neg c, if_neg (fun h => c h.2)]
theorem specProd_ev (id a : Int) (l : List Int) (v e : Int) (m p : List Bool) (hl : l.length ≤ 1048576) (hm : m.length ≤ 1048576) (hp : p.length ≤ 1048576) (he : (Lit.int .i64 e).wf = true) (k : Nat) (hk : 3000000 < k) :
    spec_Produce.f k id a l v e m p = some (prodB id a l v e m p) := by
  obtain ⟨N, hN, hg, hend⟩ := first_bad (fun i => decide (0 ≤ a ∧ a ≤ 65535) && wrOk id a l i) (prodN l)
  have hn := prodN_le l hl
  have hall := all_range hg hend
  have hpb : prodB id a l v e m p = if N = prodN l then sendB ((List.range (prodN l)).map (wrP id a l)) (raiseB (hasB e m p id v) e m p id v) else ([], false) := by
    unfold prodB
    by_cases c : N = prodN l
    · rw [decide_eq_true c] at hall
      have h1 : ∀ i, i < prodN l → (0 ≤ a ∧ a ≤ 65535) ∧ wrOk id a l i = true := fun i hi => by
        have := List.all_eq_true.1 hall i (List.mem_range.2 hi)
        simpa using this
      rw [if_pos c, if_pos ⟨fun h0 => (h1 0 (by unfold prodN; omega)).1, List.all_eq_true.2 fun i hi => (h1 i (List.mem_range.1 hi)).2⟩]
    · rw [decide_eq_false c] at hall
      rw [if_neg c, if_neg]
      rintro ⟨h1, h2⟩
      have : (List.range (prodN l)).all (fun i => decide (0 ≤ a ∧ a ≤ 65535) && wrOk id a l i) = true := List.all_eq_true.2 fun i hi => by
        have hi' := List.mem_range.1 hi
        rw [List.all_eq_true.1 h2 i hi, decide_eq_true (h1 (by unfold prodN at hi'; omega))]; rfl
      rw [this] at hall; cases hall
  rw [hpb]
  unfold spec_Produce.f spec_Produce.l0
  refine iter_from (fun i => (id, a, l, v, (List.range i).map (wrP id a l), ((8 * i : Nat) : Int), e, m, p)) N (by simp) (fun rec i hi => ?_) (fun rec => ?_) (n := k) (by omega)
  · have hlt : 8 * i < l.length := by unfold prodN at hN; omega
    have hc : rApp [] (rSub l ((8 * i : Nat) : Int) (iMin (rLen l) (iAdd .i64 ((8 * i : Nat) : Int) 8))) = chunkN l i := by rw [iMin_comm]; exact cut_eq l i hlt hl
    have hcl := chunkN_len l i
    have hpk := hg i hi
    simp only [Bool.and_eq_true, decide_eq_true_eq] at hpk
    obtain ⟨ha, hpk⟩ := hpk
    show spec_Produce.s0 k rec id a l v ((List.range i).map (wrP id a l)) ((8 * i : Nat) : Int) e m p = _
    unfold spec_Produce.s0
    rw [hc]
    have hA : iAdd .i64 a ((8 * i : Nat) : Int) = a + ((8 * i : Nat) : Int) := iAdd_id (by omega) (by omega)
    have h1 : iAdd .i64 ((8 * i : Nat) : Int) 8 = ((8 * (i + 1) : Nat) : Int) := by rw [iAdd_id (by omega) (by omega)]; omega
    refine brT_to (iLt_yes (by rw [rLen_eq]; omega)) (chk_to (decide_eq_true ?_) (chk_to (cLen_yes (by rw [rLen_eq]; omega)) (bnd_to (l01In_eq k a 0 65535) (brF_to (by rw [decide_eq_true ha]; rfl) ?_))))
    · rw [h1, rLen_eq]; unfold iMin; split <;> omega
    rw [hA]
    refine bnd_to (specIsPacket_ev 1 id 0 _ 0 0 0 (chunkN l i) (by omega) (by rw [wf64]; omega) rfl k (by omega)) ?_
    refine brF_to (by rw [show packB 1 id 0 (a + ((8 * i : Nat) : Int)) 0 0 0 (chunkN l i) = true from hpk]; rfl) (chk_to (cLen_yes (by rw [rLen_eq, rApp_eq]; simp only [List.length_append, List.length_map, List.length_range, List.length_cons, List.length_nil]; omega)) ?_)
    rw [h1, rApp_eq, List.range_succ, List.map_append]
    rfl
  · have hNl : (8 * N < l.length ↔ N < prodN l) := by unfold prodN at *; omega
    show spec_Produce.s0 k rec id a l v ((List.range N).map (wrP id a l)) ((8 * N : Nat) : Int) e m p = _
    unfold spec_Produce.s0
    rcases hend with rfl | ⟨hlt, hbad⟩
    · rw [if_pos rfl]
      refine brF_to (iLt_no (by rw [rLen_eq]; omega)) (bnd_to (specRaise_ev e m p id v hp hm k (by omega)) ?_)
      obtain ⟨w1, w2⟩ := raiseB_wf he (hasB e m p id v) m p id v
      have wl := (raiseB_len (hasB e m p id v) e m p id v).2.2
      generalize raiseB (hasB e m p id v) e m p id v = r at *
      obtain ⟨r0, r1, r2, q0, q1, q2, q3, q4, q5, q6, ql, ok⟩ := r
      dsimp only at w1 w2 wl ⊢
      unfold sendB
      dsimp only
      cases ok with
      | false => exact brT_to rfl (by rw [if_neg (by simp)])
      | true =>
        refine brF_to rfl (bnd_to (specIsPacket_ev q0 q1 q2 q3 q4 q5 q6 ql (by omega) w1 w2 k (by omega)) ?_)
        cases hq : packB q0 q1 q2 q3 q4 q5 q6 ql with
        | false => exact brT_to rfl (by rw [if_neg (by simp)])
        | true => exact brF_to rfl (chk_to (cLen_yes (by rw [rLen_eq, rApp_eq]; simp only [List.length_append, List.length_map, List.length_range, List.length_cons, List.length_nil]; omega)) (by rw [if_pos ⟨rfl, rfl⟩]; rfl))
    · have h8 : 8 * N < l.length := hNl.2 hlt
      have hc : rApp [] (rSub l ((8 * N : Nat) : Int) (iMin (rLen l) (iAdd .i64 ((8 * N : Nat) : Int) 8))) = chunkN l N := by rw [iMin_comm]; exact cut_eq l N h8 hl
      have hcl := chunkN_len l N
      have h1 : iAdd .i64 ((8 * N : Nat) : Int) 8 = ((8 * (N + 1) : Nat) : Int) := by rw [iAdd_id (by omega) (by omega)]; omega
      rw [if_neg (by omega), hc]
      refine brT_to (iLt_yes (by rw [rLen_eq]; omega)) (chk_to (decide_eq_true ?_) (chk_to (cLen_yes (by rw [rLen_eq]; omega)) (bnd_to (l01In_eq k a 0 65535) ?_)))
      · rw [h1, rLen_eq]; unfold iMin; split <;> omega
      by_cases ha : 0 ≤ a ∧ a ≤ 65535
      · rw [decide_eq_true ha, Bool.true_and] at hbad
        have hA : iAdd .i64 a ((8 * N : Nat) : Int) = a + ((8 * N : Nat) : Int) := iAdd_id (by omega) (by omega)
        rw [hA]
        refine brF_to (by rw [decide_eq_true ha]; rfl) (bnd_to (specIsPacket_ev 1 id 0 _ 0 0 0 (chunkN l N) (by omega) (by rw [wf64]; omega) rfl k (by omega)) ?_)
        exact brT_to (by rw [show packB 1 id 0 (a + ((8 * N : Nat) : Int)) 0 0 0 (chunkN l N) = false from hbad]; rfl) rfl
      · exact brT_to (by rw [decide_eq_false ha]; rfl) rfl
theorem prodB_len (id a : Int) (l : List Int) (v e : Int) (m p : List Bool) (hl : l.length ≤ 1048576) : (prodB id a l v e m p).1.length ≤ 131073 ∧ ∀ x ∈ (prodB id a l v e m p).1, pGot x ≤ 8 := by
  have hn := prodN_le l hl
  have wl := (raiseB_len (hasB e m p id v) e m p id v).2.2
  unfold prodB
  split
  · unfold sendB
    split
    · refine ⟨by simp only [List.length_append, List.length_map, List.length_range, List.length_cons, List.length_nil]; omega, fun x hx => ?_⟩
      rcases List.mem_append.1 hx with hx | hx
      · obtain ⟨i, _, rfl⟩ := List.mem_map.1 hx
        show (chunkN l i).length ≤ 8
        rw [chunkN_len]; omega
      · simp only [List.mem_singleton] at hx
        subst hx
        show _ ≤ 8
        exact Nat.le_trans wl (by omega)
    · exact ⟨Nat.zero_le _, fun x hx => by cases hx⟩
  · exact ⟨Nat.zero_le _, fun x hx => by cases hx⟩
theorem rSum_le8 {z : Pk → Nat} : ∀ (xs : List Pk), (∀ x ∈ xs, z x ≤ 8) → rSum z xs ≤ 8 * xs.length
  | [], _ => Nat.le_refl _
  | x :: xs, h => by
    have h1 := h x (by simp)
    have h2 := rSum_le8 xs fun y hy => h y (by simp [hy])
    rw [rSum_cons, List.length_cons]; omega
theorem laws_FnExactProduce.main (id a : Int) (l : List Int) (v e : Int) (m p : List Bool) (hm : m.length ≤ 9223372036854775807) (hp : p.length ≤ 9223372036854775807) (he : (Lit.int .i64 e).wf = true) : ∃ k, laws_FnExactProduce.f k id a l v e m p = some true := by
  refine ⟨3000001 + l.length + m.length + p.length, ?_⟩
  generalize hk : 3000001 + l.length + m.length + p.length = k
  unfold laws_FnExactProduce.f
  by_cases cl : (1048576 : Int) < (l.length : Int)
  · exact brT_to (iLt_yes (by rw [rLen_eq]; exact cl)) rfl
  refine brF_to (iLt_no (by rw [rLen_eq]; omega)) ?_
  have sv := szVectors_eq k e m p 1048576 hm hp (by omega) (by omega)
  by_cases cv : (m.length : Int) + p.length ≤ 1048576
  · rw [if_pos cv] at sv
    refine bnd_to sv (brF_to (iLt_no (by omega)) ?_)
    have tl := toIntS_ev l (by omega) k (by omega)
    have tv := toVectors_ev e m p (by omega) (by omega) k (by omega)
    have f1 := specProd_ev id a l v e m p (by omega) (by omega) (by omega) he k (by omega)
    have f2 := implProd_ev id a l v e m p (by omega) (by omega) (by omega) he k (by omega)
    obtain ⟨hr1, hr2⟩ := prodB_len id a l v e m p (by omega)
    generalize prodB id a l v e m p = r at f1 f2 hr1 hr2
    obtain ⟨r, ok⟩ := r
    dsimp only at hr1 hr2
    have hz : ∀ x ∈ r, pGot x ≤ 1048576 := fun x hx => Nat.le_trans (hr2 x hx) (by omega)
    have hs := rSum_p r
    have hs8 := rSum_le8 r hr2
    have q := eqPacketS_refl r (by omega) hz k (by omega)
    have q0 := eqIntS_refl l (by omega) k (by omega)
    have qv := eqVectors_refl e m p (by omega) (by omega) k (by omega)
    have m0 := markIntS_ev l 1 (by omega) (by omega) (by omega) k (by omega)
    have m1 := markVectors_ev e m p (1 + l.length) (by omega) (by omega) (by omega) (by omega) k (by omega)
    have m2 := markPacketS_ev r 1 (by omega) hz (by omega) (by omega) k (by omega)
    have hd := heldPacketS_ev r 1 (by omega) hz (by omega) (by omega) k (by omega)
    have g0 : (0 : Int) ≤ 1 + (l.length : Int) + m.length + p.length := by omega
    have g1 : (0 : Int) ≤ offs pN r 1 r.length := by have := offs_ge pN r 1 r.length; omega
    repeat (first
      | with_reducible refine bnd_to tl ?_
      | with_reducible refine bnd_to tv ?_
      | with_reducible refine bnd_to f1 ?_
      | with_reducible refine bnd_to f2 ?_
      | with_reducible refine bnd_to q ?_
      | with_reducible refine bnd_to q0 ?_
      | with_reducible refine bnd_to qv ?_
      | with_reducible refine bnd_to m0 ?_
      | with_reducible refine bnd_to m1 ?_
      | with_reducible refine bnd_to m2 ?_
      | with_reducible refine bnd_to hd ?_
      | with_reducible refine brF_to bNot_t ?_
      | with_reducible refine brF_to (bNe_self _) ?_
      | with_reducible refine brF_to (iNe_self _) ?_
      | with_reducible refine brF_to (iLt_no g0) ?_
      | with_reducible refine brF_to (iLt_no g1) ?_)
    rfl
  · rw [if_neg cv] at sv
    exact bnd_to sv (brT_to (iLt_yes (by omega)) rfl)
theorem laws_FnExactProduce.pure : ∀ x : laws_FnExactProduce.sig.inTy.T, Good laws_FnExactProduce.sig.inTy x → ∃ k, laws_FnExactProduce.spec.fn k x = some true := by
  rintro ⟨id, a, l, v, e, m, p⟩ ⟨_, _, _, _, he, ⟨hm, _⟩, ⟨hp, _⟩⟩
  exact laws_FnExactProduce.main id a l v e m p hm hp he
end Go.Proofs.YtmbmapbdbbnaeaaT

/- What the functions of FnExactNewGather give, in plain terms. -/
import Derived.Test.YtgcpodpgliifgaaFFnExactNewGather
import Derived.Test.YtgcpodpgliifgaaTiPL
set_option linter.unusedVariables false
set_option linter.unusedSimpArgs false
set_option maxRecDepth 100000
namespace Go.Proofs.YtgcpodpgliifgaaT
open Go
theorem some_dec {b : Bool} {p : Prop} [Decidable p] (h : b = true ↔ p) : some b = some (decide p) := by
  congr 1; rw [Bool.eq_iff_iff]; simpa using h
theorem iLe_eq (a b : Int) : iLe a b = decide (a ≤ b) := rfl
theorem iLt_eq (a b : Int) : iLt a b = decide (a < b) := rfl
theorem iEq_eq (a b : Int) : iEq a b = decide (a = b) := by by_cases h : a = b <;> simp [iEq, h]
theorem iNe_eq (a b : Int) : iNe a b = !decide (a = b) := by by_cases h : a = b <;> simp [iNe, h]
theorem bNot_eq (a : Bool) : bNot a = !a := rfl
theorem ite_some {α : Type} (p : Prop) [Decidable p] (a b : α) : (if p then some a else some b) = some (if p then a else b) := by split <;> rfl
/-- A loop that looks for the first element with a quality. -/
theorem iter_find {R : Type} {α : Type} {X : Type} {f : (X → Option R) → X → Option R} (s : Nat → X) (xs : List α) (p : α → Bool) (r : R) (e : Nat → R)
    (go : ∀ rec (i : Nat) (h : i < xs.length), p xs[i] = true → f rec (s i) = rec (s (i + 1))) (stop : ∀ rec (i : Nat) (h : i < xs.length), p xs[i] = false → f rec (s i) = some (e i)) (done : ∀ rec, f rec (s xs.length) = some r) {n : Nat} (hn : xs.length < n) :
    iter f n (s 0) = some (match xs.findIdx? (fun x => !p x) with | some i => e i | none => r) := by
  suffices H : ∀ d i n, i + d = xs.length → d < n → (∀ j (h : j < xs.length), j < i → p xs[j] = true) → iter f n (s i) = some (match xs.findIdx? (fun x => !p x) with | some i => e i | none => r) from H xs.length 0 n (by omega) hn (fun j _ h => by omega)
  intro d
  induction d with
  | zero =>
    intro i n hi hn hp
    obtain ⟨m, rfl⟩ : ∃ m, n = m + 1 := ⟨n - 1, by omega⟩
    obtain rfl : i = xs.length := by omega
    have : xs.findIdx? (fun x => !p x) = none := by
      rw [List.findIdx?_eq_none_iff]
      intro x hx
      obtain ⟨j, hj, rfl⟩ := List.mem_iff_getElem.1 hx
      simp [hp j hj (by omega)]
    rw [this]
    exact done _
  | succ d ih =>
    intro i n hi hn hp
    obtain ⟨m, rfl⟩ : ∃ m, n = m + 1 := ⟨n - 1, by omega⟩
    show f (iter f m) (s i) = _
    have hlt : i < xs.length := by omega
    by_cases hq : p xs[i] = false
    · rw [stop _ i hlt hq]
      have : xs.findIdx? (fun x => !p x) = some i := by
        rw [List.findIdx?_eq_some_iff_getElem]
        exact ⟨hlt, by simp [hq], fun j hj => by simp [hp j (by omega) hj]⟩
      rw [this]
    · have hq : p xs[i] = true := by simpa using hq
      rw [go _ i hlt hq]
      refine ih (i + 1) m (by omega) (by omega) fun j h hj => ?_
      rcases Nat.lt_or_ge j i with h' | h'
      · exact hp j h h'
      · obtain rfl : j = i := by omega
        exact hq
theorem getD_lt {α : Type} (d : α) (xs : List α) {i : Nat} (h : i < xs.length) : xs.getD i d = xs[i] := by
  rw [List.getD_eq_getElem?_getD, List.getElem?_eq_getElem h]; rfl
theorem bEq_eq (a b : Bool) : bEq a b = decide (a = b) := by cases a <;> cases b <;> rfl
theorem bNe_eq (a b : Bool) : bNe a b = !decide (a = b) := by cases a <;> cases b <;> rfl
theorem brB_nb {R : Type} (b : Bool) (x y : Option R) : brB (!b) x y = brB b y x := by cases b <;> rfl
theorem brB_dec {R : Type} (p : Prop) [Decidable p] (x y : Option R) : brB (decide p) x y = if p then x else y := by by_cases h : p <;> simp [h, brB]
theorem if_idx {R : Type} {i n : Nat} {x : Option R} (h : i < n) : (if 0 ≤ (i : Int) ∧ (i : Int) < (n : Int) then x else none) = x := if_pos (by omega)
theorem l01In_eq (k : Nat) (x a b : Int) : spec_l01In.f k x a b = some (decide (a ≤ x ∧ x ≤ b)) := by
  simp only [spec_l01In.f, iLt_eq, iLe_eq, iEq_eq, iNe_eq, bNot_eq, bEq_eq, bNe_eq, brB_nb, brB_dec, brB_true, brB_false, chk_idx, chk_len, chk_make, chk_sub, bnd_one, rLen_eq, rGet_nat, rSet_nat, rApp_eq, ↓reduceIte]; split <;> rename_i h <;> simp [h]
theorem within_eq (k : Nat) (x a b : Int) : impl_within.f k x a b = some (decide (a ≤ x ∧ x ≤ b)) := by
  simp only [impl_within.f, iLt_eq, iLe_eq, iEq_eq, iNe_eq, bNot_eq, bEq_eq, bNe_eq, brB_nb, brB_dec, brB_true, brB_false, chk_idx, chk_len, chk_make, chk_sub, bnd_one, rLen_eq, rGet_nat, rSet_nat, rApp_eq, ↓reduceIte]; split <;> rename_i h <;> simp [h]
theorem specIsId_eq (k : Nat) (a : Int) : spec_IsId.f k a = some (decide (0 ≤ a ∧ a ≤ 255)) := by simp only [spec_IsId.f, l01In_eq, bnd_one]
theorem implIsId_eq (k : Nat) (a : Int) : impl_IsId.f k a = some (decide (0 ≤ a ∧ a ≤ 255)) := by simp only [impl_IsId.f, within_eq, bnd_one]
theorem szIntS_eq (k : Nat) (l : List Int) (n : Int) (hl : l.length ≤ 9223372036854775807) (h0 : 0 ≤ n) (h1 : n ≤ 1048576) : laws_szIntS.f k l n = some (if (l.length : Int) ≤ n then n - l.length else -1) := by
  simp only [laws_szIntS.f, iLt_eq, iLe_eq, iEq_eq, iNe_eq, bNot_eq, bEq_eq, bNe_eq, brB_nb, brB_dec, brB_true, brB_false, chk_idx, chk_len, chk_make, chk_sub, bnd_one, rLen_eq, rGet_nat, rSet_nat, rApp_eq, ↓reduceIte]
  rw [iSub_id (by omega) (by omega)]
  by_cases h : (l.length : Int) ≤ n
  · rw [if_neg (by omega), if_pos h]
  · rw [if_pos (by omega), if_neg h]
theorem toIntS_ev (xs : List Int) (hn : xs.length ≤ 1048576) (k : Nat) (hk : xs.length < k) : laws_toIntS.f k xs = some xs := by
  simp only [laws_toIntS.f, laws_toIntS.l0, iLt_eq, iLe_eq, iEq_eq, iNe_eq, bNot_eq, bEq_eq, bNe_eq, brB_nb, brB_dec, brB_true, brB_false, chk_idx, chk_len, chk_make, chk_sub, bnd_one, rLen_eq, rGet_nat, rSet_nat, rApp_eq, ↓reduceIte]
  rw [if_pos (by omega), rRep_nat]
  have h := iter_upto (f := fun (rec : (List Int × List Int × Int) → Option (List Int)) (x : List Int × List Int × Int) => laws_toIntS.s0 k rec x.1 x.2.1 x.2.2)
    (fun i => (xs, fill (fun j => xs.getD j 0) (List.replicate xs.length 0) i, (i : Int))) xs.length (r := xs) (fun rec i hi => ?_) (fun rec => ?_) hk
  · rw [fill_zero] at h; exact h
  · simp only [laws_toIntS.s0, fill_len (show i ≤ (List.replicate xs.length (0:Int)).length by simp; omega), List.length_replicate, iLt_eq, iLe_eq, iEq_eq, iNe_eq, bNot_eq, bEq_eq, bNe_eq, brB_nb, brB_dec, brB_true, brB_false, chk_idx, chk_len, chk_make, chk_sub, bnd_one, rLen_eq, rGet_nat, rSet_nat, rApp_eq, ↓reduceIte]
    rw [if_pos (by omega), if_idx hi, if_idx hi, fill_set (by simpa using hi), next_id hi (by omega)]
  · have h2 := fill_end (g := fun j => xs.getD j 0) (xs := List.replicate xs.length (0 : Int))
    rw [List.length_replicate] at h2
    simp only [laws_toIntS.s0, h2, range_getD, iLt_eq, iLe_eq, iEq_eq, iNe_eq, bNot_eq, bEq_eq, bNe_eq, brB_nb, brB_dec, brB_true, brB_false, chk_idx, chk_len, chk_make, chk_sub, bnd_one, rLen_eq, rGet_nat, rSet_nat, rApp_eq, ↓reduceIte]
    rw [if_neg (by omega)]
theorem eqIntS_refl (xs : List Int) (hn : xs.length ≤ 4611686018427387904) (k : Nat) (hk : xs.length < k) : laws_eqIntS.f k xs xs = some true := by
  simp only [laws_eqIntS.f, laws_eqIntS.l0, iLt_eq, iLe_eq, iEq_eq, iNe_eq, bNot_eq, bEq_eq, bNe_eq, brB_nb, brB_dec, brB_true, brB_false, chk_idx, chk_len, chk_make, chk_sub, bnd_one, rLen_eq, rGet_nat, rSet_nat, rApp_eq, ↓reduceIte]
  refine iter_upto (f := fun (rec : (List Int × List Int × Int) → Option Bool) (x : List Int × List Int × Int) => laws_eqIntS.s0 k rec x.1 x.2.1 x.2.2) (fun i => (xs, xs, (i : Int))) xs.length (fun rec i hi => ?_) (fun rec => ?_) hk
  · simp only [laws_eqIntS.s0, iLt_eq, iLe_eq, iEq_eq, iNe_eq, bNot_eq, bEq_eq, bNe_eq, brB_nb, brB_dec, brB_true, brB_false, chk_idx, chk_len, chk_make, chk_sub, bnd_one, rLen_eq, rGet_nat, rSet_nat, rApp_eq, ↓reduceIte]
    rw [if_pos (by omega), if_idx hi, if_idx hi, next_id hi hn]
  · simp only [laws_eqIntS.s0, iLt_eq, iLe_eq, iEq_eq, iNe_eq, bNot_eq, bEq_eq, bNe_eq, brB_nb, brB_dec, brB_true, brB_false, chk_idx, chk_len, chk_make, chk_sub, bnd_one, rLen_eq, rGet_nat, rSet_nat, rApp_eq, ↓reduceIte]
    rw [if_neg (by omega)]
/-- The marks of a row of numbers. -/
def marks (m : Int) (n : Nat) : List Int := (List.range n).map fun (j : Nat) => m + (j : Int)
theorem marks_len (m : Int) (n : Nat) : (marks m n).length = n := by simp [marks]
theorem markIntS_ev (xs : List Int) (m : Int) (hn : xs.length ≤ 1000000000000) (h0 : 0 ≤ m) (h1 : m ≤ 1000000000000) (k : Nat) (hk : xs.length < k) : laws_markIntS.f k xs m = some (m + xs.length, marks m xs.length) := by
  simp only [laws_markIntS.f, laws_markIntS.l0]
  have h := iter_upto (f := fun (rec : (List Int × Int × Int) → Option (Int × List Int)) (x : List Int × Int × Int) => laws_markIntS.s0 k rec x.1 x.2.1 x.2.2)
    (fun i => (fill (fun (j : Nat) => m + (j : Int)) xs i, m + (i : Int), (i : Int))) xs.length (r := (m + xs.length, marks m xs.length)) (fun rec i hi => ?_) (fun rec => ?_) hk
  · rw [fill_zero] at h; simpa using h
  · simp only [laws_markIntS.s0, fill_len (Nat.le_of_lt hi), iLt_eq, iLe_eq, iEq_eq, iNe_eq, bNot_eq, bEq_eq, bNe_eq, brB_nb, brB_dec, brB_true, brB_false, chk_idx, chk_len, chk_make, chk_sub, bnd_one, rLen_eq, rGet_nat, rSet_nat, rApp_eq, ↓reduceIte]
    rw [if_pos (by omega), if_idx hi, fill_set hi, next_id hi (by omega), iAdd_id (by omega) (by omega)]
    congr 3
    omega
  · simp only [laws_markIntS.s0, fill_end, List.length_map, List.length_range, iLt_eq, iLe_eq, iEq_eq, iNe_eq, bNot_eq, bEq_eq, bNe_eq, brB_nb, brB_dec, brB_true, brB_false, chk_idx, chk_len, chk_make, chk_sub, bnd_one, rLen_eq, rGet_nat, rSet_nat, rApp_eq, ↓reduceIte]
    rw [if_neg (by omega)]
    rfl
theorem heldIntS_ev (n : Nat) (m : Int) (hn : n ≤ 1000000000000) (h0 : 0 ≤ m) (h1 : m ≤ 1000000000000) (k : Nat) (hk : n < k) : laws_heldIntS.f k (marks m n) m = some (m + n) := by
  simp only [laws_heldIntS.f, laws_heldIntS.l0]
  have h := iter_upto (f := fun (rec : (List Int × Int × Int) → Option Int) (x : List Int × Int × Int) => laws_heldIntS.s0 k rec x.1 x.2.1 x.2.2)
    (fun i => (marks m n, m + (i : Int), (i : Int))) n (r := m + n) (fun rec i hi => ?_) (fun rec => ?_) hk
  · simpa using h
  · simp only [laws_heldIntS.s0, marks_len, iLt_eq, iLe_eq, iEq_eq, iNe_eq, bNot_eq, bEq_eq, bNe_eq, brB_nb, brB_dec, brB_true, brB_false, chk_idx, chk_len, chk_make, chk_sub, bnd_one, rLen_eq, rGet_nat, rSet_nat, rApp_eq, ↓reduceIte]
    rw [if_pos (by omega), if_idx hi, marks, range_get n hi, if_pos rfl, next_id hi (by omega), iAdd_id (by omega) (by omega)]
    congr 3
    omega
  · simp only [laws_heldIntS.s0, marks_len, iLt_eq, iLe_eq, iEq_eq, iNe_eq, bNot_eq, bEq_eq, bNe_eq, brB_nb, brB_dec, brB_true, brB_false, chk_idx, chk_len, chk_make, chk_sub, bnd_one, rLen_eq, rGet_nat, rSet_nat, rApp_eq, ↓reduceIte]
    rw [if_neg (by omega)]
/-- All are words. -/
def wordsOk (l : List Int) : Bool := l.all fun x => decide (0 ≤ x ∧ x ≤ 65535)
theorem findIdx_all (l : List Int) (p : Int → Bool) : (match l.findIdx? (fun x => !p x) with | some _ => false | none => true) = l.all p := by
  cases h : l.findIdx? (fun x => !p x) with
  | none =>
    rw [List.findIdx?_eq_none_iff] at h
    symm
    rw [List.all_eq_true]
    intro x hx
    simpa using h x hx
  | some i =>
    rw [List.findIdx?_eq_some_iff_getElem] at h
    obtain ⟨hi, h1, _⟩ := h
    symm
    rw [← Bool.not_eq_true, List.all_eq_true]
    intro hall
    have := hall _ (List.getElem_mem hi)
    simp [this] at h1
theorem found_iff (l : List Int) (p : Int → Bool) : iLe 0 (match l.findIdx? (fun x => !p x) with | some i => (i : Int) | none => -1) = !l.all p := by
  rw [← findIdx_all]
  cases l.findIdx? (fun x => !p x) with
  | none => rfl
  | some i => simp [iLe]
theorem l04Words_ev (l : List Int) (hl : l.length ≤ 4611686018427387904) (k : Nat) (hk : l.length < k) : spec_l04Words.f k l = some (wordsOk l) := by
  simp only [spec_l04Words.f, spec_l04Words.l0]
  have h := iter_find (f := fun (rec : (List Int × Int) → Option Bool) (x : List Int × Int) => spec_l04Words.s0 k rec x.1 x.2) (fun i => (l, (i : Int))) l (fun x => decide (0 ≤ x ∧ x ≤ 65535)) true (fun _ => false)
    (fun rec i hi hp => ?_) (fun rec i hi hp => ?_) (fun rec => ?_) hk
  · exact h.trans (congrArg some (findIdx_all l _))
  · simp only [spec_l04Words.s0, l01In_eq, getD_lt _ _ hi, iLt_eq, iLe_eq, iEq_eq, iNe_eq, bNot_eq, bEq_eq, bNe_eq, brB_nb, brB_dec, brB_true, brB_false, chk_idx, chk_len, chk_make, chk_sub, bnd_one, rLen_eq, rGet_nat, rSet_nat, rApp_eq, ↓reduceIte]
    rw [if_pos (by omega), if_idx hi, next_id hi hl]
    rw [if_pos (of_decide_eq_true hp)]
  · simp only [spec_l04Words.s0, l01In_eq, getD_lt _ _ hi, iLt_eq, iLe_eq, iEq_eq, iNe_eq, bNot_eq, bEq_eq, bNe_eq, brB_nb, brB_dec, brB_true, brB_false, chk_idx, chk_len, chk_make, chk_sub, bnd_one, rLen_eq, rGet_nat, rSet_nat, rApp_eq, ↓reduceIte]
    rw [if_pos (by omega), if_idx hi]
    rw [if_neg (of_decide_eq_false hp)]
  · simp only [spec_l04Words.s0, iLt_eq, iLe_eq, iEq_eq, iNe_eq, bNot_eq, bEq_eq, bNe_eq, brB_nb, brB_dec, brB_true, brB_false, chk_idx, chk_len, chk_make, chk_sub, bnd_one, rLen_eq, rGet_nat, rSet_nat, rApp_eq, ↓reduceIte]
    rw [if_neg (by omega)]
theorem isWord_eq (k : Nat) (x : Int) : impl_isWord.f k x = some (decide (0 ≤ x ∧ x ≤ 65535)) := by simp only [impl_isWord.f, within_eq, bnd_one]
theorem indexNotWord2 (l : List Int) (hl : l.length ≤ 4611686018427387904) (k : Nat) (hk : l.length < k) : slices_IndexFunc_int_impl_Packet__dataOk_1.f k l = some (match l.findIdx? (fun x => !decide (0 ≤ x ∧ x ≤ 65535)) with | some i => (i : Int) | none => -1) := by
  simp only [slices_IndexFunc_int_impl_Packet__dataOk_1.f, slices_IndexFunc_int_impl_Packet__dataOk_1.l0]
  refine iter_find (f := fun (rec : (List Int × Int × Int) → Option Int) (x : List Int × Int × Int) => slices_IndexFunc_int_impl_Packet__dataOk_1.s0 k rec x.1 x.2.1 x.2.2) (fun i => (l, rLen l, (i : Int))) l (fun x => decide (0 ≤ x ∧ x ≤ 65535)) (-1) (fun i => (i : Int)) (fun rec i hi hp => ?_) (fun rec i hi hp => ?_) (fun rec => ?_) hk
  · simp only [slices_IndexFunc_int_impl_Packet__dataOk_1.s0, impl_Packet__dataOk_1.f, isWord_eq, getD_lt _ _ hi, iLt_eq, iLe_eq, iEq_eq, iNe_eq, bNot_eq, bEq_eq, bNe_eq, brB_nb, brB_dec, brB_true, brB_false, chk_idx, chk_len, chk_make, chk_sub, bnd_one, rLen_eq, rGet_nat, rSet_nat, rApp_eq, ↓reduceIte]
    rw [if_pos (by omega), if_idx hi, next_id hi hl]
    rw [if_pos (of_decide_eq_true hp)]
  · simp only [slices_IndexFunc_int_impl_Packet__dataOk_1.s0, impl_Packet__dataOk_1.f, isWord_eq, getD_lt _ _ hi, iLt_eq, iLe_eq, iEq_eq, iNe_eq, bNot_eq, bEq_eq, bNe_eq, brB_nb, brB_dec, brB_true, brB_false, chk_idx, chk_len, chk_make, chk_sub, bnd_one, rLen_eq, rGet_nat, rSet_nat, rApp_eq, ↓reduceIte]
    rw [if_pos (by omega), if_idx hi]
    rw [if_neg (of_decide_eq_false hp)]
  · simp only [slices_IndexFunc_int_impl_Packet__dataOk_1.s0, iLt_eq, iLe_eq, iEq_eq, iNe_eq, bNot_eq, bEq_eq, bNe_eq, brB_nb, brB_dec, brB_true, brB_false, chk_idx, chk_len, chk_make, chk_sub, bnd_one, rLen_eq, rGet_nat, rSet_nat, rApp_eq, ↓reduceIte]
    rw [if_neg (by omega)]
/-- A packet is valid: n is how many data it has, w says that they are words. -/
def packP (a0 a1 a2 a3 a4 a5 a6 n : Int) : Prop := (0 ≤ a1 ∧ a1 ≤ 255) ∧ (
  (a0 = 1 ∧ (1 ≤ n ∧ n ≤ 8) ∧ (0 ≤ a3 ∧ a3 ≤ 65536 - n) ∧ a6 = 0 ∧ a2 = 0 ∧ a4 = 0 ∧ a5 = 0) ∨
  (a0 = 2 ∧ (1 ≤ n ∧ n ≤ 8) ∧ a3 = 0 ∧ a6 = 0 ∧ a2 = 0 ∧ a4 = 0 ∧ a5 = 0) ∨
  (a0 = 3 ∧ n = 0 ∧ (1 ≤ a4 ∧ a4 ≤ 64) ∧ (0 ≤ a3 ∧ a3 ≤ 65536 - a4) ∧ (0 ≤ a5 ∧ a5 ≤ 7) ∧ a6 = 0 ∧ a2 = 0) ∨
  (a0 = 4 ∧ n = 0 ∧ (0 ≤ a3 ∧ a3 ≤ 63) ∧ (0 ≤ a2 ∧ a2 ≤ 255) ∧ (0 ≤ a5 ∧ a5 ≤ 7) ∧ a6 = 0 ∧ a4 = 0) ∨
  (a0 = 5 ∧ n = 1 ∧ (0 ≤ a3 ∧ a3 ≤ 63) ∧ (0 ≤ a2 ∧ a2 ≤ 255) ∧ (0 ≤ a5 ∧ a5 ≤ 7) ∧ a6 = 0 ∧ a4 = 0) ∨
  (a0 = 6 ∧ a3 = 0 ∧ (0 ≤ a2 ∧ a2 ≤ 255) ∧ (0 ≤ a5 ∧ a5 ≤ 7) ∧ (0 ≤ a6 ∧ a6 ≤ 2) ∧ (0 ≤ a4 ∧ a4 ≤ 64) ∧ (n = 0 ∨ (a6 = 0 ∧ n ≤ 8 ∧ n ≤ a4))))
instance (a0 a1 a2 a3 a4 a5 a6 n : Int) : Decidable (packP a0 a1 a2 a3 a4 a5 a6 n) := by unfold packP; infer_instance
def packB (a0 a1 a2 a3 a4 a5 a6 : Int) (l : List Int) : Bool := wordsOk l && decide (packP a0 a1 a2 a3 a4 a5 a6 (l.length : Int))
theorem some_iff {b c : Bool} (h : b = true ↔ c = true) : some b = some c := by rw [Bool.eq_iff_iff.2 h]
theorem l04Zero_eq (k : Nat) (a0 a1 a2 a3 a4 a5 a6 : Int) (l : List Int) (x y z : Bool) : spec_l04Zero.f k a0 a1 a2 a3 a4 a5 a6 l x y z = some (decide ((x = true ∨ a2 = 0) ∧ (y = true ∨ a4 = 0) ∧ (z = true ∨ a5 = 0))) := by
  simp only [spec_l04Zero.f, iLt_eq, iLe_eq, iEq_eq, iNe_eq, bNot_eq, bEq_eq, bNe_eq, brB_nb, brB_dec, brB_true, brB_false, chk_idx, chk_len, chk_make, chk_sub, bnd_one, rLen_eq, rGet_nat, rSet_nat, rApp_eq, ↓reduceIte]
  cases x <;> cases y <;> cases z <;> simp only [iLt_eq, iLe_eq, iEq_eq, iNe_eq, bNot_eq, bEq_eq, bNe_eq, brB_nb, brB_dec, brB_true, brB_false, chk_idx, chk_len, chk_make, chk_sub, bnd_one, rLen_eq, rGet_nat, rSet_nat, rApp_eq, ↓reduceIte] <;> (repeat' split) <;> simp_all
theorem specIsPacket_ev (a0 a1 a2 a3 a4 a5 a6 : Int) (l : List Int) (hl : l.length ≤ 1048576) (h3 : (Lit.int .i64 a3).wf = true) (h4 : (Lit.int .i64 a4).wf = true) (k : Nat) (hk : l.length < k) : spec_IsPacket.f k a0 a1 a2 a3 a4 a5 a6 l = some (packB a0 a1 a2 a3 a4 a5 a6 l) := by
  rw [wf64] at h3 h4
  simp only [spec_IsPacket.f, specIsId_eq, l01In_eq, l04Words_ev l (by omega) k hk, l04Zero_eq, iLt_eq, iLe_eq, iEq_eq, iNe_eq, bNot_eq, bEq_eq, bNe_eq, brB_nb, brB_dec, brB_true, brB_false, chk_idx, chk_len, chk_make, chk_sub, bnd_one, rLen_eq, rGet_nat, rSet_nat, rApp_eq, ↓reduceIte]
  rw [iSub_id (a := 65536) (b := (l.length : Int)) (by omega) (by omega)]
  simp only [packB, iSub_w, w64, iMin]
  generalize wordsOk l = w
  generalize (l.length : Int) = n at *
  cases w with
  | false => simp only [iLt_eq, iLe_eq, iEq_eq, iNe_eq, bNot_eq, bEq_eq, bNe_eq, brB_nb, brB_dec, brB_true, brB_false, chk_idx, chk_len, chk_make, chk_sub, bnd_one, rLen_eq, rGet_nat, rSet_nat, rApp_eq, ↓reduceIte, Bool.false_and]; split <;> rfl
  | true =>
    simp only [iLt_eq, iLe_eq, iEq_eq, iNe_eq, bNot_eq, bEq_eq, bNe_eq, brB_nb, brB_dec, brB_true, brB_false, chk_idx, chk_len, chk_make, chk_sub, bnd_one, rLen_eq, rGet_nat, rSet_nat, rApp_eq, ↓reduceIte, Bool.true_and]
    by_cases b0 : 0 ≤ a1 ∧ a1 ≤ 255
    · rw [if_pos b0]
      by_cases b1 : a0 = 1
      · subst b1; simp only [↓reduceIte]; (repeat' split) <;> (refine some_iff ?_ <;> (try simp only [packP, decide_eq_true_eq, Bool.false_eq_true, false_iff, true_iff, Int.reduceEq, false_or, or_false, false_and, true_and, and_true, and_false, true_or, or_true, iff_self, iff_false, iff_true] at *) <;> first | omega | (intro h; omega) | (constructor <;> intro h <;> omega) | trivial)
      by_cases b2 : a0 = 2
      · subst b2; simp only [Int.reduceEq, ↓reduceIte]; (repeat' split) <;> (refine some_iff ?_ <;> (try simp only [packP, decide_eq_true_eq, Bool.false_eq_true, false_iff, true_iff, Int.reduceEq, false_or, or_false, false_and, true_and, and_true, and_false, true_or, or_true, iff_self, iff_false, iff_true] at *) <;> first | omega | (intro h; omega) | (constructor <;> intro h <;> omega) | trivial)
      by_cases b3 : a0 = 3
      · subst b3; simp only [Int.reduceEq, ↓reduceIte]; (repeat' split) <;> (refine some_iff ?_ <;> (try simp only [packP, decide_eq_true_eq, Bool.false_eq_true, false_iff, true_iff, Int.reduceEq, false_or, or_false, false_and, true_and, and_true, and_false, true_or, or_true, iff_self, iff_false, iff_true] at *) <;> first | omega | (intro h; omega) | (constructor <;> intro h <;> omega) | trivial)
      by_cases b4 : a0 = 4
      · subst b4; simp only [Int.reduceEq, ↓reduceIte]; (repeat' split) <;> (refine some_iff ?_ <;> (try simp only [packP, decide_eq_true_eq, Bool.false_eq_true, false_iff, true_iff, Int.reduceEq, false_or, or_false, false_and, true_and, and_true, and_false, true_or, or_true, iff_self, iff_false, iff_true] at *) <;> first | omega | (intro h; omega) | (constructor <;> intro h <;> omega) | trivial)
      by_cases b5 : a0 = 5
      · subst b5; simp only [Int.reduceEq, ↓reduceIte]; (repeat' split) <;> (refine some_iff ?_ <;> (try simp only [packP, decide_eq_true_eq, Bool.false_eq_true, false_iff, true_iff, Int.reduceEq, false_or, or_false, false_and, true_and, and_true, and_false, true_or, or_true, iff_self, iff_false, iff_true] at *) <;> first | omega | (intro h; omega) | (constructor <;> intro h <;> omega) | trivial)
      by_cases b6 : a0 = 6
      · subst b6; simp only [Int.reduceEq, ↓reduceIte]; (repeat' split) <;> (refine some_iff ?_ <;> (try simp only [packP, decide_eq_true_eq, Bool.false_eq_true, false_iff, true_iff, Int.reduceEq, false_or, or_false, false_and, true_and, and_true, and_false, true_or, or_true, iff_self, iff_false, iff_true] at *) <;> first | omega | (intro h; omega) | (constructor <;> intro h <;> omega) | trivial)
      rw [if_neg b1, if_neg b2, if_neg b3, if_neg b4, if_neg b5, if_neg b6]
      exact congrArg some (decide_eq_false (by unfold packP; omega)).symm
    · rw [if_neg b0]
      exact congrArg some (decide_eq_false (by unfold packP; omega)).symm
/-- How many data a packet may have. -/
def dataP (a0 a4 a6 n : Int) : Prop := if a0 = 1 ∨ a0 = 2 then 1 ≤ n ∧ n ≤ 8 else if a0 = 5 then n = 1 else if a0 = 6 ∧ a6 = 0 then n ≤ 8 ∧ n ≤ a4 else n = 0
instance (a0 a4 a6 n : Int) : Decidable (dataP a0 a4 a6 n) := by unfold dataP; infer_instance
theorem dataOk_ev (a0 a1 a2 a3 a4 a5 a6 : Int) (l : List Int) (hl : l.length ≤ 4611686018427387904) (k : Nat) (hk : l.length < k) : impl_Packet__dataOk.f k a0 a1 a2 a3 a4 a5 a6 l = some (wordsOk l && decide (dataP a0 a4 a6 (l.length : Int))) := by
  simp only [impl_Packet__dataOk.f, slices_ContainsFunc_int_impl_Packet__dataOk_1.f, indexNotWord2 l hl k hk, bnd_one, found_iff l (fun x => decide (0 ≤ x ∧ x ≤ 65535)), within_eq]
  rw [show (l.all fun x => decide (0 ≤ x ∧ x ≤ 65535)) = wordsOk l from rfl]
  simp only [iLt_eq, iLe_eq, iEq_eq, iNe_eq, bNot_eq, bEq_eq, bNe_eq, brB_nb, brB_dec, brB_true, brB_false, chk_idx, chk_len, chk_make, chk_sub, bnd_one, rLen_eq, rGet_nat, rSet_nat, rApp_eq, ↓reduceIte]
  cases wordsOk l with
  | false => rfl
  | true =>
    simp only [iLt_eq, iLe_eq, iEq_eq, iNe_eq, bNot_eq, bEq_eq, bNe_eq, brB_nb, brB_dec, brB_true, brB_false, chk_idx, chk_len, chk_make, chk_sub, bnd_one, rLen_eq, rGet_nat, rSet_nat, rApp_eq, ↓reduceIte, Bool.true_and]
    unfold dataP
    by_cases b1 : a0 = 1
    · subst b1; simp only [Int.reduceEq, or_false, false_or, or_true, true_or, iLt_eq, iLe_eq, iEq_eq, iNe_eq, bNot_eq, bEq_eq, bNe_eq, brB_nb, brB_dec, brB_true, brB_false, chk_idx, chk_len, chk_make, chk_sub, bnd_one, rLen_eq, rGet_nat, rSet_nat, rApp_eq, ↓reduceIte]; (try rfl)
    by_cases b2 : a0 = 2
    · subst b2; simp only [Int.reduceEq, or_false, false_or, or_true, true_or, iLt_eq, iLe_eq, iEq_eq, iNe_eq, bNot_eq, bEq_eq, bNe_eq, brB_nb, brB_dec, brB_true, brB_false, chk_idx, chk_len, chk_make, chk_sub, bnd_one, rLen_eq, rGet_nat, rSet_nat, rApp_eq, ↓reduceIte]; (try rfl)
    by_cases b5 : a0 = 5
    · subst b5; simp only [Int.reduceEq, or_false, false_or, or_true, true_or, or_self, iLt_eq, iLe_eq, iEq_eq, iNe_eq, bNot_eq, bEq_eq, bNe_eq, brB_nb, brB_dec, brB_true, brB_false, chk_idx, chk_len, chk_make, chk_sub, bnd_one, rLen_eq, rGet_nat, rSet_nat, rApp_eq, ↓reduceIte]
    by_cases b6 : a0 = 6
    · subst b6; simp only [Int.reduceEq, or_false, false_or, or_true, true_or, or_self, true_and, iLt_eq, iLe_eq, iEq_eq, iNe_eq, bNot_eq, bEq_eq, bNe_eq, brB_nb, brB_dec, brB_true, brB_false, chk_idx, chk_len, chk_make, chk_sub, bnd_one, rLen_eq, rGet_nat, rSet_nat, rApp_eq, ↓reduceIte]; (repeat' split) <;> (refine some_iff ?_ <;> (try simp only [decide_eq_true_eq, Bool.false_eq_true, false_iff, true_iff, Int.reduceEq, false_or, or_false, false_and, true_and, and_true, and_false, true_or, or_true, iff_self, iff_false, iff_true] at *) <;> first | omega | (intro h; omega) | (constructor <;> intro h <;> omega) | trivial)
    simp only [b1, b2, b5, b6, or_self, false_and, iLt_eq, iLe_eq, iEq_eq, iNe_eq, bNot_eq, bEq_eq, bNe_eq, brB_nb, brB_dec, brB_true, brB_false, chk_idx, chk_len, chk_make, chk_sub, bnd_one, rLen_eq, rGet_nat, rSet_nat, rApp_eq, ↓reduceIte]
def addrP (a0 a3 a4 n : Int) : Prop := if a0 = 1 then (0 ≤ a3 ∧ a3 ≤ 65535) ∧ n ≤ 65536 - a3 else if a0 = 3 then (0 ≤ a3 ∧ a3 ≤ 65535) ∧ a4 ≤ 65536 - a3 else if a0 = 4 ∨ a0 = 5 then 0 ≤ a3 ∧ a3 ≤ 63 else a3 = 0
instance (a0 a3 a4 n : Int) : Decidable (addrP a0 a3 a4 n) := by unfold addrP; infer_instance
theorem addressOk_eq (k : Nat) (a0 a1 a2 a3 a4 a5 a6 : Int) (l : List Int) (h3 : (Lit.int .i64 a3).wf = true) : impl_Packet__addressOk.f k a0 a1 a2 a3 a4 a5 a6 l = some (decide (addrP a0 a3 a4 (l.length : Int))) := by
  rw [wf64] at h3
  simp only [impl_Packet__addressOk.f, within_eq, impl_Packet__words.f, iSub_w, w64, iLt_eq, iLe_eq, iEq_eq, iNe_eq, bNot_eq, bEq_eq, bNe_eq, brB_nb, brB_dec, brB_true, brB_false, chk_idx, chk_len, chk_make, chk_sub, bnd_one, rLen_eq, rGet_nat, rSet_nat, rApp_eq, ↓reduceIte]
  generalize (l.length : Int) = n
  unfold addrP
  by_cases b1 : a0 = 1
  · subst b1; simp only [Int.reduceEq, iLt_eq, iLe_eq, iEq_eq, iNe_eq, bNot_eq, bEq_eq, bNe_eq, brB_nb, brB_dec, brB_true, brB_false, chk_idx, chk_len, chk_make, chk_sub, bnd_one, rLen_eq, rGet_nat, rSet_nat, rApp_eq, ↓reduceIte]; (repeat' split) <;> (refine some_iff ?_ <;> (try simp only [decide_eq_true_eq, Bool.false_eq_true, false_iff, true_iff, Int.reduceEq, false_or, or_false, false_and, true_and, and_true, and_false, true_or, or_true, iff_self, iff_false, iff_true] at *) <;> first | omega | (intro h; omega) | (constructor <;> intro h <;> omega) | trivial)
  by_cases b3 : a0 = 3
  · subst b3; simp only [Int.reduceEq, iLt_eq, iLe_eq, iEq_eq, iNe_eq, bNot_eq, bEq_eq, bNe_eq, brB_nb, brB_dec, brB_true, brB_false, chk_idx, chk_len, chk_make, chk_sub, bnd_one, rLen_eq, rGet_nat, rSet_nat, rApp_eq, ↓reduceIte]; (repeat' split) <;> (refine some_iff ?_ <;> (try simp only [decide_eq_true_eq, Bool.false_eq_true, false_iff, true_iff, Int.reduceEq, false_or, or_false, false_and, true_and, and_true, and_false, true_or, or_true, iff_self, iff_false, iff_true] at *) <;> first | omega | (intro h; omega) | (constructor <;> intro h <;> omega) | trivial)
  by_cases b4 : a0 = 4
  · subst b4; simp only [Int.reduceEq, or_false, false_or, or_true, true_or, iLt_eq, iLe_eq, iEq_eq, iNe_eq, bNot_eq, bEq_eq, bNe_eq, brB_nb, brB_dec, brB_true, brB_false, chk_idx, chk_len, chk_make, chk_sub, bnd_one, rLen_eq, rGet_nat, rSet_nat, rApp_eq, ↓reduceIte]
  by_cases b5 : a0 = 5
  · subst b5; simp only [Int.reduceEq, or_false, false_or, or_true, true_or, iLt_eq, iLe_eq, iEq_eq, iNe_eq, bNot_eq, bEq_eq, bNe_eq, brB_nb, brB_dec, brB_true, brB_false, chk_idx, chk_len, chk_make, chk_sub, bnd_one, rLen_eq, rGet_nat, rSet_nat, rApp_eq, ↓reduceIte]
  simp only [b1, b3, b4, b5, or_self, iLt_eq, iLe_eq, iEq_eq, iNe_eq, bNot_eq, bEq_eq, bNe_eq, brB_nb, brB_dec, brB_true, brB_false, chk_idx, chk_len, chk_make, chk_sub, bnd_one, rLen_eq, rGet_nat, rSet_nat, rApp_eq, ↓reduceIte]
def lenP (a0 a4 : Int) : Prop := if a0 = 3 then 1 ≤ a4 ∧ a4 ≤ 64 else if a0 = 6 then 0 ≤ a4 ∧ a4 ≤ 64 else a4 = 0
instance (a0 a4 : Int) : Decidable (lenP a0 a4) := by unfold lenP; infer_instance
theorem lengthOk_eq (k : Nat) (a0 a1 a2 a3 a4 a5 a6 : Int) (l : List Int) : impl_Packet__lengthOk.f k a0 a1 a2 a3 a4 a5 a6 l = some (decide (lenP a0 a4)) := by
  simp only [impl_Packet__lengthOk.f, within_eq, iLt_eq, iLe_eq, iEq_eq, iNe_eq, bNot_eq, bEq_eq, bNe_eq, brB_nb, brB_dec, brB_true, brB_false, chk_idx, chk_len, chk_make, chk_sub, bnd_one, rLen_eq, rGet_nat, rSet_nat, rApp_eq, ↓reduceIte]
  unfold lenP
  (repeat' split) <;> rfl
theorem implIsPacket_ev (a0 a1 a2 a3 a4 a5 a6 : Int) (l : List Int) (hl : l.length ≤ 1048576) (h3 : (Lit.int .i64 a3).wf = true) (h4 : (Lit.int .i64 a4).wf = true) (k : Nat) (hk : l.length < k) : impl_IsPacket.f k a0 a1 a2 a3 a4 a5 a6 l = some (packB a0 a1 a2 a3 a4 a5 a6 l) := by
  by_cases b0 : 1 ≤ a0 ∧ a0 ≤ 6
  · simp only [impl_IsPacket.f, implIsId_eq, within_eq, dataOk_ev a0 a1 a2 a3 a4 a5 a6 l (by omega) k hk, addressOk_eq k a0 a1 a2 a3 a4 a5 a6 l h3, lengthOk_eq, bnd_one, iEq_eq, iNe_eq, brB_nb, bNot_eq, packB]
    rw [decide_eq_true b0]
    generalize wordsOk l = w
    generalize (l.length : Int) = n at *
    have : a0 = 1 ∨ a0 = 2 ∨ a0 = 3 ∨ a0 = 4 ∨ a0 = 5 ∨ a0 = 6 := by omega
    cases w with
    | false =>
      rcases this with rfl | rfl | rfl | rfl | rfl | rfl <;> simp only [Int.reduceEq, Int.reduceLE, decide_true, decide_false, bnd_one, brB_true, brB_false, brB_dec, and_self, and_true, and_false, true_and, false_and, Bool.false_and, ↓reduceIte] <;> (repeat' split) <;> rfl
    | true =>
      rcases this with rfl | rfl | rfl | rfl | rfl | rfl <;> simp only [Int.reduceEq, Int.reduceLE, decide_true, decide_false, bnd_one, brB_true, brB_false, brB_dec, and_self, and_true, and_false, true_and, false_and, Bool.true_and, dataP, packP, addrP, lenP, or_true, true_or, or_false, false_or, ↓reduceIte] <;> (repeat' split) <;> (refine some_iff ?_ <;> (try simp only [decide_eq_true_eq, Bool.false_eq_true, false_iff, true_iff, Int.reduceEq, false_or, or_false, false_and, true_and, and_true, and_false, true_or, or_true, iff_self, iff_false, iff_true] at *) <;> first | omega | (intro h; omega) | (constructor <;> intro h <;> omega) | trivial)
  · simp only [impl_IsPacket.f, within_eq, packB, bnd_one, decide_eq_false b0, bNot_eq, Bool.not_false, brB_true]
    rw [show decide (packP a0 a1 a2 a3 a4 a5 a6 (l.length : Int)) = false from decide_eq_false (by unfold packP; omega), Bool.and_false]
theorem szPacket_eq (k : Nat) (a0 a1 a2 a3 a4 a5 a6 : Int) (l : List Int) (n : Int) (hl : l.length ≤ 9223372036854775807) (h0 : 0 ≤ n) (h1 : n ≤ 1048576) : laws_szPacket.f k a0 a1 a2 a3 a4 a5 a6 l n = some (if (l.length : Int) ≤ n then n - l.length else -1) := by
  simp only [laws_szPacket.f, szIntS_eq k l n hl h0 h1, iLt_eq, iLe_eq, iEq_eq, iNe_eq, bNot_eq, bEq_eq, bNe_eq, brB_nb, brB_dec, brB_true, brB_false, chk_idx, chk_len, chk_make, chk_sub, bnd_one, rLen_eq, rGet_nat, rSet_nat, rApp_eq, ↓reduceIte]
  (repeat' split) <;> first | rfl | omega
theorem toPacket_ev (a0 a1 a2 a3 a4 a5 a6 : Int) (l : List Int) (hl : l.length ≤ 1048576) (k : Nat) (hk : l.length < k) : laws_toPacket.f k a0 a1 a2 a3 a4 a5 a6 l = some (a0, a1, a2, a3, a4, a5, a6, l) := by
  simp only [laws_toPacket.f, toIntS_ev l hl k hk, bnd_one]
theorem eqGather_refl (a b c : Int) (l : List Int) (e : Int) (hl : l.length ≤ 4611686018427387904) (k : Nat) (hk : l.length < k) : laws_eqGather.f k a b c l e a b c l e = some true := by
  simp only [laws_eqGather.f, eqIntS_refl l hl k hk, iLt_eq, iLe_eq, iEq_eq, iNe_eq, bNot_eq, bEq_eq, bNe_eq, brB_nb, brB_dec, brB_true, brB_false, chk_idx, chk_len, chk_make, chk_sub, bnd_one, rLen_eq, rGet_nat, rSet_nat, rApp_eq, ↓reduceIte, decide_true]
theorem eqPacket_refl (a0 a1 a2 a3 a4 a5 a6 : Int) (l : List Int) (hl : l.length ≤ 4611686018427387904) (k : Nat) (hk : l.length < k) : laws_eqPacket.f k a0 a1 a2 a3 a4 a5 a6 l a0 a1 a2 a3 a4 a5 a6 l = some true := by
  simp only [laws_eqPacket.f, eqIntS_refl l hl k hk, iLt_eq, iLe_eq, iEq_eq, iNe_eq, bNot_eq, bEq_eq, bNe_eq, brB_nb, brB_dec, brB_true, brB_false, chk_idx, chk_len, chk_make, chk_sub, bnd_one, rLen_eq, rGet_nat, rSet_nat, rApp_eq, ↓reduceIte, decide_true]
theorem markGather_ev (a b c : Int) (l : List Int) (e m : Int) (hn : l.length ≤ 1000000000000) (h0 : 0 ≤ m) (h1 : m ≤ 1000000000000) (k : Nat) (hk : l.length < k) : laws_markGather.f k a b c l e m = some (m + l.length, marks m l.length) := by
  simp only [laws_markGather.f, markIntS_ev l m hn h0 h1 k hk, bnd_one]
theorem markPacket_ev (a0 a1 a2 a3 a4 a5 a6 : Int) (l : List Int) (m : Int) (hn : l.length ≤ 1000000000000) (h0 : 0 ≤ m) (h1 : m ≤ 1000000000000) (k : Nat) (hk : l.length < k) : laws_markPacket.f k a0 a1 a2 a3 a4 a5 a6 l m = some (m + l.length, marks m l.length) := by
  simp only [laws_markPacket.f, markIntS_ev l m hn h0 h1 k hk, bnd_one]
theorem heldGather_ev (a b c : Int) (n : Nat) (e m : Int) (hn : n ≤ 1000000000000) (h0 : 0 ≤ m) (h1 : m ≤ 1000000000000) (k : Nat) (hk : n < k) : laws_heldGather.f k a b c (marks m n) e m = some (m + n) := by
  simp only [laws_heldGather.f, heldIntS_ev n m hn h0 h1 k hk, iLt_eq, iLe_eq, iEq_eq, iNe_eq, bNot_eq, bEq_eq, bNe_eq, brB_nb, brB_dec, brB_true, brB_false, chk_idx, chk_len, chk_make, chk_sub, bnd_one, rLen_eq, rGet_nat, rSet_nat, rApp_eq, ↓reduceIte]
  rw [if_neg (by omega)]
/-- The class of a packet. -/
def classB (p : Bool) (a0 : Int) : Int := if p = true then (if a0 = 1 ∨ a0 = 2 then 0 else if a0 = 6 then 2 else 1) else -1
theorem specClassOf_ev (a0 a1 a2 a3 a4 a5 a6 : Int) (l : List Int) (hl : l.length ≤ 1048576) (h3 : (Lit.int .i64 a3).wf = true) (h4 : (Lit.int .i64 a4).wf = true) (k : Nat) (hk : l.length < k) : spec_ClassOf.f k a0 a1 a2 a3 a4 a5 a6 l = some (classB (packB a0 a1 a2 a3 a4 a5 a6 l) a0) := by
  simp only [spec_ClassOf.f, specIsPacket_ev a0 a1 a2 a3 a4 a5 a6 l hl h3 h4 k hk, classB, iLt_eq, iLe_eq, iEq_eq, iNe_eq, bNot_eq, bEq_eq, bNe_eq, brB_nb, brB_dec, brB_true, brB_false, chk_idx, chk_len, chk_make, chk_sub, bnd_one, rLen_eq, rGet_nat, rSet_nat, rApp_eq, ↓reduceIte]
  cases packB a0 a1 a2 a3 a4 a5 a6 l with
  | false => rfl
  | true =>
    simp only [iLt_eq, iLe_eq, iEq_eq, iNe_eq, bNot_eq, bEq_eq, bNe_eq, brB_nb, brB_dec, brB_true, brB_false, chk_idx, chk_len, chk_make, chk_sub, bnd_one, rLen_eq, rGet_nat, rSet_nat, rApp_eq, ↓reduceIte]
    by_cases b1 : a0 = 1
    · subst b1; rfl
    by_cases b2 : a0 = 2
    · subst b2; rfl
    by_cases b6 : a0 = 6
    · subst b6; rfl
    simp only [b1, b2, b6, or_self, iLt_eq, iLe_eq, iEq_eq, iNe_eq, bNot_eq, bEq_eq, bNe_eq, brB_nb, brB_dec, brB_true, brB_false, chk_idx, chk_len, chk_make, chk_sub, bnd_one, rLen_eq, rGet_nat, rSet_nat, rApp_eq, ↓reduceIte]
theorem implClassOf_ev (a0 a1 a2 a3 a4 a5 a6 : Int) (l : List Int) (hl : l.length ≤ 1048576) (h3 : (Lit.int .i64 a3).wf = true) (h4 : (Lit.int .i64 a4).wf = true) (k : Nat) (hk : l.length < k) : impl_ClassOf.f k a0 a1 a2 a3 a4 a5 a6 l = some (classB (packB a0 a1 a2 a3 a4 a5 a6 l) a0) := by
  simp only [impl_ClassOf.f, impl_classOf.f, implIsPacket_ev a0 a1 a2 a3 a4 a5 a6 l hl h3 h4 k hk, classB, iLt_eq, iLe_eq, iEq_eq, iNe_eq, bNot_eq, bEq_eq, bNe_eq, brB_nb, brB_dec, brB_true, brB_false, chk_idx, chk_len, chk_make, chk_sub, bnd_one, rLen_eq, rGet_nat, rSet_nat, rApp_eq, ↓reduceIte]
  cases packB a0 a1 a2 a3 a4 a5 a6 l with
  | false => rfl
  | true =>
    simp only [iLt_eq, iLe_eq, iEq_eq, iNe_eq, bNot_eq, bEq_eq, bNe_eq, brB_nb, brB_dec, brB_true, brB_false, chk_idx, chk_len, chk_make, chk_sub, bnd_one, rLen_eq, rGet_nat, rSet_nat, rApp_eq, ↓reduceIte]
    by_cases b1 : a0 = 1
    · subst b1; rfl
    by_cases b2 : a0 = 2
    · subst b2; rfl
    by_cases b6 : a0 = 6
    · subst b6; rfl
    simp only [b1, b2, b6, or_self, iLt_eq, iLe_eq, iEq_eq, iNe_eq, bNot_eq, bEq_eq, bNe_eq, brB_nb, brB_dec, brB_true, brB_false, chk_idx, chk_len, chk_make, chk_sub, bnd_one, rLen_eq, rGet_nat, rSet_nat, rApp_eq, ↓reduceIte]
/-- What a gathering begins as. -/
def newB (c a0 a1 a4 a5 : Int) : Int × Int × Int × List Int × Int × Bool := if c = 1 then (a1, a5, if a0 = 4 then 1 else a4, ([] : List Int), 0, true) else (0, 0, 0, ([] : List Int), 0, false)
theorem newB_nil (c a0 a1 a4 a5 : Int) : (newB c a0 a1 a4 a5).2.2.2.1 = [] := by unfold newB; split <;> rfl
theorem class_one (a0 a1 a2 a3 a4 a5 a6 : Int) (l : List Int) (h : classB (packB a0 a1 a2 a3 a4 a5 a6 l) a0 = 1) : a0 = 3 ∨ a0 = 4 ∨ (a0 = 5 ∧ a4 = 0) := by
  have hp : packB a0 a1 a2 a3 a4 a5 a6 l = true := by
    cases hq : packB a0 a1 a2 a3 a4 a5 a6 l with
    | true => rfl
    | false => rw [hq] at h; simp [classB] at h
  rw [hp] at h
  simp only [packB, Bool.and_eq_true, decide_eq_true_eq] at hp
  replace hp := hp.2
  unfold packP at hp
  simp only [classB, if_pos] at h
  split at h
  · omega
  · split at h <;> omega
theorem specNew_ev (a0 a1 a2 a3 a4 a5 a6 : Int) (l : List Int) (hl : l.length ≤ 1048576) (h3 : (Lit.int .i64 a3).wf = true) (h4 : (Lit.int .i64 a4).wf = true) (k : Nat) (hk : l.length < k) : spec_NewGather.f k a0 a1 a2 a3 a4 a5 a6 l = some (newB (classB (packB a0 a1 a2 a3 a4 a5 a6 l) a0) a0 a1 a4 a5) := by
  simp only [spec_NewGather.f, specClassOf_ev a0 a1 a2 a3 a4 a5 a6 l hl h3 h4 k hk, newB, iLt_eq, iLe_eq, iEq_eq, iNe_eq, bNot_eq, bEq_eq, bNe_eq, brB_nb, brB_dec, brB_true, brB_false, chk_idx, chk_len, chk_make, chk_sub, bnd_one, rLen_eq, rGet_nat, rSet_nat, rApp_eq, ↓reduceIte]
  (repeat' split) <;> first | rfl | omega
theorem implNew_ev (a0 a1 a2 a3 a4 a5 a6 : Int) (l : List Int) (hl : l.length ≤ 1048576) (h3 : (Lit.int .i64 a3).wf = true) (h4 : (Lit.int .i64 a4).wf = true) (k : Nat) (hk : l.length < k) : impl_NewGather.f k a0 a1 a2 a3 a4 a5 a6 l = some (newB (classB (packB a0 a1 a2 a3 a4 a5 a6 l) a0) a0 a1 a4 a5) := by
  have h1 := class_one a0 a1 a2 a3 a4 a5 a6 l
  simp only [impl_NewGather.f, implClassOf_ev a0 a1 a2 a3 a4 a5 a6 l hl h3 h4 k hk, impl_wanted.f, newB, iLt_eq, iLe_eq, iEq_eq, iNe_eq, bNot_eq, bEq_eq, bNe_eq, brB_nb, brB_dec, brB_true, brB_false, chk_idx, chk_len, chk_make, chk_sub, bnd_one, rLen_eq, rGet_nat, rSet_nat, rApp_eq, ↓reduceIte]
  by_cases c : classB (packB a0 a1 a2 a3 a4 a5 a6 l) a0 = 1
  · rw [if_pos c, if_pos c]
    rcases h1 c with h | h | ⟨h, h'⟩
    · subst h; rfl
    · subst h; rfl
    · subst h h'; rfl
  · rw [if_neg c, if_neg c]
theorem laws_FnExactNewGather.pure : ∀ x : laws_FnExactNewGather.sig.inTy.T, Good laws_FnExactNewGather.sig.inTy x → ∃ k, laws_FnExactNewGather.spec.fn k x = some true := by
  rintro ⟨a0, a1, a2, a3, a4, a5, a6, l⟩ ⟨_, _, _, h3, h4, _, _, hl, _⟩
  have hl : l.length ≤ 9223372036854775807 := hl
  refine ⟨l.length + 1, ?_⟩
  show laws_FnExactNewGather.f _ a0 a1 a2 a3 a4 a5 a6 l = some true
  generalize hk : l.length + 1 = k
  by_cases c1 : (l.length : Int) ≤ 1048576
  · have tp := toPacket_ev a0 a1 a2 a3 a4 a5 a6 l (by omega) k (by omega)
    have f1 := specNew_ev a0 a1 a2 a3 a4 a5 a6 l (by omega) h3 h4 k (by omega)
    have f2 := implNew_ev a0 a1 a2 a3 a4 a5 a6 l (by omega) h3 h4 k (by omega)
    have hnil := newB_nil (classB (packB a0 a1 a2 a3 a4 a5 a6 l) a0) a0 a1 a4 a5
    generalize newB (classB (packB a0 a1 a2 a3 a4 a5 a6 l) a0) a0 a1 a4 a5 = r at f1 f2 hnil
    obtain ⟨r0, r1, r2, rl, r4, rb⟩ := r
    simp only at hnil
    subst hnil
    have e := eqGather_refl r0 r1 r2 [] r4 (by simp) k (by simp; omega)
    have ep := eqPacket_refl a0 a1 a2 a3 a4 a5 a6 l (by omega) k (by omega)
    have m1 := markGather_ev r0 r1 r2 [] r4 1 (by simp) (by omega) (by omega) k (by simp; omega)
    have m2 := heldGather_ev r0 r1 r2 0 r4 1 (by omega) (by omega) (by omega) k (by omega)
    have n2 := markPacket_ev a0 a1 a2 a3 a4 a5 a6 l 1 (by omega) (by omega) (by omega) k (by omega)
    simp only [List.length_nil] at m1 m2
    simp only [laws_FnExactNewGather.f, szPacket_eq k a0 a1 a2 a3 a4 a5 a6 l 1048576 hl (by omega) (by omega), if_pos c1, tp, f1, f2, e, ep, m1, m2, n2, iLt_eq, iLe_eq, iEq_eq, iNe_eq, bNot_eq, bEq_eq, bNe_eq, brB_nb, brB_dec, brB_true, brB_false, chk_idx, chk_len, chk_make, chk_sub, bnd_one, rLen_eq, rGet_nat, rSet_nat, rApp_eq, ↓reduceIte, decide_true]
    rw [if_neg (by omega), if_neg (by omega)]
    simp
  · simp only [laws_FnExactNewGather.f, szPacket_eq k a0 a1 a2 a3 a4 a5 a6 l 1048576 hl (by omega) (by omega), if_neg c1, iLt_eq, iLe_eq, iEq_eq, iNe_eq, bNot_eq, bEq_eq, bNe_eq, brB_nb, brB_dec, brB_true, brB_false, chk_idx, chk_len, chk_make, chk_sub, bnd_one, rLen_eq, rGet_nat, rSet_nat, rApp_eq, ↓reduceIte]
    rfl
end Go.Proofs.YtgcpodpgliifgaaT

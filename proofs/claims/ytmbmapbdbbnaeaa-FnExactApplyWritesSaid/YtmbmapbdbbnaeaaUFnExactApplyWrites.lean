/- What the functions of FnExactApplyWrites give, in plain terms. -/
import Derived.Test.YtmbmapbdbbnaeaaFFnExactApplyWrites
import Derived.Test.YtmbmapbdbbnaeaaTiPL
set_option linter.unusedVariables false
set_option linter.unusedSimpArgs false
set_option maxRecDepth 100000
namespace Go.Proofs.YtmbmapbdbbnaeaaT
open Go
theorem bnd_to {A R : Type} {x : Option A} {a : A} {f : A → Option R} {r : Option R} (h : x = some a) (g : f a = r) : bnd x f = r := by rw [h]; exact g
theorem brF_to {R : Type} {b : Bool} {x y r : Option R} (h : b = false) (g : y = r) : brB b x y = r := by rw [h]; exact g
theorem brT_to {R : Type} {b : Bool} {x y r : Option R} (h : b = true) (g : x = r) : brB b x y = r := by rw [h]; exact g
theorem iNe_self (a : Int) : iNe a a = false := by simp [iNe]
theorem bNot_t : bNot true = false := rfl
theorem iLt_no {a b : Int} (h : b ≤ a) : iLt a b = false := by simp [iLt, h]
theorem iLt_yes {a b : Int} (h : a < b) : iLt a b = true := by simp [iLt, h]
theorem iLe_eq (a b : Int) : iLe a b = decide (a ≤ b) := rfl
theorem iLt_eq (a b : Int) : iLt a b = decide (a < b) := rfl
theorem iEq_eq (a b : Int) : iEq a b = decide (a = b) := by by_cases h : a = b <;> simp [iEq, h]
theorem iNe_eq (a b : Int) : iNe a b = !decide (a = b) := by by_cases h : a = b <;> simp [iNe, h]
theorem bNot_eq (a : Bool) : bNot a = !a := rfl
/-- A loop that looks for the first element with a quality. -/
theorem iter_find {R : Type} {α : Type} {X : Type} {f : (X → Option R) → X → Option R} (s : Nat → X) (xs : List α) (p : α → Bool) (r : R) (e : Nat → R)
    (go : ∀ rec (i : Nat) (h : i < xs.length), p xs[i] = true → f rec (s i) = rec (s (i + 1))) (stop : ∀ rec (i : Nat) (h : i < xs.length), p xs[i] = false → f rec (s i) = some (e i)) (done : ∀ rec, f rec (s xs.length) = some r) {n : Nat} (hn : xs.length < n) :
    iter f n (s 0) = some (match xs.findIdx? (fun x => !p x) with | some i => e i | none => r) := by
  suffices H : ∀ d i n, i + d = xs.length → d < n → (∀ j (h : j < xs.length), j < i → p xs[j] = true) → iter f n (s i) = some (match xs.findIdx? (fun x => !p x) with | some i => e i | none => r) from H xs.length 0 n (by omega) hn (fun j _ h => by omega)
  intro d
  induction d with
  | zero =>
    intro i n hi hn hp
    obtain ⟨m, rfl⟩ : ∃ m, n = m + 1 := ⟨n - 1, by omega⟩
    obtain rfl : i = xs.length := by omega
    have : xs.findIdx? (fun x => !p x) = none := by
      rw [List.findIdx?_eq_none_iff]
      intro x hx
      obtain ⟨j, hj, rfl⟩ := List.mem_iff_getElem.1 hx
      simp [hp j hj (by omega)]
    rw [this]
    exact done _
  | succ d ih =>
    intro i n hi hn hp
    obtain ⟨m, rfl⟩ : ∃ m, n = m + 1 := ⟨n - 1, by omega⟩
    show f (iter f m) (s i) = _
    have hlt : i < xs.length := by omega
    by_cases hq : p xs[i] = false
    · rw [stop _ i hlt hq]
      have : xs.findIdx? (fun x => !p x) = some i := by
        rw [List.findIdx?_eq_some_iff_getElem]
        exact ⟨hlt, by simp [hq], fun j hj => by simp [hp j (by omega) hj]⟩
      rw [this]
    · have hq : p xs[i] = true := by simpa using hq
      rw [go _ i hlt hq]
      refine ih (i + 1) m (by omega) (by omega) fun j h hj => ?_
      rcases Nat.lt_or_ge j i with h' | h'
      · exact hp j h h'
      · obtain rfl : j = i := by omega
        exact hq
theorem getD_lt {α : Type} (d : α) (xs : List α) {i : Nat} (h : i < xs.length) : xs.getD i d = xs[i] := by
  rw [List.getD_eq_getElem?_getD, List.getElem?_eq_getElem h]; rfl
theorem bEq_eq (a b : Bool) : bEq a b = decide (a = b) := by cases a <;> cases b <;> rfl
theorem bNe_eq (a b : Bool) : bNe a b = !decide (a = b) := by cases a <;> cases b <;> rfl
theorem brB_nb {R : Type} (b : Bool) (x y : Option R) : brB (!b) x y = brB b y x := by cases b <;> rfl
theorem brB_dec {R : Type} (p : Prop) [Decidable p] (x y : Option R) : brB (decide p) x y = if p then x else y := by by_cases h : p <;> simp [h, brB]
theorem if_idx {R : Type} {i n : Nat} {x : Option R} (h : i < n) : (if 0 ≤ (i : Int) ∧ (i : Int) < (n : Int) then x else none) = x := if_pos (by omega)
theorem l01In_eq (k : Nat) (x a b : Int) : spec_l01In.f k x a b = some (decide (a ≤ x ∧ x ≤ b)) := by
  simp only [spec_l01In.f, iLt_eq, iLe_eq, iEq_eq, iNe_eq, bNot_eq, bEq_eq, bNe_eq, brB_nb, brB_dec, brB_true, brB_false, chk_idx, chk_len, chk_make, chk_sub, bnd_one, rLen_eq, rGet_nat, rSet_nat, rApp_eq, ↓reduceIte]; split <;> rename_i h <;> simp [h]
theorem within_eq (k : Nat) (x a b : Int) : impl_within.f k x a b = some (decide (a ≤ x ∧ x ≤ b)) := by
  simp only [impl_within.f, iLt_eq, iLe_eq, iEq_eq, iNe_eq, bNot_eq, bEq_eq, bNe_eq, brB_nb, brB_dec, brB_true, brB_false, chk_idx, chk_len, chk_make, chk_sub, bnd_one, rLen_eq, rGet_nat, rSet_nat, rApp_eq, ↓reduceIte]; split <;> rename_i h <;> simp [h]
theorem specIsId_eq (k : Nat) (a : Int) : spec_IsId.f k a = some (decide (0 ≤ a ∧ a ≤ 255)) := by simp only [spec_IsId.f, l01In_eq, bnd_one]
theorem implIsId_eq (k : Nat) (a : Int) : impl_IsId.f k a = some (decide (0 ≤ a ∧ a ≤ 255)) := by simp only [impl_IsId.f, within_eq, bnd_one]
theorem szIntS_eq (k : Nat) (l : List Int) (n : Int) (hl : l.length ≤ 9223372036854775807) (h0 : 0 ≤ n) (h1 : n ≤ 1048576) : laws_szIntS.f k l n = some (if (l.length : Int) ≤ n then n - l.length else -1) := by
  simp only [laws_szIntS.f, iLt_eq, iLe_eq, iEq_eq, iNe_eq, bNot_eq, bEq_eq, bNe_eq, brB_nb, brB_dec, brB_true, brB_false, chk_idx, chk_len, chk_make, chk_sub, bnd_one, rLen_eq, rGet_nat, rSet_nat, rApp_eq, ↓reduceIte]
  rw [iSub_id (by omega) (by omega)]
  by_cases h : (l.length : Int) ≤ n
  · rw [if_neg (by omega), if_pos h]
  · rw [if_pos (by omega), if_neg h]
theorem toIntS_ev (xs : List Int) (hn : xs.length ≤ 1048576) (k : Nat) (hk : xs.length < k) : laws_toIntS.f k xs = some xs := by
  simp only [laws_toIntS.f, laws_toIntS.l0, iLt_eq, iLe_eq, iEq_eq, iNe_eq, bNot_eq, bEq_eq, bNe_eq, brB_nb, brB_dec, brB_true, brB_false, chk_idx, chk_len, chk_make, chk_sub, bnd_one, rLen_eq, rGet_nat, rSet_nat, rApp_eq, ↓reduceIte]
  rw [if_pos (by omega), rRep_nat]
  have h := iter_upto (f := fun (rec : (List Int × List Int × Int) → Option (List Int)) (x : List Int × List Int × Int) => laws_toIntS.s0 k rec x.1 x.2.1 x.2.2)
    (fun i => (xs, fill (fun j => xs.getD j 0) (List.replicate xs.length 0) i, (i : Int))) xs.length (r := xs) (fun rec i hi => ?_) (fun rec => ?_) hk
  · rw [fill_zero] at h; exact h
  · simp only [laws_toIntS.s0, fill_len (show i ≤ (List.replicate xs.length (0:Int)).length by simp; omega), List.length_replicate, iLt_eq, iLe_eq, iEq_eq, iNe_eq, bNot_eq, bEq_eq, bNe_eq, brB_nb, brB_dec, brB_true, brB_false, chk_idx, chk_len, chk_make, chk_sub, bnd_one, rLen_eq, rGet_nat, rSet_nat, rApp_eq, ↓reduceIte]
    rw [if_pos (by omega), if_idx hi, if_idx hi, fill_set (by simpa using hi), next_id hi (by omega)]
  · have h2 := fill_end (g := fun j => xs.getD j 0) (xs := List.replicate xs.length (0 : Int))
    rw [List.length_replicate] at h2
    simp only [laws_toIntS.s0, h2, range_getD, iLt_eq, iLe_eq, iEq_eq, iNe_eq, bNot_eq, bEq_eq, bNe_eq, brB_nb, brB_dec, brB_true, brB_false, chk_idx, chk_len, chk_make, chk_sub, bnd_one, rLen_eq, rGet_nat, rSet_nat, rApp_eq, ↓reduceIte]
    rw [if_neg (by omega)]
theorem eqIntS_refl (xs : List Int) (hn : xs.length ≤ 4611686018427387904) (k : Nat) (hk : xs.length < k) : laws_eqIntS.f k xs xs = some true := by
  simp only [laws_eqIntS.f, laws_eqIntS.l0, iLt_eq, iLe_eq, iEq_eq, iNe_eq, bNot_eq, bEq_eq, bNe_eq, brB_nb, brB_dec, brB_true, brB_false, chk_idx, chk_len, chk_make, chk_sub, bnd_one, rLen_eq, rGet_nat, rSet_nat, rApp_eq, ↓reduceIte]
  refine iter_upto (f := fun (rec : (List Int × List Int × Int) → Option Bool) (x : List Int × List Int × Int) => laws_eqIntS.s0 k rec x.1 x.2.1 x.2.2) (fun i => (xs, xs, (i : Int))) xs.length (fun rec i hi => ?_) (fun rec => ?_) hk
  · simp only [laws_eqIntS.s0, iLt_eq, iLe_eq, iEq_eq, iNe_eq, bNot_eq, bEq_eq, bNe_eq, brB_nb, brB_dec, brB_true, brB_false, chk_idx, chk_len, chk_make, chk_sub, bnd_one, rLen_eq, rGet_nat, rSet_nat, rApp_eq, ↓reduceIte]
    rw [if_pos (by omega), if_idx hi, if_idx hi, next_id hi hn]
  · simp only [laws_eqIntS.s0, iLt_eq, iLe_eq, iEq_eq, iNe_eq, bNot_eq, bEq_eq, bNe_eq, brB_nb, brB_dec, brB_true, brB_false, chk_idx, chk_len, chk_make, chk_sub, bnd_one, rLen_eq, rGet_nat, rSet_nat, rApp_eq, ↓reduceIte]
    rw [if_neg (by omega)]
/-- The marks of a row of numbers. -/
def marks (m : Int) (n : Nat) : List Int := (List.range n).map fun (j : Nat) => m + (j : Int)
theorem marks_len (m : Int) (n : Nat) : (marks m n).length = n := by simp [marks]
theorem markIntS_ev (xs : List Int) (m : Int) (hn : xs.length ≤ 1000000000000) (h0 : 0 ≤ m) (h1 : m ≤ 1000000000000) (k : Nat) (hk : xs.length < k) : laws_markIntS.f k xs m = some (m + xs.length, marks m xs.length) := by
  simp only [laws_markIntS.f, laws_markIntS.l0]
  have h := iter_upto (f := fun (rec : (List Int × Int × Int) → Option (Int × List Int)) (x : List Int × Int × Int) => laws_markIntS.s0 k rec x.1 x.2.1 x.2.2)
    (fun i => (fill (fun (j : Nat) => m + (j : Int)) xs i, m + (i : Int), (i : Int))) xs.length (r := (m + xs.length, marks m xs.length)) (fun rec i hi => ?_) (fun rec => ?_) hk
  · rw [fill_zero] at h; simpa using h
  · simp only [laws_markIntS.s0, fill_len (Nat.le_of_lt hi), iLt_eq, iLe_eq, iEq_eq, iNe_eq, bNot_eq, bEq_eq, bNe_eq, brB_nb, brB_dec, brB_true, brB_false, chk_idx, chk_len, chk_make, chk_sub, bnd_one, rLen_eq, rGet_nat, rSet_nat, rApp_eq, ↓reduceIte]
    rw [if_pos (by omega), if_idx hi, fill_set hi, next_id hi (by omega), iAdd_id (by omega) (by omega)]
    congr 3
    omega
  · simp only [laws_markIntS.s0, fill_end, List.length_map, List.length_range, iLt_eq, iLe_eq, iEq_eq, iNe_eq, bNot_eq, bEq_eq, bNe_eq, brB_nb, brB_dec, brB_true, brB_false, chk_idx, chk_len, chk_make, chk_sub, bnd_one, rLen_eq, rGet_nat, rSet_nat, rApp_eq, ↓reduceIte]
    rw [if_neg (by omega)]
    rfl
theorem heldIntS_ev (n : Nat) (m : Int) (hn : n ≤ 1000000000000) (h0 : 0 ≤ m) (h1 : m ≤ 1000000000000) (k : Nat) (hk : n < k) : laws_heldIntS.f k (marks m n) m = some (m + n) := by
  simp only [laws_heldIntS.f, laws_heldIntS.l0]
  have h := iter_upto (f := fun (rec : (List Int × Int × Int) → Option Int) (x : List Int × Int × Int) => laws_heldIntS.s0 k rec x.1 x.2.1 x.2.2)
    (fun i => (marks m n, m + (i : Int), (i : Int))) n (r := m + n) (fun rec i hi => ?_) (fun rec => ?_) hk
  · simpa using h
  · simp only [laws_heldIntS.s0, marks_len, iLt_eq, iLe_eq, iEq_eq, iNe_eq, bNot_eq, bEq_eq, bNe_eq, brB_nb, brB_dec, brB_true, brB_false, chk_idx, chk_len, chk_make, chk_sub, bnd_one, rLen_eq, rGet_nat, rSet_nat, rApp_eq, ↓reduceIte]
    rw [if_pos (by omega), if_idx hi, marks, range_get n hi, if_pos rfl, next_id hi (by omega), iAdd_id (by omega) (by omega)]
    congr 3
    omega
  · simp only [laws_heldIntS.s0, marks_len, iLt_eq, iLe_eq, iEq_eq, iNe_eq, bNot_eq, bEq_eq, bNe_eq, brB_nb, brB_dec, brB_true, brB_false, chk_idx, chk_len, chk_make, chk_sub, bnd_one, rLen_eq, rGet_nat, rSet_nat, rApp_eq, ↓reduceIte]
    rw [if_neg (by omega)]
/-- All are words. -/
def wordsOk (l : List Int) : Bool := l.all fun x => decide (0 ≤ x ∧ x ≤ 65535)
theorem findIdx_all {α : Type} (l : List α) (p : α → Bool) : (match l.findIdx? (fun x => !p x) with | some _ => false | none => true) = l.all p := by
  cases h : l.findIdx? (fun x => !p x) with
  | none =>
    rw [List.findIdx?_eq_none_iff] at h
    symm
    rw [List.all_eq_true]
    intro x hx
    simpa using h x hx
  | some i =>
    rw [List.findIdx?_eq_some_iff_getElem] at h
    obtain ⟨hi, h1, _⟩ := h
    symm
    rw [← Bool.not_eq_true, List.all_eq_true]
    intro hall
    have := hall _ (List.getElem_mem hi)
    simp [this] at h1
theorem found_iff {α : Type} (l : List α) (p : α → Bool) : iLe 0 (match l.findIdx? (fun x => !p x) with | some i => (i : Int) | none => -1) = !l.all p := by
  rw [← findIdx_all]
  cases l.findIdx? (fun x => !p x) with
  | none => rfl
  | some i => simp [iLe]
theorem l04Words_ev (l : List Int) (hl : l.length ≤ 4611686018427387904) (k : Nat) (hk : l.length < k) : spec_l04Words.f k l = some (wordsOk l) := by
  simp only [spec_l04Words.f, spec_l04Words.l0]
  have h := iter_find (f := fun (rec : (List Int × Int) → Option Bool) (x : List Int × Int) => spec_l04Words.s0 k rec x.1 x.2) (fun i => (l, (i : Int))) l (fun x => decide (0 ≤ x ∧ x ≤ 65535)) true (fun _ => false)
    (fun rec i hi hp => ?_) (fun rec i hi hp => ?_) (fun rec => ?_) hk
  · exact h.trans (congrArg some (findIdx_all l _))
  · simp only [spec_l04Words.s0, l01In_eq, getD_lt _ _ hi, iLt_eq, iLe_eq, iEq_eq, iNe_eq, bNot_eq, bEq_eq, bNe_eq, brB_nb, brB_dec, brB_true, brB_false, chk_idx, chk_len, chk_make, chk_sub, bnd_one, rLen_eq, rGet_nat, rSet_nat, rApp_eq, ↓reduceIte]
    rw [if_pos (by omega), if_idx hi, next_id hi hl]
    rw [if_pos (of_decide_eq_true hp)]
  · simp only [spec_l04Words.s0, l01In_eq, getD_lt _ _ hi, iLt_eq, iLe_eq, iEq_eq, iNe_eq, bNot_eq, bEq_eq, bNe_eq, brB_nb, brB_dec, brB_true, brB_false, chk_idx, chk_len, chk_make, chk_sub, bnd_one, rLen_eq, rGet_nat, rSet_nat, rApp_eq, ↓reduceIte]
    rw [if_pos (by omega), if_idx hi]
    rw [if_neg (of_decide_eq_false hp)]
  · simp only [spec_l04Words.s0, iLt_eq, iLe_eq, iEq_eq, iNe_eq, bNot_eq, bEq_eq, bNe_eq, brB_nb, brB_dec, brB_true, brB_false, chk_idx, chk_len, chk_make, chk_sub, bnd_one, rLen_eq, rGet_nat, rSet_nat, rApp_eq, ↓reduceIte]
    rw [if_neg (by omega)]
theorem isWord_eq (k : Nat) (x : Int) : impl_isWord.f k x = some (decide (0 ≤ x ∧ x ≤ 65535)) := by simp only [impl_isWord.f, within_eq, bnd_one]
theorem indexNotWord1 (l : List Int) (hl : l.length ≤ 4611686018427387904) (k : Nat) (hk : l.length < k) : slices_IndexFunc_int_impl_areWords_1.f k l = some (match l.findIdx? (fun x => !decide (0 ≤ x ∧ x ≤ 65535)) with | some i => (i : Int) | none => -1) := by
  simp only [slices_IndexFunc_int_impl_areWords_1.f, slices_IndexFunc_int_impl_areWords_1.l0]
  refine iter_find (f := fun (rec : (List Int × Int × Int) → Option Int) (x : List Int × Int × Int) => slices_IndexFunc_int_impl_areWords_1.s0 k rec x.1 x.2.1 x.2.2) (fun i => (l, rLen l, (i : Int))) l (fun x => decide (0 ≤ x ∧ x ≤ 65535)) (-1) (fun i => (i : Int)) (fun rec i hi hp => ?_) (fun rec i hi hp => ?_) (fun rec => ?_) hk
  · simp only [slices_IndexFunc_int_impl_areWords_1.s0, impl_areWords_1.f, isWord_eq, getD_lt _ _ hi, iLt_eq, iLe_eq, iEq_eq, iNe_eq, bNot_eq, bEq_eq, bNe_eq, brB_nb, brB_dec, brB_true, brB_false, chk_idx, chk_len, chk_make, chk_sub, bnd_one, rLen_eq, rGet_nat, rSet_nat, rApp_eq, ↓reduceIte]
    rw [if_pos (by omega), if_idx hi, next_id hi hl]
    rw [if_pos (of_decide_eq_true hp)]
  · simp only [slices_IndexFunc_int_impl_areWords_1.s0, impl_areWords_1.f, isWord_eq, getD_lt _ _ hi, iLt_eq, iLe_eq, iEq_eq, iNe_eq, bNot_eq, bEq_eq, bNe_eq, brB_nb, brB_dec, brB_true, brB_false, chk_idx, chk_len, chk_make, chk_sub, bnd_one, rLen_eq, rGet_nat, rSet_nat, rApp_eq, ↓reduceIte]
    rw [if_pos (by omega), if_idx hi]
    rw [if_neg (of_decide_eq_false hp)]
  · simp only [slices_IndexFunc_int_impl_areWords_1.s0, iLt_eq, iLe_eq, iEq_eq, iNe_eq, bNot_eq, bEq_eq, bNe_eq, brB_nb, brB_dec, brB_true, brB_false, chk_idx, chk_len, chk_make, chk_sub, bnd_one, rLen_eq, rGet_nat, rSet_nat, rApp_eq, ↓reduceIte]
    rw [if_neg (by omega)]
theorem areWords_ev (l : List Int) (hl : l.length ≤ 4611686018427387904) (k : Nat) (hk : l.length < k) : impl_areWords.f k l = some (wordsOk l) := by
  simp only [impl_areWords.f, slices_ContainsFunc_int_impl_areWords_1.f, indexNotWord1 l hl k hk, bnd_one, found_iff l (fun x => decide (0 ≤ x ∧ x ≤ 65535)), bNot_eq, Bool.not_not]
  rfl
theorem indexNotWord2 (l : List Int) (hl : l.length ≤ 4611686018427387904) (k : Nat) (hk : l.length < k) : slices_IndexFunc_int_impl_Packet__dataOk_1.f k l = some (match l.findIdx? (fun x => !decide (0 ≤ x ∧ x ≤ 65535)) with | some i => (i : Int) | none => -1) := by
  simp only [slices_IndexFunc_int_impl_Packet__dataOk_1.f, slices_IndexFunc_int_impl_Packet__dataOk_1.l0]
  refine iter_find (f := fun (rec : (List Int × Int × Int) → Option Int) (x : List Int × Int × Int) => slices_IndexFunc_int_impl_Packet__dataOk_1.s0 k rec x.1 x.2.1 x.2.2) (fun i => (l, rLen l, (i : Int))) l (fun x => decide (0 ≤ x ∧ x ≤ 65535)) (-1) (fun i => (i : Int)) (fun rec i hi hp => ?_) (fun rec i hi hp => ?_) (fun rec => ?_) hk
  · simp only [slices_IndexFunc_int_impl_Packet__dataOk_1.s0, impl_Packet__dataOk_1.f, isWord_eq, getD_lt _ _ hi, iLt_eq, iLe_eq, iEq_eq, iNe_eq, bNot_eq, bEq_eq, bNe_eq, brB_nb, brB_dec, brB_true, brB_false, chk_idx, chk_len, chk_make, chk_sub, bnd_one, rLen_eq, rGet_nat, rSet_nat, rApp_eq, ↓reduceIte]
    rw [if_pos (by omega), if_idx hi, next_id hi hl]
    rw [if_pos (of_decide_eq_true hp)]
  · simp only [slices_IndexFunc_int_impl_Packet__dataOk_1.s0, impl_Packet__dataOk_1.f, isWord_eq, getD_lt _ _ hi, iLt_eq, iLe_eq, iEq_eq, iNe_eq, bNot_eq, bEq_eq, bNe_eq, brB_nb, brB_dec, brB_true, brB_false, chk_idx, chk_len, chk_make, chk_sub, bnd_one, rLen_eq, rGet_nat, rSet_nat, rApp_eq, ↓reduceIte]
    rw [if_pos (by omega), if_idx hi]
    rw [if_neg (of_decide_eq_false hp)]
  · simp only [slices_IndexFunc_int_impl_Packet__dataOk_1.s0, iLt_eq, iLe_eq, iEq_eq, iNe_eq, bNot_eq, bEq_eq, bNe_eq, brB_nb, brB_dec, brB_true, brB_false, chk_idx, chk_len, chk_make, chk_sub, bnd_one, rLen_eq, rGet_nat, rSet_nat, rApp_eq, ↓reduceIte]
    rw [if_neg (by omega)]
/-- A packet is valid: n is how many data it has, w says that they are words. -/
def packP (a0 a1 a2 a3 a4 a5 a6 n : Int) : Prop := (0 ≤ a1 ∧ a1 ≤ 255) ∧ (
  (a0 = 1 ∧ (1 ≤ n ∧ n ≤ 8) ∧ (0 ≤ a3 ∧ a3 ≤ 65536 - n) ∧ a6 = 0 ∧ a2 = 0 ∧ a4 = 0 ∧ a5 = 0) ∨
  (a0 = 2 ∧ (1 ≤ n ∧ n ≤ 8) ∧ a3 = 0 ∧ a6 = 0 ∧ a2 = 0 ∧ a4 = 0 ∧ a5 = 0) ∨
  (a0 = 3 ∧ n = 0 ∧ (1 ≤ a4 ∧ a4 ≤ 64) ∧ (0 ≤ a3 ∧ a3 ≤ 65536 - a4) ∧ (0 ≤ a5 ∧ a5 ≤ 7) ∧ a6 = 0 ∧ a2 = 0) ∨
  (a0 = 4 ∧ n = 0 ∧ (0 ≤ a3 ∧ a3 ≤ 63) ∧ (0 ≤ a2 ∧ a2 ≤ 255) ∧ (0 ≤ a5 ∧ a5 ≤ 7) ∧ a6 = 0 ∧ a4 = 0) ∨
  (a0 = 5 ∧ n = 1 ∧ (0 ≤ a3 ∧ a3 ≤ 63) ∧ (0 ≤ a2 ∧ a2 ≤ 255) ∧ (0 ≤ a5 ∧ a5 ≤ 7) ∧ a6 = 0 ∧ a4 = 0) ∨
  (a0 = 6 ∧ a3 = 0 ∧ (0 ≤ a2 ∧ a2 ≤ 255) ∧ (0 ≤ a5 ∧ a5 ≤ 7) ∧ (0 ≤ a6 ∧ a6 ≤ 2) ∧ (0 ≤ a4 ∧ a4 ≤ 64) ∧ (n = 0 ∨ (a6 = 0 ∧ n ≤ 8 ∧ n ≤ a4))))
instance (a0 a1 a2 a3 a4 a5 a6 n : Int) : Decidable (packP a0 a1 a2 a3 a4 a5 a6 n) := by unfold packP; infer_instance
def packB (a0 a1 a2 a3 a4 a5 a6 : Int) (l : List Int) : Bool := wordsOk l && decide (packP a0 a1 a2 a3 a4 a5 a6 (l.length : Int))
theorem some_iff {b c : Bool} (h : b = true ↔ c = true) : some b = some c := by rw [Bool.eq_iff_iff.2 h]
theorem l04Zero_eq (k : Nat) (a0 a1 a2 a3 a4 a5 a6 : Int) (l : List Int) (x y z : Bool) : spec_l04Zero.f k a0 a1 a2 a3 a4 a5 a6 l x y z = some (decide ((x = true ∨ a2 = 0) ∧ (y = true ∨ a4 = 0) ∧ (z = true ∨ a5 = 0))) := by
  simp only [spec_l04Zero.f, iLt_eq, iLe_eq, iEq_eq, iNe_eq, bNot_eq, bEq_eq, bNe_eq, brB_nb, brB_dec, brB_true, brB_false, chk_idx, chk_len, chk_make, chk_sub, bnd_one, rLen_eq, rGet_nat, rSet_nat, rApp_eq, ↓reduceIte]
  cases x <;> cases y <;> cases z <;> simp only [iLt_eq, iLe_eq, iEq_eq, iNe_eq, bNot_eq, bEq_eq, bNe_eq, brB_nb, brB_dec, brB_true, brB_false, chk_idx, chk_len, chk_make, chk_sub, bnd_one, rLen_eq, rGet_nat, rSet_nat, rApp_eq, ↓reduceIte] <;> (repeat' split) <;> simp_all
theorem specIsPacket_ev (a0 a1 a2 a3 a4 a5 a6 : Int) (l : List Int) (hl : l.length ≤ 1048576) (h3 : (Lit.int .i64 a3).wf = true) (h4 : (Lit.int .i64 a4).wf = true) (k : Nat) (hk : l.length < k) : spec_IsPacket.f k a0 a1 a2 a3 a4 a5 a6 l = some (packB a0 a1 a2 a3 a4 a5 a6 l) := by
  rw [wf64] at h3 h4
  simp only [spec_IsPacket.f, specIsId_eq, l01In_eq, l04Words_ev l (by omega) k hk, l04Zero_eq, iLt_eq, iLe_eq, iEq_eq, iNe_eq, bNot_eq, bEq_eq, bNe_eq, brB_nb, brB_dec, brB_true, brB_false, chk_idx, chk_len, chk_make, chk_sub, bnd_one, rLen_eq, rGet_nat, rSet_nat, rApp_eq, ↓reduceIte]
  rw [iSub_id (a := 65536) (b := (l.length : Int)) (by omega) (by omega)]
  simp only [packB, iSub_w, w64, iMin]
  generalize wordsOk l = w
  generalize (l.length : Int) = n at *
  cases w with
  | false => simp only [iLt_eq, iLe_eq, iEq_eq, iNe_eq, bNot_eq, bEq_eq, bNe_eq, brB_nb, brB_dec, brB_true, brB_false, chk_idx, chk_len, chk_make, chk_sub, bnd_one, rLen_eq, rGet_nat, rSet_nat, rApp_eq, ↓reduceIte, Bool.false_and]; split <;> rfl
  | true =>
    simp only [iLt_eq, iLe_eq, iEq_eq, iNe_eq, bNot_eq, bEq_eq, bNe_eq, brB_nb, brB_dec, brB_true, brB_false, chk_idx, chk_len, chk_make, chk_sub, bnd_one, rLen_eq, rGet_nat, rSet_nat, rApp_eq, ↓reduceIte, Bool.true_and]
    by_cases b0 : 0 ≤ a1 ∧ a1 ≤ 255
    · rw [if_pos b0]
      by_cases b1 : a0 = 1
      · subst b1; simp only [↓reduceIte]; (repeat' split) <;> (refine some_iff ?_ <;> (try simp only [packP, decide_eq_true_eq, Bool.false_eq_true, false_iff, true_iff, Int.reduceEq, false_or, or_false, false_and, true_and, and_true, and_false, true_or, or_true, iff_self, iff_false, iff_true] at *) <;> first | omega | (intro h; omega) | (constructor <;> intro h <;> omega) | trivial)
      by_cases b2 : a0 = 2
      · subst b2; simp only [Int.reduceEq, ↓reduceIte]; (repeat' split) <;> (refine some_iff ?_ <;> (try simp only [packP, decide_eq_true_eq, Bool.false_eq_true, false_iff, true_iff, Int.reduceEq, false_or, or_false, false_and, true_and, and_true, and_false, true_or, or_true, iff_self, iff_false, iff_true] at *) <;> first | omega | (intro h; omega) | (constructor <;> intro h <;> omega) | trivial)
      by_cases b3 : a0 = 3
      · subst b3; simp only [Int.reduceEq, ↓reduceIte]; (repeat' split) <;> (refine some_iff ?_ <;> (try simp only [packP, decide_eq_true_eq, Bool.false_eq_true, false_iff, true_iff, Int.reduceEq, false_or, or_false, false_and, true_and, and_true, and_false, true_or, or_true, iff_self, iff_false, iff_true] at *) <;> first | omega | (intro h; omega) | (constructor <;> intro h <;> omega) | trivial)
      by_cases b4 : a0 = 4
      · subst b4; simp only [Int.reduceEq, ↓reduceIte]; (repeat' split) <;> (refine some_iff ?_ <;> (try simp only [packP, decide_eq_true_eq, Bool.false_eq_true, false_iff, true_iff, Int.reduceEq, false_or, or_false, false_and, true_and, and_true, and_false, true_or, or_true, iff_self, iff_false, iff_true] at *) <;> first | omega | (intro h; omega) | (constructor <;> intro h <;> omega) | trivial)
      by_cases b5 : a0 = 5
      · subst b5; simp only [Int.reduceEq, ↓reduceIte]; (repeat' split) <;> (refine some_iff ?_ <;> (try simp only [packP, decide_eq_true_eq, Bool.false_eq_true, false_iff, true_iff, Int.reduceEq, false_or, or_false, false_and, true_and, and_true, and_false, true_or, or_true, iff_self, iff_false, iff_true] at *) <;> first | omega | (intro h; omega) | (constructor <;> intro h <;> omega) | trivial)
      by_cases b6 : a0 = 6
      · subst b6; simp only [Int.reduceEq, ↓reduceIte]; (repeat' split) <;> (refine some_iff ?_ <;> (try simp only [packP, decide_eq_true_eq, Bool.false_eq_true, false_iff, true_iff, Int.reduceEq, false_or, or_false, false_and, true_and, and_true, and_false, true_or, or_true, iff_self, iff_false, iff_true] at *) <;> first | omega | (intro h; omega) | (constructor <;> intro h <;> omega) | trivial)
      rw [if_neg b1, if_neg b2, if_neg b3, if_neg b4, if_neg b5, if_neg b6]
      exact congrArg some (decide_eq_false (by unfold packP; omega)).symm
    · rw [if_neg b0]
      exact congrArg some (decide_eq_false (by unfold packP; omega)).symm
/-- How many data a packet may have. -/
def dataP (a0 a4 a6 n : Int) : Prop := if a0 = 1 ∨ a0 = 2 then 1 ≤ n ∧ n ≤ 8 else if a0 = 5 then n = 1 else if a0 = 6 ∧ a6 = 0 then n ≤ 8 ∧ n ≤ a4 else n = 0
instance (a0 a4 a6 n : Int) : Decidable (dataP a0 a4 a6 n) := by unfold dataP; infer_instance
theorem dataOk_ev (a0 a1 a2 a3 a4 a5 a6 : Int) (l : List Int) (hl : l.length ≤ 4611686018427387904) (k : Nat) (hk : l.length < k) : impl_Packet__dataOk.f k a0 a1 a2 a3 a4 a5 a6 l = some (wordsOk l && decide (dataP a0 a4 a6 (l.length : Int))) := by
  simp only [impl_Packet__dataOk.f, slices_ContainsFunc_int_impl_Packet__dataOk_1.f, indexNotWord2 l hl k hk, bnd_one, found_iff l (fun x => decide (0 ≤ x ∧ x ≤ 65535)), within_eq]
  rw [show (l.all fun x => decide (0 ≤ x ∧ x ≤ 65535)) = wordsOk l from rfl]
  simp only [iLt_eq, iLe_eq, iEq_eq, iNe_eq, bNot_eq, bEq_eq, bNe_eq, brB_nb, brB_dec, brB_true, brB_false, chk_idx, chk_len, chk_make, chk_sub, bnd_one, rLen_eq, rGet_nat, rSet_nat, rApp_eq, ↓reduceIte]
  cases wordsOk l with
  | false => rfl
  | true =>
    simp only [iLt_eq, iLe_eq, iEq_eq, iNe_eq, bNot_eq, bEq_eq, bNe_eq, brB_nb, brB_dec, brB_true, brB_false, chk_idx, chk_len, chk_make, chk_sub, bnd_one, rLen_eq, rGet_nat, rSet_nat, rApp_eq, ↓reduceIte, Bool.true_and]
    unfold dataP
    by_cases b1 : a0 = 1
    · subst b1; simp only [Int.reduceEq, or_false, false_or, or_true, true_or, iLt_eq, iLe_eq, iEq_eq, iNe_eq, bNot_eq, bEq_eq, bNe_eq, brB_nb, brB_dec, brB_true, brB_false, chk_idx, chk_len, chk_make, chk_sub, bnd_one, rLen_eq, rGet_nat, rSet_nat, rApp_eq, ↓reduceIte]; (try rfl)
    by_cases b2 : a0 = 2
    · subst b2; simp only [Int.reduceEq, or_false, false_or, or_true, true_or, iLt_eq, iLe_eq, iEq_eq, iNe_eq, bNot_eq, bEq_eq, bNe_eq, brB_nb, brB_dec, brB_true, brB_false, chk_idx, chk_len, chk_make, chk_sub, bnd_one, rLen_eq, rGet_nat, rSet_nat, rApp_eq, ↓reduceIte]; (try rfl)
    by_cases b5 : a0 = 5
    · subst b5; simp only [Int.reduceEq, or_false, false_or, or_true, true_or, or_self, iLt_eq, iLe_eq, iEq_eq, iNe_eq, bNot_eq, bEq_eq, bNe_eq, brB_nb, brB_dec, brB_true, brB_false, chk_idx, chk_len, chk_make, chk_sub, bnd_one, rLen_eq, rGet_nat, rSet_nat, rApp_eq, ↓reduceIte]
    by_cases b6 : a0 = 6
    · subst b6; simp only [Int.reduceEq, or_false, false_or, or_true, true_or, or_self, true_and, iLt_eq, iLe_eq, iEq_eq, iNe_eq, bNot_eq, bEq_eq, bNe_eq, brB_nb, brB_dec, brB_true, brB_false, chk_idx, chk_len, chk_make, chk_sub, bnd_one, rLen_eq, rGet_nat, rSet_nat, rApp_eq, ↓reduceIte]; (repeat' split) <;> (refine some_iff ?_ <;> (try simp only [decide_eq_true_eq, Bool.false_eq_true, false_iff, true_iff, Int.reduceEq, false_or, or_false, false_and, true_and, and_true, and_false, true_or, or_true, iff_self, iff_false, iff_true] at *) <;> first | omega | (intro h; omega) | (constructor <;> intro h <;> omega) | trivial)
    simp only [b1, b2, b5, b6, or_self, false_and, iLt_eq, iLe_eq, iEq_eq, iNe_eq, bNot_eq, bEq_eq, bNe_eq, brB_nb, brB_dec, brB_true, brB_false, chk_idx, chk_len, chk_make, chk_sub, bnd_one, rLen_eq, rGet_nat, rSet_nat, rApp_eq, ↓reduceIte]
def addrP (a0 a3 a4 n : Int) : Prop := if a0 = 1 then (0 ≤ a3 ∧ a3 ≤ 65535) ∧ n ≤ 65536 - a3 else if a0 = 3 then (0 ≤ a3 ∧ a3 ≤ 65535) ∧ a4 ≤ 65536 - a3 else if a0 = 4 ∨ a0 = 5 then 0 ≤ a3 ∧ a3 ≤ 63 else a3 = 0
instance (a0 a3 a4 n : Int) : Decidable (addrP a0 a3 a4 n) := by unfold addrP; infer_instance
theorem addressOk_eq (k : Nat) (a0 a1 a2 a3 a4 a5 a6 : Int) (l : List Int) (h3 : (Lit.int .i64 a3).wf = true) : impl_Packet__addressOk.f k a0 a1 a2 a3 a4 a5 a6 l = some (decide (addrP a0 a3 a4 (l.length : Int))) := by
  rw [wf64] at h3
  simp only [impl_Packet__addressOk.f, within_eq, impl_Packet__words.f, iSub_w, w64, iLt_eq, iLe_eq, iEq_eq, iNe_eq, bNot_eq, bEq_eq, bNe_eq, brB_nb, brB_dec, brB_true, brB_false, chk_idx, chk_len, chk_make, chk_sub, bnd_one, rLen_eq, rGet_nat, rSet_nat, rApp_eq, ↓reduceIte]
  generalize (l.length : Int) = n
  unfold addrP
  by_cases b1 : a0 = 1
  · subst b1; simp only [Int.reduceEq, iLt_eq, iLe_eq, iEq_eq, iNe_eq, bNot_eq, bEq_eq, bNe_eq, brB_nb, brB_dec, brB_true, brB_false, chk_idx, chk_len, chk_make, chk_sub, bnd_one, rLen_eq, rGet_nat, rSet_nat, rApp_eq, ↓reduceIte]; (repeat' split) <;> (refine some_iff ?_ <;> (try simp only [decide_eq_true_eq, Bool.false_eq_true, false_iff, true_iff, Int.reduceEq, false_or, or_false, false_and, true_and, and_true, and_false, true_or, or_true, iff_self, iff_false, iff_true] at *) <;> first | omega | (intro h; omega) | (constructor <;> intro h <;> omega) | trivial)
  by_cases b3 : a0 = 3
  · subst b3; simp only [Int.reduceEq, iLt_eq, iLe_eq, iEq_eq, iNe_eq, bNot_eq, bEq_eq, bNe_eq, brB_nb, brB_dec, brB_true, brB_false, chk_idx, chk_len, chk_make, chk_sub, bnd_one, rLen_eq, rGet_nat, rSet_nat, rApp_eq, ↓reduceIte]; (repeat' split) <;> (refine some_iff ?_ <;> (try simp only [decide_eq_true_eq, Bool.false_eq_true, false_iff, true_iff, Int.reduceEq, false_or, or_false, false_and, true_and, and_true, and_false, true_or, or_true, iff_self, iff_false, iff_true] at *) <;> first | omega | (intro h; omega) | (constructor <;> intro h <;> omega) | trivial)
  by_cases b4 : a0 = 4
  · subst b4; simp only [Int.reduceEq, or_false, false_or, or_true, true_or, iLt_eq, iLe_eq, iEq_eq, iNe_eq, bNot_eq, bEq_eq, bNe_eq, brB_nb, brB_dec, brB_true, brB_false, chk_idx, chk_len, chk_make, chk_sub, bnd_one, rLen_eq, rGet_nat, rSet_nat, rApp_eq, ↓reduceIte]
  by_cases b5 : a0 = 5
  · subst b5; simp only [Int.reduceEq, or_false, false_or, or_true, true_or, iLt_eq, iLe_eq, iEq_eq, iNe_eq, bNot_eq, bEq_eq, bNe_eq, brB_nb, brB_dec, brB_true, brB_false, chk_idx, chk_len, chk_make, chk_sub, bnd_one, rLen_eq, rGet_nat, rSet_nat, rApp_eq, ↓reduceIte]
  simp only [b1, b3, b4, b5, or_self, iLt_eq, iLe_eq, iEq_eq, iNe_eq, bNot_eq, bEq_eq, bNe_eq, brB_nb, brB_dec, brB_true, brB_false, chk_idx, chk_len, chk_make, chk_sub, bnd_one, rLen_eq, rGet_nat, rSet_nat, rApp_eq, ↓reduceIte]
def lenP (a0 a4 : Int) : Prop := if a0 = 3 then 1 ≤ a4 ∧ a4 ≤ 64 else if a0 = 6 then 0 ≤ a4 ∧ a4 ≤ 64 else a4 = 0
instance (a0 a4 : Int) : Decidable (lenP a0 a4) := by unfold lenP; infer_instance
theorem lengthOk_eq (k : Nat) (a0 a1 a2 a3 a4 a5 a6 : Int) (l : List Int) : impl_Packet__lengthOk.f k a0 a1 a2 a3 a4 a5 a6 l = some (decide (lenP a0 a4)) := by
  simp only [impl_Packet__lengthOk.f, within_eq, iLt_eq, iLe_eq, iEq_eq, iNe_eq, bNot_eq, bEq_eq, bNe_eq, brB_nb, brB_dec, brB_true, brB_false, chk_idx, chk_len, chk_make, chk_sub, bnd_one, rLen_eq, rGet_nat, rSet_nat, rApp_eq, ↓reduceIte]
  unfold lenP
  (repeat' split) <;> rfl
theorem implIsPacket_ev (a0 a1 a2 a3 a4 a5 a6 : Int) (l : List Int) (hl : l.length ≤ 1048576) (h3 : (Lit.int .i64 a3).wf = true) (h4 : (Lit.int .i64 a4).wf = true) (k : Nat) (hk : l.length < k) : impl_IsPacket.f k a0 a1 a2 a3 a4 a5 a6 l = some (packB a0 a1 a2 a3 a4 a5 a6 l) := by
  by_cases b0 : 1 ≤ a0 ∧ a0 ≤ 6
  · simp only [impl_IsPacket.f, implIsId_eq, within_eq, dataOk_ev a0 a1 a2 a3 a4 a5 a6 l (by omega) k hk, addressOk_eq k a0 a1 a2 a3 a4 a5 a6 l h3, lengthOk_eq, bnd_one, iEq_eq, iNe_eq, brB_nb, bNot_eq, packB]
    rw [decide_eq_true b0]
    generalize wordsOk l = w
    generalize (l.length : Int) = n at *
    have : a0 = 1 ∨ a0 = 2 ∨ a0 = 3 ∨ a0 = 4 ∨ a0 = 5 ∨ a0 = 6 := by omega
    cases w with
    | false =>
      rcases this with rfl | rfl | rfl | rfl | rfl | rfl <;> simp only [Int.reduceEq, Int.reduceLE, decide_true, decide_false, bnd_one, brB_true, brB_false, brB_dec, and_self, and_true, and_false, true_and, false_and, Bool.false_and, ↓reduceIte] <;> (repeat' split) <;> rfl
    | true =>
      rcases this with rfl | rfl | rfl | rfl | rfl | rfl <;> simp only [Int.reduceEq, Int.reduceLE, decide_true, decide_false, bnd_one, brB_true, brB_false, brB_dec, and_self, and_true, and_false, true_and, false_and, Bool.true_and, dataP, packP, addrP, lenP, or_true, true_or, or_false, false_or, ↓reduceIte] <;> (repeat' split) <;> (refine some_iff ?_ <;> (try simp only [decide_eq_true_eq, Bool.false_eq_true, false_iff, true_iff, Int.reduceEq, false_or, or_false, false_and, true_and, and_true, and_false, true_or, or_true, iff_self, iff_false, iff_true] at *) <;> first | omega | (intro h; omega) | (constructor <;> intro h <;> omega) | trivial)
  · simp only [impl_IsPacket.f, within_eq, packB, bnd_one, decide_eq_false b0, bNot_eq, Bool.not_false, brB_true]
    rw [show decide (packP a0 a1 a2 a3 a4 a5 a6 (l.length : Int)) = false from decide_eq_false (by unfold packP; omega), Bool.and_false]
theorem szPacket_eq (k : Nat) (a0 a1 a2 a3 a4 a5 a6 : Int) (l : List Int) (n : Int) (hl : l.length ≤ 9223372036854775807) (h0 : 0 ≤ n) (h1 : n ≤ 1048576) : laws_szPacket.f k a0 a1 a2 a3 a4 a5 a6 l n = some (if (l.length : Int) ≤ n then n - l.length else -1) := by
  simp only [laws_szPacket.f, szIntS_eq k l n hl h0 h1, iLt_eq, iLe_eq, iEq_eq, iNe_eq, bNot_eq, bEq_eq, bNe_eq, brB_nb, brB_dec, brB_true, brB_false, chk_idx, chk_len, chk_make, chk_sub, bnd_one, rLen_eq, rGet_nat, rSet_nat, rApp_eq, ↓reduceIte]
  (repeat' split) <;> first | rfl | omega
theorem toPacket_ev (a0 a1 a2 a3 a4 a5 a6 : Int) (l : List Int) (hl : l.length ≤ 1048576) (k : Nat) (hk : l.length < k) : laws_toPacket.f k a0 a1 a2 a3 a4 a5 a6 l = some (a0, a1, a2, a3, a4, a5, a6, l) := by
  simp only [laws_toPacket.f, toIntS_ev l hl k hk, bnd_one]
theorem eqPacket_refl (a0 a1 a2 a3 a4 a5 a6 : Int) (l : List Int) (hl : l.length ≤ 4611686018427387904) (k : Nat) (hk : l.length < k) : laws_eqPacket.f k a0 a1 a2 a3 a4 a5 a6 l a0 a1 a2 a3 a4 a5 a6 l = some true := by
  simp only [laws_eqPacket.f, eqIntS_refl l hl k hk, iLt_eq, iLe_eq, iEq_eq, iNe_eq, bNot_eq, bEq_eq, bNe_eq, brB_nb, brB_dec, brB_true, brB_false, chk_idx, chk_len, chk_make, chk_sub, bnd_one, rLen_eq, rGet_nat, rSet_nat, rApp_eq, ↓reduceIte, decide_true]
def wfP (p : Int × Int × Int × Int × Int × Int × Int × List Int) : Prop := (Lit.int .i64 p.2.2.2.1).wf = true ∧ (Lit.int .i64 p.2.2.2.2.1).wf = true
/-- How many numbers nested rows have. -/
def rSum {α : Type} (z : α → Nat) (l : List α) : Nat := (l.map z).sum
theorem rSum_cons {α : Type} (z : α → Nat) (x : α) (l : List α) : rSum z (x :: l) = z x + rSum z l := by simp [rSum]
theorem rSum_le {α : Type} {z : α → Nat} {l : List α} {x : α} (h : x ∈ l) : z x ≤ rSum z l := by
  induction l with
  | nil => cases h
  | cons y l ih =>
    rw [rSum_cons]
    rcases List.mem_cons.1 h with rfl | h
    · omega
    · have := ih h; omega
theorem iter_size {X : Type} {α : Type} {f : (X → Option Int) → X → Option Int} (l : List α) (z : α → Nat) (s : Int → Nat → X)
    (go : ∀ rec (i : Nat) (left : Int) (h : i < l.length), 0 ≤ left → left ≤ 1048576 → f rec (s left i) = if (z l[i] : Int) ≤ left then rec (s (left - z l[i]) (i + 1)) else some (-1))
    (done : ∀ rec left, f rec (s left l.length) = some left) {n : Nat} (hn : l.length < n) {left : Int} (h0 : 0 ≤ left) (h1 : left ≤ 1048576) :
    iter f n (s left 0) = some (if (rSum z l : Int) ≤ left then left - rSum z l else -1) := by
  suffices H : ∀ (d i n : Nat) (left : Int), i + d = l.length → d < n → 0 ≤ left → left ≤ 1048576 → iter f n (s left i) = some (if (rSum z (l.drop i) : Int) ≤ left then left - rSum z (l.drop i) else -1) from H l.length 0 n left (by omega) hn h0 h1
  intro d
  induction d with
  | zero =>
    intro i n left hi hn h0 h1
    obtain ⟨m, rfl⟩ : ∃ m, n = m + 1 := ⟨n - 1, by omega⟩
    obtain rfl : i = l.length := by omega
    rw [List.drop_length]
    simp only [rSum, List.map_nil, List.sum_nil]
    rw [if_pos (by omega)]
    refine (done _ left).trans ?_
    congr 1; omega
  | succ d ih =>
    intro i n left hi hn h0 h1
    obtain ⟨m, rfl⟩ : ∃ m, n = m + 1 := ⟨n - 1, by omega⟩
    have hlt : i < l.length := by omega
    show f (iter f m) (s left i) = _
    rw [go _ i left hlt h0 h1, List.drop_eq_getElem_cons hlt, rSum_cons]
    by_cases c : (z l[i] : Int) ≤ left
    · rw [if_pos c, ih (i + 1) m (left - z l[i]) (by omega) (by omega) (by omega) (by omega)]
      congr 1
      by_cases c2 : (rSum z (l.drop (i + 1)) : Int) ≤ left - z l[i]
      · rw [if_pos c2, if_pos (by omega)]; omega
      · rw [if_neg c2, if_neg (by omega)]
    · rw [if_neg c, if_neg (by omega)]
theorem rGet_rSet {α : Type} (d : α) {l : List α} {i : Nat} (h : i < l.length) (x : α) : rGet d (rSet l (i : Int) x) (i : Int) = x := by
  rw [rGet_nat, rSet_nat]; simp [h]
theorem rSet_rSet {α : Type} (l : List α) (i : Int) (x y : α) : rSet (rSet l i x) i y = rSet l i y := by simp [rSet]
theorem rLen_rSet {α : Type} (l : List α) (i : Int) (x : α) : rLen (rSet l i x) = rLen l := by simp [rLen, rSet]
theorem len_rSet {α : Type} (l : List α) (i : Int) (x : α) : (rSet l i x).length = l.length := by simp [rSet]
theorem nam_eq {A R : Type} (x : A) (f : A → Option R) : nam x f = f x := rfl
def offs {α : Type} (w : α → Nat) (xs : List α) (s : Int) (i : Nat) : Int := s + (rSum w (xs.take i) : Nat)
theorem offs_zero {α : Type} (w : α → Nat) (xs : List α) (s : Int) : offs w xs s 0 = s := by simp [offs, rSum]
theorem offs_succ {α : Type} (w : α → Nat) (xs : List α) (s : Int) {i : Nat} (h : i < xs.length) : offs w xs s (i + 1) = offs w xs s i + w xs[i] := by
  have : rSum w (xs.take (i + 1)) = rSum w (xs.take i) + w xs[i] := by
    unfold rSum
    rw [List.take_succ_eq_append_getElem h, List.map_append, List.sum_append]
    simp
  simp only [offs, this]
  omega
theorem offs_le {α : Type} (w : α → Nat) : ∀ (xs : List α) (s : Int) (i : Nat), offs w xs s i ≤ s + (rSum w xs : Nat)
  | [], s, i => by simp [offs, rSum]
  | x :: xs, s, 0 => by simp [offs, rSum]; omega
  | x :: xs, s, i + 1 => by
    have := offs_le w xs s i
    simp only [offs, List.take_succ_cons, rSum_cons] at this ⊢
    omega
theorem offs_ge {α : Type} (w : α → Nat) (xs : List α) (s : Int) (i : Nat) : s ≤ offs w xs s i := by simp only [offs]; omega
def pGot (p : Int × Int × Int × Int × Int × Int × Int × List Int) : Nat := p.2.2.2.2.2.2.2.length
theorem szPacketS_eq (k : Nat) (l : List (Int × Int × Int × Int × Int × Int × Int × List Int)) (n : Int) (hl : l.length ≤ 9223372036854775807) (hz : ∀ x ∈ l, pGot x ≤ 9223372036854775807) (h0 : 0 ≤ n) (h1 : n ≤ 1048576) (hk : l.length < k) :
    laws_szPacketS.f k l n = some (if (l.length : Int) + rSum pGot l ≤ n then n - l.length - rSum pGot l else -1) := by
  simp only [laws_szPacketS.f, iLt_eq, brB_dec, rLen_eq]
  rw [iSub_id (by omega) (by omega)]
  by_cases c : (l.length : Int) ≤ n
  · rw [if_neg (by omega)]
    have h := iter_size (f := fun (rec : ((List (Int × Int × Int × Int × Int × Int × Int × List Int)) × Int × Int) → Option (Int)) (x : (List (Int × Int × Int × Int × Int × Int × Int × List Int)) × Int × Int) => laws_szPacketS.s0 k rec x.1 x.2.1 x.2.2) l pGot (fun left i => (l, left, (i : Int))) (fun rec i left hi q0 q1 => ?_) (fun rec left => ?_) (n := k) hk (left := n - l.length) (by omega) (by omega)
    · refine Eq.trans h ?_
      congr 1
      by_cases c2 : (rSum pGot l : Int) ≤ n - l.length
      · rw [if_pos c2, if_pos (by omega)]
      · rw [if_neg c2, if_neg (by omega)]
    · have e : rGet (0, 0, 0, 0, 0, 0, 0, []) l (i : Int) = l[i] := getD_lt _ _ hi
      have hg := hz _ (List.getElem_mem hi)
      simp only [laws_szPacketS.s0, e, iLt_eq, brB_dec, chk_idx, rLen_eq]
      generalize l[i] = g at *
      obtain ⟨a0, a1, a2, a3, a4, a5, a6, gl⟩ := g
      rw [if_pos (by omega), if_idx hi, szPacket_eq k a0 a1 a2 a3 a4 a5 a6 gl left hg q0 q1, bnd_one, next_id hi (by omega)]
      rw [show pGot (a0, a1, a2, a3, a4, a5, a6, gl) = gl.length from rfl]
      by_cases c3 : (gl.length : Int) ≤ left
      · rw [if_pos c3, if_neg (by omega), if_pos c3]
      · rw [if_neg c3, if_pos (by omega), if_neg c3]
    · simp only [laws_szPacketS.s0, iLt_eq, brB_dec, rLen_eq]
      rw [if_neg (by omega)]
  · rw [if_pos (by omega), if_neg (by omega)]
theorem toPacketS_ev (xs : List (Int × Int × Int × Int × Int × Int × Int × List Int)) (hn : xs.length ≤ 1048576) (hz : ∀ x ∈ xs, pGot x ≤ 1048576) (k : Nat) (hk : 3000000 < k) : laws_toPacketS.f k xs = some xs := by
  simp only [laws_toPacketS.f, laws_toPacketS.l0, chk_make, rLen_eq]
  rw [if_pos (by omega), rRep_nat]
  have h := iter_upto (f := fun (rec : ((List (Int × Int × Int × Int × Int × Int × Int × List Int)) × (List (Int × Int × Int × Int × Int × Int × Int × List Int)) × Int) → Option (List (Int × Int × Int × Int × Int × Int × Int × List Int))) (x : (List (Int × Int × Int × Int × Int × Int × Int × List Int)) × (List (Int × Int × Int × Int × Int × Int × Int × List Int)) × Int) => laws_toPacketS.s0 k rec x.1 x.2.1 x.2.2)
    (fun i => (xs, fill (fun j => xs.getD j (0, 0, 0, 0, 0, 0, 0, [])) (List.replicate xs.length (0, 0, 0, 0, 0, 0, 0, [])) i, (i : Int))) xs.length (r := xs) (fun rec i hi => ?_) (fun rec => ?_) (n := k) (by omega)
  · rw [fill_zero] at h; exact h
  · have e : rGet (0, 0, 0, 0, 0, 0, 0, []) xs (i : Int) = xs[i] := getD_lt _ _ hi
    have e' : xs.getD i (0, 0, 0, 0, 0, 0, 0, []) = xs[i] := getD_lt _ _ hi
    have hg := hz _ (List.getElem_mem hi)
    simp only [laws_toPacketS.s0, fill_len (show i ≤ (List.replicate xs.length ((0, 0, 0, 0, 0, 0, 0, []) : Int × Int × Int × Int × Int × Int × Int × List Int)).length by simp; omega), List.length_replicate, e, iLt_eq, brB_dec, chk_idx, rLen_eq, rSet_nat]
    rw [if_pos (by omega), if_idx hi, toPacket_ev _ _ _ _ _ _ _ _ hg k (by show _ < k; unfold pGot at hg; omega), bnd_one, if_idx hi, ← fill_set (by simpa using hi), e', next_id hi (by omega)]
    all_goals rfl
  · have h2 := fill_end (g := fun j => xs.getD j (0, 0, 0, 0, 0, 0, 0, [])) (xs := List.replicate xs.length ((0, 0, 0, 0, 0, 0, 0, []) : Int × Int × Int × Int × Int × Int × Int × List Int))
    rw [List.length_replicate] at h2
    simp only [laws_toPacketS.s0, h2, range_getD, iLt_eq, brB_dec, rLen_eq]
    rw [if_neg (by omega)]
theorem eqPacketS_refl (xs : List (Int × Int × Int × Int × Int × Int × Int × List Int)) (hn : xs.length ≤ 1048576) (hz : ∀ x ∈ xs, pGot x ≤ 1048576) (k : Nat) (hk : 3000000 < k) : laws_eqPacketS.f k xs xs = some true := by
  simp only [laws_eqPacketS.f, laws_eqPacketS.l0, iNe_eq, decide_true, Bool.not_true, brB_false]
  refine iter_upto (f := fun (rec : ((List (Int × Int × Int × Int × Int × Int × Int × List Int)) × (List (Int × Int × Int × Int × Int × Int × Int × List Int)) × Int) → Option (Bool)) (x : (List (Int × Int × Int × Int × Int × Int × Int × List Int)) × (List (Int × Int × Int × Int × Int × Int × Int × List Int)) × Int) => laws_eqPacketS.s0 k rec x.1 x.2.1 x.2.2) (fun i => (xs, xs, (i : Int))) xs.length (fun rec i hi => ?_) (fun rec => ?_) (by omega)
  · have e : rGet (0, 0, 0, 0, 0, 0, 0, []) xs (i : Int) = xs[i] := getD_lt _ _ hi
    have hg := hz _ (List.getElem_mem hi)
    simp only [laws_eqPacketS.s0, e, iLt_eq, brB_dec, chk_idx, rLen_eq]
    rw [if_pos (by omega), if_idx hi, if_idx hi, eqPacket_refl _ _ _ _ _ _ _ _ (by unfold pGot at hg; omega) k (by unfold pGot at hg; omega), next_id hi (by omega)]; rfl
  · simp only [laws_eqPacketS.s0, iLt_eq, brB_dec, rLen_eq]
    rw [if_neg (by omega)]
def pMark (x : Int × Int × Int × Int × Int × Int × Int × List Int) (s : Int) : Int × Int × Int × Int × Int × Int × Int × List Int := (s, s + 1, s + 2, s + 3, s + 4, s + 5, s + 6, marks (s + 7) x.2.2.2.2.2.2.2.length)
def pN (x : Int × Int × Int × Int × Int × Int × Int × List Int) : Nat := x.2.2.2.2.2.2.2.length + 7
theorem rSum_p (o : List (Int × Int × Int × Int × Int × Int × Int × List Int)) : rSum pN o = rSum pGot o + 7 * o.length := by
  induction o with
  | nil => rfl
  | cons x o ih => rw [rSum_cons, rSum_cons, ih, List.length_cons, pN, pGot]; omega
def pMarks (xs : List (Int × Int × Int × Int × Int × Int × Int × List Int)) (s : Int) : List (Int × Int × Int × Int × Int × Int × Int × List Int) := (List.range xs.length).map fun j => pMark (xs.getD j (0, 0, 0, 0, 0, 0, 0, [])) (offs pN xs s j)
theorem markPacketS_ev (xs : List (Int × Int × Int × Int × Int × Int × Int × List Int)) (s : Int) (hn : xs.length ≤ 1048576) (hz : ∀ x ∈ xs, pGot x ≤ 1048576) (h0 : 0 ≤ s) (hb : s + (rSum pN xs : Nat) ≤ 100000000000) (k : Nat) (hk : 3000000 < k) :
    laws_markPacketS.f k xs s = some (offs pN xs s xs.length, pMarks xs s) := by
  simp only [laws_markPacketS.f, laws_markPacketS.l0]
  have h := iter_upto (f := fun (rec : ((List (Int × Int × Int × Int × Int × Int × Int × List Int)) × Int × Int) → Option (Int × List (Int × Int × Int × Int × Int × Int × Int × List Int))) (x : (List (Int × Int × Int × Int × Int × Int × Int × List Int)) × Int × Int) => laws_markPacketS.s0 k rec x.1 x.2.1 x.2.2)
    (fun i => (fill (fun j => pMark (xs.getD j (0, 0, 0, 0, 0, 0, 0, [])) (offs pN xs s j)) xs i, offs pN xs s i, (i : Int))) xs.length (r := (offs pN xs s xs.length, pMarks xs s)) (fun rec i hi => ?_) (fun rec => ?_) (n := k) (by omega)
  · rw [fill_zero, offs_zero] at h; exact h
  · have e' : xs.getD i (0, 0, 0, 0, 0, 0, 0, []) = xs[i] := getD_lt _ _ hi
    have hg : pGot xs[i] ≤ 1048576 := hz _ (List.getElem_mem hi)
    unfold pGot at hg
    have a1 := offs_le pN xs s (i + 1)
    have a2 := offs_ge pN xs s i
    rw [offs_succ pN xs s hi] at a1 ⊢
    have hw : pN xs[i] = xs[i].2.2.2.2.2.2.2.length + 7 := rfl
    have hl : i < (fill (fun j => pMark (xs.getD j (0, 0, 0, 0, 0, 0, 0, [])) (offs pN xs s j)) xs i).length := by rw [fill_len (Nat.le_of_lt hi)]; exact hi
    have hget : rGet (0, 0, 0, 0, 0, 0, 0, []) (fill (fun j => pMark (xs.getD j (0, 0, 0, 0, 0, 0, 0, [])) (offs pN xs s j)) xs i) (i : Int) = xs[i] := by
      rw [rGet_nat, fill_get i (Nat.le_refl _), e']
    have hset := fill_set (g := fun j => pMark (xs.getD j (0, 0, 0, 0, 0, 0, 0, [])) (offs pN xs s j)) hi
    have hL := fill_len (g := fun j => pMark (xs.getD j (0, 0, 0, 0, 0, 0, 0, [])) (offs pN xs s j)) (xs := xs) (Nat.le_of_lt hi)
    generalize fill (fun j => pMark (xs.getD j (0, 0, 0, 0, 0, 0, 0, [])) (offs pN xs s j)) xs i = L at hl hget hset hL ⊢
    simp only [laws_markPacketS.s0, nam_eq, rGet_rSet _ hl, rSet_rSet, rLen_rSet, hget, iLt_eq, brB_dec, chk_idx, rLen_eq, len_rSet, hL]
    have q1 : iAdd .i64 (offs pN xs s i) 1 = offs pN xs s i + 1 := iAdd_id (by omega) (by omega)
    have q2 : iAdd .i64 (offs pN xs s i + 1) 1 = offs pN xs s i + 2 := by rw [iAdd_id (by omega) (by omega)]; omega
    have q3 : iAdd .i64 (offs pN xs s i + 2) 1 = offs pN xs s i + 3 := by rw [iAdd_id (by omega) (by omega)]; omega
    have q4 : iAdd .i64 (offs pN xs s i + 3) 1 = offs pN xs s i + 4 := by rw [iAdd_id (by omega) (by omega)]; omega
    have q5 : iAdd .i64 (offs pN xs s i + 4) 1 = offs pN xs s i + 5 := by rw [iAdd_id (by omega) (by omega)]; omega
    have q6 : iAdd .i64 (offs pN xs s i + 5) 1 = offs pN xs s i + 6 := by rw [iAdd_id (by omega) (by omega)]; omega
    have q7 : iAdd .i64 (offs pN xs s i + 6) 1 = offs pN xs s i + 7 := by rw [iAdd_id (by omega) (by omega)]; omega
    simp only [q1, q2, q3, q4, q5, q6, q7]
    rw [if_pos (by omega), if_idx hi, if_idx hi, if_idx hi, if_idx hi, if_idx hi, if_idx hi, if_idx hi, if_idx hi, markIntS_ev _ _ (by omega) (by omega) (by omega) k (by omega), bnd_one]
    dsimp only
    rw [next_id hi (by omega), rSet_nat, show offs pN xs s i + (pN xs[i] : Int) = offs pN xs s i + 7 + (xs[i].2.2.2.2.2.2.2.length : Int) by omega, ← hset, e']
    rfl
  · have h2 := fill_end (g := fun j => pMark (xs.getD j (0, 0, 0, 0, 0, 0, 0, [])) (offs pN xs s j)) (xs := xs)
    simp only [laws_markPacketS.s0, h2, iLt_eq, brB_dec, rLen_eq, List.length_map, List.length_range]
    rw [if_neg (by omega)]
    rfl
theorem iter_to {X R : Type} {f : (X → Option R) → X → Option R} (s : Nat → X) (N : Nat) {r : Option R} (step : ∀ rec i, i < N → f rec (s i) = rec (s (i + 1))) (done : ∀ rec, f rec (s N) = r) {n : Nat} (hn : N < n) :
    iter f n (s 0) = r := by
  suffices H : ∀ d i n, i + d = N → d < n → iter f n (s i) = r from H N 0 n (by omega) hn
  intro d
  induction d with
  | zero =>
    intro i n hi hn
    obtain ⟨m, rfl⟩ : ∃ m, n = m + 1 := ⟨n - 1, by omega⟩
    obtain rfl : i = N := by omega
    exact done _
  | succ d ih =>
    intro i n hi hn
    obtain ⟨m, rfl⟩ : ∃ m, n = m + 1 := ⟨n - 1, by omega⟩
    show f (iter f m) (s i) = _
    rw [step _ i (by omega)]
    exact ih (i + 1) m (by omega) (by omega)
/-- Words written into cells. -/
def wUp (c : List Int) (a : Nat) (d : List Int) : Nat → List Int
  | 0 => c
  | i + 1 => if a + i < 64 then (wUp c a d i).set (a + i) (d.getD i 0) else wUp c a d i
theorem wUp_len (c : List Int) (a : Nat) (d : List Int) : ∀ i, (wUp c a d i).length = c.length
  | 0 => rfl
  | i + 1 => by
    simp only [wUp]
    split
    · rw [List.length_set, wUp_len c a d i]
    · exact wUp_len c a d i
/-- A packet that writes. -/
def wStep (c : List Int) (p : Int × Int × Int × Int × Int × Int × Int × List Int) : List Int :=
  if p.1 = 1 ∧ packB p.1 p.2.1 p.2.2.1 p.2.2.2.1 p.2.2.2.2.1 p.2.2.2.2.2.1 p.2.2.2.2.2.2.1 p.2.2.2.2.2.2.2 = true then wUp c p.2.2.2.1.toNat p.2.2.2.2.2.2.2 p.2.2.2.2.2.2.2.length else c
theorem wStep_len (c : List Int) (p : Int × Int × Int × Int × Int × Int × Int × List Int) : (wStep c p).length = c.length := by
  unfold wStep; split
  · exact wUp_len _ _ _ _
  · rfl
theorem wFold_len : ∀ (l : List (Int × Int × Int × Int × Int × Int × Int × List Int)) (c : List Int), (l.foldl wStep c).length = c.length
  | [], c => rfl
  | p :: l, c => by rw [List.foldl_cons, wFold_len l, wStep_len]
theorem write_facts {a1 a2 a3 a4 a5 a6 : Int} {l : List Int} (h : packB 1 a1 a2 a3 a4 a5 a6 l = true) : l.length ≤ 8 ∧ (0 ≤ a3 ∧ a3 ≤ 65536) := by
  simp only [packB, Bool.and_eq_true, decide_eq_true_eq] at h
  replace h := h.2
  unfold packP at h
  omega
/-- What the writes make of the cells. -/
def writesB (cells : List Int) (l : List (Int × Int × Int × Int × Int × Int × Int × List Int)) : List Int := if (cells.length : Int) = 64 ∧ wordsOk cells = true then l.foldl wStep cells else []
theorem specWrite_one (k : Nat) (hk : 3000000 < k) (rec0 : ((List (Int × Int × Int × Int × Int × Int × Int × List Int)) × (List Int) × Int) → Option (List Int)) (xs : List (Int × Int × Int × Int × Int × Int × Int × List Int)) (c : List Int) (hc : c.length = 64) (i : Int) (p0 p1 p2 p3 p4 p5 p6 : Int) (d : List Int) (hd : d.length ≤ 8) (h3 : 0 ≤ p3 ∧ p3 ≤ 65536) :
    spec_ApplyWrites.l1 k k rec0 xs c i 0 p0 p1 p2 p3 p4 p5 p6 d = rec0 (xs, wUp c p3.toNat d d.length, iAdd .i64 i 1) := by
  unfold spec_ApplyWrites.l1
  refine iter_to (f := fun (rec : ((List (Int × Int × Int × Int × Int × Int × Int × List Int)) × List Int × Int × Int × Int × Int × Int × Int × Int × Int × Int × List Int) → Option (List Int)) (x : (List (Int × Int × Int × Int × Int × Int × Int × List Int)) × List Int × Int × Int × Int × Int × Int × Int × Int × Int × Int × List Int) => spec_ApplyWrites.s1 k rec0 rec x.1 x.2.1 x.2.2.1 x.2.2.2.1 x.2.2.2.2.1 x.2.2.2.2.2.1 x.2.2.2.2.2.2.1 x.2.2.2.2.2.2.2.1 x.2.2.2.2.2.2.2.2.1 x.2.2.2.2.2.2.2.2.2.1 x.2.2.2.2.2.2.2.2.2.2.1 x.2.2.2.2.2.2.2.2.2.2.2)
    (fun j => (xs, wUp c p3.toNat d j, i, (j : Int), p0, p1, p2, p3, p4, p5, p6, d)) d.length (fun rec j hj => ?_) (fun rec => ?_) (by omega)
  · have hl := wUp_len c p3.toNat d j
    simp only [spec_ApplyWrites.s1, iLt_eq, brB_dec, chk_idx, rLen_eq, wUp]
    rw [if_pos (by omega), iAdd_id (a := p3) (by omega) (by omega), if_idx hj, next_id hj (by omega)]
    by_cases h64 : p3.toNat + j < 64
    · rw [if_pos (by omega), if_pos (by omega), if_pos h64, rGet_nat, show p3 + (j : Int) = ((p3.toNat + j : Nat) : Int) by omega, rSet_nat]
    · rw [if_neg (by omega), if_neg h64]
  · simp only [spec_ApplyWrites.s1, iLt_eq, brB_dec, rLen_eq]
    rw [if_neg (by omega)]
theorem specWrites_ev (cells : List Int) (xs : List (Int × Int × Int × Int × Int × Int × Int × List Int)) (hcl : cells.length ≤ 1048576) (hn : xs.length ≤ 1048576) (hz : ∀ x ∈ xs, pGot x ≤ 1048576) (hwf : ∀ p ∈ xs, wfP p) (k : Nat) (hk : 3000000 < k) :
    spec_ApplyWrites.f k cells xs = some (writesB cells xs) := by
  simp only [spec_ApplyWrites.f, iNe_eq, brB_nb, brB_dec, rLen_eq, rApp_eq, List.nil_append, chk_len, l04Words_ev cells (by omega) k (by omega), bnd_one, bNot_eq, writesB]
  by_cases h64 : (cells.length : Int) = 64
  · rw [if_pos h64]
    cases hw : wordsOk cells with
    | false => rw [brB_false, if_neg (by simp)]
    | true =>
      rw [brB_true, if_pos (by omega), if_pos ⟨h64, rfl⟩]
      simp only [spec_ApplyWrites.l0]
      refine iter_upto (f := fun (rec : ((List (Int × Int × Int × Int × Int × Int × Int × List Int)) × List Int × Int) → Option (List Int)) (x : (List (Int × Int × Int × Int × Int × Int × Int × List Int)) × List Int × Int) => spec_ApplyWrites.s0 k rec x.1 x.2.1 x.2.2)
        (fun i => (xs, (xs.take i).foldl wStep cells, (i : Int))) xs.length (fun rec i hi => ?_) (fun rec => ?_) (by omega)
      · have e : rGet (0, 0, 0, 0, 0, 0, 0, []) xs (i : Int) = xs[i] := getD_lt _ _ hi
        have hq := hz _ (List.getElem_mem hi)
        have hw := hwf _ (List.getElem_mem hi)
        have hs : (xs.take (i + 1)).foldl wStep cells = wStep ((xs.take i).foldl wStep cells) xs[i] := by
          rw [List.take_succ_eq_append_getElem hi, List.foldl_append]; rfl
        have hcl := wFold_len (xs.take i) cells
        simp only [spec_ApplyWrites.s0, e, iLt_eq, iNe_eq, brB_nb, brB_dec, chk_idx, rLen_eq, hs]
        generalize (xs.take i).foldl wStep cells = c at hcl ⊢
        generalize xs[i] = q at hq hw ⊢
        obtain ⟨q0, q1, q2, q3, q4, q5, q6, ql⟩ := q
        have hql : ql.length ≤ 1048576 := hq
        rw [if_pos (by omega), if_idx hi]
        simp only [specIsPacket_ev q0 q1 q2 q3 q4 q5 q6 ql hql hw.1 hw.2 k (by omega), bnd_one, bNot_eq, brB_nb, wStep]
        by_cases h1 : q0 = 1
        · subst h1
          rw [if_pos rfl]
          cases hp : packB 1 q1 q2 q3 q4 q5 q6 ql with
          | false => rw [brB_false, next_id hi (by omega), if_neg (by simp)]
          | true =>
            obtain ⟨w1, w2⟩ := write_facts hp
            rw [brB_true, specWrite_one k hk rec xs c (by omega) (i : Int) 1 q1 q2 q3 q4 q5 q6 ql w1 w2, next_id hi (by omega), if_pos ⟨rfl, rfl⟩]
        · rw [if_neg h1, next_id hi (by omega), if_neg (fun h => h1 h.1)]
      · simp only [spec_ApplyWrites.s0, iLt_eq, brB_dec, List.take_length, rLen_eq]
        rw [if_neg (by omega)]
  · rw [if_neg h64, if_neg (fun h => h64 h.1)]
theorem implWrite_one (k : Nat) (hk : 3000000 < k) (rec0 : ((List Int) × (List (Int × Int × Int × Int × Int × Int × Int × List Int)) × Int × Int) → Option (List Int)) (xs : List (Int × Int × Int × Int × Int × Int × Int × List Int)) (c : List Int) (hc : c.length = 64) (n i : Int) (p0 p1 p2 p3 p4 p5 p6 : Int) (d : List Int) (hd : d.length ≤ 8) (h3 : 0 ≤ p3 ∧ p3 ≤ 65536) :
    impl_ApplyWrites.l1 k k rec0 c xs n i d (d.length : Int) 0 p0 p1 p2 p3 p4 p5 p6 d = rec0 (wUp c p3.toNat d d.length, xs, n, iAdd .i64 i 1) := by
  unfold impl_ApplyWrites.l1
  refine iter_to (f := fun (rec : (List Int × (List (Int × Int × Int × Int × Int × Int × Int × List Int)) × Int × Int × List Int × Int × Int × Int × Int × Int × Int × Int × Int × Int × List Int) → Option (List Int)) (x : List Int × (List (Int × Int × Int × Int × Int × Int × Int × List Int)) × Int × Int × List Int × Int × Int × Int × Int × Int × Int × Int × Int × Int × List Int) => impl_ApplyWrites.s1 k rec0 rec x.1 x.2.1 x.2.2.1 x.2.2.2.1 x.2.2.2.2.1 x.2.2.2.2.2.1 x.2.2.2.2.2.2.1 x.2.2.2.2.2.2.2.1 x.2.2.2.2.2.2.2.2.1 x.2.2.2.2.2.2.2.2.2.1 x.2.2.2.2.2.2.2.2.2.2.1 x.2.2.2.2.2.2.2.2.2.2.2.1 x.2.2.2.2.2.2.2.2.2.2.2.2.1 x.2.2.2.2.2.2.2.2.2.2.2.2.2.1 x.2.2.2.2.2.2.2.2.2.2.2.2.2.2)
    (fun j => (wUp c p3.toNat d j, xs, n, i, d, (d.length : Int), (j : Int), p0, p1, p2, p3, p4, p5, p6, d)) d.length (fun rec j hj => ?_) (fun rec => ?_) (by omega)
  · have hl := wUp_len c p3.toNat d j
    simp only [impl_ApplyWrites.s1, iLt_eq, brB_dec, chk_idx, rLen_eq, wUp]
    rw [if_pos (by omega), iAdd_id (a := p3) (by omega) (by omega), if_idx hj, next_id hj (by omega)]
    by_cases h64 : p3.toNat + j < 64
    · rw [if_pos (by omega), if_pos (by omega), if_pos h64, rGet_nat, show p3 + (j : Int) = ((p3.toNat + j : Nat) : Int) by omega, rSet_nat]
    · rw [if_neg (by omega), if_neg h64]
  · simp only [impl_ApplyWrites.s1, iLt_eq, brB_dec]
    rw [if_neg (by omega)]
theorem implWrites_ev (cells : List Int) (xs : List (Int × Int × Int × Int × Int × Int × Int × List Int)) (hcl : cells.length ≤ 1048576) (hn : xs.length ≤ 1048576) (hz : ∀ x ∈ xs, pGot x ≤ 1048576) (hwf : ∀ p ∈ xs, wfP p) (k : Nat) (hk : 3000000 < k) :
    impl_ApplyWrites.f k cells xs = some (writesB cells xs) := by
  simp only [impl_ApplyWrites.f, impl_areCells.f, slices_Clone_int.f, iEq_eq, brB_dec, rLen_eq, chk_len, areWords_ev cells (by omega) k (by omega), bnd_one, bNot_eq, writesB]
  by_cases h64 : (cells.length : Int) = 64
  · rw [if_pos h64, bnd_one]
    cases hw : wordsOk cells with
    | false =>
      rw [show (!false) = true from rfl, brB_true, if_neg (fun h => by cases h.2)]
    | true =>
      rw [Bool.not_true, brB_false, if_pos (by omega), if_pos ⟨h64, rfl⟩]
      simp only [impl_ApplyWrites.l0, bnd_one]
      refine iter_upto (f := fun (rec : (List Int × (List (Int × Int × Int × Int × Int × Int × Int × List Int)) × Int × Int) → Option (List Int)) (x : List Int × (List (Int × Int × Int × Int × Int × Int × Int × List Int)) × Int × Int) => impl_ApplyWrites.s0 k rec x.1 x.2.1 x.2.2.1 x.2.2.2)
        (fun i => ((xs.take i).foldl wStep cells, xs, (xs.length : Int), (i : Int))) xs.length (fun rec i hi => ?_) (fun rec => ?_) (by omega)
      · have e : rGet (0, 0, 0, 0, 0, 0, 0, []) xs (i : Int) = xs[i] := getD_lt _ _ hi
        have hq := hz _ (List.getElem_mem hi)
        have hw := hwf _ (List.getElem_mem hi)
        have hs : (xs.take (i + 1)).foldl wStep cells = wStep ((xs.take i).foldl wStep cells) xs[i] := by
          rw [List.take_succ_eq_append_getElem hi, List.foldl_append]; rfl
        have hcl := wFold_len (xs.take i) cells
        simp only [impl_ApplyWrites.s0, e, iLt_eq, iNe_eq, brB_nb, brB_dec, chk_idx, rLen_eq, hs]
        generalize (xs.take i).foldl wStep cells = c at hcl ⊢
        generalize xs[i] = q at hq hw ⊢
        obtain ⟨q0, q1, q2, q3, q4, q5, q6, ql⟩ := q
        have hql : ql.length ≤ 1048576 := hq
        rw [if_pos (by omega), if_idx hi]
        simp only [implIsPacket_ev q0 q1 q2 q3 q4 q5 q6 ql hql hw.1 hw.2 k (by omega), bnd_one, bNot_eq, brB_nb, wStep]
        by_cases h1 : q0 = 1
        · subst h1
          rw [if_pos rfl]
          cases hp : packB 1 q1 q2 q3 q4 q5 q6 ql with
          | false => rw [brB_false, next_id hi (by omega), if_neg (by simp)]
          | true =>
            obtain ⟨w1, w2⟩ := write_facts hp
            rw [brB_true, implWrite_one k hk rec xs c (by omega) (xs.length : Int) (i : Int) 1 q1 q2 q3 q4 q5 q6 ql w1 w2, next_id hi (by omega), if_pos ⟨rfl, rfl⟩]
        · rw [if_neg h1, next_id hi (by omega), if_neg (fun h => h1 h.1)]
      · simp only [impl_ApplyWrites.s0, iLt_eq, brB_dec, List.take_length]
        rw [if_neg (by omega)]
  · rw [if_neg h64, bnd_one, show (!false) = true from rfl, brB_true, if_neg (fun h => h64 h.1)]
theorem writesB_len (cells : List Int) (l : List (Int × Int × Int × Int × Int × Int × Int × List Int)) : (writesB cells l).length ≤ 64 := by
  unfold writesB; split
  · rename_i h; rw [wFold_len]; omega
  · simp

theorem laws_FnExactApplyWrites.main (d : List Int) (l : List (Int × Int × Int × Int × Int × Int × Int × List Int)) (hl : l.length ≤ 9223372036854775807) (hl2 : ∀ x ∈ l, pGot x ≤ 9223372036854775807) (hwf : ∀ p ∈ l, wfP p) : ∃ k, laws_FnExactApplyWrites.f k d l = some true := by
  refine ⟨l.length + 3000001, ?_⟩
  generalize hk : l.length + 3000001 = k
  unfold laws_FnExactApplyWrites.f
  rw [iLt_eq, brB_dec, rLen_eq]
  by_cases cd : (1048576 : Int) < (d.length : Int)
  · rw [if_pos cd]
  rw [if_neg cd]
  have sp := szPacketS_eq k l 1048576 hl hl2 (by omega) (by omega) (by omega)
  by_cases c2 : (l.length : Int) + rSum pGot l ≤ 1048576
  · rw [if_pos c2] at sp
    refine bnd_to sp (brF_to (iLt_no (by omega)) ?_)
    have hz : ∀ x ∈ l, pGot x ≤ 1048576 := fun x hx => by have := rSum_le (z := pGot) hx; omega
    have td := toIntS_ev d (by omega) k (by omega)
    have tp := toPacketS_ev l (by omega) hz k (by omega)
    have f1 := specWrites_ev d l (by omega) (by omega) hz hwf k (by omega)
    have f2 := implWrites_ev d l (by omega) (by omega) hz hwf k (by omega)
    have hr := writesB_len d l
    generalize writesB d l = r at f1 f2 hr
    have hp := rSum_p l
    have q := eqIntS_refl r (by omega) k (by omega)
    have q0 := eqIntS_refl d (by omega) k (by omega)
    have qp := eqPacketS_refl l (by omega) hz k (by omega)
    have m0 := markIntS_ev d 1 (by omega) (by omega) (by omega) k (by omega)
    have m1 := markPacketS_ev l (1 + d.length) (by omega) hz (by omega) (by omega) k (by omega)
    have m2 := markIntS_ev r 1 (by omega) (by omega) (by omega) k (by omega)
    have hd := heldIntS_ev r.length 1 (by omega) (by omega) (by omega) k (by omega)
    have g0 : 0 ≤ offs pN l (1 + d.length) l.length := by have := offs_ge pN l (1 + d.length) l.length; omega
    have g1 : (0 : Int) ≤ 1 + (r.length : Int) := by omega
    repeat (first
      | with_reducible refine bnd_to td ?_
      | with_reducible refine bnd_to tp ?_
      | with_reducible refine bnd_to f1 ?_
      | with_reducible refine bnd_to f2 ?_
      | with_reducible refine bnd_to q ?_
      | with_reducible refine bnd_to q0 ?_
      | with_reducible refine bnd_to qp ?_
      | with_reducible refine bnd_to m0 ?_
      | with_reducible refine bnd_to m1 ?_
      | with_reducible refine bnd_to m2 ?_
      | with_reducible refine bnd_to hd ?_
      | with_reducible refine brF_to bNot_t ?_
      | with_reducible refine brF_to (iNe_self _) ?_
      | with_reducible refine brF_to (iLt_no g0) ?_
      | with_reducible refine brF_to (iLt_no g1) ?_)
    rfl
  · rw [if_neg c2] at sp
    exact bnd_to sp (brT_to (iLt_yes (by omega)) rfl)
theorem laws_FnExactApplyWrites.pure : ∀ x : laws_FnExactApplyWrites.sig.inTy.T, Good laws_FnExactApplyWrites.sig.inTy x → ∃ k, laws_FnExactApplyWrites.spec.fn k x = some true := by
  rintro ⟨d, l⟩ ⟨_, ⟨hl, hl2⟩⟩
  refine laws_FnExactApplyWrites.main d l hl (fun x hx => ?_) fun x hx => ?_
  · obtain ⟨i, hi⟩ := List.getElem?_of_mem hx
    exact (hl2 i x hi).2.2.2.2.2.2.2.1
  · obtain ⟨i, hi⟩ := List.getElem?_of_mem hx
    exact ⟨(hl2 i x hi).2.2.2.1, (hl2 i x hi).2.2.2.2.1⟩
end Go.Proofs.YtmbmapbdbbnaeaaT

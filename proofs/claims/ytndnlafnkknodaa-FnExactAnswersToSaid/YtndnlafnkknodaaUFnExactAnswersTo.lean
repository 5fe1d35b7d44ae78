/- What the functions of FnExactAnswersTo give, in plain terms. -/
import Derived.Test.YtndnlafnkknodaaFFnExactAnswersTo
import Derived.Test.YtndnlafnkknodaaTiPL
set_option linter.unusedVariables false
set_option linter.unusedSimpArgs false
set_option maxRecDepth 100000
namespace Go.Proofs.YtndnlafnkknodaaT
open Go
theorem bnd_to {A R : Type} {x : Option A} {a : A} {f : A → Option R} {r : Option R} (h : x = some a) (g : f a = r) : bnd x f = r := by rw [h]; exact g
theorem brF_to {R : Type} {b : Bool} {x y r : Option R} (h : b = false) (g : y = r) : brB b x y = r := by rw [h]; exact g
theorem brT_to {R : Type} {b : Bool} {x y r : Option R} (h : b = true) (g : x = r) : brB b x y = r := by rw [h]; exact g
theorem iNe_self (a : Int) : iNe a a = false := by simp [iNe]
theorem bNot_t : bNot true = false := rfl
theorem iLt_no {a b : Int} (h : b ≤ a) : iLt a b = false := by simp [iLt, h]
theorem iLt_yes {a b : Int} (h : a < b) : iLt a b = true := by simp [iLt, h]
theorem iLe_eq (a b : Int) : iLe a b = decide (a ≤ b) := rfl
theorem iLt_eq (a b : Int) : iLt a b = decide (a < b) := rfl
theorem iEq_eq (a b : Int) : iEq a b = decide (a = b) := by by_cases h : a = b <;> simp [iEq, h]
theorem iNe_eq (a b : Int) : iNe a b = !decide (a = b) := by by_cases h : a = b <;> simp [iNe, h]
theorem bNot_eq (a : Bool) : bNot a = !a := rfl
/-- A loop that looks for the first element with a quality. -/
theorem iter_find {R : Type} {α : Type} {X : Type} {f : (X → Option R) → X → Option R} (s : Nat → X) (xs : List α) (p : α → Bool) (r : R) (e : Nat → R)
    (go : ∀ rec (i : Nat) (h : i < xs.length), p xs[i] = true → f rec (s i) = rec (s (i + 1))) (stop : ∀ rec (i : Nat) (h : i < xs.length), p xs[i] = false → f rec (s i) = some (e i)) (done : ∀ rec, f rec (s xs.length) = some r) {n : Nat} (hn : xs.length < n) :
    iter f n (s 0) = some (match xs.findIdx? (fun x => !p x) with | some i => e i | none => r) := by
  suffices H : ∀ d i n, i + d = xs.length → d < n → (∀ j (h : j < xs.length), j < i → p xs[j] = true) → iter f n (s i) = some (match xs.findIdx? (fun x => !p x) with | some i => e i | none => r) from H xs.length 0 n (by omega) hn (fun j _ h => by omega)
  intro d
  induction d with
  | zero =>
    intro i n hi hn hp
    obtain ⟨m, rfl⟩ : ∃ m, n = m + 1 := ⟨n - 1, by omega⟩
    obtain rfl : i = xs.length := by omega
    have : xs.findIdx? (fun x => !p x) = none := by
      rw [List.findIdx?_eq_none_iff]
      intro x hx
      obtain ⟨j, hj, rfl⟩ := List.mem_iff_getElem.1 hx
      simp [hp j hj (by omega)]
    rw [this]
    exact done _
  | succ d ih =>
    intro i n hi hn hp
    obtain ⟨m, rfl⟩ : ∃ m, n = m + 1 := ⟨n - 1, by omega⟩
    show f (iter f m) (s i) = _
    have hlt : i < xs.length := by omega
    by_cases hq : p xs[i] = false
    · rw [stop _ i hlt hq]
      have : xs.findIdx? (fun x => !p x) = some i := by
        rw [List.findIdx?_eq_some_iff_getElem]
        exact ⟨hlt, by simp [hq], fun j hj => by simp [hp j (by omega) hj]⟩
      rw [this]
    · have hq : p xs[i] = true := by simpa using hq
      rw [go _ i hlt hq]
      refine ih (i + 1) m (by omega) (by omega) fun j h hj => ?_
      rcases Nat.lt_or_ge j i with h' | h'
      · exact hp j h h'
      · obtain rfl : j = i := by omega
        exact hq
theorem getD_lt {α : Type} (d : α) (xs : List α) {i : Nat} (h : i < xs.length) : xs.getD i d = xs[i] := by
  rw [List.getD_eq_getElem?_getD, List.getElem?_eq_getElem h]; rfl
theorem bEq_eq (a b : Bool) : bEq a b = decide (a = b) := by cases a <;> cases b <;> rfl
theorem bNe_eq (a b : Bool) : bNe a b = !decide (a = b) := by cases a <;> cases b <;> rfl
theorem brB_nb {R : Type} (b : Bool) (x y : Option R) : brB (!b) x y = brB b y x := by cases b <;> rfl
theorem brB_dec {R : Type} (p : Prop) [Decidable p] (x y : Option R) : brB (decide p) x y = if p then x else y := by by_cases h : p <;> simp [h, brB]
theorem if_idx {R : Type} {i n : Nat} {x : Option R} (h : i < n) : (if 0 ≤ (i : Int) ∧ (i : Int) < (n : Int) then x else none) = x := if_pos (by omega)
theorem l01In_eq (k : Nat) (x a b : Int) : spec_l01In.f k x a b = some (decide (a ≤ x ∧ x ≤ b)) := by
  simp only [spec_l01In.f, iLt_eq, iLe_eq, iEq_eq, iNe_eq, bNot_eq, bEq_eq, bNe_eq, brB_nb, brB_dec, brB_true, brB_false, chk_idx, chk_len, chk_make, chk_sub, bnd_one, rLen_eq, rGet_nat, rSet_nat, rApp_eq, ↓reduceIte]; split <;> rename_i h <;> simp [h]
theorem within_eq (k : Nat) (x a b : Int) : impl_within.f k x a b = some (decide (a ≤ x ∧ x ≤ b)) := by
  simp only [impl_within.f, iLt_eq, iLe_eq, iEq_eq, iNe_eq, bNot_eq, bEq_eq, bNe_eq, brB_nb, brB_dec, brB_true, brB_false, chk_idx, chk_len, chk_make, chk_sub, bnd_one, rLen_eq, rGet_nat, rSet_nat, rApp_eq, ↓reduceIte]; split <;> rename_i h <;> simp [h]
theorem specIsId_eq (k : Nat) (a : Int) : spec_IsId.f k a = some (decide (0 ≤ a ∧ a ≤ 255)) := by simp only [spec_IsId.f, l01In_eq, bnd_one]
theorem implIsId_eq (k : Nat) (a : Int) : impl_IsId.f k a = some (decide (0 ≤ a ∧ a ≤ 255)) := by simp only [impl_IsId.f, within_eq, bnd_one]
theorem szIntS_eq (k : Nat) (l : List Int) (n : Int) (hl : l.length ≤ 9223372036854775807) (h0 : 0 ≤ n) (h1 : n ≤ 1048576) : laws_szIntS.f k l n = some (if (l.length : Int) ≤ n then n - l.length else -1) := by
  simp only [laws_szIntS.f, iLt_eq, iLe_eq, iEq_eq, iNe_eq, bNot_eq, bEq_eq, bNe_eq, brB_nb, brB_dec, brB_true, brB_false, chk_idx, chk_len, chk_make, chk_sub, bnd_one, rLen_eq, rGet_nat, rSet_nat, rApp_eq, ↓reduceIte]
  rw [iSub_id (by omega) (by omega)]
  by_cases h : (l.length : Int) ≤ n
  · rw [if_neg (by omega), if_pos h]
  · rw [if_pos (by omega), if_neg h]
theorem toIntS_ev (xs : List Int) (hn : xs.length ≤ 1048576) (k : Nat) (hk : xs.length < k) : laws_toIntS.f k xs = some xs := by
  simp only [laws_toIntS.f, laws_toIntS.l0, iLt_eq, iLe_eq, iEq_eq, iNe_eq, bNot_eq, bEq_eq, bNe_eq, brB_nb, brB_dec, brB_true, brB_false, chk_idx, chk_len, chk_make, chk_sub, bnd_one, rLen_eq, rGet_nat, rSet_nat, rApp_eq, ↓reduceIte]
  rw [if_pos (by omega), rRep_nat]
  have h := iter_upto (f := fun (rec : (List Int × List Int × Int) → Option (List Int)) (x : List Int × List Int × Int) => laws_toIntS.s0 k rec x.1 x.2.1 x.2.2)
    (fun i => (xs, fill (fun j => xs.getD j 0) (List.replicate xs.length 0) i, (i : Int))) xs.length (r := xs) (fun rec i hi => ?_) (fun rec => ?_) hk
  · rw [fill_zero] at h; exact h
  · simp only [laws_toIntS.s0, fill_len (show i ≤ (List.replicate xs.length (0:Int)).length by simp; omega), List.length_replicate, iLt_eq, iLe_eq, iEq_eq, iNe_eq, bNot_eq, bEq_eq, bNe_eq, brB_nb, brB_dec, brB_true, brB_false, chk_idx, chk_len, chk_make, chk_sub, bnd_one, rLen_eq, rGet_nat, rSet_nat, rApp_eq, ↓reduceIte]
    rw [if_pos (by omega), if_idx hi, if_idx hi, fill_set (by simpa using hi), next_id hi (by omega)]
  · have h2 := fill_end (g := fun j => xs.getD j 0) (xs := List.replicate xs.length (0 : Int))
    rw [List.length_replicate] at h2
    simp only [laws_toIntS.s0, h2, range_getD, iLt_eq, iLe_eq, iEq_eq, iNe_eq, bNot_eq, bEq_eq, bNe_eq, brB_nb, brB_dec, brB_true, brB_false, chk_idx, chk_len, chk_make, chk_sub, bnd_one, rLen_eq, rGet_nat, rSet_nat, rApp_eq, ↓reduceIte]
    rw [if_neg (by omega)]
theorem eqIntS_refl (xs : List Int) (hn : xs.length ≤ 4611686018427387904) (k : Nat) (hk : xs.length < k) : laws_eqIntS.f k xs xs = some true := by
  simp only [laws_eqIntS.f, laws_eqIntS.l0, iLt_eq, iLe_eq, iEq_eq, iNe_eq, bNot_eq, bEq_eq, bNe_eq, brB_nb, brB_dec, brB_true, brB_false, chk_idx, chk_len, chk_make, chk_sub, bnd_one, rLen_eq, rGet_nat, rSet_nat, rApp_eq, ↓reduceIte]
  refine iter_upto (f := fun (rec : (List Int × List Int × Int) → Option Bool) (x : List Int × List Int × Int) => laws_eqIntS.s0 k rec x.1 x.2.1 x.2.2) (fun i => (xs, xs, (i : Int))) xs.length (fun rec i hi => ?_) (fun rec => ?_) hk
  · simp only [laws_eqIntS.s0, iLt_eq, iLe_eq, iEq_eq, iNe_eq, bNot_eq, bEq_eq, bNe_eq, brB_nb, brB_dec, brB_true, brB_false, chk_idx, chk_len, chk_make, chk_sub, bnd_one, rLen_eq, rGet_nat, rSet_nat, rApp_eq, ↓reduceIte]
    rw [if_pos (by omega), if_idx hi, if_idx hi, next_id hi hn]
  · simp only [laws_eqIntS.s0, iLt_eq, iLe_eq, iEq_eq, iNe_eq, bNot_eq, bEq_eq, bNe_eq, brB_nb, brB_dec, brB_true, brB_false, chk_idx, chk_len, chk_make, chk_sub, bnd_one, rLen_eq, rGet_nat, rSet_nat, rApp_eq, ↓reduceIte]
    rw [if_neg (by omega)]
/-- The marks of a row of numbers. -/
def marks (m : Int) (n : Nat) : List Int := (List.range n).map fun (j : Nat) => m + (j : Int)
theorem marks_len (m : Int) (n : Nat) : (marks m n).length = n := by simp [marks]
theorem markIntS_ev (xs : List Int) (m : Int) (hn : xs.length ≤ 1000000000000) (h0 : 0 ≤ m) (h1 : m ≤ 1000000000000) (k : Nat) (hk : xs.length < k) : laws_markIntS.f k xs m = some (m + xs.length, marks m xs.length) := by
  simp only [laws_markIntS.f, laws_markIntS.l0]
  have h := iter_upto (f := fun (rec : (List Int × Int × Int) → Option (Int × List Int)) (x : List Int × Int × Int) => laws_markIntS.s0 k rec x.1 x.2.1 x.2.2)
    (fun i => (fill (fun (j : Nat) => m + (j : Int)) xs i, m + (i : Int), (i : Int))) xs.length (r := (m + xs.length, marks m xs.length)) (fun rec i hi => ?_) (fun rec => ?_) hk
  · rw [fill_zero] at h; simpa using h
  · simp only [laws_markIntS.s0, fill_len (Nat.le_of_lt hi), iLt_eq, iLe_eq, iEq_eq, iNe_eq, bNot_eq, bEq_eq, bNe_eq, brB_nb, brB_dec, brB_true, brB_false, chk_idx, chk_len, chk_make, chk_sub, bnd_one, rLen_eq, rGet_nat, rSet_nat, rApp_eq, ↓reduceIte]
    rw [if_pos (by omega), if_idx hi, fill_set hi, next_id hi (by omega), iAdd_id (by omega) (by omega)]
    congr 3
    omega
  · simp only [laws_markIntS.s0, fill_end, List.length_map, List.length_range, iLt_eq, iLe_eq, iEq_eq, iNe_eq, bNot_eq, bEq_eq, bNe_eq, brB_nb, brB_dec, brB_true, brB_false, chk_idx, chk_len, chk_make, chk_sub, bnd_one, rLen_eq, rGet_nat, rSet_nat, rApp_eq, ↓reduceIte]
    rw [if_neg (by omega)]
    rfl
theorem heldIntS_ev (n : Nat) (m : Int) (hn : n ≤ 1000000000000) (h0 : 0 ≤ m) (h1 : m ≤ 1000000000000) (k : Nat) (hk : n < k) : laws_heldIntS.f k (marks m n) m = some (m + n) := by
  simp only [laws_heldIntS.f, laws_heldIntS.l0]
  have h := iter_upto (f := fun (rec : (List Int × Int × Int) → Option Int) (x : List Int × Int × Int) => laws_heldIntS.s0 k rec x.1 x.2.1 x.2.2)
    (fun i => (marks m n, m + (i : Int), (i : Int))) n (r := m + n) (fun rec i hi => ?_) (fun rec => ?_) hk
  · simpa using h
  · simp only [laws_heldIntS.s0, marks_len, iLt_eq, iLe_eq, iEq_eq, iNe_eq, bNot_eq, bEq_eq, bNe_eq, brB_nb, brB_dec, brB_true, brB_false, chk_idx, chk_len, chk_make, chk_sub, bnd_one, rLen_eq, rGet_nat, rSet_nat, rApp_eq, ↓reduceIte]
    rw [if_pos (by omega), if_idx hi, marks, range_get n hi, if_pos rfl, next_id hi (by omega), iAdd_id (by omega) (by omega)]
    congr 3
    omega
  · simp only [laws_heldIntS.s0, marks_len, iLt_eq, iLe_eq, iEq_eq, iNe_eq, bNot_eq, bEq_eq, bNe_eq, brB_nb, brB_dec, brB_true, brB_false, chk_idx, chk_len, chk_make, chk_sub, bnd_one, rLen_eq, rGet_nat, rSet_nat, rApp_eq, ↓reduceIte]
    rw [if_neg (by omega)]
/-- All are words. -/
def wordsOk (l : List Int) : Bool := l.all fun x => decide (0 ≤ x ∧ x ≤ 65535)
theorem findIdx_all {α : Type} (l : List α) (p : α → Bool) : (match l.findIdx? (fun x => !p x) with | some _ => false | none => true) = l.all p := by
  cases h : l.findIdx? (fun x => !p x) with
  | none =>
    rw [List.findIdx?_eq_none_iff] at h
    symm
    rw [List.all_eq_true]
    intro x hx
    simpa using h x hx
  | some i =>
    rw [List.findIdx?_eq_some_iff_getElem] at h
    obtain ⟨hi, h1, _⟩ := h
    symm
    rw [← Bool.not_eq_true, List.all_eq_true]
    intro hall
    have := hall _ (List.getElem_mem hi)
    simp [this] at h1
theorem found_iff {α : Type} (l : List α) (p : α → Bool) : iLe 0 (match l.findIdx? (fun x => !p x) with | some i => (i : Int) | none => -1) = !l.all p := by
  rw [← findIdx_all]
  cases l.findIdx? (fun x => !p x) with
  | none => rfl
  | some i => simp [iLe]
theorem l04Words_ev (l : List Int) (hl : l.length ≤ 4611686018427387904) (k : Nat) (hk : l.length < k) : spec_l04Words.f k l = some (wordsOk l) := by
  simp only [spec_l04Words.f, spec_l04Words.l0]
  have h := iter_find (f := fun (rec : (List Int × Int) → Option Bool) (x : List Int × Int) => spec_l04Words.s0 k rec x.1 x.2) (fun i => (l, (i : Int))) l (fun x => decide (0 ≤ x ∧ x ≤ 65535)) true (fun _ => false)
    (fun rec i hi hp => ?_) (fun rec i hi hp => ?_) (fun rec => ?_) hk
  · exact h.trans (congrArg some (findIdx_all l _))
  · simp only [spec_l04Words.s0, l01In_eq, getD_lt _ _ hi, iLt_eq, iLe_eq, iEq_eq, iNe_eq, bNot_eq, bEq_eq, bNe_eq, brB_nb, brB_dec, brB_true, brB_false, chk_idx, chk_len, chk_make, chk_sub, bnd_one, rLen_eq, rGet_nat, rSet_nat, rApp_eq, ↓reduceIte]
    rw [if_pos (by omega), if_idx hi, next_id hi hl]
    rw [if_pos (of_decide_eq_true hp)]
  · simp only [spec_l04Words.s0, l01In_eq, getD_lt _ _ hi, iLt_eq, iLe_eq, iEq_eq, iNe_eq, bNot_eq, bEq_eq, bNe_eq, brB_nb, brB_dec, brB_true, brB_false, chk_idx, chk_len, chk_make, chk_sub, bnd_one, rLen_eq, rGet_nat, rSet_nat, rApp_eq, ↓reduceIte]
    rw [if_pos (by omega), if_idx hi]
    rw [if_neg (of_decide_eq_false hp)]
  · simp only [spec_l04Words.s0, iLt_eq, iLe_eq, iEq_eq, iNe_eq, bNot_eq, bEq_eq, bNe_eq, brB_nb, brB_dec, brB_true, brB_false, chk_idx, chk_len, chk_make, chk_sub, bnd_one, rLen_eq, rGet_nat, rSet_nat, rApp_eq, ↓reduceIte]
    rw [if_neg (by omega)]
theorem isWord_eq (k : Nat) (x : Int) : impl_isWord.f k x = some (decide (0 ≤ x ∧ x ≤ 65535)) := by simp only [impl_isWord.f, within_eq, bnd_one]
theorem indexNotWord1 (l : List Int) (hl : l.length ≤ 4611686018427387904) (k : Nat) (hk : l.length < k) : slices_IndexFunc_int_impl_areWords_1.f k l = some (match l.findIdx? (fun x => !decide (0 ≤ x ∧ x ≤ 65535)) with | some i => (i : Int) | none => -1) := by
  simp only [slices_IndexFunc_int_impl_areWords_1.f, slices_IndexFunc_int_impl_areWords_1.l0]
  refine iter_find (f := fun (rec : (List Int × Int × Int) → Option Int) (x : List Int × Int × Int) => slices_IndexFunc_int_impl_areWords_1.s0 k rec x.1 x.2.1 x.2.2) (fun i => (l, rLen l, (i : Int))) l (fun x => decide (0 ≤ x ∧ x ≤ 65535)) (-1) (fun i => (i : Int)) (fun rec i hi hp => ?_) (fun rec i hi hp => ?_) (fun rec => ?_) hk
  · simp only [slices_IndexFunc_int_impl_areWords_1.s0, impl_areWords_1.f, isWord_eq, getD_lt _ _ hi, iLt_eq, iLe_eq, iEq_eq, iNe_eq, bNot_eq, bEq_eq, bNe_eq, brB_nb, brB_dec, brB_true, brB_false, chk_idx, chk_len, chk_make, chk_sub, bnd_one, rLen_eq, rGet_nat, rSet_nat, rApp_eq, ↓reduceIte]
    rw [if_pos (by omega), if_idx hi, next_id hi hl]
    rw [if_pos (of_decide_eq_true hp)]
  · simp only [slices_IndexFunc_int_impl_areWords_1.s0, impl_areWords_1.f, isWord_eq, getD_lt _ _ hi, iLt_eq, iLe_eq, iEq_eq, iNe_eq, bNot_eq, bEq_eq, bNe_eq, brB_nb, brB_dec, brB_true, brB_false, chk_idx, chk_len, chk_make, chk_sub, bnd_one, rLen_eq, rGet_nat, rSet_nat, rApp_eq, ↓reduceIte]
    rw [if_pos (by omega), if_idx hi]
    rw [if_neg (of_decide_eq_false hp)]
  · simp only [slices_IndexFunc_int_impl_areWords_1.s0, iLt_eq, iLe_eq, iEq_eq, iNe_eq, bNot_eq, bEq_eq, bNe_eq, brB_nb, brB_dec, brB_true, brB_false, chk_idx, chk_len, chk_make, chk_sub, bnd_one, rLen_eq, rGet_nat, rSet_nat, rApp_eq, ↓reduceIte]
    rw [if_neg (by omega)]
theorem areWords_ev (l : List Int) (hl : l.length ≤ 4611686018427387904) (k : Nat) (hk : l.length < k) : impl_areWords.f k l = some (wordsOk l) := by
  simp only [impl_areWords.f, slices_ContainsFunc_int_impl_areWords_1.f, indexNotWord1 l hl k hk, bnd_one, found_iff l (fun x => decide (0 ≤ x ∧ x ≤ 65535)), bNot_eq, Bool.not_not]
  rfl
theorem indexNotWord2 (l : List Int) (hl : l.length ≤ 4611686018427387904) (k : Nat) (hk : l.length < k) : slices_IndexFunc_int_impl_Packet__dataOk_1.f k l = some (match l.findIdx? (fun x => !decide (0 ≤ x ∧ x ≤ 65535)) with | some i => (i : Int) | none => -1) := by
  simp only [slices_IndexFunc_int_impl_Packet__dataOk_1.f, slices_IndexFunc_int_impl_Packet__dataOk_1.l0]
  refine iter_find (f := fun (rec : (List Int × Int × Int) → Option Int) (x : List Int × Int × Int) => slices_IndexFunc_int_impl_Packet__dataOk_1.s0 k rec x.1 x.2.1 x.2.2) (fun i => (l, rLen l, (i : Int))) l (fun x => decide (0 ≤ x ∧ x ≤ 65535)) (-1) (fun i => (i : Int)) (fun rec i hi hp => ?_) (fun rec i hi hp => ?_) (fun rec => ?_) hk
  · simp only [slices_IndexFunc_int_impl_Packet__dataOk_1.s0, impl_Packet__dataOk_1.f, isWord_eq, getD_lt _ _ hi, iLt_eq, iLe_eq, iEq_eq, iNe_eq, bNot_eq, bEq_eq, bNe_eq, brB_nb, brB_dec, brB_true, brB_false, chk_idx, chk_len, chk_make, chk_sub, bnd_one, rLen_eq, rGet_nat, rSet_nat, rApp_eq, ↓reduceIte]
    rw [if_pos (by omega), if_idx hi, next_id hi hl]
    rw [if_pos (of_decide_eq_true hp)]
  · simp only [slices_IndexFunc_int_impl_Packet__dataOk_1.s0, impl_Packet__dataOk_1.f, isWord_eq, getD_lt _ _ hi, iLt_eq, iLe_eq, iEq_eq, iNe_eq, bNot_eq, bEq_eq, bNe_eq, brB_nb, brB_dec, brB_true, brB_false, chk_idx, chk_len, chk_make, chk_sub, bnd_one, rLen_eq, rGet_nat, rSet_nat, rApp_eq, ↓reduceIte]
    rw [if_pos (by omega), if_idx hi]
    rw [if_neg (of_decide_eq_false hp)]
  · simp only [slices_IndexFunc_int_impl_Packet__dataOk_1.s0, iLt_eq, iLe_eq, iEq_eq, iNe_eq, bNot_eq, bEq_eq, bNe_eq, brB_nb, brB_dec, brB_true, brB_false, chk_idx, chk_len, chk_make, chk_sub, bnd_one, rLen_eq, rGet_nat, rSet_nat, rApp_eq, ↓reduceIte]
    rw [if_neg (by omega)]
/-- A packet is valid: n is how many data it has, w says that they are words. -/
def packP (a0 a1 a2 a3 a4 a5 a6 n : Int) : Prop := (0 ≤ a1 ∧ a1 ≤ 255) ∧ (
  (a0 = 1 ∧ (1 ≤ n ∧ n ≤ 8) ∧ (0 ≤ a3 ∧ a3 ≤ 65536 - n) ∧ a6 = 0 ∧ a2 = 0 ∧ a4 = 0 ∧ a5 = 0) ∨
  (a0 = 2 ∧ (1 ≤ n ∧ n ≤ 8) ∧ a3 = 0 ∧ a6 = 0 ∧ a2 = 0 ∧ a4 = 0 ∧ a5 = 0) ∨
  (a0 = 3 ∧ n = 0 ∧ (1 ≤ a4 ∧ a4 ≤ 64) ∧ (0 ≤ a3 ∧ a3 ≤ 65536 - a4) ∧ (0 ≤ a5 ∧ a5 ≤ 7) ∧ a6 = 0 ∧ a2 = 0) ∨
  (a0 = 4 ∧ n = 0 ∧ (0 ≤ a3 ∧ a3 ≤ 63) ∧ (0 ≤ a2 ∧ a2 ≤ 255) ∧ (0 ≤ a5 ∧ a5 ≤ 7) ∧ a6 = 0 ∧ a4 = 0) ∨
  (a0 = 5 ∧ n = 1 ∧ (0 ≤ a3 ∧ a3 ≤ 63) ∧ (0 ≤ a2 ∧ a2 ≤ 255) ∧ (0 ≤ a5 ∧ a5 ≤ 7) ∧ a6 = 0 ∧ a4 = 0) ∨
  (a0 = 6 ∧ a3 = 0 ∧ (0 ≤ a2 ∧ a2 ≤ 255) ∧ (0 ≤ a5 ∧ a5 ≤ 7) ∧ (0 ≤ a6 ∧ a6 ≤ 2) ∧ (0 ≤ a4 ∧ a4 ≤ 64) ∧ (n = 0 ∨ (a6 = 0 ∧ n ≤ 8 ∧ n ≤ a4))))
instance (a0 a1 a2 a3 a4 a5 a6 n : Int) : Decidable (packP a0 a1 a2 a3 a4 a5 a6 n) := by unfold packP; infer_instance
def packB (a0 a1 a2 a3 a4 a5 a6 : Int) (l : List Int) : Bool := wordsOk l && decide (packP a0 a1 a2 a3 a4 a5 a6 (l.length : Int))
theorem some_iff {b c : Bool} (h : b = true ↔ c = true) : some b = some c := by rw [Bool.eq_iff_iff.2 h]
theorem l04Zero_eq (k : Nat) (a0 a1 a2 a3 a4 a5 a6 : Int) (l : List Int) (x y z : Bool) : spec_l04Zero.f k a0 a1 a2 a3 a4 a5 a6 l x y z = some (decide ((x = true ∨ a2 = 0) ∧ (y = true ∨ a4 = 0) ∧ (z = true ∨ a5 = 0))) := by
  simp only [spec_l04Zero.f, iLt_eq, iLe_eq, iEq_eq, iNe_eq, bNot_eq, bEq_eq, bNe_eq, brB_nb, brB_dec, brB_true, brB_false, chk_idx, chk_len, chk_make, chk_sub, bnd_one, rLen_eq, rGet_nat, rSet_nat, rApp_eq, ↓reduceIte]
  cases x <;> cases y <;> cases z <;> simp only [iLt_eq, iLe_eq, iEq_eq, iNe_eq, bNot_eq, bEq_eq, bNe_eq, brB_nb, brB_dec, brB_true, brB_false, chk_idx, chk_len, chk_make, chk_sub, bnd_one, rLen_eq, rGet_nat, rSet_nat, rApp_eq, ↓reduceIte] <;> (repeat' split) <;> simp_all
theorem specIsPacket_ev (a0 a1 a2 a3 a4 a5 a6 : Int) (l : List Int) (hl : l.length ≤ 1048576) (h3 : (Lit.int .i64 a3).wf = true) (h4 : (Lit.int .i64 a4).wf = true) (k : Nat) (hk : l.length < k) : spec_IsPacket.f k a0 a1 a2 a3 a4 a5 a6 l = some (packB a0 a1 a2 a3 a4 a5 a6 l) := by
  rw [wf64] at h3 h4
  simp only [spec_IsPacket.f, specIsId_eq, l01In_eq, l04Words_ev l (by omega) k hk, l04Zero_eq, iLt_eq, iLe_eq, iEq_eq, iNe_eq, bNot_eq, bEq_eq, bNe_eq, brB_nb, brB_dec, brB_true, brB_false, chk_idx, chk_len, chk_make, chk_sub, bnd_one, rLen_eq, rGet_nat, rSet_nat, rApp_eq, ↓reduceIte]
  rw [iSub_id (a := 65536) (b := (l.length : Int)) (by omega) (by omega)]
  simp only [packB, iSub_w, w64, iMin]
  generalize wordsOk l = w
  generalize (l.length : Int) = n at *
  cases w with
  | false => simp only [iLt_eq, iLe_eq, iEq_eq, iNe_eq, bNot_eq, bEq_eq, bNe_eq, brB_nb, brB_dec, brB_true, brB_false, chk_idx, chk_len, chk_make, chk_sub, bnd_one, rLen_eq, rGet_nat, rSet_nat, rApp_eq, ↓reduceIte, Bool.false_and]; split <;> rfl
  | true =>
    simp only [iLt_eq, iLe_eq, iEq_eq, iNe_eq, bNot_eq, bEq_eq, bNe_eq, brB_nb, brB_dec, brB_true, brB_false, chk_idx, chk_len, chk_make, chk_sub, bnd_one, rLen_eq, rGet_nat, rSet_nat, rApp_eq, ↓reduceIte, Bool.true_and]
    by_cases b0 : 0 ≤ a1 ∧ a1 ≤ 255
    · rw [if_pos b0]
      by_cases b1 : a0 = 1
      · subst b1; simp only [↓reduceIte]; (repeat' split) <;> (refine some_iff ?_ <;> (try simp only [packP, decide_eq_true_eq, Bool.false_eq_true, false_iff, true_iff, Int.reduceEq, false_or, or_false, false_and, true_and, and_true, and_false, true_or, or_true, iff_self, iff_false, iff_true] at *) <;> first | omega | (intro h; omega) | (constructor <;> intro h <;> omega) | trivial)
      by_cases b2 : a0 = 2
      · subst b2; simp only [Int.reduceEq, ↓reduceIte]; (repeat' split) <;> (refine some_iff ?_ <;> (try simp only [packP, decide_eq_true_eq, Bool.false_eq_true, false_iff, true_iff, Int.reduceEq, false_or, or_false, false_and, true_and, and_true, and_false, true_or, or_true, iff_self, iff_false, iff_true] at *) <;> first | omega | (intro h; omega) | (constructor <;> intro h <;> omega) | trivial)
      by_cases b3 : a0 = 3
      · subst b3; simp only [Int.reduceEq, ↓reduceIte]; (repeat' split) <;> (refine some_iff ?_ <;> (try simp only [packP, decide_eq_true_eq, Bool.false_eq_true, false_iff, true_iff, Int.reduceEq, false_or, or_false, false_and, true_and, and_true, and_false, true_or, or_true, iff_self, iff_false, iff_true] at *) <;> first | omega | (intro h; omega) | (constructor <;> intro h <;> omega) | trivial)
      by_cases b4 : a0 = 4
      · subst b4; simp only [Int.reduceEq, ↓reduceIte]; (repeat' split) <;> (refine some_iff ?_ <;> (try simp only [packP, decide_eq_true_eq, Bool.false_eq_true, false_iff, true_iff, Int.reduceEq, false_or, or_false, false_and, true_and, and_true, and_false, true_or, or_true, iff_self, iff_false, iff_true] at *) <;> first | omega | (intro h; omega) | (constructor <;> intro h <;> omega) | trivial)
      by_cases b5 : a0 = 5
      · subst b5; simp only [Int.reduceEq, ↓reduceIte]; (repeat' split) <;> (refine some_iff ?_ <;> (try simp only [packP, decide_eq_true_eq, Bool.false_eq_true, false_iff, true_iff, Int.reduceEq, false_or, or_false, false_and, true_and, and_true, and_false, true_or, or_true, iff_self, iff_false, iff_true] at *) <;> first | omega | (intro h; omega) | (constructor <;> intro h <;> omega) | trivial)
      by_cases b6 : a0 = 6
      · subst b6; simp only [Int.reduceEq, ↓reduceIte]; (repeat' split) <;> (refine some_iff ?_ <;> (try simp only [packP, decide_eq_true_eq, Bool.false_eq_true, false_iff, true_iff, Int.reduceEq, false_or, or_false, false_and, true_and, and_true, and_false, true_or, or_true, iff_self, iff_false, iff_true] at *) <;> first | omega | (intro h; omega) | (constructor <;> intro h <;> omega) | trivial)
      rw [if_neg b1, if_neg b2, if_neg b3, if_neg b4, if_neg b5, if_neg b6]
      exact congrArg some (decide_eq_false (by unfold packP; omega)).symm
    · rw [if_neg b0]
      exact congrArg some (decide_eq_false (by unfold packP; omega)).symm
/-- How many data a packet may have. -/
def dataP (a0 a4 a6 n : Int) : Prop := if a0 = 1 ∨ a0 = 2 then 1 ≤ n ∧ n ≤ 8 else if a0 = 5 then n = 1 else if a0 = 6 ∧ a6 = 0 then n ≤ 8 ∧ n ≤ a4 else n = 0
instance (a0 a4 a6 n : Int) : Decidable (dataP a0 a4 a6 n) := by unfold dataP; infer_instance
theorem dataOk_ev (a0 a1 a2 a3 a4 a5 a6 : Int) (l : List Int) (hl : l.length ≤ 4611686018427387904) (k : Nat) (hk : l.length < k) : impl_Packet__dataOk.f k a0 a1 a2 a3 a4 a5 a6 l = some (wordsOk l && decide (dataP a0 a4 a6 (l.length : Int))) := by
  simp only [impl_Packet__dataOk.f, slices_ContainsFunc_int_impl_Packet__dataOk_1.f, indexNotWord2 l hl k hk, bnd_one, found_iff l (fun x => decide (0 ≤ x ∧ x ≤ 65535)), within_eq]
  rw [show (l.all fun x => decide (0 ≤ x ∧ x ≤ 65535)) = wordsOk l from rfl]
  simp only [iLt_eq, iLe_eq, iEq_eq, iNe_eq, bNot_eq, bEq_eq, bNe_eq, brB_nb, brB_dec, brB_true, brB_false, chk_idx, chk_len, chk_make, chk_sub, bnd_one, rLen_eq, rGet_nat, rSet_nat, rApp_eq, ↓reduceIte]
  cases wordsOk l with
  | false => rfl
  | true =>
    simp only [iLt_eq, iLe_eq, iEq_eq, iNe_eq, bNot_eq, bEq_eq, bNe_eq, brB_nb, brB_dec, brB_true, brB_false, chk_idx, chk_len, chk_make, chk_sub, bnd_one, rLen_eq, rGet_nat, rSet_nat, rApp_eq, ↓reduceIte, Bool.true_and]
    unfold dataP
    by_cases b1 : a0 = 1
    · subst b1; simp only [Int.reduceEq, or_false, false_or, or_true, true_or, iLt_eq, iLe_eq, iEq_eq, iNe_eq, bNot_eq, bEq_eq, bNe_eq, brB_nb, brB_dec, brB_true, brB_false, chk_idx, chk_len, chk_make, chk_sub, bnd_one, rLen_eq, rGet_nat, rSet_nat, rApp_eq, ↓reduceIte]; (try rfl)
    by_cases b2 : a0 = 2
    · subst b2; simp only [Int.reduceEq, or_false, false_or, or_true, true_or, iLt_eq, iLe_eq, iEq_eq, iNe_eq, bNot_eq, bEq_eq, bNe_eq, brB_nb, brB_dec, brB_true, brB_false, chk_idx, chk_len, chk_make, chk_sub, bnd_one, rLen_eq, rGet_nat, rSet_nat, rApp_eq, ↓reduceIte]; (try rfl)
    by_cases b5 : a0 = 5
    · subst b5; simp only [Int.reduceEq, or_false, false_or, or_true, true_or, or_self, iLt_eq, iLe_eq, iEq_eq, iNe_eq, bNot_eq, bEq_eq, bNe_eq, brB_nb, brB_dec, brB_true, brB_false, chk_idx, chk_len, chk_make, chk_sub, bnd_one, rLen_eq, rGet_nat, rSet_nat, rApp_eq, ↓reduceIte]
    by_cases b6 : a0 = 6
    · subst b6; simp only [Int.reduceEq, or_false, false_or, or_true, true_or, or_self, true_and, iLt_eq, iLe_eq, iEq_eq, iNe_eq, bNot_eq, bEq_eq, bNe_eq, brB_nb, brB_dec, brB_true, brB_false, chk_idx, chk_len, chk_make, chk_sub, bnd_one, rLen_eq, rGet_nat, rSet_nat, rApp_eq, ↓reduceIte]; (repeat' split) <;> (refine some_iff ?_ <;> (try simp only [decide_eq_true_eq, Bool.false_eq_true, false_iff, true_iff, Int.reduceEq, false_or, or_false, false_and, true_and, and_true, and_false, true_or, or_true, iff_self, iff_false, iff_true] at *) <;> first | omega | (intro h; omega) | (constructor <;> intro h <;> omega) | trivial)
    simp only [b1, b2, b5, b6, or_self, false_and, iLt_eq, iLe_eq, iEq_eq, iNe_eq, bNot_eq, bEq_eq, bNe_eq, brB_nb, brB_dec, brB_true, brB_false, chk_idx, chk_len, chk_make, chk_sub, bnd_one, rLen_eq, rGet_nat, rSet_nat, rApp_eq, ↓reduceIte]
def addrP (a0 a3 a4 n : Int) : Prop := if a0 = 1 then (0 ≤ a3 ∧ a3 ≤ 65535) ∧ n ≤ 65536 - a3 else if a0 = 3 then (0 ≤ a3 ∧ a3 ≤ 65535) ∧ a4 ≤ 65536 - a3 else if a0 = 4 ∨ a0 = 5 then 0 ≤ a3 ∧ a3 ≤ 63 else a3 = 0
instance (a0 a3 a4 n : Int) : Decidable (addrP a0 a3 a4 n) := by unfold addrP; infer_instance
theorem addressOk_eq (k : Nat) (a0 a1 a2 a3 a4 a5 a6 : Int) (l : List Int) (h3 : (Lit.int .i64 a3).wf = true) : impl_Packet__addressOk.f k a0 a1 a2 a3 a4 a5 a6 l = some (decide (addrP a0 a3 a4 (l.length : Int))) := by
  rw [wf64] at h3
  simp only [impl_Packet__addressOk.f, within_eq, impl_Packet__words.f, iSub_w, w64, iLt_eq, iLe_eq, iEq_eq, iNe_eq, bNot_eq, bEq_eq, bNe_eq, brB_nb, brB_dec, brB_true, brB_false, chk_idx, chk_len, chk_make, chk_sub, bnd_one, rLen_eq, rGet_nat, rSet_nat, rApp_eq, ↓reduceIte]
  generalize (l.length : Int) = n
  unfold addrP
  by_cases b1 : a0 = 1
  · subst b1; simp only [Int.reduceEq, iLt_eq, iLe_eq, iEq_eq, iNe_eq, bNot_eq, bEq_eq, bNe_eq, brB_nb, brB_dec, brB_true, brB_false, chk_idx, chk_len, chk_make, chk_sub, bnd_one, rLen_eq, rGet_nat, rSet_nat, rApp_eq, ↓reduceIte]; (repeat' split) <;> (refine some_iff ?_ <;> (try simp only [decide_eq_true_eq, Bool.false_eq_true, false_iff, true_iff, Int.reduceEq, false_or, or_false, false_and, true_and, and_true, and_false, true_or, or_true, iff_self, iff_false, iff_true] at *) <;> first | omega | (intro h; omega) | (constructor <;> intro h <;> omega) | trivial)
  by_cases b3 : a0 = 3
  · subst b3; simp only [Int.reduceEq, iLt_eq, iLe_eq, iEq_eq, iNe_eq, bNot_eq, bEq_eq, bNe_eq, brB_nb, brB_dec, brB_true, brB_false, chk_idx, chk_len, chk_make, chk_sub, bnd_one, rLen_eq, rGet_nat, rSet_nat, rApp_eq, ↓reduceIte]; (repeat' split) <;> (refine some_iff ?_ <;> (try simp only [decide_eq_true_eq, Bool.false_eq_true, false_iff, true_iff, Int.reduceEq, false_or, or_false, false_and, true_and, and_true, and_false, true_or, or_true, iff_self, iff_false, iff_true] at *) <;> first | omega | (intro h; omega) | (constructor <;> intro h <;> omega) | trivial)
  by_cases b4 : a0 = 4
  · subst b4; simp only [Int.reduceEq, or_false, false_or, or_true, true_or, iLt_eq, iLe_eq, iEq_eq, iNe_eq, bNot_eq, bEq_eq, bNe_eq, brB_nb, brB_dec, brB_true, brB_false, chk_idx, chk_len, chk_make, chk_sub, bnd_one, rLen_eq, rGet_nat, rSet_nat, rApp_eq, ↓reduceIte]
  by_cases b5 : a0 = 5
  · subst b5; simp only [Int.reduceEq, or_false, false_or, or_true, true_or, iLt_eq, iLe_eq, iEq_eq, iNe_eq, bNot_eq, bEq_eq, bNe_eq, brB_nb, brB_dec, brB_true, brB_false, chk_idx, chk_len, chk_make, chk_sub, bnd_one, rLen_eq, rGet_nat, rSet_nat, rApp_eq, ↓reduceIte]
  simp only [b1, b3, b4, b5, or_self, iLt_eq, iLe_eq, iEq_eq, iNe_eq, bNot_eq, bEq_eq, bNe_eq, brB_nb, brB_dec, brB_true, brB_false, chk_idx, chk_len, chk_make, chk_sub, bnd_one, rLen_eq, rGet_nat, rSet_nat, rApp_eq, ↓reduceIte]
def lenP (a0 a4 : Int) : Prop := if a0 = 3 then 1 ≤ a4 ∧ a4 ≤ 64 else if a0 = 6 then 0 ≤ a4 ∧ a4 ≤ 64 else a4 = 0
instance (a0 a4 : Int) : Decidable (lenP a0 a4) := by unfold lenP; infer_instance
theorem lengthOk_eq (k : Nat) (a0 a1 a2 a3 a4 a5 a6 : Int) (l : List Int) : impl_Packet__lengthOk.f k a0 a1 a2 a3 a4 a5 a6 l = some (decide (lenP a0 a4)) := by
  simp only [impl_Packet__lengthOk.f, within_eq, iLt_eq, iLe_eq, iEq_eq, iNe_eq, bNot_eq, bEq_eq, bNe_eq, brB_nb, brB_dec, brB_true, brB_false, chk_idx, chk_len, chk_make, chk_sub, bnd_one, rLen_eq, rGet_nat, rSet_nat, rApp_eq, ↓reduceIte]
  unfold lenP
  (repeat' split) <;> rfl
theorem implIsPacket_ev (a0 a1 a2 a3 a4 a5 a6 : Int) (l : List Int) (hl : l.length ≤ 1048576) (h3 : (Lit.int .i64 a3).wf = true) (h4 : (Lit.int .i64 a4).wf = true) (k : Nat) (hk : l.length < k) : impl_IsPacket.f k a0 a1 a2 a3 a4 a5 a6 l = some (packB a0 a1 a2 a3 a4 a5 a6 l) := by
  by_cases b0 : 1 ≤ a0 ∧ a0 ≤ 6
  · simp only [impl_IsPacket.f, implIsId_eq, within_eq, dataOk_ev a0 a1 a2 a3 a4 a5 a6 l (by omega) k hk, addressOk_eq k a0 a1 a2 a3 a4 a5 a6 l h3, lengthOk_eq, bnd_one, iEq_eq, iNe_eq, brB_nb, bNot_eq, packB]
    rw [decide_eq_true b0]
    generalize wordsOk l = w
    generalize (l.length : Int) = n at *
    have : a0 = 1 ∨ a0 = 2 ∨ a0 = 3 ∨ a0 = 4 ∨ a0 = 5 ∨ a0 = 6 := by omega
    cases w with
    | false =>
      rcases this with rfl | rfl | rfl | rfl | rfl | rfl <;> simp only [Int.reduceEq, Int.reduceLE, decide_true, decide_false, bnd_one, brB_true, brB_false, brB_dec, and_self, and_true, and_false, true_and, false_and, Bool.false_and, ↓reduceIte] <;> (repeat' split) <;> rfl
    | true =>
      rcases this with rfl | rfl | rfl | rfl | rfl | rfl <;> simp only [Int.reduceEq, Int.reduceLE, decide_true, decide_false, bnd_one, brB_true, brB_false, brB_dec, and_self, and_true, and_false, true_and, false_and, Bool.true_and, dataP, packP, addrP, lenP, or_true, true_or, or_false, false_or, ↓reduceIte] <;> (repeat' split) <;> (refine some_iff ?_ <;> (try simp only [decide_eq_true_eq, Bool.false_eq_true, false_iff, true_iff, Int.reduceEq, false_or, or_false, false_and, true_and, and_true, and_false, true_or, or_true, iff_self, iff_false, iff_true] at *) <;> first | omega | (intro h; omega) | (constructor <;> intro h <;> omega) | trivial)
  · simp only [impl_IsPacket.f, within_eq, packB, bnd_one, decide_eq_false b0, bNot_eq, Bool.not_false, brB_true]
    rw [show decide (packP a0 a1 a2 a3 a4 a5 a6 (l.length : Int)) = false from decide_eq_false (by unfold packP; omega), Bool.and_false]
theorem szPacket_eq (k : Nat) (a0 a1 a2 a3 a4 a5 a6 : Int) (l : List Int) (n : Int) (hl : l.length ≤ 9223372036854775807) (h0 : 0 ≤ n) (h1 : n ≤ 1048576) : laws_szPacket.f k a0 a1 a2 a3 a4 a5 a6 l n = some (if (l.length : Int) ≤ n then n - l.length else -1) := by
  simp only [laws_szPacket.f, szIntS_eq k l n hl h0 h1, iLt_eq, iLe_eq, iEq_eq, iNe_eq, bNot_eq, bEq_eq, bNe_eq, brB_nb, brB_dec, brB_true, brB_false, chk_idx, chk_len, chk_make, chk_sub, bnd_one, rLen_eq, rGet_nat, rSet_nat, rApp_eq, ↓reduceIte]
  (repeat' split) <;> first | rfl | omega
theorem toPacket_ev (a0 a1 a2 a3 a4 a5 a6 : Int) (l : List Int) (hl : l.length ≤ 1048576) (k : Nat) (hk : l.length < k) : laws_toPacket.f k a0 a1 a2 a3 a4 a5 a6 l = some (a0, a1, a2, a3, a4, a5, a6, l) := by
  simp only [laws_toPacket.f, toIntS_ev l hl k hk, bnd_one]
theorem eqPacket_refl (a0 a1 a2 a3 a4 a5 a6 : Int) (l : List Int) (hl : l.length ≤ 4611686018427387904) (k : Nat) (hk : l.length < k) : laws_eqPacket.f k a0 a1 a2 a3 a4 a5 a6 l a0 a1 a2 a3 a4 a5 a6 l = some true := by
  simp only [laws_eqPacket.f, eqIntS_refl l hl k hk, iLt_eq, iLe_eq, iEq_eq, iNe_eq, bNot_eq, bEq_eq, bNe_eq, brB_nb, brB_dec, brB_true, brB_false, chk_idx, chk_len, chk_make, chk_sub, bnd_one, rLen_eq, rGet_nat, rSet_nat, rApp_eq, ↓reduceIte, decide_true]
theorem markPacket_ev (a0 a1 a2 a3 a4 a5 a6 : Int) (l : List Int) (m : Int) (hn : l.length ≤ 1000000000000) (h0 : 0 ≤ m) (h1 : m ≤ 1000000000000) (k : Nat) (hk : l.length < k) : laws_markPacket.f k a0 a1 a2 a3 a4 a5 a6 l m = some (m + l.length, marks m l.length) := by
  simp only [laws_markPacket.f, markIntS_ev l m hn h0 h1 k hk, bnd_one]
/-- How long the next piece is. -/
def mOf (pay a : Int) (n : Nat) : Nat := (iMin (pay - a.tmod pay) (n : Int)).toNat
theorem mOf_ok {pay a : Int} {n : Nat} (hp : 1 ≤ pay ∧ pay ≤ 8) (ha : 0 ≤ a) (hn : 0 < n) : 1 ≤ mOf pay a n ∧ mOf pay a n ≤ n ∧ mOf pay a n ≤ 8 ∧ iMin (pay - a.tmod pay) (n : Int) = (mOf pay a n : Int) := by
  have h0 := Int.tmod_nonneg pay ha
  have h1 := Int.tmod_lt_of_pos a (show 0 < pay by omega)
  unfold mOf iMin
  split <;> omega
/-- The pieces of a range. -/
def pcsL (pay : Int) : Nat → Int → Nat → List (Int × Int)
  | 0, _, _ => []
  | f + 1, a, n => if n = 0 then [] else (a, (mOf pay a n : Int)) :: pcsL pay f (a + mOf pay a n) (n - mOf pay a n)
theorem pcsL_len (pay : Int) : ∀ (f : Nat) (a : Int) (n : Nat), (pcsL pay f a n).length ≤ f
  | 0, _, _ => Nat.le_refl _
  | f + 1, a, n => by
    simp only [pcsL]
    split
    · simp
    · have := pcsL_len pay f (a + mOf pay a n) (n - mOf pay a n)
      simp only [List.length_cons]; omega
noncomputable def srF (k : Nat) (rec : (Int × Int × Int × (List (Int × Int))) → Option (List (Int × Int))) (x : Int × Int × Int × (List (Int × Int))) : Option (List (Int × Int)) := impl_SplitRange.s0 k rec x.1 x.2.1 x.2.2.1 x.2.2.2
theorem splitLoop (k : Nat) (pay : Int) (hp : 1 ≤ pay ∧ pay ≤ 8) : ∀ (f : Nat) (a : Int) (n : Nat) (out : List (Int × Int)) (K : Nat), n ≤ f → f < K → 0 ≤ a → a + n ≤ 65536 → out.length + n ≤ 100 → iter (srF k) K (a, (n : Int), pay, out) = some (out ++ pcsL pay f a n)
  | f, a, n, out, 0, _, hK, _, _, _ => by omega
  | 0, a, n, out, K + 1, hn, hK, h0, h1, h2 => by
    obtain rfl : n = 0 := by omega
    show impl_SplitRange.s0 k (iter (srF k) K) a ((0 : Nat) : Int) pay out = _
    generalize iter (srF k) K = rec
    simp only [impl_SplitRange.s0, iLt_eq, brB_dec, pcsL, List.append_nil]
    rw [if_neg (by omega)]
  | f + 1, a, n, out, K + 1, hn, hK, h0, h1, h2 => by
    show impl_SplitRange.s0 k (iter (srF k) K) a (n : Int) pay out = _
    by_cases hz : n = 0
    · subst hz
      generalize iter (srF k) K = rec
      simp only [impl_SplitRange.s0, iLt_eq, brB_dec, pcsL, ↓reduceIte, List.append_nil]
      rw [if_neg (by omega)]
    · obtain ⟨m1, m2, m3, m4⟩ := mOf_ok (a := a) hp h0 (Nat.pos_of_ne_zero hz)
      have t0 := Int.tmod_nonneg pay h0
      have t1 := Int.tmod_lt_of_pos a (show 0 < pay by omega)
      have ih := splitLoop k pay hp f (a + mOf pay a n) (n - mOf pay a n) (out ++ [(a, (mOf pay a n : Int))]) K (by omega) (by omega) (by omega) (by omega) (by simp only [List.length_append, List.length_cons, List.length_nil]; omega)
      simp only [impl_SplitRange.s0, iLt_eq, brB_dec, chk_nz, chk_len, rLen_eq, rApp_eq, pcsL, if_neg hz]
      rw [if_pos (by omega), if_neg (by omega), show iRem a pay = a.tmod pay from rfl, iSub_id (a := pay) (by omega) (by omega), m4, if_pos (by simp only [List.length_append, List.length_cons, List.length_nil]; omega), iAdd_id (by omega) (by omega), iSub_id (by omega) (by omega),
        show (n : Int) - (mOf pay a n : Int) = ((n - mOf pay a n : Nat) : Int) by omega, ih]
      simp
theorem isPayload_eq (k : Nat) (n : Int) : impl_IsPayload.f k n = some (decide (n = 1 ∨ n = 2 ∨ n = 4 ∨ n = 8)) := by
  simp only [impl_IsPayload.f, iLt_eq, iLe_eq, iEq_eq, iNe_eq, bNot_eq, bEq_eq, bNe_eq, brB_nb, brB_dec, brB_true, brB_false, chk_idx, chk_len, chk_make, chk_sub, bnd_one, rLen_eq, rGet_nat, rSet_nat, rApp_eq, ↓reduceIte]
  by_cases h1 : n = 1
  · subst h1; rfl
  by_cases h2 : n = 2
  · subst h2; rfl
  by_cases h3 : n = 4
  · subst h3; rfl
  simp [h1, h2, h3]
theorem splitRange_ev (a : Int) (n : Nat) (pay : Int) (hp : pay = 1 ∨ pay = 2 ∨ pay = 4 ∨ pay = 8) (h0 : 0 ≤ a) (h1 : a + n ≤ 65536) (hn : 1 ≤ n ∧ n ≤ 64) (k : Nat) (hk : 100 < k) : impl_SplitRange.f k a (n : Int) pay = some (pcsL pay n a n) := by
  have h := splitLoop k pay (by omega) n a n [] k (by omega) (by omega) h0 h1 (by simp; omega)
  simp only [impl_SplitRange.f, isPayload_eq, within_eq, bnd_one, decide_eq_true hp, bNot_eq, brB_nb, brB_true]
  rw [iSub_id (by omega) (by omega), decide_eq_true (show 1 ≤ (n : Int) ∧ (n : Int) ≤ 64 by omega), decide_eq_true (show 0 ≤ a ∧ a ≤ 65536 - (n : Int) by omega)]
  exact h
/-- The answer of one piece. -/
def ansP (from_ by_ tag a0 : Int) (d : List Int) (p : Int × Int) : Int × Int × Int × Int × Int × Int × Int × List Int :=
  (6, by_, from_, 0, (d.length : Int) - (p.1 - a0), tag, 0, (d.take (p.1 - a0 + p.2).toNat).drop (p.1 - a0).toNat)
/-- The answers to a read, as their rest is worked off. -/
def ansL (pay from_ by_ tag : Int) : Nat → Int → List Int → List (Int × Int × Int × Int × Int × Int × Int × List Int)
  | 0, _, _ => []
  | f + 1, a, d => if d.length = 0 then [] else (6, by_, from_, 0, (d.length : Int), tag, 0, d.take (mOf pay a d.length)) :: ansL pay from_ by_ tag f (a + mOf pay a d.length) (d.drop (mOf pay a d.length))
theorem ans_map (pay from_ by_ tag a0 : Int) (hp : 1 ≤ pay ∧ pay ≤ 8) (h0 : 0 ≤ a0) (d : List Int) : ∀ (f o : Nat), o ≤ d.length → (pcsL pay f (a0 + o) (d.length - o)).map (ansP from_ by_ tag a0 d) = ansL pay from_ by_ tag f (a0 + o) (d.drop o)
  | 0, o, _ => rfl
  | f + 1, o, ho => by
    simp only [pcsL, ansL, List.length_drop]
    by_cases hz : d.length - o = 0
    · rw [if_pos hz, if_pos hz]; rfl
    · rw [if_neg hz, if_neg hz]
      obtain ⟨m1, m2, m3, m4⟩ := mOf_ok (a := a0 + o) hp (by omega) (Nat.pos_of_ne_zero hz)
      generalize mOf pay (a0 + o) (d.length - o) = m at *
      have ih := ans_map pay from_ by_ tag a0 hp h0 d f (o + m) (by omega)
      rw [show a0 + (o : Int) + (m : Int) = a0 + ((o + m : Nat) : Int) by omega, show d.length - o - m = d.length - (o + m) by omega, List.map_cons, ih, List.drop_drop]
      congr 1
      simp only [ansP]
      rw [show a0 + (o : Int) - a0 = (o : Int) by omega, show ((o : Int) + (m : Int)).toNat = o + m by omega, Int.toNat_natCast, show (d.length : Int) - (o : Int) = ((d.length - o : Nat) : Int) by omega]
      congr 7
      rw [List.drop_take, show o + m - o = m by omega]
theorem pcs_in (pay a0 : Int) (hp : 1 ≤ pay ∧ pay ≤ 8) (h0 : 0 ≤ a0) (n : Nat) : ∀ (f o : Nat), o ≤ n → ∀ p ∈ pcsL pay f (a0 + o) (n - o), 0 ≤ p.1 - a0 ∧ 0 ≤ p.2 ∧ p.1 - a0 + p.2 ≤ n
  | 0, o, _, p, hm => by simp [pcsL] at hm
  | f + 1, o, ho, p, hm => by
    simp only [pcsL] at hm
    split at hm
    · simp at hm
    · rename_i hz
      obtain ⟨m1, m2, m3, m4⟩ := mOf_ok (a := a0 + o) hp (by omega) (Nat.pos_of_ne_zero hz)
      generalize mOf pay (a0 + o) (n - o) = m at *
      rcases List.mem_cons.1 hm with rfl | hm
      · exact ⟨by show 0 ≤ a0 + (o : Int) - a0; omega, by show (0 : Int) ≤ m; omega, by show a0 + (o : Int) - a0 + (m : Int) ≤ n; omega⟩
      · rw [show a0 + (o : Int) + (m : Int) = a0 + ((o + m : Nat) : Int) by omega, show n - o - m = n - (o + m) by omega] at hm
        exact pcs_in pay a0 hp h0 n f (o + m) (by omega) p hm
/-- The answers to a valid read. -/
theorem answersTo_ev (p1 p3 p5 by_ pay : Int) (d : List Int) (hd : 1 ≤ d.length ∧ d.length ≤ 64) (hw : wordsOk d = true) (h1 : 0 ≤ p1 ∧ p1 ≤ 255) (h3 : 0 ≤ p3) (h4 : p3 + d.length ≤ 65536) (h5 : 0 ≤ p5 ∧ p5 ≤ 7) (hb : 0 ≤ by_ ∧ by_ ≤ 255) (hp : pay = 1 ∨ pay = 2 ∨ pay = 4 ∨ pay = 8) (k : Nat) (hk : 200 < k) :
    impl_AnswersTo.f k 3 p1 0 p3 (d.length : Int) p5 0 [] by_ d pay = some (ansL pay p1 by_ p5 d.length p3 d) := by
  have hpk : packB 3 p1 0 p3 (d.length : Int) p5 0 [] = true := by
    simp only [packB, wordsOk, List.all_nil, Bool.true_and, decide_eq_true_eq]
    exact ⟨h1, .inr (.inr (.inl ⟨rfl, rfl, by omega, by omega, h5, rfl, rfl⟩))⟩
  have hm := ans_map pay p1 by_ p5 p3 (by omega) h3 d d.length 0 (by omega)
  have hi := pcs_in pay p3 (by omega) h3 d.length d.length 0 (by omega)
  simp only [Nat.sub_zero, List.drop_zero, show p3 + ((0 : Nat) : Int) = p3 by omega] at hm hi
  simp only [impl_AnswersTo.f, implIsPacket_ev 3 p1 0 p3 (d.length : Int) p5 0 [] (by simp) (by rw [wf64]; omega) (by rw [wf64]; omega) k (by simp; omega), hpk, implIsId_eq, areWords_ev d (by omega) k (by omega), hw, isPayload_eq, decide_eq_true hp, decide_eq_true hb, splitRange_ev p3 d.length pay hp h3 h4 hd k (by omega),
    bnd_one, bNot_eq, brB_nb, brB_true, rLen_eq, iNe_eq, decide_true, brB_true]
  have hl := pcsL_len pay d.length p3 d.length
  generalize pcsL pay d.length p3 d.length = pl at *
  rw [← hm]
  have h := iter_upto (f := fun (rec : (Int × List Int × (List (Int × Int × Int × Int × Int × Int × Int × List Int)) × (List (Int × Int)) × Int × Int × Int × Int × Int × Int × Int × Int × Int × List Int) → Option (List (Int × Int × Int × Int × Int × Int × Int × List Int))) (x : Int × List Int × (List (Int × Int × Int × Int × Int × Int × Int × List Int)) × (List (Int × Int)) × Int × Int × Int × Int × Int × Int × Int × Int × Int × List Int) => impl_AnswersTo.s0 k rec x.1 x.2.1 x.2.2.1 x.2.2.2.1 x.2.2.2.2.1 x.2.2.2.2.2.1 x.2.2.2.2.2.2.1 x.2.2.2.2.2.2.2.1 x.2.2.2.2.2.2.2.2.1 x.2.2.2.2.2.2.2.2.2.1 x.2.2.2.2.2.2.2.2.2.2.1 x.2.2.2.2.2.2.2.2.2.2.2.1 x.2.2.2.2.2.2.2.2.2.2.2.2.1 x.2.2.2.2.2.2.2.2.2.2.2.2.2)
    (fun i => (by_, d, (pl.take i).map (ansP p1 by_ p5 p3 d), pl, (pl.length : Int), (i : Int), 3, p1, 0, p3, (d.length : Int), p5, 0, [])) pl.length (r := pl.map (ansP p1 by_ p5 p3 d)) (fun rec i hj => ?_) (fun rec => ?_) (n := k) (by omega)
  · exact h
  · obtain ⟨q1, q2, q3⟩ := hi pl[i] (List.getElem_mem hj)
    have e : rGet (0, 0) pl (i : Int) = pl[i] := getD_lt _ _ hj
    have et : (pl.take (i + 1)).map (ansP p1 by_ p5 p3 d) = (pl.take i).map (ansP p1 by_ p5 p3 d) ++ [ansP p1 by_ p5 p3 d pl[i]] := by rw [List.take_succ_eq_append_getElem hj, List.map_append]; rfl
    have lt : ((pl.take i).map (ansP p1 by_ p5 p3 d)).length = i := by simp; omega
    rw [et]
    simp only [impl_AnswersTo.s0, slices_Clone_int.f, e, iLt_eq, brB_dec, chk_idx, chk_sub, chk_len, rLen_eq, rApp_eq]
    generalize pl[i] = pc at *
    obtain ⟨b, m⟩ := pc
    simp only at q1 q2 q3
    dsimp only
    have hs : (rSub d (b - p3) (b - p3 + m)).length ≤ d.length := by simp only [rSub, List.length_drop, List.length_take]; omega
    rw [if_pos (by omega), if_idx hj, iSub_id (a := b) (by omega) (by omega), iAdd_id (a := b - p3) (by omega) (by omega), if_pos (by omega), iSub_id (a := (d.length : Int)) (by omega) (by omega), next_id hj (by omega), if_pos (by omega)]
    rw [bnd_one, if_pos (by simp only [List.length_append, List.length_cons, List.length_nil, lt]; omega)]
    simp only [ansP, rSub]
  · simp only [impl_AnswersTo.s0, iLt_eq, brB_dec, List.take_length]
    rw [if_neg (by omega)]
theorem ansL_len (pay from_ by_ tag : Int) : ∀ (f : Nat) (a : Int) (d : List Int), (ansL pay from_ by_ tag f a d).length ≤ f
  | 0, _, _ => Nat.le_refl _
  | f + 1, a, d => by
    simp only [ansL]
    split
    · simp
    · have := ansL_len pay from_ by_ tag f (a + mOf pay a d.length) (d.drop (mOf pay a d.length))
      simp only [List.length_cons]; omega
theorem drop_cons_get {α : Type} {l t : List α} {i : Nat} {x : α} (h : l.drop i = x :: t) (d : α) : i < l.length ∧ rGet d l (i : Int) = x ∧ l.drop (i + 1) = t := by
  have hi : i < l.length := by
    rcases Nat.lt_or_ge i l.length with h' | h'
    · exact h'
    · rw [List.drop_eq_nil_of_le h'] at h; cases h
  rw [List.drop_eq_getElem_cons hi] at h
  injection h with h1 h2
  exact ⟨hi, (getD_lt d l hi).trans h1, h2⟩
/-- How many data packets have. -/
def dSum (l : List (Int × Int × Int × Int × Int × Int × Int × List Int)) : Nat := (l.map fun p => p.2.2.2.2.2.2.2.length).sum
theorem dSum_cons (p : Int × Int × Int × Int × Int × Int × Int × List Int) (l : List (Int × Int × Int × Int × Int × Int × Int × List Int)) : dSum (p :: l) = p.2.2.2.2.2.2.2.length + dSum l := by simp [dSum]
theorem ansL_sum {pay from_ by_ tag : Int} : ∀ (f : Nat) (a : Int) (d : List Int), dSum (ansL pay from_ by_ tag f a d) ≤ d.length
  | 0, a, d => by simp [ansL, dSum]
  | f + 1, a, d => by
    simp only [ansL]
    split
    · simp [dSum]
    · rw [dSum_cons]
      have := ansL_sum (pay := pay) (from_ := from_) (by_ := by_) (tag := tag) f (a + mOf pay a d.length) (d.drop (mOf pay a d.length))
      simp only [List.length_take, List.length_drop] at this ⊢
      omega
/-- How many numbers nested rows have. -/
def rSum {α : Type} (z : α → Nat) (l : List α) : Nat := (l.map z).sum
theorem rSum_cons {α : Type} (z : α → Nat) (x : α) (l : List α) : rSum z (x :: l) = z x + rSum z l := by simp [rSum]
theorem rSum_le {α : Type} {z : α → Nat} {l : List α} {x : α} (h : x ∈ l) : z x ≤ rSum z l := by
  induction l with
  | nil => cases h
  | cons y l ih =>
    rw [rSum_cons]
    rcases List.mem_cons.1 h with rfl | h
    · omega
    · have := ih h; omega
theorem rGet_rSet {α : Type} (d : α) {l : List α} {i : Nat} (h : i < l.length) (x : α) : rGet d (rSet l (i : Int) x) (i : Int) = x := by
  rw [rGet_nat, rSet_nat]; simp [h]
theorem rSet_rSet {α : Type} (l : List α) (i : Int) (x y : α) : rSet (rSet l i x) i y = rSet l i y := by simp [rSet]
theorem rLen_rSet {α : Type} (l : List α) (i : Int) (x : α) : rLen (rSet l i x) = rLen l := by simp [rLen, rSet]
theorem len_rSet {α : Type} (l : List α) (i : Int) (x : α) : (rSet l i x).length = l.length := by simp [rSet]
theorem nam_eq {A R : Type} (x : A) (f : A → Option R) : nam x f = f x := rfl
def offs {α : Type} (w : α → Nat) (xs : List α) (s : Int) (i : Nat) : Int := s + (rSum w (xs.take i) : Nat)
theorem offs_zero {α : Type} (w : α → Nat) (xs : List α) (s : Int) : offs w xs s 0 = s := by simp [offs, rSum]
theorem offs_succ {α : Type} (w : α → Nat) (xs : List α) (s : Int) {i : Nat} (h : i < xs.length) : offs w xs s (i + 1) = offs w xs s i + w xs[i] := by
  have : rSum w (xs.take (i + 1)) = rSum w (xs.take i) + w xs[i] := by
    unfold rSum
    rw [List.take_succ_eq_append_getElem h, List.map_append, List.sum_append]
    simp
  simp only [offs, this]
  omega
theorem offs_le {α : Type} (w : α → Nat) : ∀ (xs : List α) (s : Int) (i : Nat), offs w xs s i ≤ s + (rSum w xs : Nat)
  | [], s, i => by simp [offs, rSum]
  | x :: xs, s, 0 => by simp [offs, rSum]; omega
  | x :: xs, s, i + 1 => by
    have := offs_le w xs s i
    simp only [offs, List.take_succ_cons, rSum_cons] at this ⊢
    omega
theorem offs_ge {α : Type} (w : α → Nat) (xs : List α) (s : Int) (i : Nat) : s ≤ offs w xs s i := by simp only [offs]; omega
def pGot (p : Int × Int × Int × Int × Int × Int × Int × List Int) : Nat := p.2.2.2.2.2.2.2.length
theorem eqPacketS_refl (xs : List (Int × Int × Int × Int × Int × Int × Int × List Int)) (hn : xs.length ≤ 1048576) (hz : ∀ x ∈ xs, pGot x ≤ 1048576) (k : Nat) (hk : 3000000 < k) : laws_eqPacketS.f k xs xs = some true := by
  simp only [laws_eqPacketS.f, laws_eqPacketS.l0, iNe_eq, decide_true, Bool.not_true, brB_false]
  refine iter_upto (f := fun (rec : ((List (Int × Int × Int × Int × Int × Int × Int × List Int)) × (List (Int × Int × Int × Int × Int × Int × Int × List Int)) × Int) → Option (Bool)) (x : (List (Int × Int × Int × Int × Int × Int × Int × List Int)) × (List (Int × Int × Int × Int × Int × Int × Int × List Int)) × Int) => laws_eqPacketS.s0 k rec x.1 x.2.1 x.2.2) (fun i => (xs, xs, (i : Int))) xs.length (fun rec i hi => ?_) (fun rec => ?_) (by omega)
  · have e : rGet (0, 0, 0, 0, 0, 0, 0, []) xs (i : Int) = xs[i] := getD_lt _ _ hi
    have hg := hz _ (List.getElem_mem hi)
    simp only [laws_eqPacketS.s0, e, iLt_eq, brB_dec, chk_idx, rLen_eq]
    rw [if_pos (by omega), if_idx hi, if_idx hi, eqPacket_refl _ _ _ _ _ _ _ _ (by unfold pGot at hg; omega) k (by unfold pGot at hg; omega), next_id hi (by omega)]; rfl
  · simp only [laws_eqPacketS.s0, iLt_eq, brB_dec, rLen_eq]
    rw [if_neg (by omega)]
def pMark (x : Int × Int × Int × Int × Int × Int × Int × List Int) (s : Int) : Int × Int × Int × Int × Int × Int × Int × List Int := (s, s + 1, s + 2, s + 3, s + 4, s + 5, s + 6, marks (s + 7) x.2.2.2.2.2.2.2.length)
def pN (x : Int × Int × Int × Int × Int × Int × Int × List Int) : Nat := x.2.2.2.2.2.2.2.length + 7
theorem rSum_p (o : List (Int × Int × Int × Int × Int × Int × Int × List Int)) : rSum pN o = rSum pGot o + 7 * o.length := by
  induction o with
  | nil => rfl
  | cons x o ih => rw [rSum_cons, rSum_cons, ih, List.length_cons, pN, pGot]; omega
def pMarks (xs : List (Int × Int × Int × Int × Int × Int × Int × List Int)) (s : Int) : List (Int × Int × Int × Int × Int × Int × Int × List Int) := (List.range xs.length).map fun j => pMark (xs.getD j (0, 0, 0, 0, 0, 0, 0, [])) (offs pN xs s j)
theorem markPacketS_ev (xs : List (Int × Int × Int × Int × Int × Int × Int × List Int)) (s : Int) (hn : xs.length ≤ 1048576) (hz : ∀ x ∈ xs, pGot x ≤ 1048576) (h0 : 0 ≤ s) (hb : s + (rSum pN xs : Nat) ≤ 100000000000) (k : Nat) (hk : 3000000 < k) :
    laws_markPacketS.f k xs s = some (offs pN xs s xs.length, pMarks xs s) := by
  simp only [laws_markPacketS.f, laws_markPacketS.l0]
  have h := iter_upto (f := fun (rec : ((List (Int × Int × Int × Int × Int × Int × Int × List Int)) × Int × Int) → Option (Int × List (Int × Int × Int × Int × Int × Int × Int × List Int))) (x : (List (Int × Int × Int × Int × Int × Int × Int × List Int)) × Int × Int) => laws_markPacketS.s0 k rec x.1 x.2.1 x.2.2)
    (fun i => (fill (fun j => pMark (xs.getD j (0, 0, 0, 0, 0, 0, 0, [])) (offs pN xs s j)) xs i, offs pN xs s i, (i : Int))) xs.length (r := (offs pN xs s xs.length, pMarks xs s)) (fun rec i hi => ?_) (fun rec => ?_) (n := k) (by omega)
  · rw [fill_zero, offs_zero] at h; exact h
  · have e' : xs.getD i (0, 0, 0, 0, 0, 0, 0, []) = xs[i] := getD_lt _ _ hi
    have hg : pGot xs[i] ≤ 1048576 := hz _ (List.getElem_mem hi)
    unfold pGot at hg
    have a1 := offs_le pN xs s (i + 1)
    have a2 := offs_ge pN xs s i
    rw [offs_succ pN xs s hi] at a1 ⊢
    have hw : pN xs[i] = xs[i].2.2.2.2.2.2.2.length + 7 := rfl
    have hl : i < (fill (fun j => pMark (xs.getD j (0, 0, 0, 0, 0, 0, 0, [])) (offs pN xs s j)) xs i).length := by rw [fill_len (Nat.le_of_lt hi)]; exact hi
    have hget : rGet (0, 0, 0, 0, 0, 0, 0, []) (fill (fun j => pMark (xs.getD j (0, 0, 0, 0, 0, 0, 0, [])) (offs pN xs s j)) xs i) (i : Int) = xs[i] := by
      rw [rGet_nat, fill_get i (Nat.le_refl _), e']
    have hset := fill_set (g := fun j => pMark (xs.getD j (0, 0, 0, 0, 0, 0, 0, [])) (offs pN xs s j)) hi
    have hL := fill_len (g := fun j => pMark (xs.getD j (0, 0, 0, 0, 0, 0, 0, [])) (offs pN xs s j)) (xs := xs) (Nat.le_of_lt hi)
    generalize fill (fun j => pMark (xs.getD j (0, 0, 0, 0, 0, 0, 0, [])) (offs pN xs s j)) xs i = L at hl hget hset hL ⊢
    simp only [laws_markPacketS.s0, nam_eq, rGet_rSet _ hl, rSet_rSet, rLen_rSet, hget, iLt_eq, brB_dec, chk_idx, rLen_eq, len_rSet, hL]
    have q1 : iAdd .i64 (offs pN xs s i) 1 = offs pN xs s i + 1 := iAdd_id (by omega) (by omega)
    have q2 : iAdd .i64 (offs pN xs s i + 1) 1 = offs pN xs s i + 2 := by rw [iAdd_id (by omega) (by omega)]; omega
    have q3 : iAdd .i64 (offs pN xs s i + 2) 1 = offs pN xs s i + 3 := by rw [iAdd_id (by omega) (by omega)]; omega
    have q4 : iAdd .i64 (offs pN xs s i + 3) 1 = offs pN xs s i + 4 := by rw [iAdd_id (by omega) (by omega)]; omega
    have q5 : iAdd .i64 (offs pN xs s i + 4) 1 = offs pN xs s i + 5 := by rw [iAdd_id (by omega) (by omega)]; omega
    have q6 : iAdd .i64 (offs pN xs s i + 5) 1 = offs pN xs s i + 6 := by rw [iAdd_id (by omega) (by omega)]; omega
    have q7 : iAdd .i64 (offs pN xs s i + 6) 1 = offs pN xs s i + 7 := by rw [iAdd_id (by omega) (by omega)]; omega
    simp only [q1, q2, q3, q4, q5, q6, q7]
    rw [if_pos (by omega), if_idx hi, if_idx hi, if_idx hi, if_idx hi, if_idx hi, if_idx hi, if_idx hi, if_idx hi, markIntS_ev _ _ (by omega) (by omega) (by omega) k (by omega), bnd_one]
    dsimp only
    rw [next_id hi (by omega), rSet_nat, show offs pN xs s i + (pN xs[i] : Int) = offs pN xs s i + 7 + (xs[i].2.2.2.2.2.2.2.length : Int) by omega, ← hset, e']
    rfl
  · have h2 := fill_end (g := fun j => pMark (xs.getD j (0, 0, 0, 0, 0, 0, 0, [])) (offs pN xs s j)) (xs := xs)
    simp only [laws_markPacketS.s0, h2, iLt_eq, brB_dec, rLen_eq, List.length_map, List.length_range]
    rw [if_neg (by omega)]
    rfl
theorem pMarks_get (xs : List (Int × Int × Int × Int × Int × Int × Int × List Int)) (s : Int) {i : Nat} (hi : i < xs.length) : rGet (0, 0, 0, 0, 0, 0, 0, []) (pMarks xs s) (i : Int) = pMark xs[i] (offs pN xs s i) := by
  rw [rGet_nat]
  simp [pMarks, hi]
theorem pMarks_len (xs : List (Int × Int × Int × Int × Int × Int × Int × List Int)) (s : Int) : (pMarks xs s).length = xs.length := by simp [pMarks]
theorem heldPacketS_ev (xs : List (Int × Int × Int × Int × Int × Int × Int × List Int)) (s : Int) (hn : xs.length ≤ 1048576) (hz : ∀ x ∈ xs, pGot x ≤ 1048576) (h0 : 0 ≤ s) (hb : s + (rSum pN xs : Nat) ≤ 100000000000) (k : Nat) (hk : 3000000 < k) :
    laws_heldPacketS.f k (pMarks xs s) s = some (offs pN xs s xs.length) := by
  simp only [laws_heldPacketS.f, laws_heldPacketS.l0]
  have h := iter_upto (f := fun (rec : ((List (Int × Int × Int × Int × Int × Int × Int × List Int)) × Int × Int) → Option Int) (x : (List (Int × Int × Int × Int × Int × Int × Int × List Int)) × Int × Int) => laws_heldPacketS.s0 k rec x.1 x.2.1 x.2.2)
    (fun i => (pMarks xs s, offs pN xs s i, (i : Int))) xs.length (r := offs pN xs s xs.length) (fun rec i hi => ?_) (fun rec => ?_) (n := k) (by omega)
  · rw [offs_zero] at h; exact h
  · have hg : pGot xs[i] ≤ 1048576 := hz _ (List.getElem_mem hi)
    unfold pGot at hg
    have a1 := offs_le pN xs s (i + 1)
    have a2 := offs_ge pN xs s i
    rw [offs_succ pN xs s hi] at a1 ⊢
    have hw : pN xs[i] = xs[i].2.2.2.2.2.2.2.length + 7 := rfl
    have q1 : iAdd .i64 (offs pN xs s i) 1 = offs pN xs s i + 1 := iAdd_id (by omega) (by omega)
    have q2 : iAdd .i64 (offs pN xs s i + 1) 1 = offs pN xs s i + 2 := by rw [iAdd_id (by omega) (by omega)]; omega
    have q3 : iAdd .i64 (offs pN xs s i + 2) 1 = offs pN xs s i + 3 := by rw [iAdd_id (by omega) (by omega)]; omega
    have q4 : iAdd .i64 (offs pN xs s i + 3) 1 = offs pN xs s i + 4 := by rw [iAdd_id (by omega) (by omega)]; omega
    have q5 : iAdd .i64 (offs pN xs s i + 4) 1 = offs pN xs s i + 5 := by rw [iAdd_id (by omega) (by omega)]; omega
    have q6 : iAdd .i64 (offs pN xs s i + 5) 1 = offs pN xs s i + 6 := by rw [iAdd_id (by omega) (by omega)]; omega
    have q7 : iAdd .i64 (offs pN xs s i + 6) 1 = offs pN xs s i + 7 := by rw [iAdd_id (by omega) (by omega)]; omega
    simp only [laws_heldPacketS.s0, pMarks_get xs s hi, pMark, iLt_eq, iNe_eq, brB_nb, brB_dec, chk_idx, rLen_eq, pMarks_len, q1, q2, q3, q4, q5, q6, q7]
    rw [if_pos (by omega), if_idx hi, if_pos trivial, if_idx hi, if_pos trivial, if_idx hi, if_pos trivial, if_idx hi, if_pos trivial, if_idx hi, if_pos trivial, if_idx hi, if_pos trivial, if_idx hi, if_pos trivial, if_idx hi, heldIntS_ev _ _ (by omega) (by omega) (by omega) k (by omega), bnd_one,
      if_neg (by omega), next_id hi (by omega), show offs pN xs s i + 7 + (xs[i].2.2.2.2.2.2.2.length : Int) = offs pN xs s i + (pN xs[i] : Int) by omega]
  · simp only [laws_heldPacketS.s0, pMarks_len, iLt_eq, brB_dec, rLen_eq]
    rw [if_neg (by omega)]

theorem iMin_comm (a b : Int) : iMin a b = iMin b a := by unfold iMin; split <;> split <;> omega
theorem specIsPayload_eq (k : Nat) (n : Int) : spec_IsPayload.f k n = some (decide (n = 1 ∨ n = 2 ∨ n = 4 ∨ n = 8)) := by
  simp only [spec_IsPayload.f, iLt_eq, iLe_eq, iEq_eq, iNe_eq, bNot_eq, bEq_eq, bNe_eq, brB_nb, brB_dec, brB_true, brB_false, chk_idx, chk_len, chk_make, chk_sub, bnd_one, rLen_eq, rGet_nat, rSet_nat, rApp_eq, ↓reduceIte]
  by_cases h1 : n = 1
  · subst h1; rfl
  by_cases h2 : n = 2
  · subst h2; rfl
  by_cases h3 : n = 4
  · subst h3; rfl
  simp [h1, h2, h3]
noncomputable def ssF (k : Nat) (rec : (Int × Int × Int × (List (Int × Int))) → Option (List (Int × Int))) (x : Int × Int × Int × (List (Int × Int))) : Option (List (Int × Int)) := spec_SplitRange.s0 k rec x.1 x.2.1 x.2.2.1 x.2.2.2
theorem specSplitLoop (k : Nat) (pay : Int) (hp : 1 ≤ pay ∧ pay ≤ 8) : ∀ (f : Nat) (a : Int) (n : Nat) (out : List (Int × Int)) (K : Nat), n ≤ f → f < K → 0 ≤ a → a + n ≤ 65536 → out.length + n ≤ 100 → iter (ssF k) K (a, (n : Int), pay, out) = some (out ++ pcsL pay f a n)
  | f, a, n, out, 0, _, hK, _, _, _ => by omega
  | 0, a, n, out, K + 1, hn, hK, h0, h1, h2 => by
    obtain rfl : n = 0 := by omega
    show spec_SplitRange.s0 k (iter (ssF k) K) a ((0 : Nat) : Int) pay out = _
    generalize iter (ssF k) K = rec
    simp only [spec_SplitRange.s0, iLt_eq, brB_dec, pcsL, List.append_nil]
    rw [if_neg (by omega)]
  | f + 1, a, n, out, K + 1, hn, hK, h0, h1, h2 => by
    show spec_SplitRange.s0 k (iter (ssF k) K) a (n : Int) pay out = _
    by_cases hz : n = 0
    · subst hz
      generalize iter (ssF k) K = rec
      simp only [spec_SplitRange.s0, iLt_eq, brB_dec, pcsL, ↓reduceIte, List.append_nil]
      rw [if_neg (by omega)]
    · obtain ⟨m1, m2, m3, m4⟩ := mOf_ok (a := a) hp h0 (Nat.pos_of_ne_zero hz)
      have t0 := Int.tmod_nonneg pay h0
      have t1 := Int.tmod_lt_of_pos a (show 0 < pay by omega)
      have ih := specSplitLoop k pay hp f (a + mOf pay a n) (n - mOf pay a n) (out ++ [(a, (mOf pay a n : Int))]) K (by omega) (by omega) (by omega) (by omega) (by simp only [List.length_append, List.length_cons, List.length_nil]; omega)
      simp only [spec_SplitRange.s0, iLt_eq, brB_dec, chk_nz, chk_len, rLen_eq, rApp_eq, pcsL, if_neg hz]
      rw [if_pos (by omega), if_neg (by omega), show iRem a pay = a.tmod pay from rfl, iSub_id (a := pay) (by omega) (by omega), iMin_comm, m4, if_pos (by simp only [List.length_append, List.length_cons, List.length_nil]; omega), iAdd_id (by omega) (by omega), iSub_id (by omega) (by omega),
        show (n : Int) - (mOf pay a n : Int) = ((n - mOf pay a n : Nat) : Int) by omega, ih]
      simp
theorem specSplitRange_ev (a : Int) (n : Nat) (pay : Int) (h0 : 0 ≤ a) (h1 : a + n ≤ 65536) (hn : 1 ≤ n ∧ n ≤ 64) (k : Nat) (hk : 100 < k) : spec_SplitRange.f k a (n : Int) pay = some (if pay = 1 ∨ pay = 2 ∨ pay = 4 ∨ pay = 8 then pcsL pay n a n else []) := by
  simp only [spec_SplitRange.f, specIsPayload_eq, l01In_eq, bnd_one, bNot_eq, brB_nb]
  rw [iSub_id (by omega) (by omega), decide_eq_true (show 1 ≤ (n : Int) ∧ (n : Int) ≤ 64 by omega), decide_eq_true (show 0 ≤ a ∧ a ≤ 65536 - (n : Int) by omega), brB_true, brB_true, brB_dec]
  by_cases hp : pay = 1 ∨ pay = 2 ∨ pay = 4 ∨ pay = 8
  · rw [if_pos hp, if_pos hp]
    exact specSplitLoop k pay (by omega) n a n [] k (by omega) (by omega) h0 h1 (by simp; omega)
  · rw [if_neg hp, if_neg hp]
/-- What the answers to a read are. -/
def answB (a0 a1 a2 a3 a4 a5 a6 : Int) (l : List Int) (by_ : Int) (d : List Int) (pay : Int) : List (Int × Int × Int × Int × Int × Int × Int × List Int) :=
  if packB a0 a1 a2 a3 a4 a5 a6 l = true ∧ a0 = 3 ∧ (0 ≤ by_ ∧ by_ ≤ 255) ∧ (d.length : Int) = a4 ∧ wordsOk d = true ∧ (pay = 1 ∨ pay = 2 ∨ pay = 4 ∨ pay = 8) then ansL pay a1 by_ a5 d.length a3 d else []
theorem read_facts {a1 a2 a3 a4 a5 a6 : Int} {l : List Int} (h : packB 3 a1 a2 a3 a4 a5 a6 l = true) : l = [] ∧ (1 ≤ a4 ∧ a4 ≤ 64) ∧ (0 ≤ a3 ∧ a3 ≤ 65536 - a4) ∧ (0 ≤ a5 ∧ a5 ≤ 7) ∧ a6 = 0 ∧ a2 = 0 ∧ (0 ≤ a1 ∧ a1 ≤ 255) := by
  simp only [packB, Bool.and_eq_true, decide_eq_true_eq] at h
  replace h := h.2
  unfold packP at h
  have hl : (l.length : Int) = 0 := by omega
  exact ⟨List.length_eq_zero_iff.1 (by omega), by omega, by omega, by omega, by omega, by omega, by omega⟩
noncomputable def saF (k : Nat) (rec : (Int × List Int × (List (Int × Int × Int × Int × Int × Int × Int × List Int)) × (List (Int × Int)) × Int × Int × Int × Int × Int × Int × Int × Int × Int × List Int) → Option (List (Int × Int × Int × Int × Int × Int × Int × List Int))) (x : Int × List Int × (List (Int × Int × Int × Int × Int × Int × Int × List Int)) × (List (Int × Int)) × Int × Int × Int × Int × Int × Int × Int × Int × Int × List Int) : Option (List (Int × Int × Int × Int × Int × Int × Int × List Int)) :=
  spec_AnswersTo.s0 k rec x.1 x.2.1 x.2.2.1 x.2.2.2.1 x.2.2.2.2.1 x.2.2.2.2.2.1 x.2.2.2.2.2.2.1 x.2.2.2.2.2.2.2.1 x.2.2.2.2.2.2.2.2.1 x.2.2.2.2.2.2.2.2.2.1 x.2.2.2.2.2.2.2.2.2.2.1 x.2.2.2.2.2.2.2.2.2.2.2.1 x.2.2.2.2.2.2.2.2.2.2.2.2.1 x.2.2.2.2.2.2.2.2.2.2.2.2.2
theorem specAnsLoop (k : Nat) (pay p1 by_ p5 p3 : Int) (hp : 1 ≤ pay ∧ pay ≤ 8) (h3 : 0 ≤ p3) (d : List Int) (hd : d.length ≤ 64) (pl : List (Int × Int)) (hpl : pl.length ≤ 64) :
    ∀ (f o i : Nat) (out : List (Int × Int × Int × Int × Int × Int × Int × List Int)) (K : Nat), o ≤ d.length → pl.drop i = pcsL pay f (p3 + o) (d.length - o) → d.length - o ≤ f → i ≤ pl.length → pl.length - i < K → out.length = i →
      iter (saF k) K (by_, d, out, pl, (o : Int), (i : Int), 3, p1, 0, p3, (d.length : Int), p5, 0, []) = some (out ++ ansL pay p1 by_ p5 f (p3 + o) (d.drop o))
  | f, o, i, out, 0, _, _, _, _, hK, _ => by omega
  | f, o, i, out, K + 1, ho, hdr, hf, hi, hK, hout => by
    show spec_AnswersTo.s0 k (iter (saF k) K) by_ d out pl (o : Int) (i : Int) 3 p1 0 p3 (d.length : Int) p5 0 [] = _
    by_cases hz : d.length - o = 0
    · have e1 : pcsL pay f (p3 + o) (d.length - o) = [] := by rw [hz]; cases f <;> rfl
      have e2 : ansL pay p1 by_ p5 f (p3 + o) (d.drop o) = [] := by
        have : d.drop o = [] := List.drop_eq_nil_of_le (by omega)
        rw [this]; cases f <;> rfl
      rw [e1] at hdr
      have hil : pl.length ≤ i := by
        rcases Nat.lt_or_ge i pl.length with h' | h'
        · rw [List.drop_eq_getElem_cons h'] at hdr; cases hdr
        · exact h'
      generalize iter (saF k) K = rec
      simp only [spec_AnswersTo.s0, iLt_eq, brB_dec, rLen_eq, e2, List.append_nil]
      rw [if_neg (by omega)]
    · obtain ⟨f', rfl⟩ : ∃ f', f = f' + 1 := ⟨f - 1, by omega⟩
      obtain ⟨m1, m2, m3, m4⟩ := mOf_ok (a := p3 + o) hp (by omega) (Nat.pos_of_ne_zero hz)
      have hl : (d.drop o).length = d.length - o := List.length_drop
      simp only [pcsL, if_neg hz] at hdr
      simp only [ansL, hl, if_neg hz]
      generalize mOf pay (p3 + o) (d.length - o) = m at *
      obtain ⟨q1, q2, q3⟩ := drop_cons_get hdr (0, 0)
      rw [show p3 + (o : Int) + (m : Int) = p3 + ((o + m : Nat) : Int) by omega, show d.length - o - m = d.length - (o + m) by omega] at q3
      have ih := specAnsLoop k pay p1 by_ p5 p3 hp h3 d hd pl hpl f' (o + m) (i + 1) (out ++ [(6, by_, p1, 0, ((d.length - o : Nat) : Int), p5, 0, (d.drop o).take m)]) K (by omega) q3 (by omega) (by omega) (by omega) (by simp [hout])
      rw [List.append_assoc, List.singleton_append] at ih
      rw [List.drop_drop, show p3 + (o : Int) + (m : Int) = p3 + ((o + m : Nat) : Int) by omega]
      refine Eq.trans ?_ ih
      generalize iter (saF k) K = rec
      have hs : rSub d (o : Int) ((o : Int) + (m : Int)) = (d.drop o).take m := by
        simp only [rSub]
        rw [show ((o : Int) + (m : Int)).toNat = o + m by omega, Int.toNat_natCast, List.drop_take, show o + m - o = m by omega]
      have hsl : ((d.drop o).take m).length ≤ 64 := by rw [List.length_take, hl]; omega
      simp only [spec_AnswersTo.s0, q2, iLt_eq, brB_dec, chk_idx, chk_sub, chk_len, rLen_eq, rApp_eq, List.nil_append]
      rw [iAdd_id (a := (o : Int)) (by omega) (by omega), hs, if_pos (by omega), if_idx q1, if_pos (by omega), if_pos (by omega), if_pos (by simp only [List.length_append, List.length_cons, List.length_nil]; omega), if_idx q1, iSub_id (by omega) (by omega), next_id q1 (by omega),
        show (d.length : Int) - (o : Int) = ((d.length - o : Nat) : Int) by omega, show (o : Int) + (m : Int) = ((o + m : Nat) : Int) by omega]
theorem specAnswers_ev (a0 a1 a2 a3 a4 a5 a6 : Int) (l : List Int) (by_ : Int) (d : List Int) (pay : Int) (hl : l.length ≤ 1048576) (hd : d.length ≤ 1048576) (h3 : (Lit.int .i64 a3).wf = true) (h4 : (Lit.int .i64 a4).wf = true) (k : Nat) (hk : 3000000 < k) :
    spec_AnswersTo.f k a0 a1 a2 a3 a4 a5 a6 l by_ d pay = some (answB a0 a1 a2 a3 a4 a5 a6 l by_ d pay) := by
  simp only [spec_AnswersTo.f, specIsPacket_ev a0 a1 a2 a3 a4 a5 a6 l hl h3 h4 k (by omega), specIsId_eq, l04Words_ev d (by omega) k (by omega), bnd_one, bNot_eq, brB_nb, rLen_eq, iNe_eq, brB_dec]
  by_cases g : packB a0 a1 a2 a3 a4 a5 a6 l = true ∧ a0 = 3 ∧ (0 ≤ by_ ∧ by_ ≤ 255) ∧ (d.length : Int) = a4 ∧ wordsOk d = true
  · obtain ⟨g1, g2, g3, g4, g5⟩ := g
    subst g2
    obtain ⟨e1, e2, e3, e4, e5, e6, e7⟩ := read_facts g1
    subst e1 e5 e6
    subst g4
    rw [g1, g5, brB_true, if_pos rfl, if_pos g3, if_pos rfl, brB_true, specSplitRange_ev a3 d.length pay (by omega) (by omega) (by omega) k (by omega), bnd_one, answB]
    by_cases hp : pay = 1 ∨ pay = 2 ∨ pay = 4 ∨ pay = 8
    · rw [if_pos hp, if_pos ⟨g1, rfl, g3, rfl, g5, hp⟩]
      have hpl := pcsL_len pay d.length a3 d.length
      have h := specAnsLoop k pay a1 by_ a5 a3 (by omega) (by omega) d (by omega) (pcsL pay d.length a3 d.length) (by omega) d.length 0 0 [] k (by omega) (by simp) (by omega) (by omega) (by omega) rfl
      rw [List.drop_zero, List.nil_append, show a3 + ((0 : Nat) : Int) = a3 by omega] at h
      exact h
    · rw [if_neg hp, if_neg (fun h => hp h.2.2.2.2.2)]
      obtain ⟨m, hm⟩ : ∃ m, k = m + 1 := ⟨k - 1, by omega⟩
      have e : ∀ j, j = m + 1 → spec_AnswersTo.l0 k j by_ d [] [] 0 0 3 a1 0 a3 (d.length : Int) a5 0 [] = some [] := fun j hj => by
        subst hj
        show spec_AnswersTo.s0 k (iter (saF k) m) by_ d [] [] 0 0 3 a1 0 a3 (d.length : Int) a5 0 [] = _
        generalize iter (saF k) m = rec
        simp only [spec_AnswersTo.s0, iLt_eq, brB_dec, rLen_eq, List.length_nil]
        rw [if_neg (by omega)]
      exact e k hm
  · have e : answB a0 a1 a2 a3 a4 a5 a6 l by_ d pay = [] := if_neg (fun h => g ⟨h.1, h.2.1, h.2.2.1, h.2.2.2.1, h.2.2.2.2.1⟩)
    rw [e]
    simp only [brB_if]
    (repeat' split) <;> first | rfl | (exfalso; exact g ⟨by assumption, by assumption, by assumption, by assumption, by assumption⟩)
theorem implAnswers_ev (a0 a1 a2 a3 a4 a5 a6 : Int) (l : List Int) (by_ : Int) (d : List Int) (pay : Int) (hl : l.length ≤ 1048576) (hd : d.length ≤ 1048576) (h3 : (Lit.int .i64 a3).wf = true) (h4 : (Lit.int .i64 a4).wf = true) (k : Nat) (hk : 3000000 < k) :
    impl_AnswersTo.f k a0 a1 a2 a3 a4 a5 a6 l by_ d pay = some (answB a0 a1 a2 a3 a4 a5 a6 l by_ d pay) := by
  by_cases g : packB a0 a1 a2 a3 a4 a5 a6 l = true ∧ a0 = 3 ∧ (0 ≤ by_ ∧ by_ ≤ 255) ∧ (d.length : Int) = a4 ∧ wordsOk d = true ∧ (pay = 1 ∨ pay = 2 ∨ pay = 4 ∨ pay = 8)
  · rw [answB, if_pos g]
    obtain ⟨g1, g2, g3, g4, g5, hp⟩ := g
    subst g2
    obtain ⟨e1, e2, e3, e4, e5, e6, e7⟩ := read_facts g1
    subst e1 e5 e6
    subst g4
    exact answersTo_ev a1 a3 a5 by_ pay d (by omega) g5 e7 (by omega) (by omega) e4 g3 hp k (by omega)
  · rw [answB, if_neg g]
    simp only [impl_AnswersTo.f, implIsPacket_ev a0 a1 a2 a3 a4 a5 a6 l hl h3 h4 k (by omega), implIsId_eq, areWords_ev d (by omega) k (by omega), isPayload_eq, bnd_one, bNot_eq, brB_nb, rLen_eq, iNe_eq, brB_dec, brB_if]
    (repeat' split) <;> first | rfl | (exfalso; exact g (by simp_all))
theorem answB_small (a0 a1 a2 a3 a4 a5 a6 : Int) (l : List Int) (by_ : Int) (d : List Int) (pay : Int) : (answB a0 a1 a2 a3 a4 a5 a6 l by_ d pay).length ≤ 64 ∧ rSum pGot (answB a0 a1 a2 a3 a4 a5 a6 l by_ d pay) ≤ 64 := by
  unfold answB
  split
  · rename_i g
    obtain ⟨g1, g2, g3, g4, g5, hp⟩ := g
    subst g2
    obtain ⟨e1, e2, e3, e4, e5, e6, e7⟩ := read_facts g1
    have h1 := ansL_len pay a1 by_ a5 d.length a3 d
    have h2 := ansL_sum (pay := pay) (from_ := a1) (by_ := by_) (tag := a5) d.length a3 d
    refine ⟨by omega, ?_⟩
    have : rSum pGot (ansL pay a1 by_ a5 d.length a3 d) = dSum (ansL pay a1 by_ a5 d.length a3 d) := rfl
    omega
  · exact ⟨by simp, by simp [rSum]⟩

theorem laws_FnExactAnswersTo.main (a0 a1 a2 a3 a4 a5 a6 : Int) (l : List Int) (by_ : Int) (d : List Int) (pay : Int) (hl : l.length ≤ 9223372036854775807) (h3 : (Lit.int .i64 a3).wf = true) (h4 : (Lit.int .i64 a4).wf = true) : ∃ k, laws_FnExactAnswersTo.f k a0 a1 a2 a3 a4 a5 a6 l by_ d pay = some true := by
  refine ⟨3000001, ?_⟩
  generalize hk : 3000001 = k
  unfold laws_FnExactAnswersTo.f
  rw [iLt_eq, brB_dec, rLen_eq]
  by_cases cd : (1048576 : Int) < (d.length : Int)
  · rw [if_pos cd]
  rw [if_neg cd]
  have sz := szPacket_eq k a0 a1 a2 a3 a4 a5 a6 l 1048576 hl (by omega) (by omega)
  by_cases c : (l.length : Int) ≤ 1048576
  · rw [if_pos c] at sz
    refine bnd_to sz (brF_to (iLt_no (by omega)) ?_)
    have tp := toPacket_ev a0 a1 a2 a3 a4 a5 a6 l (by omega) k (by omega)
    have td := toIntS_ev d (by omega) k (by omega)
    have f1 := specAnswers_ev a0 a1 a2 a3 a4 a5 a6 l by_ d pay (by omega) (by omega) h3 h4 k (by omega)
    have f2 := implAnswers_ev a0 a1 a2 a3 a4 a5 a6 l by_ d pay (by omega) (by omega) h3 h4 k (by omega)
    obtain ⟨s1, s2⟩ := answB_small a0 a1 a2 a3 a4 a5 a6 l by_ d pay
    generalize answB a0 a1 a2 a3 a4 a5 a6 l by_ d pay = r at f1 f2 s1 s2
    have hz : ∀ x ∈ r, pGot x ≤ 1048576 := fun x hx => by have := rSum_le (z := pGot) hx; omega
    have hp := rSum_p r
    have q := eqPacketS_refl r (by omega) hz k (by omega)
    have qp := eqPacket_refl a0 a1 a2 a3 a4 a5 a6 l (by omega) k (by omega)
    have qd := eqIntS_refl d (by omega) k (by omega)
    have m0 := markPacket_ev a0 a1 a2 a3 a4 a5 a6 l 1 (by omega) (by omega) (by omega) k (by omega)
    have m1 := markIntS_ev d (1 + l.length) (by omega) (by omega) (by omega) k (by omega)
    have m2 := markPacketS_ev r 1 (by omega) hz (by omega) (by omega) k (by omega)
    have hd := heldPacketS_ev r 1 (by omega) hz (by omega) (by omega) k (by omega)
    have g0 : (0 : Int) ≤ 1 + (l.length : Int) + (d.length : Int) := by omega
    have g1 : 0 ≤ offs pN r 1 r.length := by have := offs_ge pN r 1 r.length; omega
    repeat (first
      | with_reducible refine bnd_to tp ?_
      | with_reducible refine bnd_to td ?_
      | with_reducible refine bnd_to f1 ?_
      | with_reducible refine bnd_to f2 ?_
      | with_reducible refine bnd_to q ?_
      | with_reducible refine bnd_to qp ?_
      | with_reducible refine bnd_to qd ?_
      | with_reducible refine bnd_to m0 ?_
      | with_reducible refine bnd_to m1 ?_
      | with_reducible refine bnd_to m2 ?_
      | with_reducible refine bnd_to hd ?_
      | with_reducible refine brF_to bNot_t ?_
      | with_reducible refine brF_to (iNe_self _) ?_
      | with_reducible refine brF_to (iLt_no g0) ?_
      | with_reducible refine brF_to (iLt_no g1) ?_)
    rfl
  · rw [if_neg c] at sz
    exact bnd_to sz (brT_to (iLt_yes (by omega)) rfl)
theorem laws_FnExactAnswersTo.pure : ∀ x : laws_FnExactAnswersTo.sig.inTy.T, Good laws_FnExactAnswersTo.sig.inTy x → ∃ k, laws_FnExactAnswersTo.spec.fn k x = some true := by
  rintro ⟨a0, a1, a2, a3, a4, a5, a6, l, by_, d, pay⟩ ⟨_, _, _, h3, h4, _, _, ⟨hl, _⟩, _⟩
  exact laws_FnExactAnswersTo.main a0 a1 a2 a3 a4 a5 a6 l by_ d pay hl h3 h4
end Go.Proofs.YtndnlafnkknodaaT

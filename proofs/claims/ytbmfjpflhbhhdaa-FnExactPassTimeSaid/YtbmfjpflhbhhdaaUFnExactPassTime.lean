/- What the functions of FnExactPassTime give, in plain terms. -/
import Derived.Test.YtbmfjpflhbhhdaaFFnExactPassTime
import Derived.Test.YtbmfjpflhbhhdaaTiPL
set_option linter.unusedVariables false
set_option linter.unusedSimpArgs false
set_option maxRecDepth 100000
namespace Go.Proofs.YtbmfjpflhbhhdaaT
open Go
theorem bnd_to {A R : Type} {x : Option A} {a : A} {f : A → Option R} {r : Option R} (h : x = some a) (g : f a = r) : bnd x f = r := by rw [h]; exact g
theorem brF_to {R : Type} {b : Bool} {x y r : Option R} (h : b = false) (g : y = r) : brB b x y = r := by rw [h]; exact g
theorem brT_to {R : Type} {b : Bool} {x y r : Option R} (h : b = true) (g : x = r) : brB b x y = r := by rw [h]; exact g
theorem chk_to {R : Type} {b : Bool} {x r : Option R} (h : b = true) (g : x = r) : chk b x = r := by rw [h]; exact g
theorem iNe_self (a : Int) : iNe a a = false := by simp [iNe]
theorem bNe_self (a : Bool) : bNe a a = false := by simp [bNe]
theorem bNot_t : bNot true = false := rfl
theorem iLt_no {a b : Int} (h : b ≤ a) : iLt a b = false := by simp [iLt, h]
theorem iLt_yes {a b : Int} (h : a < b) : iLt a b = true := by simp [iLt, h]
theorem iter_from {X R : Type} {f : (X → Option R) → X → Option R} {x0 : X} (s : Nat → X) (N : Nat) {r : R} (h0 : x0 = s 0) (step : ∀ rec i, i < N → f rec (s i) = rec (s (i + 1))) (done : ∀ rec, f rec (s N) = some r) {n : Nat} (hn : N < n) :
    iter f n x0 = some r := by rw [h0]; exact iter_upto s N step done hn
theorem iLe_eq (a b : Int) : iLe a b = decide (a ≤ b) := rfl
theorem iLt_eq (a b : Int) : iLt a b = decide (a < b) := rfl
theorem iEq_eq (a b : Int) : iEq a b = decide (a = b) := by by_cases h : a = b <;> simp [iEq, h]
theorem iNe_eq (a b : Int) : iNe a b = !decide (a = b) := by by_cases h : a = b <;> simp [iNe, h]
theorem bNot_eq (a : Bool) : bNot a = !a := rfl
/-- A loop that looks for the first element with a quality. -/
theorem iter_find {R : Type} {α : Type} {X : Type} {f : (X → Option R) → X → Option R} (s : Nat → X) (xs : List α) (p : α → Bool) (r : R) (e : Nat → R)
    (go : ∀ rec (i : Nat) (h : i < xs.length), p xs[i] = true → f rec (s i) = rec (s (i + 1))) (stop : ∀ rec (i : Nat) (h : i < xs.length), p xs[i] = false → f rec (s i) = some (e i)) (done : ∀ rec, f rec (s xs.length) = some r) {n : Nat} (hn : xs.length < n) :
    iter f n (s 0) = some (match xs.findIdx? (fun x => !p x) with | some i => e i | none => r) := by
  suffices H : ∀ d i n, i + d = xs.length → d < n → (∀ j (h : j < xs.length), j < i → p xs[j] = true) → iter f n (s i) = some (match xs.findIdx? (fun x => !p x) with | some i => e i | none => r) from H xs.length 0 n (by omega) hn (fun j _ h => by omega)
  intro d
  induction d with
  | zero =>
    intro i n hi hn hp
    obtain ⟨m, rfl⟩ : ∃ m, n = m + 1 := ⟨n - 1, by omega⟩
    obtain rfl : i = xs.length := by omega
    have : xs.findIdx? (fun x => !p x) = none := by
      rw [List.findIdx?_eq_none_iff]
      intro x hx
      obtain ⟨j, hj, rfl⟩ := List.mem_iff_getElem.1 hx
      simp [hp j hj (by omega)]
    rw [this]
    exact done _
  | succ d ih =>
    intro i n hi hn hp
    obtain ⟨m, rfl⟩ : ∃ m, n = m + 1 := ⟨n - 1, by omega⟩
    show f (iter f m) (s i) = _
    have hlt : i < xs.length := by omega
    by_cases hq : p xs[i] = false
    · rw [stop _ i hlt hq]
      have : xs.findIdx? (fun x => !p x) = some i := by
        rw [List.findIdx?_eq_some_iff_getElem]
        exact ⟨hlt, by simp [hq], fun j hj => by simp [hp j (by omega) hj]⟩
      rw [this]
    · have hq : p xs[i] = true := by simpa using hq
      rw [go _ i hlt hq]
      refine ih (i + 1) m (by omega) (by omega) fun j h hj => ?_
      rcases Nat.lt_or_ge j i with h' | h'
      · exact hp j h h'
      · obtain rfl : j = i := by omega
        exact hq
theorem getD_lt {α : Type} (d : α) (xs : List α) {i : Nat} (h : i < xs.length) : xs.getD i d = xs[i] := by
  rw [List.getD_eq_getElem?_getD, List.getElem?_eq_getElem h]; rfl
theorem bEq_eq (a b : Bool) : bEq a b = decide (a = b) := by cases a <;> cases b <;> rfl
theorem bNe_eq (a b : Bool) : bNe a b = !decide (a = b) := by cases a <;> cases b <;> rfl
theorem brB_nb {R : Type} (b : Bool) (x y : Option R) : brB (!b) x y = brB b y x := by cases b <;> rfl
theorem brB_dec {R : Type} (p : Prop) [Decidable p] (x y : Option R) : brB (decide p) x y = if p then x else y := by by_cases h : p <;> simp [h, brB]
theorem if_idx {R : Type} {i n : Nat} {x : Option R} (h : i < n) : (if 0 ≤ (i : Int) ∧ (i : Int) < (n : Int) then x else none) = x := if_pos (by omega)
theorem l01In_eq (k : Nat) (x a b : Int) : spec_l01In.f k x a b = some (decide (a ≤ x ∧ x ≤ b)) := by
  simp only [spec_l01In.f, iLt_eq, iLe_eq, iEq_eq, iNe_eq, bNot_eq, bEq_eq, bNe_eq, brB_nb, brB_dec, brB_true, brB_false, chk_idx, chk_len, chk_make, chk_sub, bnd_one, rLen_eq, rGet_nat, rSet_nat, rApp_eq, ↓reduceIte]; split <;> rename_i h <;> simp [h]
theorem within_eq (k : Nat) (x a b : Int) : impl_within.f k x a b = some (decide (a ≤ x ∧ x ≤ b)) := by
  simp only [impl_within.f, iLt_eq, iLe_eq, iEq_eq, iNe_eq, bNot_eq, bEq_eq, bNe_eq, brB_nb, brB_dec, brB_true, brB_false, chk_idx, chk_len, chk_make, chk_sub, bnd_one, rLen_eq, rGet_nat, rSet_nat, rApp_eq, ↓reduceIte]; split <;> rename_i h <;> simp [h]
theorem specIsId_eq (k : Nat) (a : Int) : spec_IsId.f k a = some (decide (0 ≤ a ∧ a ≤ 255)) := by simp only [spec_IsId.f, l01In_eq, bnd_one]
theorem implIsId_eq (k : Nat) (a : Int) : impl_IsId.f k a = some (decide (0 ≤ a ∧ a ≤ 255)) := by simp only [impl_IsId.f, within_eq, bnd_one]
theorem szIntS_eq (k : Nat) (l : List Int) (n : Int) (hl : l.length ≤ 9223372036854775807) (h0 : 0 ≤ n) (h1 : n ≤ 1048576) : laws_szIntS.f k l n = some (if (l.length : Int) ≤ n then n - l.length else -1) := by
  simp only [laws_szIntS.f, iLt_eq, iLe_eq, iEq_eq, iNe_eq, bNot_eq, bEq_eq, bNe_eq, brB_nb, brB_dec, brB_true, brB_false, chk_idx, chk_len, chk_make, chk_sub, bnd_one, rLen_eq, rGet_nat, rSet_nat, rApp_eq, ↓reduceIte]
  rw [iSub_id (by omega) (by omega)]
  by_cases h : (l.length : Int) ≤ n
  · rw [if_neg (by omega), if_pos h]
  · rw [if_pos (by omega), if_neg h]
theorem toIntS_ev (xs : List Int) (hn : xs.length ≤ 1048576) (k : Nat) (hk : xs.length < k) : laws_toIntS.f k xs = some xs := by
  simp only [laws_toIntS.f, laws_toIntS.l0, iLt_eq, iLe_eq, iEq_eq, iNe_eq, bNot_eq, bEq_eq, bNe_eq, brB_nb, brB_dec, brB_true, brB_false, chk_idx, chk_len, chk_make, chk_sub, bnd_one, rLen_eq, rGet_nat, rSet_nat, rApp_eq, ↓reduceIte]
  rw [if_pos (by omega), rRep_nat]
  have h := iter_upto (f := fun (rec : (List Int × List Int × Int) → Option (List Int)) (x : List Int × List Int × Int) => laws_toIntS.s0 k rec x.1 x.2.1 x.2.2)
    (fun i => (xs, fill (fun j => xs.getD j 0) (List.replicate xs.length 0) i, (i : Int))) xs.length (r := xs) (fun rec i hi => ?_) (fun rec => ?_) hk
  · rw [fill_zero] at h; exact h
  · simp only [laws_toIntS.s0, fill_len (show i ≤ (List.replicate xs.length (0:Int)).length by simp; omega), List.length_replicate, iLt_eq, iLe_eq, iEq_eq, iNe_eq, bNot_eq, bEq_eq, bNe_eq, brB_nb, brB_dec, brB_true, brB_false, chk_idx, chk_len, chk_make, chk_sub, bnd_one, rLen_eq, rGet_nat, rSet_nat, rApp_eq, ↓reduceIte]
    rw [if_pos (by omega), if_idx hi, if_idx hi, fill_set (by simpa using hi), next_id hi (by omega)]
  · have h2 := fill_end (g := fun j => xs.getD j 0) (xs := List.replicate xs.length (0 : Int))
    rw [List.length_replicate] at h2
    simp only [laws_toIntS.s0, h2, range_getD, iLt_eq, iLe_eq, iEq_eq, iNe_eq, bNot_eq, bEq_eq, bNe_eq, brB_nb, brB_dec, brB_true, brB_false, chk_idx, chk_len, chk_make, chk_sub, bnd_one, rLen_eq, rGet_nat, rSet_nat, rApp_eq, ↓reduceIte]
    rw [if_neg (by omega)]
theorem eqIntS_refl (xs : List Int) (hn : xs.length ≤ 4611686018427387904) (k : Nat) (hk : xs.length < k) : laws_eqIntS.f k xs xs = some true := by
  simp only [laws_eqIntS.f, laws_eqIntS.l0, iLt_eq, iLe_eq, iEq_eq, iNe_eq, bNot_eq, bEq_eq, bNe_eq, brB_nb, brB_dec, brB_true, brB_false, chk_idx, chk_len, chk_make, chk_sub, bnd_one, rLen_eq, rGet_nat, rSet_nat, rApp_eq, ↓reduceIte]
  refine iter_upto (f := fun (rec : (List Int × List Int × Int) → Option Bool) (x : List Int × List Int × Int) => laws_eqIntS.s0 k rec x.1 x.2.1 x.2.2) (fun i => (xs, xs, (i : Int))) xs.length (fun rec i hi => ?_) (fun rec => ?_) hk
  · simp only [laws_eqIntS.s0, iLt_eq, iLe_eq, iEq_eq, iNe_eq, bNot_eq, bEq_eq, bNe_eq, brB_nb, brB_dec, brB_true, brB_false, chk_idx, chk_len, chk_make, chk_sub, bnd_one, rLen_eq, rGet_nat, rSet_nat, rApp_eq, ↓reduceIte]
    rw [if_pos (by omega), if_idx hi, if_idx hi, next_id hi hn]
  · simp only [laws_eqIntS.s0, iLt_eq, iLe_eq, iEq_eq, iNe_eq, bNot_eq, bEq_eq, bNe_eq, brB_nb, brB_dec, brB_true, brB_false, chk_idx, chk_len, chk_make, chk_sub, bnd_one, rLen_eq, rGet_nat, rSet_nat, rApp_eq, ↓reduceIte]
    rw [if_neg (by omega)]
/-- The marks of a row of numbers. -/
def marks (m : Int) (n : Nat) : List Int := (List.range n).map fun (j : Nat) => m + (j : Int)
theorem marks_len (m : Int) (n : Nat) : (marks m n).length = n := by simp [marks]
theorem markIntS_ev (xs : List Int) (m : Int) (hn : xs.length ≤ 1000000000000) (h0 : 0 ≤ m) (h1 : m ≤ 1000000000000) (k : Nat) (hk : xs.length < k) : laws_markIntS.f k xs m = some (m + xs.length, marks m xs.length) := by
  simp only [laws_markIntS.f, laws_markIntS.l0]
  have h := iter_upto (f := fun (rec : (List Int × Int × Int) → Option (Int × List Int)) (x : List Int × Int × Int) => laws_markIntS.s0 k rec x.1 x.2.1 x.2.2)
    (fun i => (fill (fun (j : Nat) => m + (j : Int)) xs i, m + (i : Int), (i : Int))) xs.length (r := (m + xs.length, marks m xs.length)) (fun rec i hi => ?_) (fun rec => ?_) hk
  · rw [fill_zero] at h; simpa using h
  · simp only [laws_markIntS.s0, fill_len (Nat.le_of_lt hi), iLt_eq, iLe_eq, iEq_eq, iNe_eq, bNot_eq, bEq_eq, bNe_eq, brB_nb, brB_dec, brB_true, brB_false, chk_idx, chk_len, chk_make, chk_sub, bnd_one, rLen_eq, rGet_nat, rSet_nat, rApp_eq, ↓reduceIte]
    rw [if_pos (by omega), if_idx hi, fill_set hi, next_id hi (by omega), iAdd_id (by omega) (by omega)]
    congr 3
    omega
  · simp only [laws_markIntS.s0, fill_end, List.length_map, List.length_range, iLt_eq, iLe_eq, iEq_eq, iNe_eq, bNot_eq, bEq_eq, bNe_eq, brB_nb, brB_dec, brB_true, brB_false, chk_idx, chk_len, chk_make, chk_sub, bnd_one, rLen_eq, rGet_nat, rSet_nat, rApp_eq, ↓reduceIte]
    rw [if_neg (by omega)]
    rfl
theorem heldIntS_ev (n : Nat) (m : Int) (hn : n ≤ 1000000000000) (h0 : 0 ≤ m) (h1 : m ≤ 1000000000000) (k : Nat) (hk : n < k) : laws_heldIntS.f k (marks m n) m = some (m + n) := by
  simp only [laws_heldIntS.f, laws_heldIntS.l0]
  have h := iter_upto (f := fun (rec : (List Int × Int × Int) → Option Int) (x : List Int × Int × Int) => laws_heldIntS.s0 k rec x.1 x.2.1 x.2.2)
    (fun i => (marks m n, m + (i : Int), (i : Int))) n (r := m + n) (fun rec i hi => ?_) (fun rec => ?_) hk
  · simpa using h
  · simp only [laws_heldIntS.s0, marks_len, iLt_eq, iLe_eq, iEq_eq, iNe_eq, bNot_eq, bEq_eq, bNe_eq, brB_nb, brB_dec, brB_true, brB_false, chk_idx, chk_len, chk_make, chk_sub, bnd_one, rLen_eq, rGet_nat, rSet_nat, rApp_eq, ↓reduceIte]
    rw [if_pos (by omega), if_idx hi, marks, range_get n hi, if_pos rfl, next_id hi (by omega), iAdd_id (by omega) (by omega)]
    congr 3
    omega
  · simp only [laws_heldIntS.s0, marks_len, iLt_eq, iLe_eq, iEq_eq, iNe_eq, bNot_eq, bEq_eq, bNe_eq, brB_nb, brB_dec, brB_true, brB_false, chk_idx, chk_len, chk_make, chk_sub, bnd_one, rLen_eq, rGet_nat, rSet_nat, rApp_eq, ↓reduceIte]
    rw [if_neg (by omega)]
/-- All are words. -/
def wordsOk (l : List Int) : Bool := l.all fun x => decide (0 ≤ x ∧ x ≤ 65535)
theorem findIdx_all {α : Type} (l : List α) (p : α → Bool) : (match l.findIdx? (fun x => !p x) with | some _ => false | none => true) = l.all p := by
  cases h : l.findIdx? (fun x => !p x) with
  | none =>
    rw [List.findIdx?_eq_none_iff] at h
    symm
    rw [List.all_eq_true]
    intro x hx
    simpa using h x hx
  | some i =>
    rw [List.findIdx?_eq_some_iff_getElem] at h
    obtain ⟨hi, h1, _⟩ := h
    symm
    rw [← Bool.not_eq_true, List.all_eq_true]
    intro hall
    have := hall _ (List.getElem_mem hi)
    simp [this] at h1
theorem found_iff {α : Type} (l : List α) (p : α → Bool) : iLe 0 (match l.findIdx? (fun x => !p x) with | some i => (i : Int) | none => -1) = !l.all p := by
  rw [← findIdx_all]
  cases l.findIdx? (fun x => !p x) with
  | none => rfl
  | some i => simp [iLe]
theorem l04Words_ev (l : List Int) (hl : l.length ≤ 4611686018427387904) (k : Nat) (hk : l.length < k) : spec_l04Words.f k l = some (wordsOk l) := by
  simp only [spec_l04Words.f, spec_l04Words.l0]
  have h := iter_find (f := fun (rec : (List Int × Int) → Option Bool) (x : List Int × Int) => spec_l04Words.s0 k rec x.1 x.2) (fun i => (l, (i : Int))) l (fun x => decide (0 ≤ x ∧ x ≤ 65535)) true (fun _ => false)
    (fun rec i hi hp => ?_) (fun rec i hi hp => ?_) (fun rec => ?_) hk
  · exact h.trans (congrArg some (findIdx_all l _))
  · simp only [spec_l04Words.s0, l01In_eq, getD_lt _ _ hi, iLt_eq, iLe_eq, iEq_eq, iNe_eq, bNot_eq, bEq_eq, bNe_eq, brB_nb, brB_dec, brB_true, brB_false, chk_idx, chk_len, chk_make, chk_sub, bnd_one, rLen_eq, rGet_nat, rSet_nat, rApp_eq, ↓reduceIte]
    rw [if_pos (by omega), if_idx hi, next_id hi hl]
    rw [if_pos (of_decide_eq_true hp)]
  · simp only [spec_l04Words.s0, l01In_eq, getD_lt _ _ hi, iLt_eq, iLe_eq, iEq_eq, iNe_eq, bNot_eq, bEq_eq, bNe_eq, brB_nb, brB_dec, brB_true, brB_false, chk_idx, chk_len, chk_make, chk_sub, bnd_one, rLen_eq, rGet_nat, rSet_nat, rApp_eq, ↓reduceIte]
    rw [if_pos (by omega), if_idx hi]
    rw [if_neg (of_decide_eq_false hp)]
  · simp only [spec_l04Words.s0, iLt_eq, iLe_eq, iEq_eq, iNe_eq, bNot_eq, bEq_eq, bNe_eq, brB_nb, brB_dec, brB_true, brB_false, chk_idx, chk_len, chk_make, chk_sub, bnd_one, rLen_eq, rGet_nat, rSet_nat, rApp_eq, ↓reduceIte]
    rw [if_neg (by omega)]
theorem isWord_eq (k : Nat) (x : Int) : impl_isWord.f k x = some (decide (0 ≤ x ∧ x ≤ 65535)) := by simp only [impl_isWord.f, within_eq, bnd_one]
theorem indexNotWord1 (l : List Int) (hl : l.length ≤ 4611686018427387904) (k : Nat) (hk : l.length < k) : slices_IndexFunc_int_impl_areWords_1.f k l = some (match l.findIdx? (fun x => !decide (0 ≤ x ∧ x ≤ 65535)) with | some i => (i : Int) | none => -1) := by
  simp only [slices_IndexFunc_int_impl_areWords_1.f, slices_IndexFunc_int_impl_areWords_1.l0]
  refine iter_find (f := fun (rec : (List Int × Int × Int) → Option Int) (x : List Int × Int × Int) => slices_IndexFunc_int_impl_areWords_1.s0 k rec x.1 x.2.1 x.2.2) (fun i => (l, rLen l, (i : Int))) l (fun x => decide (0 ≤ x ∧ x ≤ 65535)) (-1) (fun i => (i : Int)) (fun rec i hi hp => ?_) (fun rec i hi hp => ?_) (fun rec => ?_) hk
  · simp only [slices_IndexFunc_int_impl_areWords_1.s0, impl_areWords_1.f, isWord_eq, getD_lt _ _ hi, iLt_eq, iLe_eq, iEq_eq, iNe_eq, bNot_eq, bEq_eq, bNe_eq, brB_nb, brB_dec, brB_true, brB_false, chk_idx, chk_len, chk_make, chk_sub, bnd_one, rLen_eq, rGet_nat, rSet_nat, rApp_eq, ↓reduceIte]
    rw [if_pos (by omega), if_idx hi, next_id hi hl]
    rw [if_pos (of_decide_eq_true hp)]
  · simp only [slices_IndexFunc_int_impl_areWords_1.s0, impl_areWords_1.f, isWord_eq, getD_lt _ _ hi, iLt_eq, iLe_eq, iEq_eq, iNe_eq, bNot_eq, bEq_eq, bNe_eq, brB_nb, brB_dec, brB_true, brB_false, chk_idx, chk_len, chk_make, chk_sub, bnd_one, rLen_eq, rGet_nat, rSet_nat, rApp_eq, ↓reduceIte]
    rw [if_pos (by omega), if_idx hi]
    rw [if_neg (of_decide_eq_false hp)]
  · simp only [slices_IndexFunc_int_impl_areWords_1.s0, iLt_eq, iLe_eq, iEq_eq, iNe_eq, bNot_eq, bEq_eq, bNe_eq, brB_nb, brB_dec, brB_true, brB_false, chk_idx, chk_len, chk_make, chk_sub, bnd_one, rLen_eq, rGet_nat, rSet_nat, rApp_eq, ↓reduceIte]
    rw [if_neg (by omega)]
theorem areWords_ev (l : List Int) (hl : l.length ≤ 4611686018427387904) (k : Nat) (hk : l.length < k) : impl_areWords.f k l = some (wordsOk l) := by
  simp only [impl_areWords.f, slices_ContainsFunc_int_impl_areWords_1.f, indexNotWord1 l hl k hk, bnd_one, found_iff l (fun x => decide (0 ≤ x ∧ x ≤ 65535)), bNot_eq, Bool.not_not]
  rfl
/-- A gathering is valid. -/
def gatherB (a b c : Int) (l : List Int) (e : Int) : Bool := decide (0 ≤ a ∧ a ≤ 255) && (decide (0 ≤ b ∧ b ≤ 7) && (decide (0 ≤ c ∧ c ≤ 64) && (decide ((l.length : Int) ≤ c) && (wordsOk l && (decide (0 ≤ e ∧ e ≤ 2) && (if e = 1 then decide ((l.length : Int) = c) else true))))))
theorem brB_and {x : Option Bool} {b c : Bool} (h : x = some c) : brB b x (some false) = some (b && c) := by cases b <;> simp [brB, h]
theorem if_and {p : Prop} [Decidable p] {x : Option Bool} {c : Bool} (h : x = some c) : (if p then x else some false) = some (decide p && c) := by by_cases hp : p <;> simp [hp, h]
theorem specGatherOk_ev (a b c : Int) (l : List Int) (e : Int) (hl : l.length ≤ 4611686018427387904) (k : Nat) (hk : l.length < k) : spec_GatherOk.f k a b c l e = some (gatherB a b c l e) := by
  simp only [spec_GatherOk.f, specIsId_eq, l01In_eq, l04Words_ev l hl k hk, iLt_eq, iLe_eq, iEq_eq, iNe_eq, bNot_eq, bEq_eq, bNe_eq, brB_nb, brB_dec, brB_true, brB_false, chk_idx, chk_len, chk_make, chk_sub, bnd_one, rLen_eq, rGet_nat, rSet_nat, rApp_eq, ↓reduceIte]
  refine if_and (if_and (if_and (if_and (brB_and (if_and ?_)))))
  split <;> rfl
theorem implGatherOk_ev (a b c : Int) (l : List Int) (e : Int) (hl : l.length ≤ 4611686018427387904) (k : Nat) (hk : l.length < k) : impl_GatherOk.f k a b c l e = some (gatherB a b c l e) := by
  simp only [impl_GatherOk.f, implIsId_eq, within_eq, areWords_ev l hl k hk, iLt_eq, iLe_eq, iEq_eq, iNe_eq, bNot_eq, bEq_eq, bNe_eq, brB_nb, brB_dec, brB_true, brB_false, chk_idx, chk_len, chk_make, chk_sub, bnd_one, rLen_eq, rGet_nat, rSet_nat, rApp_eq, ↓reduceIte]
  refine if_and (if_and (if_and (if_and (brB_and (if_and ?_)))))
  split <;> rfl

theorem szGather_eq (k : Nat) (a b c : Int) (l : List Int) (e n : Int) (hl : l.length ≤ 9223372036854775807) (h0 : 0 ≤ n) (h1 : n ≤ 1048576) : laws_szGather.f k a b c l e n = some (if (l.length : Int) ≤ n then n - l.length else -1) := by
  simp only [laws_szGather.f, szIntS_eq k l n hl h0 h1, iLt_eq, iLe_eq, iEq_eq, iNe_eq, bNot_eq, bEq_eq, bNe_eq, brB_nb, brB_dec, brB_true, brB_false, chk_idx, chk_len, chk_make, chk_sub, bnd_one, rLen_eq, rGet_nat, rSet_nat, rApp_eq, ↓reduceIte]
  (repeat' split) <;> first | rfl | omega
theorem toGather_ev (a b c : Int) (l : List Int) (e : Int) (hl : l.length ≤ 1048576) (k : Nat) (hk : l.length < k) : laws_toGather.f k a b c l e = some (a, b, c, l, e) := by
  simp only [laws_toGather.f, toIntS_ev l hl k hk, bnd_one]
theorem eqGather_refl (a b c : Int) (l : List Int) (e : Int) (hl : l.length ≤ 4611686018427387904) (k : Nat) (hk : l.length < k) : laws_eqGather.f k a b c l e a b c l e = some true := by
  simp only [laws_eqGather.f, eqIntS_refl l hl k hk, iLt_eq, iLe_eq, iEq_eq, iNe_eq, bNot_eq, bEq_eq, bNe_eq, brB_nb, brB_dec, brB_true, brB_false, chk_idx, chk_len, chk_make, chk_sub, bnd_one, rLen_eq, rGet_nat, rSet_nat, rApp_eq, ↓reduceIte, decide_true]
theorem szBoolS_eq (k : Nat) (l : List Bool) (n : Int) (hl : l.length ≤ 9223372036854775807) (h0 : 0 ≤ n) (h1 : n ≤ 1048576) : laws_szBoolS.f k l n = some (if (l.length : Int) ≤ n then n - l.length else -1) := by
  simp only [laws_szBoolS.f, brB_lt, rLen_eq]
  rw [iSub_id (by omega) (by omega)]
  by_cases h : (l.length : Int) ≤ n
  · rw [if_neg (by omega), if_pos h]
  · rw [if_pos (by omega), if_neg h]
theorem toBoolS_ev (xs : List Bool) (hn : xs.length ≤ 1048576) (k : Nat) (hk : xs.length < k) : laws_toBoolS.f k xs = some xs := by
  simp only [laws_toBoolS.f, laws_toBoolS.l0, iLt_eq, iLe_eq, iEq_eq, iNe_eq, bNot_eq, bEq_eq, bNe_eq, brB_nb, brB_dec, brB_true, brB_false, chk_idx, chk_len, chk_make, chk_sub, bnd_one, rLen_eq, rGet_nat, rSet_nat, rApp_eq, ↓reduceIte]
  rw [if_pos (by omega), rRep_nat]
  have h := iter_upto (f := fun (rec : (List Bool × List Bool × Int) → Option (List Bool)) (x : List Bool × List Bool × Int) => laws_toBoolS.s0 k rec x.1 x.2.1 x.2.2)
    (fun i => (xs, fill (fun j => xs.getD j false) (List.replicate xs.length false) i, (i : Int))) xs.length (r := xs) (fun rec i hi => ?_) (fun rec => ?_) hk
  · rw [fill_zero] at h; exact h
  · simp only [laws_toBoolS.s0, fill_len (show i ≤ (List.replicate xs.length false).length by simp; omega), List.length_replicate, iLt_eq, iLe_eq, iEq_eq, iNe_eq, bNot_eq, bEq_eq, bNe_eq, brB_nb, brB_dec, brB_true, brB_false, chk_idx, chk_len, chk_make, chk_sub, bnd_one, rLen_eq, rGet_nat, rSet_nat, rApp_eq, ↓reduceIte]
    rw [if_pos (by omega), if_idx hi, if_idx hi, fill_set (by simpa using hi), next_id hi (by omega)]
  · have h2 := fill_end (g := fun j => xs.getD j false) (xs := List.replicate xs.length false)
    rw [List.length_replicate] at h2
    simp only [laws_toBoolS.s0, h2, range_getD, iLt_eq, iLe_eq, iEq_eq, iNe_eq, bNot_eq, bEq_eq, bNe_eq, brB_nb, brB_dec, brB_true, brB_false, chk_idx, chk_len, chk_make, chk_sub, bnd_one, rLen_eq, rGet_nat, rSet_nat, rApp_eq, ↓reduceIte]
    rw [if_neg (by omega)]
theorem eqBoolS_refl (xs : List Bool) (hn : xs.length ≤ 4611686018427387904) (k : Nat) (hk : xs.length < k) : laws_eqBoolS.f k xs xs = some true := by
  simp only [laws_eqBoolS.f, laws_eqBoolS.l0, iLt_eq, iLe_eq, iEq_eq, iNe_eq, bNot_eq, bEq_eq, bNe_eq, brB_nb, brB_dec, brB_true, brB_false, chk_idx, chk_len, chk_make, chk_sub, bnd_one, rLen_eq, rGet_nat, rSet_nat, rApp_eq, ↓reduceIte]
  refine iter_upto (f := fun (rec : (List Bool × List Bool × Int) → Option Bool) (x : List Bool × List Bool × Int) => laws_eqBoolS.s0 k rec x.1 x.2.1 x.2.2) (fun i => (xs, xs, (i : Int))) xs.length (fun rec i hi => ?_) (fun rec => ?_) hk
  · simp only [laws_eqBoolS.s0, iLt_eq, iLe_eq, iEq_eq, iNe_eq, bNot_eq, bEq_eq, bNe_eq, brB_nb, brB_dec, brB_true, brB_false, chk_idx, chk_len, chk_make, chk_sub, bnd_one, rLen_eq, rGet_nat, rSet_nat, rApp_eq, ↓reduceIte]
    rw [if_pos (by omega), if_idx hi, if_idx hi, next_id hi hn]
  · simp only [laws_eqBoolS.s0, iLt_eq, iLe_eq, iEq_eq, iNe_eq, bNot_eq, bEq_eq, bNe_eq, brB_nb, brB_dec, brB_true, brB_false, chk_idx, chk_len, chk_make, chk_sub, bnd_one, rLen_eq, rGet_nat, rSet_nat, rApp_eq, ↓reduceIte]
    rw [if_neg (by omega)]
/-- The marks of a row of answers. -/
def bmarks (m : Int) (n : Nat) : List Bool := (List.range n).map fun (j : Nat) => decide (iRem (m + (j : Int)) 3 = 0)
theorem bmarks_len (m : Int) (n : Nat) : (bmarks m n).length = n := by simp [bmarks]
theorem markBoolS_ev (xs : List Bool) (m : Int) (hn : xs.length ≤ 1000000000000) (h0 : 0 ≤ m) (h1 : m ≤ 1000000000000) (k : Nat) (hk : xs.length < k) : laws_markBoolS.f k xs m = some (m + xs.length, bmarks m xs.length) := by
  simp only [laws_markBoolS.f, laws_markBoolS.l0]
  have h := iter_upto (f := fun (rec : (List Bool × Int × Int) → Option (Int × List Bool)) (x : List Bool × Int × Int) => laws_markBoolS.s0 k rec x.1 x.2.1 x.2.2)
    (fun i => (fill (fun (j : Nat) => decide (iRem (m + (j : Int)) 3 = 0)) xs i, m + (i : Int), (i : Int))) xs.length (r := (m + xs.length, bmarks m xs.length)) (fun rec i hi => ?_) (fun rec => ?_) hk
  · rw [fill_zero] at h; simpa using h
  · simp only [laws_markBoolS.s0, fill_len (Nat.le_of_lt hi), chk_nz, Int.reduceEq, iLt_eq, iLe_eq, iEq_eq, iNe_eq, bNot_eq, bEq_eq, bNe_eq, brB_nb, brB_dec, brB_true, brB_false, chk_idx, chk_len, chk_make, chk_sub, bnd_one, rLen_eq, rGet_nat, rSet_nat, rApp_eq, ↓reduceIte]
    rw [if_pos (by omega), if_idx hi, fill_set hi, next_id hi (by omega), iAdd_id (by omega) (by omega)]
    congr 3
    omega
  · simp only [laws_markBoolS.s0, fill_end, List.length_map, List.length_range, iLt_eq, iLe_eq, iEq_eq, iNe_eq, bNot_eq, bEq_eq, bNe_eq, brB_nb, brB_dec, brB_true, brB_false, chk_idx, chk_len, chk_make, chk_sub, bnd_one, rLen_eq, rGet_nat, rSet_nat, rApp_eq, ↓reduceIte]
    rw [if_neg (by omega)]
    rfl
theorem heldBoolS_ev (n : Nat) (m : Int) (hn : n ≤ 1000000000000) (h0 : 0 ≤ m) (h1 : m ≤ 1000000000000) (k : Nat) (hk : n < k) : laws_heldBoolS.f k (bmarks m n) m = some (m + n) := by
  simp only [laws_heldBoolS.f, laws_heldBoolS.l0]
  have h := iter_upto (f := fun (rec : (List Bool × Int × Int) → Option Int) (x : List Bool × Int × Int) => laws_heldBoolS.s0 k rec x.1 x.2.1 x.2.2)
    (fun i => (bmarks m n, m + (i : Int), (i : Int))) n (r := m + n) (fun rec i hi => ?_) (fun rec => ?_) hk
  · simpa using h
  · simp only [laws_heldBoolS.s0, bmarks_len, chk_nz, Int.reduceEq, iLt_eq, iLe_eq, iEq_eq, iNe_eq, bNot_eq, bEq_eq, bNe_eq, brB_nb, brB_dec, brB_true, brB_false, chk_idx, chk_len, chk_make, chk_sub, bnd_one, rLen_eq, rGet_nat, rSet_nat, rApp_eq, ↓reduceIte]
    rw [if_pos (by omega), if_idx hi, bmarks, range_get n hi, if_pos rfl, next_id hi (by omega), iAdd_id (by omega) (by omega)]
    congr 3
    omega
  · simp only [laws_heldBoolS.s0, bmarks_len, iLt_eq, iLe_eq, iEq_eq, iNe_eq, bNot_eq, bEq_eq, bNe_eq, brB_nb, brB_dec, brB_true, brB_false, chk_idx, chk_len, chk_make, chk_sub, bnd_one, rLen_eq, rGet_nat, rSet_nat, rApp_eq, ↓reduceIte]
    rw [if_neg (by omega)]
theorem rGet_in {α : Type} (d : α) (l : List α) {v : Int} (h : 0 ≤ v) : rGet d l v = l.getD v.toNat d := rfl
theorem rSet_in {α : Type} (l : List α) {v : Int} (x : α) (h : 0 ≤ v) : rSet l v x = l.set v.toNat x := rfl
/-- A loop that looks for an element without a quality. -/
theorem iter_all {R : Type} {α : Type} {X : Type} {f : (X → Option R) → X → Option R} (s : Nat → X) (xs : List α) (p : α → Bool) (r e : Option R)
    (go : ∀ rec (i : Nat) (h : i < xs.length), p xs[i] = true → f rec (s i) = rec (s (i + 1))) (stop : ∀ rec (i : Nat) (h : i < xs.length), p xs[i] = false → f rec (s i) = e) (done : ∀ rec, f rec (s xs.length) = r) {n : Nat} (hn : xs.length < n) :
    iter f n (s 0) = brB (xs.all p) r e := by
  suffices H : ∀ d i n, i + d = xs.length → d < n → iter f n (s i) = brB ((xs.drop i).all p) r e from by
    have := H xs.length 0 n (by omega) hn
    simpa using this
  intro d
  induction d with
  | zero =>
    intro i n hi hn
    obtain ⟨m, rfl⟩ : ∃ m, n = m + 1 := ⟨n - 1, by omega⟩
    obtain rfl : i = xs.length := by omega
    rw [List.drop_length]
    exact done _
  | succ d ih =>
    intro i n hi hn
    obtain ⟨m, rfl⟩ : ∃ m, n = m + 1 := ⟨n - 1, by omega⟩
    show f (iter f m) (s i) = _
    have hlt : i < xs.length := by omega
    rw [List.drop_eq_getElem_cons hlt, List.all_cons]
    cases hq : p xs[i] with
    | false => rw [stop _ i hlt hq]; rfl
    | true => rw [go _ i hlt hq, ih (i + 1) m (by omega) (by omega), Bool.true_and]
theorem getD_set_if {α : Type} (d : α) (l : List α) (i j : Nat) (v : α) (h : i < l.length) : (l.set i v).getD j d = if j = i then v else l.getD j d := by
  rw [List.getD_eq_getElem?_getD, List.getD_eq_getElem?_getD, List.getElem?_set]
  by_cases e : j = i
  · subst e; rw [if_pos rfl, if_pos rfl, if_pos h]; rfl
  · rw [if_neg e, if_neg (by omega)]
theorem drop_cons_get {α : Type} {l t : List α} {i : Nat} {x : α} (h : l.drop i = x :: t) (d : α) : i < l.length ∧ rGet d l (i : Int) = x ∧ l.drop (i + 1) = t := by
  have hi : i < l.length := by
    rcases Nat.lt_or_ge i l.length with h' | h'
    · exact h'
    · rw [List.drop_eq_nil_of_le h'] at h; cases h
  rw [List.drop_eq_getElem_cons hi] at h
  injection h with h1 h2
  exact ⟨hi, (getD_lt d l hi).trans h1, h2⟩
/-- How many numbers nested rows have. -/
def rSum {α : Type} (z : α → Nat) (l : List α) : Nat := (l.map z).sum
theorem rSum_cons {α : Type} (z : α → Nat) (x : α) (l : List α) : rSum z (x :: l) = z x + rSum z l := by simp [rSum]
theorem rSum_le {α : Type} {z : α → Nat} {l : List α} {x : α} (h : x ∈ l) : z x ≤ rSum z l := by
  induction l with
  | nil => cases h
  | cons y l ih =>
    rw [rSum_cons]
    rcases List.mem_cons.1 h with rfl | h
    · omega
    · have := ih h; omega
theorem iter_size {X : Type} {α : Type} {f : (X → Option Int) → X → Option Int} (l : List α) (z : α → Nat) (s : Int → Nat → X)
    (go : ∀ rec (i : Nat) (left : Int) (h : i < l.length), 0 ≤ left → left ≤ 1048576 → f rec (s left i) = if (z l[i] : Int) ≤ left then rec (s (left - z l[i]) (i + 1)) else some (-1))
    (done : ∀ rec left, f rec (s left l.length) = some left) {n : Nat} (hn : l.length < n) {left : Int} (h0 : 0 ≤ left) (h1 : left ≤ 1048576) :
    iter f n (s left 0) = some (if (rSum z l : Int) ≤ left then left - rSum z l else -1) := by
  suffices H : ∀ (d i n : Nat) (left : Int), i + d = l.length → d < n → 0 ≤ left → left ≤ 1048576 → iter f n (s left i) = some (if (rSum z (l.drop i) : Int) ≤ left then left - rSum z (l.drop i) else -1) from H l.length 0 n left (by omega) hn h0 h1
  intro d
  induction d with
  | zero =>
    intro i n left hi hn h0 h1
    obtain ⟨m, rfl⟩ : ∃ m, n = m + 1 := ⟨n - 1, by omega⟩
    obtain rfl : i = l.length := by omega
    rw [List.drop_length]
    simp only [rSum, List.map_nil, List.sum_nil]
    rw [if_pos (by omega)]
    refine (done _ left).trans ?_
    congr 1; omega
  | succ d ih =>
    intro i n left hi hn h0 h1
    obtain ⟨m, rfl⟩ : ∃ m, n = m + 1 := ⟨n - 1, by omega⟩
    have hlt : i < l.length := by omega
    show f (iter f m) (s left i) = _
    rw [go _ i left hlt h0 h1, List.drop_eq_getElem_cons hlt, rSum_cons]
    by_cases c : (z l[i] : Int) ≤ left
    · rw [if_pos c, ih (i + 1) m (left - z l[i]) (by omega) (by omega) (by omega) (by omega)]
      congr 1
      by_cases c2 : (rSum z (l.drop (i + 1)) : Int) ≤ left - z l[i]
      · rw [if_pos c2, if_pos (by omega)]; omega
      · rw [if_neg c2, if_neg (by omega)]
    · rw [if_neg c, if_neg (by omega)]
def gGot (g : Int × Int × Int × List Int × Int) : Nat := g.2.2.2.1.length
def wGot (w : Int × Int × Int × List Int × Int × Int) : Nat := w.2.2.2.1.length
theorem szGatherS_eq (k : Nat) (l : List (Int × Int × Int × List Int × Int)) (n : Int) (hl : l.length ≤ 9223372036854775807) (hz : ∀ x ∈ l, gGot x ≤ 9223372036854775807) (h0 : 0 ≤ n) (h1 : n ≤ 1048576) (hk : l.length < k) :
    laws_szGatherS.f k l n = some (if (l.length : Int) + rSum gGot l ≤ n then n - l.length - rSum gGot l else -1) := by
  simp only [laws_szGatherS.f, iLt_eq, brB_dec, rLen_eq]
  rw [iSub_id (by omega) (by omega)]
  by_cases c : (l.length : Int) ≤ n
  · rw [if_neg (by omega)]
    have h := iter_size (f := fun (rec : ((List (Int × Int × Int × (List Int) × Int)) × Int × Int) → Option (Int)) (x : (List (Int × Int × Int × (List Int) × Int)) × Int × Int) => laws_szGatherS.s0 k rec x.1 x.2.1 x.2.2) l gGot (fun left i => (l, left, (i : Int))) (fun rec i left hi q0 q1 => ?_) (fun rec left => ?_) (n := k) hk (left := n - l.length) (by omega) (by omega)
    · refine Eq.trans h ?_
      congr 1
      by_cases c2 : (rSum gGot l : Int) ≤ n - l.length
      · rw [if_pos c2, if_pos (by omega)]
      · rw [if_neg c2, if_neg (by omega)]
    · have e : rGet (0, 0, 0, [], 0) l (i : Int) = l[i] := getD_lt _ _ hi
      have hg := hz _ (List.getElem_mem hi)
      simp only [laws_szGatherS.s0, e, iLt_eq, brB_dec, chk_idx, rLen_eq]
      generalize l[i] = g at *
      obtain ⟨a, b, c, gl, st⟩ := g
      rw [if_pos (by omega), if_idx hi, szGather_eq k a b c gl st left hg q0 q1, bnd_one, next_id hi (by omega)]
      rw [show gGot (a, b, c, gl, st) = gl.length from rfl]
      by_cases c3 : (gl.length : Int) ≤ left
      · rw [if_pos c3, if_neg (by omega), if_pos c3]
      · rw [if_neg c3, if_pos (by omega), if_neg c3]
    · simp only [laws_szGatherS.s0, iLt_eq, brB_dec, rLen_eq]
      rw [if_neg (by omega)]
  · rw [if_pos (by omega), if_neg (by omega)]
theorem szWaitingS_eq (k : Nat) (l : List (Int × Int × Int × List Int × Int × Int)) (n : Int) (hl : l.length ≤ 9223372036854775807) (hz : ∀ x ∈ l, wGot x ≤ 9223372036854775807) (h0 : 0 ≤ n) (h1 : n ≤ 1048576) (hk : l.length < k) :
    laws_szWaitingS.f k l n = some (if (l.length : Int) + rSum wGot l ≤ n then n - l.length - rSum wGot l else -1) := by
  simp only [laws_szWaitingS.f, iLt_eq, brB_dec, rLen_eq]
  rw [iSub_id (by omega) (by omega)]
  by_cases c : (l.length : Int) ≤ n
  · rw [if_neg (by omega)]
    have h := iter_size (f := fun (rec : ((List (Int × Int × Int × (List Int) × Int × Int)) × Int × Int) → Option (Int)) (x : (List (Int × Int × Int × (List Int) × Int × Int)) × Int × Int) => laws_szWaitingS.s0 k rec x.1 x.2.1 x.2.2) l wGot (fun left i => (l, left, (i : Int))) (fun rec i left hi q0 q1 => ?_) (fun rec left => ?_) (n := k) hk (left := n - l.length) (by omega) (by omega)
    · refine Eq.trans h ?_
      congr 1
      by_cases c2 : (rSum wGot l : Int) ≤ n - l.length
      · rw [if_pos c2, if_pos (by omega)]
      · rw [if_neg c2, if_neg (by omega)]
    · have e : rGet (0, 0, 0, [], 0, 0) l (i : Int) = l[i] := getD_lt _ _ hi
      have hg := hz _ (List.getElem_mem hi)
      simp only [laws_szWaitingS.s0, laws_szWaiting.f, e, iLt_eq, brB_dec, chk_idx, rLen_eq]
      generalize l[i] = g at *
      obtain ⟨a, b, c, gl, st, ag⟩ := g
      rw [if_pos (by omega), if_idx hi, szGather_eq k a b c gl st left hg q0 q1, bnd_one, next_id hi (by omega)]
      rw [show wGot (a, b, c, gl, st, ag) = gl.length from rfl]
      by_cases c3 : (gl.length : Int) ≤ left
      · rw [if_pos c3, if_neg (by omega), bnd_one, if_neg (by omega), if_pos c3]
      · rw [if_neg c3, if_pos (by omega), bnd_one, if_pos (by omega), if_neg c3]
    · simp only [laws_szWaitingS.s0, iLt_eq, brB_dec, rLen_eq]
      rw [if_neg (by omega)]
  · rw [if_pos (by omega), if_neg (by omega)]
/-- The size of a requester. -/
def rqSize (b : List Bool) (o : List (Int × Int × Int × List Int × Int × Int)) (e : List (Int × Int × Int × List Int × Int)) : Int := (b.length : Int) + (o.length + rSum wGot o) + (e.length + rSum gGot e)
theorem szRequester_eq (k : Nat) (id : Int) (b : List Bool) (o : List (Int × Int × Int × List Int × Int × Int)) (e : List (Int × Int × Int × List Int × Int)) (n : Int) (hb : b.length ≤ 9223372036854775807) (ho : o.length ≤ 9223372036854775807) (he : e.length ≤ 9223372036854775807)
    (ho2 : ∀ x ∈ o, wGot x ≤ 9223372036854775807) (he2 : ∀ x ∈ e, gGot x ≤ 9223372036854775807) (h0 : 0 ≤ n) (h1 : n ≤ 1048576) (hk : o.length + e.length < k) :
    laws_szRequester.f k id b o e n = some (if rqSize b o e ≤ n then n - rqSize b o e else -1) := by
  simp only [laws_szRequester.f, laws_szTags.f, szBoolS_eq k b n hb h0 h1, bnd_one, iLt_eq, brB_dec]
  generalize hR : rqSize b o e = R
  unfold rqSize at hR
  by_cases c1 : (b.length : Int) ≤ n
  · rw [if_pos c1, if_neg (by omega), bnd_one, if_neg (by omega), szWaitingS_eq k o _ ho ho2 (by omega) (by omega) (by omega), bnd_one]
    by_cases c2 : (o.length : Int) + rSum wGot o ≤ n - b.length
    · rw [if_pos c2, if_neg (by omega), szGatherS_eq k e _ he he2 (by omega) (by omega) (by omega), bnd_one]
      by_cases c3 : (e.length : Int) + rSum gGot e ≤ n - b.length - o.length - rSum wGot o
      · rw [if_pos c3, if_neg (by omega), if_pos (by omega)]
        congr 1; omega
      · rw [if_neg c3, if_pos (by omega), if_neg (by omega)]
    · rw [if_neg c2, if_pos (by omega), if_neg (by omega)]
  · rw [if_neg c1, if_pos (by omega), bnd_one, if_pos (by omega), if_neg (by omega)]
theorem toGatherS_ev (xs : List (Int × Int × Int × List Int × Int)) (hn : xs.length ≤ 1048576) (hz : ∀ x ∈ xs, gGot x ≤ 1048576) (k : Nat) (hk : xs.length + 1048576 < k) : laws_toGatherS.f k xs = some xs := by
  simp only [laws_toGatherS.f, laws_toGatherS.l0, chk_make, rLen_eq]
  rw [if_pos (by omega), rRep_nat]
  have h := iter_upto (f := fun (rec : ((List (Int × Int × Int × (List Int) × Int)) × (List (Int × Int × Int × (List Int) × Int)) × Int) → Option (List (Int × Int × Int × (List Int) × Int))) (x : (List (Int × Int × Int × (List Int) × Int)) × (List (Int × Int × Int × (List Int) × Int)) × Int) => laws_toGatherS.s0 k rec x.1 x.2.1 x.2.2)
    (fun i => (xs, fill (fun j => xs.getD j (0, 0, 0, [], 0)) (List.replicate xs.length (0, 0, 0, [], 0)) i, (i : Int))) xs.length (r := xs) (fun rec i hi => ?_) (fun rec => ?_) (n := k) (by omega)
  · rw [fill_zero] at h; exact h
  · have e : rGet (0, 0, 0, [], 0) xs (i : Int) = xs[i] := getD_lt _ _ hi
    have e' : xs.getD i (0, 0, 0, [], 0) = xs[i] := getD_lt _ _ hi
    have hg := hz _ (List.getElem_mem hi)
    simp only [laws_toGatherS.s0, fill_len (show i ≤ (List.replicate xs.length ((0, 0, 0, [], 0) : Int × Int × Int × List Int × Int)).length by simp; omega), List.length_replicate, e, iLt_eq, brB_dec, chk_idx, rLen_eq, rSet_nat]
    rw [if_pos (by omega), if_idx hi, toGather_ev _ _ _ _ _ hg k (by show _ < k; unfold gGot at hg; omega), bnd_one, if_idx hi, ← fill_set (by simpa using hi), e', next_id hi (by omega)]
    all_goals rfl
  · have h2 := fill_end (g := fun j => xs.getD j (0, 0, 0, [], 0)) (xs := List.replicate xs.length ((0, 0, 0, [], 0) : Int × Int × Int × List Int × Int))
    rw [List.length_replicate] at h2
    simp only [laws_toGatherS.s0, h2, range_getD, iLt_eq, brB_dec, rLen_eq]
    rw [if_neg (by omega)]
theorem toWaitingS_ev (xs : List (Int × Int × Int × List Int × Int × Int)) (hn : xs.length ≤ 1048576) (hz : ∀ x ∈ xs, wGot x ≤ 1048576) (k : Nat) (hk : xs.length + 1048576 < k) : laws_toWaitingS.f k xs = some xs := by
  simp only [laws_toWaitingS.f, laws_toWaitingS.l0, chk_make, rLen_eq]
  rw [if_pos (by omega), rRep_nat]
  have h := iter_upto (f := fun (rec : ((List (Int × Int × Int × (List Int) × Int × Int)) × (List (Int × Int × Int × (List Int) × Int × Int)) × Int) → Option (List (Int × Int × Int × (List Int) × Int × Int))) (x : (List (Int × Int × Int × (List Int) × Int × Int)) × (List (Int × Int × Int × (List Int) × Int × Int)) × Int) => laws_toWaitingS.s0 k rec x.1 x.2.1 x.2.2)
    (fun i => (xs, fill (fun j => xs.getD j (0, 0, 0, [], 0, 0)) (List.replicate xs.length (0, 0, 0, [], 0, 0)) i, (i : Int))) xs.length (r := xs) (fun rec i hi => ?_) (fun rec => ?_) (n := k) (by omega)
  · rw [fill_zero] at h; exact h
  · have e : rGet (0, 0, 0, [], 0, 0) xs (i : Int) = xs[i] := getD_lt _ _ hi
    have e' : xs.getD i (0, 0, 0, [], 0, 0) = xs[i] := getD_lt _ _ hi
    have hg := hz _ (List.getElem_mem hi)
    simp only [laws_toWaitingS.s0, laws_toWaiting.f, fill_len (show i ≤ (List.replicate xs.length ((0, 0, 0, [], 0, 0) : Int × Int × Int × List Int × Int × Int)).length by simp; omega), List.length_replicate, e, iLt_eq, brB_dec, chk_idx, rLen_eq, rSet_nat]
    rw [if_pos (by omega), if_idx hi, toGather_ev _ _ _ _ _ hg k (by show _ < k; unfold wGot at hg; omega), bnd_one, bnd_one, if_idx hi, ← fill_set (by simpa using hi), e', next_id hi (by omega)]
    all_goals rfl
  · have h2 := fill_end (g := fun j => xs.getD j (0, 0, 0, [], 0, 0)) (xs := List.replicate xs.length ((0, 0, 0, [], 0, 0) : Int × Int × Int × List Int × Int × Int))
    rw [List.length_replicate] at h2
    simp only [laws_toWaitingS.s0, h2, range_getD, iLt_eq, brB_dec, rLen_eq]
    rw [if_neg (by omega)]
theorem eqGatherS_refl (xs : List (Int × Int × Int × List Int × Int)) (hn : xs.length ≤ 1048576) (hz : ∀ x ∈ xs, gGot x ≤ 1048576) (k : Nat) (hk : xs.length + 1048576 < k) : laws_eqGatherS.f k xs xs = some true := by
  simp only [laws_eqGatherS.f, laws_eqGatherS.l0, iNe_eq, decide_true, Bool.not_true, brB_false]
  refine iter_upto (f := fun (rec : ((List (Int × Int × Int × (List Int) × Int)) × (List (Int × Int × Int × (List Int) × Int)) × Int) → Option (Bool)) (x : (List (Int × Int × Int × (List Int) × Int)) × (List (Int × Int × Int × (List Int) × Int)) × Int) => laws_eqGatherS.s0 k rec x.1 x.2.1 x.2.2) (fun i => (xs, xs, (i : Int))) xs.length (fun rec i hi => ?_) (fun rec => ?_) (by omega)
  · have e : rGet (0, 0, 0, [], 0) xs (i : Int) = xs[i] := getD_lt _ _ hi
    have hg := hz _ (List.getElem_mem hi)
    simp only [laws_eqGatherS.s0, e, iLt_eq, brB_dec, chk_idx, rLen_eq]
    rw [if_pos (by omega), if_idx hi, if_idx hi, eqGather_refl _ _ _ _ _ (by unfold gGot at hg; omega) k (by unfold gGot at hg; omega), next_id hi (by omega)]; rfl
  · simp only [laws_eqGatherS.s0, iLt_eq, brB_dec, rLen_eq]
    rw [if_neg (by omega)]
theorem eqWaitingS_refl (xs : List (Int × Int × Int × List Int × Int × Int)) (hn : xs.length ≤ 1048576) (hz : ∀ x ∈ xs, wGot x ≤ 1048576) (k : Nat) (hk : xs.length + 1048576 < k) : laws_eqWaitingS.f k xs xs = some true := by
  simp only [laws_eqWaitingS.f, laws_eqWaitingS.l0, iNe_eq, decide_true, Bool.not_true, brB_false]
  refine iter_upto (f := fun (rec : ((List (Int × Int × Int × (List Int) × Int × Int)) × (List (Int × Int × Int × (List Int) × Int × Int)) × Int) → Option (Bool)) (x : (List (Int × Int × Int × (List Int) × Int × Int)) × (List (Int × Int × Int × (List Int) × Int × Int)) × Int) => laws_eqWaitingS.s0 k rec x.1 x.2.1 x.2.2) (fun i => (xs, xs, (i : Int))) xs.length (fun rec i hi => ?_) (fun rec => ?_) (by omega)
  · have e : rGet (0, 0, 0, [], 0, 0) xs (i : Int) = xs[i] := getD_lt _ _ hi
    have hg := hz _ (List.getElem_mem hi)
    simp only [laws_eqWaitingS.s0, laws_eqWaiting.f, e, iLt_eq, iNe_eq, decide_true, Bool.not_true, brB_false, brB_dec, chk_idx, rLen_eq]
    rw [if_pos (by omega), if_idx hi, if_idx hi, eqGather_refl _ _ _ _ _ (by unfold wGot at hg; omega) k (by unfold wGot at hg; omega), next_id hi (by omega)]; rfl
  · simp only [laws_eqWaitingS.s0, iLt_eq, brB_dec, rLen_eq]
    rw [if_neg (by omega)]
theorem toRequester_ev (id : Int) (b : List Bool) (o : List (Int × Int × Int × List Int × Int × Int)) (e : List (Int × Int × Int × List Int × Int)) (h : rqSize b o e ≤ 1048576) (k : Nat) (hk : 3000000 < k) : laws_toRequester.f k id b o e = some (id, b, o, e) := by
  unfold rqSize at h
  simp only [laws_toRequester.f, laws_toTags.f, toBoolS_ev b (by omega) k (by omega), toWaitingS_ev o (by omega) (fun x hx => by have := rSum_le (z := wGot) hx; omega) k (by omega), toGatherS_ev e (by omega) (fun x hx => by have := rSum_le (z := gGot) hx; omega) k (by omega), bnd_one]
theorem eqRequester_refl (id : Int) (b : List Bool) (o : List (Int × Int × Int × List Int × Int × Int)) (e : List (Int × Int × Int × List Int × Int)) (h : rqSize b o e ≤ 1048576) (k : Nat) (hk : 3000000 < k) : laws_eqRequester.f k id b o e id b o e = some true := by
  unfold rqSize at h
  simp only [laws_eqRequester.f, laws_eqTags.f, eqBoolS_refl b (by omega) k (by omega), eqWaitingS_refl o (by omega) (fun x hx => by have := rSum_le (z := wGot) hx; omega) k (by omega), eqGatherS_refl e (by omega) (fun x hx => by have := rSum_le (z := gGot) hx; omega) k (by omega), bnd_one, iNe_eq, decide_true, bNot_eq, Bool.not_true, brB_false]
/-- How many are busy. -/
def busyN (b : List Bool) : Nat := b.countP id
theorem countBusy_ev (b : List Bool) (hb : b.length ≤ 1048576) (k : Nat) (hk : b.length < k) : spec_CountBusy.f k b = some (busyN b : Int) := by
  have h := iter_upto (f := fun (rec : (Int × Int × List Bool) → Option (Int)) (x : Int × Int × List Bool) => spec_CountBusy.s0 k rec x.1 x.2.1 x.2.2) (fun i => ((busyN (b.take i) : Int), (i : Int), b)) b.length (r := (busyN b : Int)) (fun rec i hi => ?_) (fun rec => ?_) (n := k) hk
  · exact h
  · have hc : busyN (b.take i) ≤ i := Nat.le_trans List.countP_le_length (by simp; omega)
    have e : busyN (b.take (i + 1)) = busyN (b.take i) + (if b.getD i false = true then 1 else 0) := by
      rw [List.take_succ_eq_append_getElem hi, busyN, List.countP_append, getD_lt false b hi]
      simp only [busyN, List.countP_cons, List.countP_nil, id_eq, Nat.zero_add]
    simp only [spec_CountBusy.s0, iLt_eq, brB_dec, chk_idx, rLen_eq, rGet_nat, e]
    rw [if_pos (by omega), if_idx hi, next_id hi (by omega), iAdd_id (by omega) (by omega), brB_if]
    split
    · congr 2
    · congr 2
  · simp only [spec_CountBusy.s0, iLt_eq, brB_dec, rLen_eq, List.take_length]
    rw [if_neg (by omega)]
theorem equalBool_ev (a b : List Bool) (ha : a.length ≤ 1048576) (k : Nat) (hk : a.length < k) : slices_Equal_bool.f k a b = some (decide (a = b)) := by
  simp only [slices_Equal_bool.f, iNe_eq, brB_nb, brB_dec, rLen_eq]
  by_cases hl : (a.length : Int) = (b.length : Int)
  · rw [if_pos hl]
    have h := iter_all (f := fun (rec : (List Bool × List Bool × Int × Int) → Option (Bool)) (x : List Bool × List Bool × Int × Int) => slices_Equal_bool.s0 k rec x.1 x.2.1 x.2.2.1 x.2.2.2) (fun i => (a, b, (a.length : Int), (i : Int))) (List.range a.length) (fun i => decide (a.getD i false = b.getD i false)) (some true) (some false) (fun rec i hi hp => ?_) (fun rec i hi hp => ?_) (fun rec => ?_) (n := k) (by simpa using hk)
    · refine Eq.trans h ?_
      by_cases e : a = b
      · subst e
        rw [show ((List.range a.length).all fun i => decide (a.getD i false = a.getD i false)) = true by simp, decide_eq_true rfl]; rfl
      · rw [decide_eq_false e, show ((List.range a.length).all fun i => decide (a.getD i false = b.getD i false)) = false by
          rw [← Bool.not_eq_true, List.all_eq_true]
          intro H
          refine e (List.ext_getElem (by omega) fun i h1 h2 => ?_)
          have := H i (List.mem_range.2 h1)
          rw [decide_eq_true_eq, getD_lt false a h1, getD_lt false b h2] at this
          exact this]; rfl
    · simp only [List.length_range] at hi
      simp only [List.getElem_range, decide_eq_true_eq] at hp
      simp only [slices_Equal_bool.s0, iLt_eq, brB_dec, chk_idx, rLen_eq, rGet_nat, hp, bNe_eq, decide_true, Bool.not_true, brB_false]
      rw [if_pos (by omega), if_idx hi, if_idx (by omega), next_id hi (by omega)]
    · simp only [List.length_range] at hi
      simp only [List.getElem_range, decide_eq_false_iff_not] at hp
      simp only [slices_Equal_bool.s0, iLt_eq, brB_dec, chk_idx, rLen_eq, rGet_nat, bNe_eq, decide_eq_false hp, Bool.not_false, brB_true]
      rw [if_pos (by omega), if_idx hi, if_idx (by omega)]
    · simp only [List.length_range, slices_Equal_bool.s0, iLt_eq, brB_dec]
      rw [if_neg (by omega)]
  · rw [if_neg hl, decide_eq_false (fun e => hl (by rw [e]))]
/-- A gathering that waits is valid, and the requester's own. -/
def wOkB (id : Int) (w : Int × Int × Int × List Int × Int × Int) : Bool := gatherB w.1 w.2.1 w.2.2.1 w.2.2.2.1 w.2.2.2.2.1 && (decide (w.1 = id) && (decide (w.2.2.2.2.1 = 0) && decide (0 ≤ w.2.2.2.2.2 ∧ w.2.2.2.2.2 ≤ 50)))
def gOkB (g : Int × Int × Int × List Int × Int) : Bool := gatherB g.1 g.2.1 g.2.2.1 g.2.2.2.1 g.2.2.2.2
/-- The table of the busy tags. -/
def tblB (id : Int) : List Bool → List (Int × Int × Int × List Int × Int × Int) → Option (List Bool)
  | t, [] => some t
  | t, w :: r => if wOkB id w = true ∧ t.getD w.2.1.toNat false = false then tblB id (t.set w.2.1.toNat true) r else none
/-- The same, tag by tag. -/
def spB (id : Int) (b : List Bool) : List (Int × Int × Int × List Int × Int × Int) → List (Int × Int × Int × List Int × Int × Int) → Bool
  | _, [] => true
  | seen, w :: r => wOkB id w && (b.getD w.2.1.toNat false && (seen.all (fun s => !decide (s.2.1 = w.2.1)) && spB id b (seen ++ [w]) r))
theorem wOk_tag {id : Int} {w : Int × Int × Int × List Int × Int × Int} (h : wOkB id w = true) : 0 ≤ w.2.1 ∧ w.2.1 ≤ 7 := by
  simp only [wOkB, gatherB, Bool.and_eq_true, decide_eq_true_eq] at h
  exact h.1.2.1
theorem busyN_set {t : List Bool} {i : Nat} (hi : i < t.length) (h : t.getD i false = false) : busyN (t.set i true) = busyN t + 1 := by
  rw [getD_lt false t hi] at h
  induction t generalizing i with
  | nil => simp at hi
  | cons x t ih =>
    cases i with
    | zero =>
      simp only [List.getElem_cons_zero] at h
      subst h
      simp [busyN]
    | succ i =>
      simp only [List.getElem_cons_succ, List.length_cons] at h hi
      have := ih (i := i) (by omega) h
      simp only [List.set_cons_succ, busyN, List.countP_cons, id_eq] at this ⊢
      omega
/-- t is part of b. -/
def leB (t b : List Bool) : Prop := ∀ i : Nat, t.getD i false = true → b.getD i false = true
theorem leB_count : ∀ {t b : List Bool}, t.length = b.length → leB t b → busyN t ≤ busyN b ∧ (busyN t = busyN b → t = b)
  | [], [], _, _ => ⟨Nat.le_refl _, fun _ => rfl⟩
  | [], _ :: _, h, _ => by simp at h
  | _ :: _, [], h, _ => by simp at h
  | x :: t, y :: b, h, hl => by
    have hl' : leB t b := fun i hi => by simpa using hl (i + 1) (by simpa using hi)
    obtain ⟨h1, h2⟩ := leB_count (by simpa using h) hl'
    have h0 := hl 0
    simp only [List.getD_cons_zero] at h0
    simp only [busyN, List.countP_cons, id_eq] at h1 h2 ⊢
    cases x <;> cases y <;> simp at h0 ⊢
    · exact ⟨h1, h2⟩
    · exact ⟨by omega, fun e => by omega⟩
    · exact ⟨h1, h2⟩
theorem leB_set {t b : List Bool} {i : Nat} (hi : i < t.length) (h : leB t b) (hb : b.getD i false = true) : leB (t.set i true) b := by
  intro j hj
  rw [getD_set_if false _ _ _ _ hi] at hj
  split at hj
  · rename_i e; rw [e]; exact hb
  · exact h j hj
theorem leB_of_set {t b : List Bool} {i : Nat} (hi : i < t.length) (h : leB (t.set i true) b) : leB t b ∧ b.getD i false = true := by
  refine ⟨fun j hj => h j ?_, h i ?_⟩
  · rw [getD_set_if false _ _ _ _ hi]; split
    · rfl
    · exact hj
  · rw [getD_set_if false _ _ _ _ hi, if_pos rfl]
/-- What has been seen is what the table shows. -/
def seenT (seen : List (Int × Int × Int × List Int × Int × Int)) (t : List Bool) : Prop := ∀ i : Nat, t.getD i false = true ↔ ∃ s ∈ seen, s.2.1 = (i : Int)
theorem seen_step {seen : List (Int × Int × Int × List Int × Int × Int)} {t : List Bool} {w : Int × Int × Int × List Int × Int × Int} (h : seenT seen t) (hw : 0 ≤ w.2.1) (hi : w.2.1.toNat < t.length) : seenT (seen ++ [w]) (t.set w.2.1.toNat true) := by
  intro i
  rw [getD_set_if false _ _ _ _ hi]
  constructor
  · intro hh
    split at hh
    · exact ⟨w, by simp, by omega⟩
    · obtain ⟨s, hs, e⟩ := (h i).1 hh
      exact ⟨s, by simp [hs], e⟩
  · rintro ⟨s, hs, e⟩
    split
    · rfl
    · rename_i ne
      rcases List.mem_append.1 hs with hs | hs
      · exact (h i).2 ⟨s, hs, e⟩
      · simp at hs; subst hs; omega
theorem seen_all {seen : List (Int × Int × Int × List Int × Int × Int)} {t : List Bool} {w : Int × Int × Int × List Int × Int × Int} (h : seenT seen t) (hw : 0 ≤ w.2.1) : seen.all (fun s => !decide (s.2.1 = w.2.1)) = !t.getD w.2.1.toNat false := by
  rw [Bool.eq_iff_iff, List.all_eq_true, Bool.not_eq_true', ← Bool.not_eq_true, h]
  constructor
  · rintro H ⟨s, hs, e⟩
    have := H s hs
    rw [Bool.not_eq_true', decide_eq_false_iff_not] at this
    exact this (by omega)
  · intro H s hs
    rw [Bool.not_eq_true', decide_eq_false_iff_not]
    exact fun e => H ⟨s, hs, by omega⟩
theorem tbl_count {id : Int} : ∀ (r : List (Int × Int × Int × List Int × Int × Int)) (t t' : List Bool), t.length = 8 → tblB id t r = some t' → busyN t' = busyN t + r.length ∧ t'.length = 8 ∧ leB t t'
  | [], t, t', hl, h => by simp only [tblB] at h; cases h; exact ⟨rfl, hl, fun _ h => h⟩
  | w :: r, t, t', hl, h => by
    simp only [tblB] at h
    split at h
    · rename_i c
      have ht := wOk_tag c.1
      obtain ⟨h1, h2, h3⟩ := tbl_count r _ t' (by simpa using hl) h
      rw [busyN_set (by omega) c.2] at h1
      exact ⟨by simp only [List.length_cons]; omega, h2, (leB_of_set (by omega) h3).1⟩
    · cases h
theorem sp_tbl {id : Int} {b : List Bool} : ∀ (r seen : List (Int × Int × Int × List Int × Int × Int)) (t : List Bool), t.length = 8 → seenT seen t → leB t b → (spB id b seen r = true ↔ ∃ t', tblB id t r = some t' ∧ leB t' b)
  | [], seen, t, hl, hs, hb => by
    simp only [spB, tblB, true_iff]
    exact ⟨t, rfl, hb⟩
  | w :: r, seen, t, hl, hs, hb => by
    simp only [spB, tblB, Bool.and_eq_true]
    constructor
    · rintro ⟨h1, h2, h3, h4⟩
      have ht := wOk_tag h1
      rw [seen_all hs ht.1, Bool.not_eq_true'] at h3
      rw [if_pos ⟨h1, h3⟩]
      exact (sp_tbl r (seen ++ [w]) _ (by simpa using hl) (seen_step hs ht.1 (by omega)) (leB_set (by omega) hb h2)).1 h4
    · rintro ⟨t', h, hle⟩
      split at h
      · rename_i c
        have ht := wOk_tag c.1
        obtain ⟨_, _, h3⟩ := tbl_count r _ t' (by simpa using hl) h
        have hle2 : leB (t.set w.2.1.toNat true) b := fun i hi => hle i (h3 i hi)
        obtain ⟨_, hbt⟩ := leB_of_set (by omega) hle2
        refine ⟨c.1, hbt, ?_, (sp_tbl r (seen ++ [w]) _ (by simpa using hl) (seen_step hs ht.1 (by omega)) hle2).2 ⟨t', h, hle⟩⟩
        rw [seen_all hs ht.1, c.2]; rfl
      · cases h
/-- The tags that wait are the busy ones. -/
def openOkB (id : Int) (b : List Bool) (o : List (Int × Int × Int × List Int × Int × Int)) : Bool := match tblB id (List.replicate 8 false) o with | some t => decide (t = b) | none => false
theorem open_eq {id : Int} {b : List Bool} (hb : b.length = 8) (o : List (Int × Int × Int × List Int × Int × Int)) : (decide ((busyN b : Int) = (o.length : Int)) && spB id b [] o) = openOkB id b o := by
  have h0 : seenT [] (List.replicate 8 false) := fun i => by
    simp only [List.not_mem_nil, false_and, exists_const, iff_false, Bool.not_eq_true]
    rw [List.getD_eq_getElem?_getD, List.getElem?_replicate]; split <;> rfl
  have h1 : leB (List.replicate 8 false) b := fun i hi => by
    rw [List.getD_eq_getElem?_getD, List.getElem?_replicate] at hi
    split at hi <;> cases hi
  have hs := sp_tbl (id := id) (b := b) o [] (List.replicate 8 false) (by simp) h0 h1
  have hz : busyN (List.replicate 8 false) = 0 := by decide
  unfold openOkB
  rw [Bool.eq_iff_iff, Bool.and_eq_true, decide_eq_true_eq, hs]
  cases ht : tblB id (List.replicate 8 false) o with
  | none => simp
  | some t =>
    obtain ⟨c1, c2, c3⟩ := tbl_count o _ t (by simp) ht
    simp only [Option.some.injEq, exists_eq_left', decide_eq_true_eq]
    constructor
    · rintro ⟨e, hle⟩
      exact (leB_count (by omega) hle).2 (by omega)
    · rintro rfl
      exact ⟨by omega, fun _ h => h⟩
/-- A requester is valid. -/
def reqB (id : Int) (b : List Bool) (o : List (Int × Int × Int × List Int × Int × Int)) (e : List (Int × Int × Int × List Int × Int)) : Bool :=
  decide (0 ≤ id ∧ id ≤ 255) && (decide ((b.length : Int) = 8) && (decide ((e.length : Int) ≤ 1000) && (e.all gOkB && openOkB id b o)))
theorem endedBad_ev (e : List (Int × Int × Int × List Int × Int)) (he : e.length ≤ 1048576) (hz : ∀ x ∈ e, gGot x ≤ 1048576) (k : Nat) (hk : 3000000 < k) : slices_ContainsFunc_Gather_impl_RequesterOk_1.f k e = some (!e.all gOkB) := by
  have h := iter_find (f := fun (rec : ((List (Int × Int × Int × (List Int) × Int)) × Int × Int) → Option (Int)) (x : (List (Int × Int × Int × (List Int) × Int)) × Int × Int) => slices_IndexFunc_Gather_impl_RequesterOk_1.s0 k rec x.1 x.2.1 x.2.2) (fun i => (e, (e.length : Int), (i : Int))) e gOkB (-1) (fun i => (i : Int))
    (fun rec i hi hp => ?_) (fun rec i hi hp => ?_) (fun rec => ?_) (n := k) (by omega)
  · have e1 : slices_IndexFunc_Gather_impl_RequesterOk_1.f k e = _ := h
    simp only [slices_ContainsFunc_Gather_impl_RequesterOk_1.f, e1, bnd_one, found_iff e gOkB]
  · have e1 : rGet (0, 0, 0, [], 0) e (i : Int) = e[i] := getD_lt _ _ hi
    have hg := hz _ (List.getElem_mem hi)
    simp only [slices_IndexFunc_Gather_impl_RequesterOk_1.s0, impl_RequesterOk_1.f, e1, iLt_eq, brB_dec, chk_idx, rLen_eq]
    rw [if_pos (by omega), if_idx hi, implGatherOk_ev _ _ _ _ _ (by unfold gGot at hg; omega) k (by unfold gGot at hg; omega), show gatherB _ _ _ _ _ = gOkB e[i] from rfl, hp, next_id hi (by omega)]; rfl
  · have e1 : rGet (0, 0, 0, [], 0) e (i : Int) = e[i] := getD_lt _ _ hi
    have hg := hz _ (List.getElem_mem hi)
    simp only [slices_IndexFunc_Gather_impl_RequesterOk_1.s0, impl_RequesterOk_1.f, e1, iLt_eq, brB_dec, chk_idx, rLen_eq]
    rw [if_pos (by omega), if_idx hi, implGatherOk_ev _ _ _ _ _ (by unfold gGot at hg; omega) k (by unfold gGot at hg; omega), show gatherB _ _ _ _ _ = gOkB e[i] from rfl, hp]; rfl
  · simp only [slices_IndexFunc_Gather_impl_RequesterOk_1.s0, iLt_eq, brB_dec]
    rw [if_neg (by omega)]
noncomputable def roF (k : Nat) (rec : ((List (Int × Int × Int × (List Int) × Int × Int)) × Int × Int × Int × List Bool × (List (Int × Int × Int × (List Int) × Int × Int)) × (List (Int × Int × Int × (List Int) × Int)) × List Bool) → Option (Bool)) (x : (List (Int × Int × Int × (List Int) × Int × Int)) × Int × Int × Int × List Bool × (List (Int × Int × Int × (List Int) × Int × Int)) × (List (Int × Int × Int × (List Int) × Int)) × List Bool) : Option Bool := impl_RequesterOk.s0 k rec x.1 x.2.1 x.2.2.1 x.2.2.2.1 x.2.2.2.2.1 x.2.2.2.2.2.1 x.2.2.2.2.2.2.1 x.2.2.2.2.2.2.2
theorem implOpen_loop (k : Nat) (hk : 3000000 < k) (id : Int) (b : List Bool) (o o' : List (Int × Int × Int × List Int × Int × Int)) (e : List (Int × Int × Int × List Int × Int)) (ho : o.length ≤ 1048576) (hz : ∀ x ∈ o, wGot x ≤ 1048576) : ∀ (r : List (Int × Int × Int × List Int × Int × Int)) (i : Nat) (t : List Bool) (K : Nat), o.drop i = r → i ≤ o.length → r.length < K → t.length = 8 →
    iter (roF k) K (o, (o.length : Int), (i : Int), id, b, o', e, t) = some (match tblB id t r with | some t => decide (t = b) | none => false)
  | r, i, t, 0, _, _, hK, _ => by omega
  | [], i, t, K + 1, hr, hi, hK, ht => by
    have hil : o.length ≤ i := by
      rcases Nat.lt_or_ge i o.length with h' | h'
      · rw [List.drop_eq_getElem_cons h'] at hr; cases hr
      · exact h'
    show impl_RequesterOk.s0 k (iter (roF k) K) o (o.length : Int) (i : Int) id b o' e t = _
    generalize iter (roF k) K = rec
    simp only [impl_RequesterOk.s0, iLt_eq, brB_dec, equalBool_ev t b (by omega) k (by omega), bnd_one, tblB]
    rw [if_neg (by omega)]
  | w :: r, i, t, K + 1, hr, hi, hK, ht => by
    obtain ⟨q1, q2, q3⟩ := drop_cons_get hr (0, 0, 0, [], 0, 0)
    have hm : w ∈ o := by
      have : w ∈ o.drop i := by rw [hr]; simp
      exact List.mem_of_mem_drop this
    have hg := hz w hm
    simp only [List.length_cons] at hK
    have ih := implOpen_loop k hk id b o o' e ho hz r (i + 1) (t.set w.2.1.toNat true) K q3 (by omega) (by omega) (by simpa using ht)
    show impl_RequesterOk.s0 k (iter (roF k) K) o (o.length : Int) (i : Int) id b o' e t = _
    generalize iter (roF k) K = rec at ih ⊢
    simp only [impl_RequesterOk.s0, q2, iLt_eq, iNe_eq, brB_dec, brB_nb, bNot_eq, chk_idx, rLen_eq, within_eq]
    rw [if_pos (by omega), if_idx q1, implGatherOk_ev _ _ _ _ _ (by unfold wGot at hg; omega) k (by unfold wGot at hg; omega), bnd_one, bnd_one, next_id q1 (by omega)]
    simp only [tblB]
    cases c1 : gatherB w.1 w.2.1 w.2.2.1 w.2.2.2.1 w.2.2.2.2.1 with
    | false =>
      have hn : ¬ (wOkB id w = true ∧ t.getD w.2.1.toNat false = false) := fun h => by have := h.1; simp [wOkB, c1] at this
      rw [brB_false, if_neg hn]
    | true =>
      have htag : 0 ≤ w.2.1 ∧ w.2.1 ≤ 7 := by
        simp only [gatherB, Bool.and_eq_true, decide_eq_true_eq] at c1
        exact c1.2.1
      rw [brB_true]
      by_cases c2 : w.1 = id
      · rw [if_pos c2]
        by_cases c3 : w.2.2.2.2.1 = 0
        · rw [if_pos c3]
          by_cases c4 : 0 ≤ w.2.2.2.2.2 ∧ w.2.2.2.2.2 ≤ 50
          · rw [decide_eq_true c4, brB_true, if_pos (by omega), rGet_in _ _ htag.1, rSet_in _ _ htag.1]
            have hw : wOkB id w = true := by unfold wOkB; rw [c1, decide_eq_true c2, decide_eq_true c3, decide_eq_true c4]; rfl
            cases c5 : t.getD w.2.1.toNat false with
            | true => rw [brB_true, if_neg (fun h => by cases h.2)]
            | false => rw [brB_false, if_pos (by omega), if_pos ⟨hw, rfl⟩]; exact ih
          · rw [decide_eq_false c4, brB_false, if_neg (fun h => c4 (by have := h.1; simp only [wOkB, Bool.and_eq_true, decide_eq_true_eq] at this; exact this.2.2.2))]
        · rw [if_neg c3, if_neg (fun h => c3 (by have := h.1; simp only [wOkB, Bool.and_eq_true, decide_eq_true_eq] at this; exact this.2.2.1))]
      · rw [if_neg c2, if_neg (fun h => c2 (by have := h.1; simp only [wOkB, Bool.and_eq_true, decide_eq_true_eq] at this; exact this.2.1))]
theorem implReqOk_ev (id : Int) (b : List Bool) (o : List (Int × Int × Int × List Int × Int × Int)) (e : List (Int × Int × Int × List Int × Int)) (h : rqSize b o e ≤ 1048576) (k : Nat) (hk : 3000000 < k) : impl_RequesterOk.f k id b o e = some (reqB id b o e) := by
  unfold rqSize at h
  have hz : ∀ x ∈ o, wGot x ≤ 1048576 := fun x hx => by have := rSum_le (z := wGot) hx; omega
  have hl := implOpen_loop k hk id b o o e (by omega) hz o 0 (List.replicate 8 false) k rfl (by omega) (by omega) (by simp)
  have hl' : impl_RequesterOk.l0 k k o (o.length : Int) 0 id b o e (List.replicate 8 false) = some (openOkB id b o) := hl
  have hnt : impl_NewTags.f k = some (List.replicate 8 false) := by
    simp only [impl_NewTags.f, chk_make]
    rw [if_pos (by omega)]; rfl
  simp only [impl_RequesterOk.f, implIsId_eq, impl_TagsOk.f, endedBad_ev e (by omega) (fun x hx => by have := rSum_le (z := gGot) hx; omega) k hk, hnt, hl', bnd_one, bNot_eq, brB_nb, brB_dec, iEq_eq, iLt_eq, rLen_eq, reqB]
  refine if_and (if_and ?_)
  by_cases c : (1000 : Int) < e.length
  · rw [if_pos c, decide_eq_false (by omega), Bool.false_and]
  · rw [if_neg c, decide_eq_true (show (e.length : Int) ≤ 1000 by omega), Bool.true_and]
    exact brB_and rfl
noncomputable def so1 (k : Nat) (rec : (Int × Int × List Bool × (List (Int × Int × Int × (List Int) × Int × Int)) × (List (Int × Int × Int × (List Int) × Int))) → Option (Bool)) (x : Int × Int × List Bool × (List (Int × Int × Int × (List Int) × Int × Int)) × (List (Int × Int × Int × (List Int) × Int))) : Option Bool := spec_RequesterOk.s1 k rec x.1 x.2.1 x.2.2.1 x.2.2.2.1 x.2.2.2.2
theorem specSeen_loop (k : Nat) (hk : 3000000 < k) (id : Int) (b : List Bool) (o : List (Int × Int × Int × List Int × Int × Int)) (e : List (Int × Int × Int × List Int × Int)) (g0 g1 g2 : Int) (gl : List Int) (g4 : Int) (i : Nat) (hi : i < o.length) (ho : o.length ≤ 1048576)
    (rec1 : (Int × Int × (List Bool) × (List (Int × Int × Int × (List Int) × Int × Int)) × List (Int × Int × Int × (List Int) × Int)) → Option (Bool)) :
    spec_RequesterOk.l2 k k rec1 (i : Int) 0 id b o e g0 g1 g2 gl g4 = brB ((o.take i).all (fun s => !decide (s.2.1 = g1))) (rec1 (((i + 1 : Nat) : Int), id, b, o, e)) (some false) := by
  have hlen : (o.take i).length = i := by simp; omega
  have h := iter_all (f := fun (rec : (Int × Int × Int × List Bool × (List (Int × Int × Int × (List Int) × Int × Int)) × (List (Int × Int × Int × (List Int) × Int)) × Int × Int × Int × List Int × Int) → Option (Bool)) (x : Int × Int × Int × List Bool × (List (Int × Int × Int × (List Int) × Int × Int)) × (List (Int × Int × Int × (List Int) × Int)) × Int × Int × Int × List Int × Int) => spec_RequesterOk.s2 k rec1 rec x.1 x.2.1 x.2.2.1 x.2.2.2.1 x.2.2.2.2.1 x.2.2.2.2.2.1 x.2.2.2.2.2.2.1 x.2.2.2.2.2.2.2.1 x.2.2.2.2.2.2.2.2.1 x.2.2.2.2.2.2.2.2.2.1 x.2.2.2.2.2.2.2.2.2.2)
    (fun j => ((i : Int), (j : Int), id, b, o, e, g0, g1, g2, gl, g4)) (o.take i) (fun s => !decide (s.2.1 = g1)) (rec1 (((i + 1 : Nat) : Int), id, b, o, e)) (some false) (fun rec j hj hp => ?_) (fun rec j hj hp => ?_) (fun rec => ?_) (n := k) (by omega)
  · exact h
  · rw [hlen] at hj
    have e1 : rGet (0, 0, 0, [], 0, 0) o (j : Int) = (o.take i)[j]'(by omega) := by
      rw [List.getElem_take]; exact getD_lt _ _ (by omega)
    rw [Bool.not_eq_true', decide_eq_false_iff_not] at hp
    simp only [spec_RequesterOk.s2, e1, iLt_eq, iEq_eq, brB_dec, chk_idx, rLen_eq]
    rw [if_pos (by omega), if_idx (by omega), if_neg hp, next_id (i := j) (n := o.length) (by omega) (by omega)]
  · rw [hlen] at hj
    have e1 : rGet (0, 0, 0, [], 0, 0) o (j : Int) = (o.take i)[j]'(by omega) := by
      rw [List.getElem_take]; exact getD_lt _ _ (by omega)
    rw [Bool.not_eq_false', decide_eq_true_eq] at hp
    simp only [spec_RequesterOk.s2, e1, iLt_eq, iEq_eq, brB_dec, chk_idx, rLen_eq]
    rw [if_pos (by omega), if_idx (by omega), if_pos hp]
  · simp only [spec_RequesterOk.s2, iLt_eq, brB_dec, hlen]
    rw [if_neg (by omega), next_id (i := i) (n := o.length) (by omega) (by omega)]
theorem specOpen_loop (k : Nat) (hk : 3000000 < k) (id : Int) (b : List Bool) (hb : b.length = 8) (o : List (Int × Int × Int × List Int × Int × Int)) (e : List (Int × Int × Int × List Int × Int)) (ho : o.length ≤ 1048576) (hz : ∀ x ∈ o, wGot x ≤ 1048576) : ∀ (r : List (Int × Int × Int × List Int × Int × Int)) (i : Nat) (K : Nat), o.drop i = r → i ≤ o.length → r.length < K →
    iter (so1 k) K ((i : Int), id, b, o, e) = some (spB id b (o.take i) r)
  | r, i, 0, _, _, hK => by omega
  | [], i, K + 1, hr, hi, hK => by
    have hil : o.length ≤ i := by
      rcases Nat.lt_or_ge i o.length with h' | h'
      · rw [List.drop_eq_getElem_cons h'] at hr; cases hr
      · exact h'
    show spec_RequesterOk.s1 k (iter (so1 k) K) (i : Int) id b o e = _
    generalize iter (so1 k) K = rec
    simp only [spec_RequesterOk.s1, iLt_eq, brB_dec, rLen_eq, spB]
    rw [if_neg (by omega)]
  | w :: r, i, K + 1, hr, hi, hK => by
    obtain ⟨q1, q2, q3⟩ := drop_cons_get hr (0, 0, 0, [], 0, 0)
    have hm : w ∈ o := by
      have : w ∈ o.drop i := by rw [hr]; simp
      exact List.mem_of_mem_drop this
    have hg := hz w hm
    simp only [List.length_cons] at hK
    have ih := specOpen_loop k hk id b hb o e ho hz r (i + 1) K q3 (by omega) (by omega)
    have et : o.take (i + 1) = o.take i ++ [w] := by
      rw [List.take_succ_eq_append_getElem q1]
      congr 2
      exact ((getD_lt _ _ q1).symm.trans q2)
    rw [et] at ih
    show spec_RequesterOk.s1 k (iter (so1 k) K) (i : Int) id b o e = _
    generalize iter (so1 k) K = rec at ih ⊢
    simp only [spec_RequesterOk.s1, q2, iLt_eq, iNe_eq, brB_dec, brB_nb, bNot_eq, chk_idx, rLen_eq, l01In_eq, specSeen_loop k hk id b o e _ _ _ _ _ i q1 ho rec, ih]
    rw [if_pos (by omega), if_idx q1, specGatherOk_ev _ _ _ _ _ (by unfold wGot at hg; omega) k (by unfold wGot at hg; omega), bnd_one]
    simp only [spB, wOkB]
    cases c1 : gatherB w.1 w.2.1 w.2.2.1 w.2.2.2.1 w.2.2.2.2.1 with
    | false => rfl
    | true =>
      have htag : 0 ≤ w.2.1 ∧ w.2.1 ≤ 7 := by
        simp only [gatherB, Bool.and_eq_true, decide_eq_true_eq] at c1
        exact c1.2.1
      rw [brB_true, bnd_one, if_idx q1, if_pos (show 0 ≤ w.2.1 ∧ w.2.1 < (b.length : Int) by omega), rGet_in _ _ htag.1, Bool.true_and]
      by_cases c2 : w.1 = id
      · rw [if_pos c2, decide_eq_true c2, Bool.true_and]
        by_cases c3 : w.2.2.2.2.1 = 0
        · rw [if_pos c3, decide_eq_true c3, Bool.true_and]
          by_cases c4 : 0 ≤ w.2.2.2.2.2 ∧ w.2.2.2.2.2 ≤ 50
          · rw [decide_eq_true c4, brB_true, Bool.true_and]
            exact brB_and (brB_and rfl)
          · rw [decide_eq_false c4]; rfl
        · rw [if_neg c3, decide_eq_false c3]; rfl
      · rw [if_neg c2, decide_eq_false c2]; rfl
theorem specReqOk_ev (id : Int) (b : List Bool) (o : List (Int × Int × Int × List Int × Int × Int)) (e : List (Int × Int × Int × List Int × Int)) (h : rqSize b o e ≤ 1048576) (k : Nat) (hk : 3000000 < k) : spec_RequesterOk.f k id b o e = some (reqB id b o e) := by
  unfold rqSize at h
  have hz : ∀ x ∈ o, wGot x ≤ 1048576 := fun x hx => by have := rSum_le (z := wGot) hx; omega
  have hze : ∀ x ∈ e, gGot x ≤ 1048576 := fun x hx => by have := rSum_le (z := gGot) hx; omega
  simp only [spec_RequesterOk.f, specIsId_eq, spec_TagsOk.f, countBusy_ev b (by omega) k (by omega), bnd_one, bNot_eq, brB_nb, brB_dec, iEq_eq, iNe_eq, iLt_eq, rLen_eq, reqB]
  refine if_and ?_
  by_cases hb : (b.length : Int) = 8
  · rw [if_pos hb, decide_eq_true hb, Bool.true_and]
    by_cases c : (1000 : Int) < e.length
    · rw [if_pos c, decide_eq_false (by omega), Bool.false_and]
    · rw [if_neg c, decide_eq_true (show (e.length : Int) ≤ 1000 by omega), Bool.true_and]
      have hsp := specOpen_loop k hk id b (by omega) o e (by omega) hz o 0 k rfl (by omega) (by omega)
      have hsp' : spec_RequesterOk.l1 k k 0 id b o e = some (spB id b [] o) := hsp
      have h1 := iter_all (f := fun (rec : (Int × Int × List Bool × (List (Int × Int × Int × (List Int) × Int × Int)) × (List (Int × Int × Int × (List Int) × Int))) → Option (Bool)) (x : Int × Int × List Bool × (List (Int × Int × Int × (List Int) × Int × Int)) × (List (Int × Int × Int × (List Int) × Int))) => spec_RequesterOk.s0 k rec x.1 x.2.1 x.2.2.1 x.2.2.2.1 x.2.2.2.2) (fun i => ((i : Int), id, b, o, e)) e gOkB (some (spB id b [] o)) (some false)
        (fun rec i hi hp => ?_) (fun rec i hi hp => ?_) (fun rec => ?_) (n := k) (by omega)
      · have h1' : spec_RequesterOk.l0 k k 0 id b o e = brB (e.all gOkB) (some (spB id b [] o)) (some false) := h1
        rw [h1', ← open_eq (by omega) o]
        by_cases c2 : (busyN b : Int) = (o.length : Int)
        · rw [if_pos c2, decide_eq_true c2, Bool.true_and]
          exact brB_and rfl
        · rw [if_neg c2, decide_eq_false c2, Bool.false_and, Bool.and_false]
      · have e1 : rGet (0, 0, 0, [], 0) e (i : Int) = e[i] := getD_lt _ _ hi
        have hg := hze _ (List.getElem_mem hi)
        simp only [spec_RequesterOk.s0, e1, iLt_eq, brB_dec, brB_nb, bNot_eq, chk_idx, rLen_eq]
        rw [if_pos (by omega), if_idx hi, specGatherOk_ev _ _ _ _ _ (by unfold gGot at hg; omega) k (by unfold gGot at hg; omega), show gatherB _ _ _ _ _ = gOkB e[i] from rfl, hp, next_id hi (by omega)]; rfl
      · have e1 : rGet (0, 0, 0, [], 0) e (i : Int) = e[i] := getD_lt _ _ hi
        have hg := hze _ (List.getElem_mem hi)
        simp only [spec_RequesterOk.s0, e1, iLt_eq, brB_dec, brB_nb, bNot_eq, chk_idx, rLen_eq]
        rw [if_pos (by omega), if_idx hi, specGatherOk_ev _ _ _ _ _ (by unfold gGot at hg; omega) k (by unfold gGot at hg; omega), show gatherB _ _ _ _ _ = gOkB e[i] from rfl, hp]; rfl
      · simp only [spec_RequesterOk.s0, iLt_eq, brB_dec, rLen_eq, hsp']
        rw [if_neg (by omega)]
  · rw [if_neg hb, decide_eq_false hb, Bool.false_and]

theorem rGet_rSet {α : Type} (d : α) {l : List α} {i : Nat} (h : i < l.length) (x : α) : rGet d (rSet l (i : Int) x) (i : Int) = x := by
  rw [rGet_nat, rSet_nat]; simp [h]
theorem rSet_rSet {α : Type} (l : List α) (i : Int) (x y : α) : rSet (rSet l i x) i y = rSet l i y := by simp [rSet]
theorem rLen_rSet {α : Type} (l : List α) (i : Int) (x : α) : rLen (rSet l i x) = rLen l := by simp [rLen, rSet]
theorem len_rSet {α : Type} (l : List α) (i : Int) (x : α) : (rSet l i x).length = l.length := by simp [rSet]
theorem nam_eq {A R : Type} (x : A) (f : A → Option R) : nam x f = f x := rfl
def offs {α : Type} (w : α → Nat) (xs : List α) (s : Int) (i : Nat) : Int := s + (rSum w (xs.take i) : Nat)
theorem offs_zero {α : Type} (w : α → Nat) (xs : List α) (s : Int) : offs w xs s 0 = s := by simp [offs, rSum]
theorem offs_succ {α : Type} (w : α → Nat) (xs : List α) (s : Int) {i : Nat} (h : i < xs.length) : offs w xs s (i + 1) = offs w xs s i + w xs[i] := by
  have : rSum w (xs.take (i + 1)) = rSum w (xs.take i) + w xs[i] := by
    unfold rSum
    rw [List.take_succ_eq_append_getElem h, List.map_append, List.sum_append]
    simp
  simp only [offs, this]
  omega
theorem offs_le {α : Type} (w : α → Nat) : ∀ (xs : List α) (s : Int) (i : Nat), offs w xs s i ≤ s + (rSum w xs : Nat)
  | [], s, i => by simp [offs, rSum]
  | x :: xs, s, 0 => by simp [offs, rSum]; omega
  | x :: xs, s, i + 1 => by
    have := offs_le w xs s i
    simp only [offs, List.take_succ_cons, rSum_cons] at this ⊢
    omega
theorem offs_ge {α : Type} (w : α → Nat) (xs : List α) (s : Int) (i : Nat) : s ≤ offs w xs s i := by simp only [offs]; omega
def wMark (x : Int × Int × Int × List Int × Int × Int) (s : Int) : Int × Int × Int × List Int × Int × Int := (s, s + 1, s + 2, marks (s + 3) x.2.2.2.1.length, s + 3 + x.2.2.2.1.length, s + 3 + x.2.2.2.1.length + 1)
def wN (x : Int × Int × Int × List Int × Int × Int) : Nat := x.2.2.2.1.length + 5
def wMarks (xs : List (Int × Int × Int × List Int × Int × Int)) (s : Int) : List (Int × Int × Int × List Int × Int × Int) := (List.range xs.length).map fun j => wMark (xs.getD j (0, 0, 0, [], 0, 0)) (offs wN xs s j)
theorem markWaitingS_ev (xs : List (Int × Int × Int × List Int × Int × Int)) (s : Int) (hn : xs.length ≤ 1048576) (hz : ∀ x ∈ xs, wGot x ≤ 1048576) (h0 : 0 ≤ s) (hb : s + (rSum wN xs : Nat) ≤ 100000000000) (k : Nat) (hk : 3000000 < k) :
    laws_markWaitingS.f k xs s = some (offs wN xs s xs.length, wMarks xs s) := by
  simp only [laws_markWaitingS.f, laws_markWaitingS.l0]
  have h := iter_upto (f := fun (rec : ((List (Int × Int × Int × (List Int) × Int × Int)) × Int × Int) → Option (Int × List (Int × Int × Int × (List Int) × Int × Int))) (x : (List (Int × Int × Int × (List Int) × Int × Int)) × Int × Int) => laws_markWaitingS.s0 k rec x.1 x.2.1 x.2.2)
    (fun i => (fill (fun j => wMark (xs.getD j (0, 0, 0, [], 0, 0)) (offs wN xs s j)) xs i, offs wN xs s i, (i : Int))) xs.length (r := (offs wN xs s xs.length, wMarks xs s)) (fun rec i hi => ?_) (fun rec => ?_) (n := k) (by omega)
  · rw [fill_zero, offs_zero] at h; exact h
  · have e' : xs.getD i (0, 0, 0, [], 0, 0) = xs[i] := getD_lt _ _ hi
    have hg : wGot xs[i] ≤ 1048576 := hz _ (List.getElem_mem hi)
    unfold wGot at hg
    have a1 := offs_le wN xs s (i + 1)
    have a2 := offs_ge wN xs s i
    rw [offs_succ wN xs s hi] at a1 ⊢
    have hw : wN xs[i] = xs[i].2.2.2.1.length + 5 := rfl
    have hl : i < (fill (fun j => wMark (xs.getD j (0, 0, 0, [], 0, 0)) (offs wN xs s j)) xs i).length := by rw [fill_len (Nat.le_of_lt hi)]; exact hi
    have hget : rGet (0, 0, 0, [], 0, 0) (fill (fun j => wMark (xs.getD j (0, 0, 0, [], 0, 0)) (offs wN xs s j)) xs i) (i : Int) = xs[i] := by
      rw [rGet_nat, fill_get i (Nat.le_refl _), e']
    have hset := fill_set (g := fun j => wMark (xs.getD j (0, 0, 0, [], 0, 0)) (offs wN xs s j)) hi
    have hL := fill_len (g := fun j => wMark (xs.getD j (0, 0, 0, [], 0, 0)) (offs wN xs s j)) (xs := xs) (Nat.le_of_lt hi)
    generalize fill (fun j => wMark (xs.getD j (0, 0, 0, [], 0, 0)) (offs wN xs s j)) xs i = L at hl hget hset hL ⊢
    simp only [laws_markWaitingS.s0, nam_eq, rGet_rSet _ hl, rSet_rSet, rLen_rSet, hget, iLt_eq, brB_dec, chk_idx, rLen_eq, len_rSet, hL]
    have q1 : iAdd .i64 (offs wN xs s i) 1 = offs wN xs s i + 1 := iAdd_id (by omega) (by omega)
    have q2 : iAdd .i64 (offs wN xs s i + 1) 1 = offs wN xs s i + 2 := by rw [iAdd_id (by omega) (by omega)]; omega
    have q3 : iAdd .i64 (offs wN xs s i + 2) 1 = offs wN xs s i + 3 := by rw [iAdd_id (by omega) (by omega)]; omega
    have q4 : iAdd .i64 (offs wN xs s i + 3 + (xs[i].2.2.2.1.length : Int)) 1 = offs wN xs s i + 3 + (xs[i].2.2.2.1.length : Int) + 1 := iAdd_id (by omega) (by omega)
    have q5 : iAdd .i64 (offs wN xs s i + 3 + (xs[i].2.2.2.1.length : Int) + 1) 1 = offs wN xs s i + (wN xs[i] : Int) := by rw [iAdd_id (by omega) (by omega), hw]; omega
    simp only [q1, q2, q3]
    rw [if_pos (by omega), if_idx hi, if_idx hi, if_idx hi, if_idx hi, markIntS_ev _ _ (by omega) (by omega) (by omega) k (by omega), bnd_one, if_idx hi, if_idx hi]
    simp only [q4, q5]
    rw [next_id hi (by omega), rSet_nat, ← hset, e']
    rfl
  · have h2 := fill_end (g := fun j => wMark (xs.getD j (0, 0, 0, [], 0, 0)) (offs wN xs s j)) (xs := xs)
    simp only [laws_markWaitingS.s0, h2, iLt_eq, brB_dec, rLen_eq, List.length_map, List.length_range]
    rw [if_neg (by omega)]
    rfl
theorem wMarks_get (xs : List (Int × Int × Int × List Int × Int × Int)) (s : Int) {i : Nat} (hi : i < xs.length) : rGet (0, 0, 0, [], 0, 0) (wMarks xs s) (i : Int) = wMark xs[i] (offs wN xs s i) := by
  rw [rGet_nat]
  simp [wMarks, hi]
theorem wMarks_len (xs : List (Int × Int × Int × List Int × Int × Int)) (s : Int) : (wMarks xs s).length = xs.length := by simp [wMarks]
theorem heldWaitingS_ev (xs : List (Int × Int × Int × List Int × Int × Int)) (s : Int) (hn : xs.length ≤ 1048576) (hz : ∀ x ∈ xs, wGot x ≤ 1048576) (h0 : 0 ≤ s) (hb : s + (rSum wN xs : Nat) ≤ 100000000000) (k : Nat) (hk : 3000000 < k) :
    laws_heldWaitingS.f k (wMarks xs s) s = some (offs wN xs s xs.length) := by
  simp only [laws_heldWaitingS.f, laws_heldWaitingS.l0]
  have h := iter_upto (f := fun (rec : ((List (Int × Int × Int × (List Int) × Int × Int)) × Int × Int) → Option Int) (x : (List (Int × Int × Int × (List Int) × Int × Int)) × Int × Int) => laws_heldWaitingS.s0 k rec x.1 x.2.1 x.2.2)
    (fun i => (wMarks xs s, offs wN xs s i, (i : Int))) xs.length (r := offs wN xs s xs.length) (fun rec i hi => ?_) (fun rec => ?_) (n := k) (by omega)
  · rw [offs_zero] at h; exact h
  · have hg : wGot xs[i] ≤ 1048576 := hz _ (List.getElem_mem hi)
    unfold wGot at hg
    have a1 := offs_le wN xs s (i + 1)
    have a2 := offs_ge wN xs s i
    rw [offs_succ wN xs s hi] at a1 ⊢
    have hw : wN xs[i] = xs[i].2.2.2.1.length + 5 := rfl
    have q1 : iAdd .i64 (offs wN xs s i) 1 = offs wN xs s i + 1 := iAdd_id (by omega) (by omega)
    have q2 : iAdd .i64 (offs wN xs s i + 1) 1 = offs wN xs s i + 2 := by rw [iAdd_id (by omega) (by omega)]; omega
    have q3 : iAdd .i64 (offs wN xs s i + 2) 1 = offs wN xs s i + 3 := by rw [iAdd_id (by omega) (by omega)]; omega
    have q4 : iAdd .i64 (offs wN xs s i + 3 + (xs[i].2.2.2.1.length : Int)) 1 = offs wN xs s i + 3 + (xs[i].2.2.2.1.length : Int) + 1 := iAdd_id (by omega) (by omega)
    have q5 : iAdd .i64 (offs wN xs s i + 3 + (xs[i].2.2.2.1.length : Int) + 1) 1 = offs wN xs s i + (wN xs[i] : Int) := by rw [iAdd_id (by omega) (by omega), hw]; omega
    simp only [laws_heldWaitingS.s0, wMarks_get xs s hi, wMark, iLt_eq, iNe_eq, brB_nb, brB_dec, chk_idx, rLen_eq, wMarks_len, q1, q2, q3]
    rw [if_pos (by omega), if_idx hi, if_pos trivial, if_idx hi, if_pos trivial, if_idx hi, if_pos trivial, if_idx hi, heldIntS_ev _ _ (by omega) (by omega) (by omega) k (by omega), bnd_one]
    simp only [q4, q5]
    rw [if_neg (by omega), if_idx hi, if_pos trivial, if_idx hi, if_pos trivial, next_id hi (by omega)]
  · simp only [laws_heldWaitingS.s0, wMarks_len, iLt_eq, brB_dec, rLen_eq]
    rw [if_neg (by omega)]
def gMark (x : Int × Int × Int × List Int × Int) (s : Int) : Int × Int × Int × List Int × Int := (s, s + 1, s + 2, marks (s + 3) x.2.2.2.1.length, s + 3 + x.2.2.2.1.length)
def gN (x : Int × Int × Int × List Int × Int) : Nat := x.2.2.2.1.length + 4
def gMarks (xs : List (Int × Int × Int × List Int × Int)) (s : Int) : List (Int × Int × Int × List Int × Int) := (List.range xs.length).map fun j => gMark (xs.getD j (0, 0, 0, [], 0)) (offs gN xs s j)
theorem markGatherS_ev (xs : List (Int × Int × Int × List Int × Int)) (s : Int) (hn : xs.length ≤ 1048576) (hz : ∀ x ∈ xs, gGot x ≤ 1048576) (h0 : 0 ≤ s) (hb : s + (rSum gN xs : Nat) ≤ 100000000000) (k : Nat) (hk : 3000000 < k) :
    laws_markGatherS.f k xs s = some (offs gN xs s xs.length, gMarks xs s) := by
  simp only [laws_markGatherS.f, laws_markGatherS.l0]
  have h := iter_upto (f := fun (rec : ((List (Int × Int × Int × (List Int) × Int)) × Int × Int) → Option (Int × List (Int × Int × Int × (List Int) × Int))) (x : (List (Int × Int × Int × (List Int) × Int)) × Int × Int) => laws_markGatherS.s0 k rec x.1 x.2.1 x.2.2)
    (fun i => (fill (fun j => gMark (xs.getD j (0, 0, 0, [], 0)) (offs gN xs s j)) xs i, offs gN xs s i, (i : Int))) xs.length (r := (offs gN xs s xs.length, gMarks xs s)) (fun rec i hi => ?_) (fun rec => ?_) (n := k) (by omega)
  · rw [fill_zero, offs_zero] at h; exact h
  · have e' : xs.getD i (0, 0, 0, [], 0) = xs[i] := getD_lt _ _ hi
    have hg : gGot xs[i] ≤ 1048576 := hz _ (List.getElem_mem hi)
    unfold gGot at hg
    have a1 := offs_le gN xs s (i + 1)
    have a2 := offs_ge gN xs s i
    rw [offs_succ gN xs s hi] at a1 ⊢
    have hw : gN xs[i] = xs[i].2.2.2.1.length + 4 := rfl
    have hl : i < (fill (fun j => gMark (xs.getD j (0, 0, 0, [], 0)) (offs gN xs s j)) xs i).length := by rw [fill_len (Nat.le_of_lt hi)]; exact hi
    have hget : rGet (0, 0, 0, [], 0) (fill (fun j => gMark (xs.getD j (0, 0, 0, [], 0)) (offs gN xs s j)) xs i) (i : Int) = xs[i] := by
      rw [rGet_nat, fill_get i (Nat.le_refl _), e']
    have hset := fill_set (g := fun j => gMark (xs.getD j (0, 0, 0, [], 0)) (offs gN xs s j)) hi
    have hL := fill_len (g := fun j => gMark (xs.getD j (0, 0, 0, [], 0)) (offs gN xs s j)) (xs := xs) (Nat.le_of_lt hi)
    generalize fill (fun j => gMark (xs.getD j (0, 0, 0, [], 0)) (offs gN xs s j)) xs i = L at hl hget hset hL ⊢
    simp only [laws_markGatherS.s0, nam_eq, rGet_rSet _ hl, rSet_rSet, rLen_rSet, hget, iLt_eq, brB_dec, chk_idx, rLen_eq, len_rSet, hL]
    have q1 : iAdd .i64 (offs gN xs s i) 1 = offs gN xs s i + 1 := iAdd_id (by omega) (by omega)
    have q2 : iAdd .i64 (offs gN xs s i + 1) 1 = offs gN xs s i + 2 := by rw [iAdd_id (by omega) (by omega)]; omega
    have q3 : iAdd .i64 (offs gN xs s i + 2) 1 = offs gN xs s i + 3 := by rw [iAdd_id (by omega) (by omega)]; omega
    have q4 : iAdd .i64 (offs gN xs s i + 3 + (xs[i].2.2.2.1.length : Int)) 1 = offs gN xs s i + (gN xs[i] : Int) := by rw [iAdd_id (by omega) (by omega), hw]; omega
    simp only [q1, q2, q3]
    rw [if_pos (by omega), if_idx hi, if_idx hi, if_idx hi, if_idx hi, markIntS_ev _ _ (by omega) (by omega) (by omega) k (by omega), bnd_one, if_idx hi]
    simp only [q4]
    rw [next_id hi (by omega), rSet_nat, ← hset, e']
    rfl
  · have h2 := fill_end (g := fun j => gMark (xs.getD j (0, 0, 0, [], 0)) (offs gN xs s j)) (xs := xs)
    simp only [laws_markGatherS.s0, h2, iLt_eq, brB_dec, rLen_eq, List.length_map, List.length_range]
    rw [if_neg (by omega)]
    rfl
theorem gMarks_get (xs : List (Int × Int × Int × List Int × Int)) (s : Int) {i : Nat} (hi : i < xs.length) : rGet (0, 0, 0, [], 0) (gMarks xs s) (i : Int) = gMark xs[i] (offs gN xs s i) := by
  rw [rGet_nat]
  simp [gMarks, hi]
theorem gMarks_len (xs : List (Int × Int × Int × List Int × Int)) (s : Int) : (gMarks xs s).length = xs.length := by simp [gMarks]
theorem heldGatherS_ev (xs : List (Int × Int × Int × List Int × Int)) (s : Int) (hn : xs.length ≤ 1048576) (hz : ∀ x ∈ xs, gGot x ≤ 1048576) (h0 : 0 ≤ s) (hb : s + (rSum gN xs : Nat) ≤ 100000000000) (k : Nat) (hk : 3000000 < k) :
    laws_heldGatherS.f k (gMarks xs s) s = some (offs gN xs s xs.length) := by
  simp only [laws_heldGatherS.f, laws_heldGatherS.l0]
  have h := iter_upto (f := fun (rec : ((List (Int × Int × Int × (List Int) × Int)) × Int × Int) → Option Int) (x : (List (Int × Int × Int × (List Int) × Int)) × Int × Int) => laws_heldGatherS.s0 k rec x.1 x.2.1 x.2.2)
    (fun i => (gMarks xs s, offs gN xs s i, (i : Int))) xs.length (r := offs gN xs s xs.length) (fun rec i hi => ?_) (fun rec => ?_) (n := k) (by omega)
  · rw [offs_zero] at h; exact h
  · have hg : gGot xs[i] ≤ 1048576 := hz _ (List.getElem_mem hi)
    unfold gGot at hg
    have a1 := offs_le gN xs s (i + 1)
    have a2 := offs_ge gN xs s i
    rw [offs_succ gN xs s hi] at a1 ⊢
    have hw : gN xs[i] = xs[i].2.2.2.1.length + 4 := rfl
    have q1 : iAdd .i64 (offs gN xs s i) 1 = offs gN xs s i + 1 := iAdd_id (by omega) (by omega)
    have q2 : iAdd .i64 (offs gN xs s i + 1) 1 = offs gN xs s i + 2 := by rw [iAdd_id (by omega) (by omega)]; omega
    have q3 : iAdd .i64 (offs gN xs s i + 2) 1 = offs gN xs s i + 3 := by rw [iAdd_id (by omega) (by omega)]; omega
    have q4 : iAdd .i64 (offs gN xs s i + 3 + (xs[i].2.2.2.1.length : Int)) 1 = offs gN xs s i + (gN xs[i] : Int) := by rw [iAdd_id (by omega) (by omega), hw]; omega
    simp only [laws_heldGatherS.s0, gMarks_get xs s hi, gMark, iLt_eq, iNe_eq, brB_nb, brB_dec, chk_idx, rLen_eq, gMarks_len, q1, q2, q3]
    rw [if_pos (by omega), if_idx hi, if_pos trivial, if_idx hi, if_pos trivial, if_idx hi, if_pos trivial, if_idx hi, heldIntS_ev _ _ (by omega) (by omega) (by omega) k (by omega), bnd_one]
    simp only [q4]
    rw [if_neg (by omega), if_idx hi, if_pos trivial, next_id hi (by omega)]
  · simp only [laws_heldGatherS.s0, gMarks_len, iLt_eq, brB_dec, rLen_eq]
    rw [if_neg (by omega)]

theorem take_step {α : Type} (l : List α) {i : Nat} (h : i < l.length) : l.take i ++ [l[i]] = l.take (i + 1) := by rw [List.take_succ_eq_append_getElem h]
theorem implCopyGather_ev (a b c : Int) (l : List Int) (d : Int) (hl : l.length ≤ 1048576) (k : Nat) : impl_copyGather.f k a b c l d = some (a, b, c, l, d) := by
  simp only [impl_copyGather.f, slices_Clone_int.f, chk_len, rLen_eq]
  rw [if_pos (by omega)]
  rfl
theorem implCopyReq_two (k : Nat) (hk : 3000000 < k) (e : List (Int × Int × Int × List Int × Int)) (he : e.length ≤ 1048576) (hz : ∀ x ∈ e, gGot x ≤ 1048576) (n0 : Int) (b0 : List Bool) (o0 : List (Int × Int × Int × List Int × Int × Int)) (e0 : List (Int × Int × Int × List Int × Int)) (id : Int) (b : List Bool) (o : List (Int × Int × Int × List Int × Int × Int)) :
    impl_copyRequester.l1 k k e (e.length : Int) 0 n0 b0 o0 e0 id b o [] = some (id, b, o, e) := by
  unfold impl_copyRequester.l1
  refine iter_upto (fun i => (e, (e.length : Int), (i : Int), n0, b0, o0, e0, id, b, o, e.take i)) e.length (fun rec i hi => ?_) (fun rec => ?_) (by omega)
  · have e1 : rGet (0, 0, 0, [], 0) e (i : Int) = e[i] := getD_lt _ _ hi
    have hg : gGot e[i] ≤ 1048576 := hz _ (List.getElem_mem hi)
    unfold gGot at hg
    have hl : (e.take i ++ [e[i]]).length = i + 1 := by simp; omega
    simp only [impl_copyRequester.s1, e1, implCopyGather_ev _ _ _ _ _ hg k, bnd_one, iLt_eq, brB_dec, chk_idx, chk_len, rLen_eq, rApp_eq, hl]
    rw [if_pos (by omega), if_idx hi, if_pos (by omega), take_step e hi, next_id hi (by omega)]
  · simp only [impl_copyRequester.s1, iLt_eq, brB_dec, List.take_length]
    rw [if_neg (by omega)]
theorem implCopyReq_ev (id : Int) (b : List Bool) (o : List (Int × Int × Int × List Int × Int × Int)) (e : List (Int × Int × Int × List Int × Int)) (h : rqSize b o e ≤ 1048576) (k : Nat) (hk : 3000000 < k) : impl_copyRequester.f k id b o e = some (id, b, o, e) := by
  unfold rqSize at h
  have hzo : ∀ x ∈ o, wGot x ≤ 1048576 := fun x hx => by have := rSum_le (z := wGot) hx; omega
  have hze : ∀ x ∈ e, gGot x ≤ 1048576 := fun x hx => by have := rSum_le (z := gGot) hx; omega
  simp only [impl_copyRequester.f, impl_copyTags.f, slices_Clone_bool.f, chk_len, rLen_eq]
  rw [if_pos (by omega), bnd_one, bnd_one]
  unfold impl_copyRequester.l0
  refine iter_upto (fun i => (o, (o.length : Int), (i : Int), id, b, o, e, 0, [], [], [], id, b, o.take i, [])) o.length (fun rec i hi => ?_) (fun rec => ?_) (by omega)
  · have e1 : rGet (0, 0, 0, [], 0, 0) o (i : Int) = o[i] := getD_lt _ _ hi
    have hg : wGot o[i] ≤ 1048576 := hzo _ (List.getElem_mem hi)
    unfold wGot at hg
    have hl : (o.take i ++ [o[i]]).length = i + 1 := by simp; omega
    simp only [impl_copyRequester.s0, e1, implCopyGather_ev _ _ _ _ _ hg k, bnd_one, iLt_eq, brB_dec, chk_idx, chk_len, rLen_eq, rApp_eq, hl]
    rw [if_pos (by omega), if_idx hi, if_pos (by omega), take_step o hi, next_id hi (by omega)]
  · simp only [impl_copyRequester.s0, iLt_eq, brB_dec, List.take_length, rLen_eq]
    rw [if_neg (by omega)]
    exact implCopyReq_two k hk e (by omega) hze _ _ _ _ _ _ _
theorem specCopyGather_ev (a b c : Int) (l : List Int) (d : Int) (hl : l.length ≤ 1048576) (k : Nat) : spec_l27Copy.f k a b c l d = some (a, b, c, l, d) := by
  simp only [spec_l27Copy.f, chk_len, rLen_eq, rApp_eq, List.nil_append]
  rw [if_pos (by omega)]
theorem specCopyReq_two (k : Nat) (hk : 3000000 < k) (e : List (Int × Int × Int × List Int × Int)) (he : e.length ≤ 1048576) (hz : ∀ x ∈ e, gGot x ≤ 1048576) (n0 : Int) (b0 : List Bool) (o0 : List (Int × Int × Int × List Int × Int × Int)) (n1 : Int) (b1 : List Bool) (o1 : List (Int × Int × Int × List Int × Int × Int)) (e1 : List (Int × Int × Int × List Int × Int)) (id : Int) (b : List Bool) (o : List (Int × Int × Int × List Int × Int × Int)) :
    spec_l29Copy.l1 k k 0 n0 b0 o0 e n1 b1 o1 e1 id b o [] = some (id, b, o, e) := by
  unfold spec_l29Copy.l1
  refine iter_upto (fun i => ((i : Int), n0, b0, o0, e, n1, b1, o1, e1, id, b, o, e.take i)) e.length (fun rec i hi => ?_) (fun rec => ?_) (by omega)
  · have e1 : rGet (0, 0, 0, [], 0) e (i : Int) = e[i] := getD_lt _ _ hi
    have hg : gGot e[i] ≤ 1048576 := hz _ (List.getElem_mem hi)
    unfold gGot at hg
    have hl : (e.take i ++ [e[i]]).length = i + 1 := by simp; omega
    simp only [spec_l29Copy.s1, e1, specCopyGather_ev _ _ _ _ _ hg k, bnd_one, iLt_eq, brB_dec, chk_idx, chk_len, rLen_eq, rApp_eq, hl]
    rw [if_pos (by omega), if_idx hi, if_pos (by omega), take_step e hi, next_id hi (by omega)]
  · simp only [spec_l29Copy.s1, iLt_eq, brB_dec, List.take_length, rLen_eq]
    rw [if_neg (by omega)]
theorem specCopyReq_ev (id : Int) (b : List Bool) (o : List (Int × Int × Int × List Int × Int × Int)) (e : List (Int × Int × Int × List Int × Int)) (h : rqSize b o e ≤ 1048576) (k : Nat) (hk : 3000000 < k) : spec_l29Copy.f k id b o e = some (id, b, o, e) := by
  unfold rqSize at h
  have hzo : ∀ x ∈ o, wGot x ≤ 1048576 := fun x hx => by have := rSum_le (z := wGot) hx; omega
  have hze : ∀ x ∈ e, gGot x ≤ 1048576 := fun x hx => by have := rSum_le (z := gGot) hx; omega
  simp only [spec_l29Copy.f, spec_l28Copy.f, chk_len, rLen_eq, rApp_eq, List.nil_append]
  rw [if_pos (by omega), bnd_one]
  unfold spec_l29Copy.l0
  refine iter_upto (fun i => ((i : Int), id, b, o, e, 0, [], [], [], id, b, o.take i, [])) o.length (fun rec i hi => ?_) (fun rec => ?_) (by omega)
  · have e1 : rGet (0, 0, 0, [], 0, 0) o (i : Int) = o[i] := getD_lt _ _ hi
    have hg : wGot o[i] ≤ 1048576 := hzo _ (List.getElem_mem hi)
    unfold wGot at hg
    have hl : (o.take i ++ [o[i]]).length = i + 1 := by simp; omega
    simp only [spec_l29Copy.s0, e1, specCopyGather_ev _ _ _ _ _ hg k, bnd_one, iLt_eq, brB_dec, chk_idx, chk_len, rLen_eq, rApp_eq, hl]
    rw [if_pos (by omega), if_idx hi, if_idx hi, if_pos (by omega), take_step o hi, next_id hi (by omega)]
  · simp only [spec_l29Copy.s0, iLt_eq, brB_dec, List.take_length, rLen_eq]
    rw [if_neg (by omega)]
    exact specCopyReq_two k hk e (by omega) hze _ _ _ _ _ _ _ _ _ _

theorem rSum_w (o : List (Int × Int × Int × List Int × Int × Int)) : rSum wN o = rSum wGot o + 5 * o.length := by
  induction o with
  | nil => rfl
  | cons x o ih => rw [rSum_cons, rSum_cons, ih, List.length_cons, wN, wGot]; omega
theorem rSum_g (o : List (Int × Int × Int × List Int × Int)) : rSum gN o = rSum gGot o + 4 * o.length := by
  induction o with
  | nil => rfl
  | cons x o ih => rw [rSum_cons, rSum_cons, ih, List.length_cons, gN, gGot]; omega
theorem offs_end {α : Type} (w : α → Nat) (xs : List α) (s : Int) : offs w xs s xs.length = s + (rSum w xs : Nat) := by simp [offs]
/-- The marks of a requester. -/
def rqEnd (b : List Bool) (o : List (Int × Int × Int × List Int × Int × Int)) (e : List (Int × Int × Int × List Int × Int)) : Int := 1 + (b.length : Int) + (rSum wN o : Nat) + (rSum gN e : Nat)
theorem markReq_ev (id : Int) (b : List Bool) (o : List (Int × Int × Int × List Int × Int × Int)) (e : List (Int × Int × Int × List Int × Int)) (h : rqSize b o e ≤ 1048576) (k : Nat) (hk : 3000000 < k) :
    laws_markRequester.f k id b o e 1 = some (rqEnd b o e, bmarks 1 b.length, wMarks o (1 + b.length), gMarks e (1 + (b.length : Int) + (rSum wN o : Nat))) := by
  unfold rqSize at h
  have hw := rSum_w o
  have hg := rSum_g e
  simp only [laws_markRequester.f, laws_markTags.f, markBoolS_ev b 1 (by omega) (by omega) (by omega) k (by omega), bnd_one,
    markWaitingS_ev o (1 + b.length) (by omega) (fun x hx => by have := rSum_le (z := wGot) hx; omega) (by omega) (by omega) k (by omega), offs_end,
    markGatherS_ev e (1 + (b.length : Int) + (rSum wN o : Nat)) (by omega) (fun x hx => by have := rSum_le (z := gGot) hx; omega) (by omega) (by omega) k (by omega)]
  rfl
theorem rqEnd_pos (b : List Bool) (o : List (Int × Int × Int × List Int × Int × Int)) (e : List (Int × Int × Int × List Int × Int)) : 1 ≤ rqEnd b o e := by unfold rqEnd; omega
theorem heldReq_ev (id : Int) (b : List Bool) (o : List (Int × Int × Int × List Int × Int × Int)) (e : List (Int × Int × Int × List Int × Int)) (h : rqSize b o e ≤ 1048576) (k : Nat) (hk : 3000000 < k) :
    laws_heldRequester.f k id (bmarks 1 b.length) (wMarks o (1 + b.length)) (gMarks e (1 + (b.length : Int) + (rSum wN o : Nat))) 1 = some (rqEnd b o e) := by
  unfold rqSize at h
  have hw := rSum_w o
  have hg := rSum_g e
  simp only [laws_heldRequester.f, laws_heldTags.f, heldBoolS_ev b.length 1 (by omega) (by omega) (by omega) k (by omega), bnd_one, iLt_eq, brB_dec]
  rw [if_neg (by omega), bnd_one, if_neg (by omega), heldWaitingS_ev o (1 + b.length) (by omega) (fun x hx => by have := rSum_le (z := wGot) hx; omega) (by omega) (by omega) k (by omega), bnd_one, offs_end, if_neg (by omega),
    heldGatherS_ev e (1 + (b.length : Int) + (rSum wN o : Nat)) (by omega) (fun x hx => by have := rSum_le (z := gGot) hx; omega) (by omega) (by omega) k (by omega), bnd_one, offs_end, if_neg (by omega)]
  rfl
theorem rSum_bound {α : Type} {z : α → Nat} {c : Nat} : ∀ {l : List α}, (∀ x ∈ l, z x ≤ c) → rSum z l ≤ c * l.length
  | [], _ => by simp [rSum]
  | x :: l, h => by
    have h1 := h x (by simp)
    have h2 := rSum_bound (l := l) fun y hy => h y (by simp [hy])
    rw [rSum_cons, List.length_cons, Nat.mul_succ]
    omega
theorem tbl_ok {id : Int} : ∀ {r : List (Int × Int × Int × List Int × Int × Int)} {t t' : List Bool}, tblB id t r = some t' → ∀ w ∈ r, wOkB id w = true
  | [], t, t', _, w, hw => by cases hw
  | x :: r, t, t', h, w, hw => by
    simp only [tblB] at h
    split at h
    · rename_i c
      rcases List.mem_cons.1 hw with rfl | hw
      · exact c.1
      · exact tbl_ok h w hw
    · cases h
theorem gatherB_len {a b c d : Int} {l : List Int} (h : gatherB a b c l d = true) : l.length ≤ 64 := by
  simp only [gatherB, Bool.and_eq_true, decide_eq_true_eq] at h
  omega
/-- A valid requester is small. -/
structure ReqFacts (id : Int) (b : List Bool) (o : List (Int × Int × Int × List Int × Int × Int)) (e : List (Int × Int × Int × List Int × Int)) : Prop where
  b8 : b.length = 8
  o8 : o.length ≤ 8
  e1000 : e.length ≤ 1000
  wo : ∀ w ∈ o, wOkB id w = true
  ge : ∀ g ∈ e, gOkB g = true
  w64 : ∀ w ∈ o, wGot w ≤ 64
  g64 : ∀ g ∈ e, gGot g ≤ 64
  small : rqSize b o e ≤ 100000
theorem req_facts {id : Int} {b : List Bool} {o : List (Int × Int × Int × List Int × Int × Int)} {e : List (Int × Int × Int × List Int × Int)} (h : reqB id b o e = true) : ReqFacts id b o e := by
  simp only [reqB, Bool.and_eq_true, decide_eq_true_eq, List.all_eq_true] at h
  obtain ⟨_, h8, h1000, hge, ho⟩ := h
  unfold openOkB at ho
  split at ho
  · rename_i t ht
    obtain ⟨c1, c2, c3⟩ := tbl_count o _ t (by simp) ht
    have hz : busyN (List.replicate 8 false) = 0 := by decide
    have ht8 : busyN t ≤ t.length := List.countP_le_length
    have hwo := tbl_ok ht
    have hw64 : ∀ w ∈ o, wGot w ≤ 64 := fun w hw => by
      have := hwo w hw
      unfold wOkB at this
      rw [Bool.and_eq_true] at this
      exact gatherB_len this.1
    have hg64 : ∀ g ∈ e, gGot g ≤ 64 := fun g hg => gatherB_len (hge g hg)
    have s1 := rSum_bound hw64
    have s2 := rSum_bound hg64
    exact ⟨by omega, by omega, by omega, hwo, hge, hw64, hg64, by unfold rqSize; omega⟩
  · cases ho
theorem rSum_append {α : Type} (z : α → Nat) (l m : List α) : rSum z (l ++ m) = rSum z l + rSum z m := by simp [rSum]
theorem set_self {b : List Bool} {i : Nat} (h : b.getD i false = false) : b.set i false = b := by
  apply List.ext_getElem?
  intro j
  rw [List.getElem?_set]
  by_cases e : i = j
  · subst e
    rw [if_pos rfl]
    by_cases hl : i < b.length
    · rw [if_pos hl, List.getElem?_eq_getElem hl, ← h, getD_lt false b hl]
    · rw [if_neg hl, List.getElem?_eq_none (by omega)]
  · rw [if_neg e]
theorem specFree_ev (b : List Bool) (tag : Int) (h8 : b.length = 8) (ht : 0 ≤ tag ∧ tag ≤ 7) (k : Nat) : spec_FreeTag.f k b tag = some (b.set tag.toNat false, b.getD tag.toNat false) := by
  have e1 : rGet false b tag = b.getD tag.toNat false := rfl
  have e2 : rSet b tag false = b.set tag.toNat false := rfl
  simp only [spec_FreeTag.f, spec_l28Copy.f, spec_TagsOk.f, l01In_eq, chk_len, chk_idx, rLen_eq, rApp_eq, List.nil_append, iEq_eq, e1, e2]
  rw [if_pos (by omega), bnd_one, bnd_one, decide_eq_true (show (b.length : Int) = 8 by omega), bNot_eq, Bool.not_true, brB_false, bnd_one, decide_eq_true ht, bNot_eq, Bool.not_true, brB_false, if_pos (by omega), bNot_eq]
  cases hb : b.getD tag.toNat false with
  | false => rw [Bool.not_false, brB_true, set_self hb]
  | true => rw [Bool.not_true, brB_false, if_pos (by omega)]; rfl
theorem implFree_ev (b : List Bool) (tag : Int) (h8 : b.length = 8) (ht : 0 ≤ tag ∧ tag ≤ 7) (k : Nat) : impl_FreeTag.f k b tag = some (b.set tag.toNat false, b.getD tag.toNat false) := by
  have e1 : rGet false b tag = b.getD tag.toNat false := rfl
  have e2 : rSet b tag false = b.set tag.toNat false := rfl
  simp only [impl_FreeTag.f, impl_copyTags.f, slices_Clone_bool.f, impl_TagsOk.f, within_eq, chk_len, chk_idx, rLen_eq, iEq_eq, e1, e2]
  rw [if_pos (by omega), bnd_one, bnd_one, bnd_one, decide_eq_true (show (b.length : Int) = 8 by omega), bNot_eq, Bool.not_true, brB_false, bnd_one, decide_eq_true ht, bNot_eq, Bool.not_true, brB_false, if_pos (by omega), bNot_eq]
  cases hb : b.getD tag.toNat false with
  | false => rw [Bool.not_false, brB_true, set_self hb]
  | true => rw [Bool.not_true, brB_false, if_pos (by omega)]; rfl
theorem cut_out {α : Type} (l : List α) (i : Nat) : rSub l 0 (i : Int) ++ rSub l ((i + 1 : Nat) : Int) (l.length : Int) = l.eraseIdx i := by
  simp only [rSub, Int.toNat_zero, List.drop_zero, Int.toNat_natCast, List.take_length]
  exact (List.eraseIdx_eq_take_drop_succ l i).symm
theorem specEnd_ev (id : Int) (b : List Bool) (o : List (Int × Int × Int × List Int × Int × Int)) (e : List (Int × Int × Int × List Int × Int)) (i : Nat) (g0 g1 g2 : Int) (gl : List Int) (g4 : Int) (h8 : b.length = 8) (ht : 0 ≤ g1 ∧ g1 ≤ 7) (hi : i < o.length) (ho : o.length ≤ 1048576) (he : e.length ≤ 1048576) (k : Nat) :
    spec_l29End.f k id b o e (i : Int) g0 g1 g2 gl g4 = some (id, b.set g1.toNat false, o.eraseIdx i, e ++ [(g0, g1, g2, gl, g4)]) := by
  have h1 := next_id hi (by omega)
  have h2 := cut_out o i
  have h3 : (o.eraseIdx i).length ≤ 1048576 := by rw [List.length_eraseIdx]; split <;> omega
  have e0 : iEq 0 0 = true := rfl
  simp only [spec_l29End.f, specFree_ev b g1 h8 ht k, bnd_one, h1, rLen_eq, rApp_eq, h2, chk_sub, e0, bAnd, Bool.true_and, iLe_eq, chk_len]
  rw [if_pos (by omega), if_pos (by omega), decide_eq_true (show (i : Int) ≤ ((i + 1 : Nat) : Int) by omega), decide_eq_true (show (o.length : Int) ≤ (o.length : Int) by omega), Bool.true_and, Bool.true_and, chk_len, if_pos (by omega)]
  rw [if_pos (by simp only [List.length_append, List.length_cons, List.length_nil]; omega)]
/-- Who waits on, who has waited too long. -/
def stayB (s : Int) (w : Int × Int × Int × List Int × Int × Int) : Bool := decide (w.2.2.2.2.2 + s ≤ 50)
def later (s : Int) (w : Int × Int × Int × List Int × Int × Int) : Int × Int × Int × List Int × Int × Int := (w.1, w.2.1, w.2.2.1, w.2.2.2.1, w.2.2.2.2.1, w.2.2.2.2.2 + s)
def failG (w : Int × Int × Int × List Int × Int × Int) : Int × Int × Int × List Int × Int := (w.1, w.2.1, w.2.2.1, w.2.2.2.1, 2)
def stay (s : Int) (o : List (Int × Int × Int × List Int × Int × Int)) : List (Int × Int × Int × List Int × Int × Int) := (o.filter (stayB s)).map (later s)
def fails (s : Int) (o : List (Int × Int × Int × List Int × Int × Int)) : List (Int × Int × Int × List Int × Int) := (o.filter (fun w => !stayB s w)).map failG
def freeStep (s : Int) (b : List Bool) (w : Int × Int × Int × List Int × Int × Int) : List Bool := if stayB s w = true then b else b.set w.2.1.toNat false
def freed (s : Int) (b : List Bool) (o : List (Int × Int × Int × List Int × Int × Int)) : List Bool := o.foldl (freeStep s) b
theorem freed_len (s : Int) : ∀ (o : List (Int × Int × Int × List Int × Int × Int)) (b : List Bool), (freed s b o).length = b.length
  | [], b => rfl
  | w :: o, b => by
    have := freed_len s o (freeStep s b w)
    simp only [freed, List.foldl_cons] at this ⊢
    rw [this]
    unfold freeStep; split <;> simp
theorem stay_app (s : Int) (l m : List (Int × Int × Int × List Int × Int × Int)) : stay s (l ++ m) = stay s l ++ stay s m := by simp [stay]
theorem fails_app (s : Int) (l m : List (Int × Int × Int × List Int × Int × Int)) : fails s (l ++ m) = fails s l ++ fails s m := by simp [fails]
theorem freed_app (s : Int) (b : List Bool) (l m : List (Int × Int × Int × List Int × Int × Int)) : freed s b (l ++ m) = freed s (freed s b l) m := by simp [freed]
theorem stay_len (s : Int) (l : List (Int × Int × Int × List Int × Int × Int)) : (stay s l).length + (fails s l).length = l.length := by
  induction l with
  | nil => rfl
  | cons w l ih =>
    have e1 : stay s (w :: l) = stay s [w] ++ stay s l := stay_app s [w] l
    have e2 : fails s (w :: l) = fails s [w] ++ fails s l := fails_app s [w] l
    rw [e1, e2, List.length_append, List.length_append, List.length_cons]
    have : (stay s [w]).length + (fails s [w]).length = 1 := by
      cases h : stayB s w <;> simp [stay, fails, h]
    omega
theorem stay_yes {s : Int} {w : Int × Int × Int × List Int × Int × Int} (h : stayB s w = true) : stay s [w] = [later s w] ∧ fails s [w] = [] ∧ ∀ b, freed s b [w] = b := by
  refine ⟨by simp [stay, h], by simp [fails, h], fun b => by simp [freed, freeStep, h]⟩
theorem stay_no {s : Int} {w : Int × Int × Int × List Int × Int × Int} (h : stayB s w = false) : stay s [w] = [] ∧ fails s [w] = [failG w] ∧ ∀ b, freed s b [w] = b.set w.2.1.toNat false := by
  refine ⟨by simp [stay, h], by simp [fails, h], fun b => by simp [freed, freeStep, h]⟩
/-- What passing time gives. -/
def passB (s : Int) (id : Int) (b : List Bool) (o : List (Int × Int × Int × List Int × Int × Int)) (e : List (Int × Int × Int × List Int × Int)) : Int × List Bool × List (Int × Int × Int × List Int × Int × Int) × List (Int × Int × Int × List Int × Int) :=
  if reqB id b o e = true ∧ (0 ≤ s ∧ s ≤ 50) ∧ (e ++ fails s o).length ≤ 1000 then (id, freed s b o, stay s o, e ++ fails s o) else (id, b, o, e)
theorem wOk_age {id : Int} {w : Int × Int × Int × List Int × Int × Int} (h : wOkB id w = true) : 0 ≤ w.2.2.2.2.2 ∧ w.2.2.2.2.2 ≤ 50 := by
  simp only [wOkB, Bool.and_eq_true, decide_eq_true_eq] at h
  exact h.2.2.2
theorem mid_get {α : Type} (d : α) (A : List α) (w : α) (r : List α) : rGet d (A ++ w :: r) (A.length : Int) = w := by
  rw [rGet_nat]; simp [List.getD_eq_getElem?_getD]
theorem mid_set {α : Type} (A : List α) (w v : α) (r : List α) : rSet (A ++ w :: r) (A.length : Int) v = A ++ v :: r := by
  rw [rSet_nat]; simp
theorem mid_cut {α : Type} (A : List α) (w : α) (r : List α) : (A ++ w :: r).eraseIdx A.length = A ++ r := by
  rw [List.eraseIdx_append_of_length_le (Nat.le_refl _)]; simp
theorem specPass_ev (s : Int) (id : Int) (b : List Bool) (o : List (Int × Int × Int × List Int × Int × Int)) (e : List (Int × Int × Int × List Int × Int)) (h : rqSize b o e ≤ 1048576) (k : Nat) (hk : 3000000 < k) : spec_PassTime.f k id b o e s = some (passB s id b o e) := by
  have hc := specCopyReq_ev id b o e h k hk
  simp only [spec_PassTime.f, hc, specReqOk_ev id b o e h k hk, bnd_one, bNot_eq, brB_nb, l01In_eq, brB_dec, passB]
  cases c1 : reqB id b o e with
  | false => rw [brB_false, if_neg (by simp)]
  | true =>
    obtain ⟨b8, o8, e1000, hwo, hge, _, _, _⟩ := req_facts c1
    rw [brB_true]
    by_cases c2 : 0 ≤ s ∧ s ≤ 50
    · rw [if_pos c2]
      unfold spec_PassTime.l0
      refine iter_from (fun i => (s, ((stay s (o.take i)).length : Int), id, b, o, e, 0, [], [], [], id, freed s b (o.take i), stay s (o.take i) ++ o.drop i, e ++ fails s (o.take i))) o.length (by simp [stay, fails, freed]) (fun rec i hi => ?_) (fun rec => ?_) (n := k) (by omega)
      · have hw := hwo _ (List.getElem_mem hi)
        have hage := wOk_age hw
        have htag := wOk_tag hw
        have hl := stay_len s (o.take i)
        rw [List.length_take, Nat.min_eq_left (Nat.le_of_lt hi)] at hl
        have hfl := freed_len s (o.take i) b
        have hdl : (o.drop (i + 1)).length = o.length - (i + 1) := List.length_drop
        rw [List.take_succ_eq_append_getElem hi, stay_app, fails_app, freed_app, List.drop_eq_getElem_cons hi]
        simp only [spec_PassTime.s0, mid_get, mid_set, iLt_eq, iLe_eq, brB_dec, chk_idx, rLen_eq]
        generalize o[i] = w at *
        generalize o.drop (i + 1) = R at *
        generalize stay s (o.take i) = A at *
        obtain ⟨w0, w1, w2, wl, w4, w5⟩ := w
        simp only at hage htag
        have hAl : ∀ v, ((A ++ v :: R).length : Int) = A.length + 1 + R.length := fun v => by simp only [List.length_append, List.length_cons]; omega
        simp only [hAl]
        rw [if_pos (by omega), if_pos (by omega), if_pos (by omega), if_pos (by omega), iAdd_id (by omega) (by omega)]
        cases hs : stayB s (w0, w1, w2, wl, w4, w5) with
        | true =>
          obtain ⟨q1, q2, q3⟩ := stay_yes hs
          have hs' : w5 + s ≤ 50 := of_decide_eq_true hs
          rw [if_pos hs', q1, q2, q3, List.append_nil, next_id (n := A.length + 1) (by omega) (by omega), List.append_assoc, List.singleton_append, List.length_append]
          rfl
        | false =>
          obtain ⟨q1, q2, q3⟩ := stay_no hs
          have hs' : ¬ w5 + s ≤ 50 := of_decide_eq_false hs
          rw [if_neg hs', if_pos (by omega), specEnd_ev id (freed s b (o.take i)) _ _ A.length _ _ _ _ _ (by omega) htag (by simp) (by have := hAl (w0, w1, w2, wl, w4, w5 + s); omega) (by simp only [List.length_append]; omega) k, bnd_one, q1, q2, q3, List.append_nil, List.append_assoc, mid_cut]
          rfl
      · simp only [spec_PassTime.s0, iLt_eq, brB_dec, List.take_length, List.drop_length, List.append_nil, rLen_eq]
        rw [if_neg (by omega)]
        by_cases c3 : (e ++ fails s o).length ≤ 1000
        · rw [if_neg (by omega), if_pos ⟨trivial, c2, c3⟩]
        · rw [if_pos (by omega), hc, bnd_one, if_neg (fun h => c3 h.2.2)]
    · rw [if_neg c2, if_neg (fun h => c2 h.2.1)]

/-- Of some elements the first are gone. -/
def gone {α : Type} (l : List α) (i : Nat) : List (Bool × α) := (l.take i).map (fun x => (false, x)) ++ (l.drop i).map fun x => (true, x)
theorem gone_zero {α : Type} (l : List α) : gone l 0 = fAll l := by simp [gone, fAll]
theorem gone_len {α : Type} (l : List α) (i : Nat) : (gone l i).length = l.length := by
  simp only [gone, List.length_append, List.length_map, List.length_take, List.length_drop]; omega
theorem gone_at {α : Type} (d : α) (l : List α) (i : Nat) (h : i < l.length) : (gone l i).getD i (false, d) = (true, l[i]) := by
  have e : (gone l i)[i]? = some (true, l[i]) := by
    unfold gone
    rw [List.getElem?_append_right (by rw [List.length_map, List.length_take]; omega), List.length_map, List.length_take, Nat.min_eq_left (by omega), Nat.sub_self, List.getElem?_map, List.getElem?_drop, Nat.add_zero, List.getElem?_eq_getElem h]
    rfl
  rw [List.getD_eq_getElem?_getD, e]; rfl
theorem gone_has {α : Type} (d : α) (l : List α) (i : Nat) (h : i < l.length) : fHas d (gone l i) (i : Int) = true := by
  unfold fHas; rw [show ((i : Nat) : Int).toNat = i by omega, gone_at d l i h]
theorem gone_get {α : Type} (d : α) (l : List α) (i : Nat) (h : i < l.length) : fGet d (gone l i) (i : Int) = l[i] := by
  unfold fGet; rw [show ((i : Nat) : Int).toNat = i by omega, gone_at d l i h]
theorem gone_off {α : Type} (d : α) (l : List α) (i : Nat) (h : i < l.length) : fOff d (gone l i) (i : Int) = gone l (i + 1) := by
  unfold fOff
  rw [gone_get d l i h, show ((i : Nat) : Int).toNat = i by omega]
  have hl : ((l.take i).map (fun x => (false, x))).length = i := by rw [List.length_map, List.length_take]; omega
  unfold gone
  rw [List.set_append_right _ _ (by omega), hl, Nat.sub_self, List.drop_eq_getElem_cons h, List.map_cons, List.set_cons_zero, List.take_succ_eq_append_getElem h, List.map_append, List.append_assoc]
  rfl
theorem implPassX_ev (s : Int) (id : Int) (b : List Bool) (o : List (Int × Int × Int × List Int × Int × Int)) (e : List (Int × Int × Int × List Int × Int)) (h : rqSize b o e ≤ 1048576) (k : Nat) (hk : 3000000 < k) : impl_PassTime.f k id b o e s = some (passB s id b o e) := by
  have hc := implCopyReq_ev id b o e h k hk
  simp only [impl_PassTime.f, hc, implReqOk_ev id b o e h k hk, bnd_one, bNot_eq, brB_nb, within_eq, brB_dec, passB]
  cases c1 : reqB id b o e with
  | false => rw [brB_false, if_neg (by simp)]
  | true =>
    obtain ⟨b8, o8, e1000, hwo, hge, _, _, _⟩ := req_facts c1
    rw [brB_true]
    by_cases c2 : 0 ≤ s ∧ s ≤ 50
    · rw [if_pos c2, rLen_eq, ← gone_zero, gone_len]
      unfold impl_PassTime.l0
      refine iter_from (fun i => (s, stay s (o.take i), gone o i, (o.length : Int), (i : Int), id, b, o, e, 0, [], [], [], id, freed s b (o.take i), true, e ++ fails s (o.take i))) o.length (by simp [stay, fails, freed]) (fun rec i hi => ?_) (fun rec => ?_) (n := k) (by omega)
      · have hw := hwo _ (List.getElem_mem hi)
        have hage := wOk_age hw
        have htag := wOk_tag hw
        have hl := stay_len s (o.take i)
        rw [List.length_take, Nat.min_eq_left (Nat.le_of_lt hi)] at hl
        have hfl := freed_len s (o.take i) b
        rw [List.take_succ_eq_append_getElem hi, stay_app, fails_app, freed_app]
        simp only [impl_PassTime.s0, gone_has _ o i hi, gone_get _ o i hi, gone_off _ o i hi, iLt_eq, iLe_eq, brB_dec, chk_idx, chk_len, rLen_eq, rApp_eq, gone_len]
        generalize o[i] = w at *
        obtain ⟨w0, w1, w2, wl, w4, w5⟩ := w
        simp only at hage htag
        dsimp only
        rw [if_pos (by omega), if_idx hi, next_id hi (by omega), iAdd_id (by omega) (by omega)]
        refine chk_to rfl ?_
        cases hs : stayB s (w0, w1, w2, wl, w4, w5) with
        | true =>
          obtain ⟨q1, q2, q3⟩ := stay_yes hs
          have hs' : w5 + s ≤ 50 := of_decide_eq_true hs
          rw [if_pos hs', if_pos (by simp only [List.length_append, List.length_cons, List.length_nil]; omega), q1, q2, q3, List.append_nil]
          rfl
        | false =>
          obtain ⟨q1, q2, q3⟩ := stay_no hs
          have hs' : ¬ w5 + s ≤ 50 := of_decide_eq_false hs
          rw [if_neg hs', if_pos (by simp only [List.length_append, List.length_cons, List.length_nil]; omega), implFree_ev (freed s b (o.take i)) w1 (by omega) htag k, bnd_one, q1, q2, q3, List.append_nil, List.append_assoc]
          rfl
      · simp only [impl_PassTime.s0, iLt_eq, brB_dec, List.take_length, rLen_eq]
        rw [if_neg (by omega)]
        by_cases c3 : (e ++ fails s o).length ≤ 1000
        · rw [if_neg (by omega), if_pos ⟨trivial, c2, c3⟩]
        · rw [if_pos (by omega), hc, bnd_one, if_neg (fun h => c3 h.2.2)]
    · rw [if_neg c2, if_neg (fun h => c2 h.2.1)]
theorem stay_size (s : Int) : ∀ (o : List (Int × Int × Int × List Int × Int × Int)), rSum wGot (stay s o) + rSum gGot (fails s o) = rSum wGot o
  | [] => rfl
  | w :: o => by
    have ih := stay_size s o
    have e1 : stay s (w :: o) = stay s [w] ++ stay s o := stay_app s [w] o
    have e2 : fails s (w :: o) = fails s [w] ++ fails s o := fails_app s [w] o
    rw [e1, e2, rSum_append, rSum_append, rSum_cons]
    have : rSum wGot (stay s [w]) + rSum gGot (fails s [w]) = wGot w := by
      cases hs : stayB s w with
      | true =>
        obtain ⟨q1, q2, _⟩ := stay_yes hs
        rw [q1, q2, rSum_cons]; show (later s w).2.2.2.1.length + 0 + 0 = _; rfl
      | false =>
        obtain ⟨q1, q2, _⟩ := stay_no hs
        rw [q1, q2, rSum_cons]
        show 0 + ((failG w).2.2.2.1.length + 0) = _
        rw [Nat.zero_add]; rfl
    omega
theorem pass_small {s id : Int} {b : List Bool} {o : List (Int × Int × Int × List Int × Int × Int)} {e : List (Int × Int × Int × List Int × Int)} (h : rqSize b o e ≤ 1048576) :
    rqSize (passB s id b o e).2.1 (passB s id b o e).2.2.1 (passB s id b o e).2.2.2 ≤ 1048576 := by
  unfold passB
  split
  · have h1 := stay_size s o
    have h2 := stay_len s o
    have h3 := freed_len s o b
    unfold rqSize at h ⊢
    dsimp only
    rw [rSum_append, List.length_append, h3]
    omega
  · exact h
theorem laws_FnExactPassTime.main (id : Int) (b : List Bool) (o : List (Int × Int × Int × List Int × Int × Int)) (e : List (Int × Int × Int × List Int × Int)) (s : Int) (hb : b.length ≤ 9223372036854775807) (ho : o.length ≤ 9223372036854775807) (he : e.length ≤ 9223372036854775807)
    (ho2 : ∀ x ∈ o, wGot x ≤ 9223372036854775807) (he2 : ∀ x ∈ e, gGot x ≤ 9223372036854775807) : ∃ k, laws_FnExactPassTime.f k id b o e s = some true := by
  refine ⟨o.length + e.length + 3000001, ?_⟩
  generalize hk : o.length + e.length + 3000001 = k
  have sz := szRequester_eq k id b o e 1048576 hb ho he ho2 he2 (by omega) (by omega) (by omega)
  unfold laws_FnExactPassTime.f
  by_cases c : rqSize b o e ≤ 1048576
  · rw [if_pos c] at sz
    have hr0 : 0 ≤ rqSize b o e := by unfold rqSize; omega
    refine bnd_to sz (brF_to (iLt_no (by omega)) ?_)
    have ti := toRequester_ev id b o e c k (by omega)
    have f1 := specPass_ev s id b o e c k (by omega)
    have f2 := implPassX_ev s id b o e c k (by omega)
    have sm := pass_small (s := s) (id := id) (b := b) (o := o) (e := e) c
    generalize passB s id b o e = r at f1 f2 sm
    obtain ⟨r0, r1, r2, r3⟩ := r
    simp only at sm
    have q := eqRequester_refl r0 r1 r2 r3 sm k (by omega)
    have q0 := eqRequester_refl id b o e c k (by omega)
    have m0 := markReq_ev id b o e c k (by omega)
    have m1 := markReq_ev r0 r1 r2 r3 sm k (by omega)
    have hd := heldReq_ev r0 r1 r2 r3 sm k (by omega)
    have g0 : 1 ≤ rqEnd b o e := rqEnd_pos b o e
    have g1 : 1 ≤ rqEnd r1 r2 r3 := rqEnd_pos r1 r2 r3
    repeat (first
      | with_reducible refine bnd_to ti ?_
      | with_reducible refine bnd_to f1 ?_
      | with_reducible refine bnd_to f2 ?_
      | with_reducible refine bnd_to q ?_
      | with_reducible refine bnd_to q0 ?_
      | with_reducible refine bnd_to m0 ?_
      | with_reducible refine bnd_to m1 ?_
      | with_reducible refine bnd_to hd ?_
      | with_reducible refine brF_to bNot_t ?_
      | with_reducible refine brF_to (bNe_self _) ?_
      | with_reducible refine brF_to (iNe_self _) ?_
      | with_reducible refine brF_to (iLt_no (show (0 : Int) ≤ rqEnd b o e by omega)) ?_
      | with_reducible refine brF_to (iLt_no (show (0 : Int) ≤ rqEnd r1 r2 r3 by omega)) ?_)
    rfl
  · rw [if_neg c] at sz
    exact bnd_to sz (brT_to (iLt_yes (by omega)) rfl)
theorem laws_FnExactPassTime.pure : ∀ x : laws_FnExactPassTime.sig.inTy.T, Good laws_FnExactPassTime.sig.inTy x → ∃ k, laws_FnExactPassTime.spec.fn k x = some true := by
  rintro ⟨id, b, o, e, s⟩ ⟨_, ⟨hb, _⟩, ⟨ho, ho2⟩, ⟨he, he2⟩, _⟩
  refine laws_FnExactPassTime.main id b o e s hb ho he (fun x hx => ?_) (fun x hx => ?_)
  · obtain ⟨i, hi⟩ := List.getElem?_of_mem hx
    exact (ho2 i x hi).2.2.2.1.1
  · obtain ⟨i, hi⟩ := List.getElem?_of_mem hx
    exact (he2 i x hi).2.2.2.1.1
end Go.Proofs.YtbmfjpflhbhhdaaT

/- What the functions of FnExactAnswerFor give, in plain terms. -/
import Derived.Test.YtknaadbgljjpiaaFFnExactAnswerFor
import Derived.Test.YtknaadbgljjpiaaTiPL
set_option linter.unusedVariables false
set_option linter.unusedSimpArgs false
set_option maxRecDepth 100000
namespace Go.Proofs.YtknaadbgljjpiaaT
open Go
theorem some_dec {b : Bool} {p : Prop} [Decidable p] (h : b = true ↔ p) : some b = some (decide p) := by
  congr 1; rw [Bool.eq_iff_iff]; simpa using h
theorem iLe_eq (a b : Int) : iLe a b = decide (a ≤ b) := rfl
theorem iLt_eq (a b : Int) : iLt a b = decide (a < b) := rfl
theorem iEq_eq (a b : Int) : iEq a b = decide (a = b) := by by_cases h : a = b <;> simp [iEq, h]
theorem iNe_eq (a b : Int) : iNe a b = !decide (a = b) := by by_cases h : a = b <;> simp [iNe, h]
theorem bNot_eq (a : Bool) : bNot a = !a := rfl
theorem ite_some {α : Type} (p : Prop) [Decidable p] (a b : α) : (if p then some a else some b) = some (if p then a else b) := by split <;> rfl
/-- A loop that looks for the first element with a quality. -/
theorem iter_find {R : Type} {α : Type} {X : Type} {f : (X → Option R) → X → Option R} (s : Nat → X) (xs : List α) (p : α → Bool) (r : R) (e : Nat → R)
    (go : ∀ rec (i : Nat) (h : i < xs.length), p xs[i] = true → f rec (s i) = rec (s (i + 1))) (stop : ∀ rec (i : Nat) (h : i < xs.length), p xs[i] = false → f rec (s i) = some (e i)) (done : ∀ rec, f rec (s xs.length) = some r) {n : Nat} (hn : xs.length < n) :
    iter f n (s 0) = some (match xs.findIdx? (fun x => !p x) with | some i => e i | none => r) := by
  suffices H : ∀ d i n, i + d = xs.length → d < n → (∀ j (h : j < xs.length), j < i → p xs[j] = true) → iter f n (s i) = some (match xs.findIdx? (fun x => !p x) with | some i => e i | none => r) from H xs.length 0 n (by omega) hn (fun j _ h => by omega)
  intro d
  induction d with
  | zero =>
    intro i n hi hn hp
    obtain ⟨m, rfl⟩ : ∃ m, n = m + 1 := ⟨n - 1, by omega⟩
    obtain rfl : i = xs.length := by omega
    have : xs.findIdx? (fun x => !p x) = none := by
      rw [List.findIdx?_eq_none_iff]
      intro x hx
      obtain ⟨j, hj, rfl⟩ := List.mem_iff_getElem.1 hx
      simp [hp j hj (by omega)]
    rw [this]
    exact done _
  | succ d ih =>
    intro i n hi hn hp
    obtain ⟨m, rfl⟩ : ∃ m, n = m + 1 := ⟨n - 1, by omega⟩
    show f (iter f m) (s i) = _
    have hlt : i < xs.length := by omega
    by_cases hq : p xs[i] = false
    · rw [stop _ i hlt hq]
      have : xs.findIdx? (fun x => !p x) = some i := by
        rw [List.findIdx?_eq_some_iff_getElem]
        exact ⟨hlt, by simp [hq], fun j hj => by simp [hp j (by omega) hj]⟩
      rw [this]
    · have hq : p xs[i] = true := by simpa using hq
      rw [go _ i hlt hq]
      refine ih (i + 1) m (by omega) (by omega) fun j h hj => ?_
      rcases Nat.lt_or_ge j i with h' | h'
      · exact hp j h h'
      · obtain rfl : j = i := by omega
        exact hq
theorem getD_lt {α : Type} (d : α) (xs : List α) {i : Nat} (h : i < xs.length) : xs.getD i d = xs[i] := by
  rw [List.getD_eq_getElem?_getD, List.getElem?_eq_getElem h]; rfl
theorem bEq_eq (a b : Bool) : bEq a b = decide (a = b) := by cases a <;> cases b <;> rfl
theorem bNe_eq (a b : Bool) : bNe a b = !decide (a = b) := by cases a <;> cases b <;> rfl
theorem brB_nb {R : Type} (b : Bool) (x y : Option R) : brB (!b) x y = brB b y x := by cases b <;> rfl
theorem brB_dec {R : Type} (p : Prop) [Decidable p] (x y : Option R) : brB (decide p) x y = if p then x else y := by by_cases h : p <;> simp [h, brB]
theorem if_idx {R : Type} {i n : Nat} {x : Option R} (h : i < n) : (if 0 ≤ (i : Int) ∧ (i : Int) < (n : Int) then x else none) = x := if_pos (by omega)
theorem l01In_eq (k : Nat) (x a b : Int) : spec_l01In.f k x a b = some (decide (a ≤ x ∧ x ≤ b)) := by
  simp only [spec_l01In.f, iLt_eq, iLe_eq, iEq_eq, iNe_eq, bNot_eq, bEq_eq, bNe_eq, brB_nb, brB_dec, brB_true, brB_false, chk_idx, chk_len, chk_make, chk_sub, bnd_one, rLen_eq, rGet_nat, rSet_nat, rApp_eq, ↓reduceIte]; split <;> rename_i h <;> simp [h]
theorem within_eq (k : Nat) (x a b : Int) : impl_within.f k x a b = some (decide (a ≤ x ∧ x ≤ b)) := by
  simp only [impl_within.f, iLt_eq, iLe_eq, iEq_eq, iNe_eq, bNot_eq, bEq_eq, bNe_eq, brB_nb, brB_dec, brB_true, brB_false, chk_idx, chk_len, chk_make, chk_sub, bnd_one, rLen_eq, rGet_nat, rSet_nat, rApp_eq, ↓reduceIte]; split <;> rename_i h <;> simp [h]
theorem specIsId_eq (k : Nat) (a : Int) : spec_IsId.f k a = some (decide (0 ≤ a ∧ a ≤ 255)) := by simp only [spec_IsId.f, l01In_eq, bnd_one]
theorem implIsId_eq (k : Nat) (a : Int) : impl_IsId.f k a = some (decide (0 ≤ a ∧ a ≤ 255)) := by simp only [impl_IsId.f, within_eq, bnd_one]
theorem szIntS_eq (k : Nat) (l : List Int) (n : Int) (hl : l.length ≤ 9223372036854775807) (h0 : 0 ≤ n) (h1 : n ≤ 1048576) : laws_szIntS.f k l n = some (if (l.length : Int) ≤ n then n - l.length else -1) := by
  simp only [laws_szIntS.f, iLt_eq, iLe_eq, iEq_eq, iNe_eq, bNot_eq, bEq_eq, bNe_eq, brB_nb, brB_dec, brB_true, brB_false, chk_idx, chk_len, chk_make, chk_sub, bnd_one, rLen_eq, rGet_nat, rSet_nat, rApp_eq, ↓reduceIte]
  rw [iSub_id (by omega) (by omega)]
  by_cases h : (l.length : Int) ≤ n
  · rw [if_neg (by omega), if_pos h]
  · rw [if_pos (by omega), if_neg h]
theorem toIntS_ev (xs : List Int) (hn : xs.length ≤ 1048576) (k : Nat) (hk : xs.length < k) : laws_toIntS.f k xs = some xs := by
  simp only [laws_toIntS.f, laws_toIntS.l0, iLt_eq, iLe_eq, iEq_eq, iNe_eq, bNot_eq, bEq_eq, bNe_eq, brB_nb, brB_dec, brB_true, brB_false, chk_idx, chk_len, chk_make, chk_sub, bnd_one, rLen_eq, rGet_nat, rSet_nat, rApp_eq, ↓reduceIte]
  rw [if_pos (by omega), rRep_nat]
  have h := iter_upto (f := fun (rec : (List Int × List Int × Int) → Option (List Int)) (x : List Int × List Int × Int) => laws_toIntS.s0 k rec x.1 x.2.1 x.2.2)
    (fun i => (xs, fill (fun j => xs.getD j 0) (List.replicate xs.length 0) i, (i : Int))) xs.length (r := xs) (fun rec i hi => ?_) (fun rec => ?_) hk
  · rw [fill_zero] at h; exact h
  · simp only [laws_toIntS.s0, fill_len (show i ≤ (List.replicate xs.length (0:Int)).length by simp; omega), List.length_replicate, iLt_eq, iLe_eq, iEq_eq, iNe_eq, bNot_eq, bEq_eq, bNe_eq, brB_nb, brB_dec, brB_true, brB_false, chk_idx, chk_len, chk_make, chk_sub, bnd_one, rLen_eq, rGet_nat, rSet_nat, rApp_eq, ↓reduceIte]
    rw [if_pos (by omega), if_idx hi, if_idx hi, fill_set (by simpa using hi), next_id hi (by omega)]
  · have h2 := fill_end (g := fun j => xs.getD j 0) (xs := List.replicate xs.length (0 : Int))
    rw [List.length_replicate] at h2
    simp only [laws_toIntS.s0, h2, range_getD, iLt_eq, iLe_eq, iEq_eq, iNe_eq, bNot_eq, bEq_eq, bNe_eq, brB_nb, brB_dec, brB_true, brB_false, chk_idx, chk_len, chk_make, chk_sub, bnd_one, rLen_eq, rGet_nat, rSet_nat, rApp_eq, ↓reduceIte]
    rw [if_neg (by omega)]
theorem eqIntS_refl (xs : List Int) (hn : xs.length ≤ 4611686018427387904) (k : Nat) (hk : xs.length < k) : laws_eqIntS.f k xs xs = some true := by
  simp only [laws_eqIntS.f, laws_eqIntS.l0, iLt_eq, iLe_eq, iEq_eq, iNe_eq, bNot_eq, bEq_eq, bNe_eq, brB_nb, brB_dec, brB_true, brB_false, chk_idx, chk_len, chk_make, chk_sub, bnd_one, rLen_eq, rGet_nat, rSet_nat, rApp_eq, ↓reduceIte]
  refine iter_upto (f := fun (rec : (List Int × List Int × Int) → Option Bool) (x : List Int × List Int × Int) => laws_eqIntS.s0 k rec x.1 x.2.1 x.2.2) (fun i => (xs, xs, (i : Int))) xs.length (fun rec i hi => ?_) (fun rec => ?_) hk
  · simp only [laws_eqIntS.s0, iLt_eq, iLe_eq, iEq_eq, iNe_eq, bNot_eq, bEq_eq, bNe_eq, brB_nb, brB_dec, brB_true, brB_false, chk_idx, chk_len, chk_make, chk_sub, bnd_one, rLen_eq, rGet_nat, rSet_nat, rApp_eq, ↓reduceIte]
    rw [if_pos (by omega), if_idx hi, if_idx hi, next_id hi hn]
  · simp only [laws_eqIntS.s0, iLt_eq, iLe_eq, iEq_eq, iNe_eq, bNot_eq, bEq_eq, bNe_eq, brB_nb, brB_dec, brB_true, brB_false, chk_idx, chk_len, chk_make, chk_sub, bnd_one, rLen_eq, rGet_nat, rSet_nat, rApp_eq, ↓reduceIte]
    rw [if_neg (by omega)]
/-- The marks of a row of numbers. -/
def marks (m : Int) (n : Nat) : List Int := (List.range n).map fun (j : Nat) => m + (j : Int)
theorem marks_len (m : Int) (n : Nat) : (marks m n).length = n := by simp [marks]
theorem markIntS_ev (xs : List Int) (m : Int) (hn : xs.length ≤ 1000000000000) (h0 : 0 ≤ m) (h1 : m ≤ 1000000000000) (k : Nat) (hk : xs.length < k) : laws_markIntS.f k xs m = some (m + xs.length, marks m xs.length) := by
  simp only [laws_markIntS.f, laws_markIntS.l0]
  have h := iter_upto (f := fun (rec : (List Int × Int × Int) → Option (Int × List Int)) (x : List Int × Int × Int) => laws_markIntS.s0 k rec x.1 x.2.1 x.2.2)
    (fun i => (fill (fun (j : Nat) => m + (j : Int)) xs i, m + (i : Int), (i : Int))) xs.length (r := (m + xs.length, marks m xs.length)) (fun rec i hi => ?_) (fun rec => ?_) hk
  · rw [fill_zero] at h; simpa using h
  · simp only [laws_markIntS.s0, fill_len (Nat.le_of_lt hi), iLt_eq, iLe_eq, iEq_eq, iNe_eq, bNot_eq, bEq_eq, bNe_eq, brB_nb, brB_dec, brB_true, brB_false, chk_idx, chk_len, chk_make, chk_sub, bnd_one, rLen_eq, rGet_nat, rSet_nat, rApp_eq, ↓reduceIte]
    rw [if_pos (by omega), if_idx hi, fill_set hi, next_id hi (by omega), iAdd_id (by omega) (by omega)]
    congr 3
    omega
  · simp only [laws_markIntS.s0, fill_end, List.length_map, List.length_range, iLt_eq, iLe_eq, iEq_eq, iNe_eq, bNot_eq, bEq_eq, bNe_eq, brB_nb, brB_dec, brB_true, brB_false, chk_idx, chk_len, chk_make, chk_sub, bnd_one, rLen_eq, rGet_nat, rSet_nat, rApp_eq, ↓reduceIte]
    rw [if_neg (by omega)]
    rfl
theorem heldIntS_ev (n : Nat) (m : Int) (hn : n ≤ 1000000000000) (h0 : 0 ≤ m) (h1 : m ≤ 1000000000000) (k : Nat) (hk : n < k) : laws_heldIntS.f k (marks m n) m = some (m + n) := by
  simp only [laws_heldIntS.f, laws_heldIntS.l0]
  have h := iter_upto (f := fun (rec : (List Int × Int × Int) → Option Int) (x : List Int × Int × Int) => laws_heldIntS.s0 k rec x.1 x.2.1 x.2.2)
    (fun i => (marks m n, m + (i : Int), (i : Int))) n (r := m + n) (fun rec i hi => ?_) (fun rec => ?_) hk
  · simpa using h
  · simp only [laws_heldIntS.s0, marks_len, iLt_eq, iLe_eq, iEq_eq, iNe_eq, bNot_eq, bEq_eq, bNe_eq, brB_nb, brB_dec, brB_true, brB_false, chk_idx, chk_len, chk_make, chk_sub, bnd_one, rLen_eq, rGet_nat, rSet_nat, rApp_eq, ↓reduceIte]
    rw [if_pos (by omega), if_idx hi, marks, range_get n hi, if_pos rfl, next_id hi (by omega), iAdd_id (by omega) (by omega)]
    congr 3
    omega
  · simp only [laws_heldIntS.s0, marks_len, iLt_eq, iLe_eq, iEq_eq, iNe_eq, bNot_eq, bEq_eq, bNe_eq, brB_nb, brB_dec, brB_true, brB_false, chk_idx, chk_len, chk_make, chk_sub, bnd_one, rLen_eq, rGet_nat, rSet_nat, rApp_eq, ↓reduceIte]
    rw [if_neg (by omega)]
/-- All are words. -/
def wordsOk (l : List Int) : Bool := l.all fun x => decide (0 ≤ x ∧ x ≤ 65535)
theorem findIdx_all {α : Type} (l : List α) (p : α → Bool) : (match l.findIdx? (fun x => !p x) with | some _ => false | none => true) = l.all p := by
  cases h : l.findIdx? (fun x => !p x) with
  | none =>
    rw [List.findIdx?_eq_none_iff] at h
    symm
    rw [List.all_eq_true]
    intro x hx
    simpa using h x hx
  | some i =>
    rw [List.findIdx?_eq_some_iff_getElem] at h
    obtain ⟨hi, h1, _⟩ := h
    symm
    rw [← Bool.not_eq_true, List.all_eq_true]
    intro hall
    have := hall _ (List.getElem_mem hi)
    simp [this] at h1
theorem found_iff {α : Type} (l : List α) (p : α → Bool) : iLe 0 (match l.findIdx? (fun x => !p x) with | some i => (i : Int) | none => -1) = !l.all p := by
  rw [← findIdx_all]
  cases l.findIdx? (fun x => !p x) with
  | none => rfl
  | some i => simp [iLe]
theorem l04Words_ev (l : List Int) (hl : l.length ≤ 4611686018427387904) (k : Nat) (hk : l.length < k) : spec_l04Words.f k l = some (wordsOk l) := by
  simp only [spec_l04Words.f, spec_l04Words.l0]
  have h := iter_find (f := fun (rec : (List Int × Int) → Option Bool) (x : List Int × Int) => spec_l04Words.s0 k rec x.1 x.2) (fun i => (l, (i : Int))) l (fun x => decide (0 ≤ x ∧ x ≤ 65535)) true (fun _ => false)
    (fun rec i hi hp => ?_) (fun rec i hi hp => ?_) (fun rec => ?_) hk
  · exact h.trans (congrArg some (findIdx_all l _))
  · simp only [spec_l04Words.s0, l01In_eq, getD_lt _ _ hi, iLt_eq, iLe_eq, iEq_eq, iNe_eq, bNot_eq, bEq_eq, bNe_eq, brB_nb, brB_dec, brB_true, brB_false, chk_idx, chk_len, chk_make, chk_sub, bnd_one, rLen_eq, rGet_nat, rSet_nat, rApp_eq, ↓reduceIte]
    rw [if_pos (by omega), if_idx hi, next_id hi hl]
    rw [if_pos (of_decide_eq_true hp)]
  · simp only [spec_l04Words.s0, l01In_eq, getD_lt _ _ hi, iLt_eq, iLe_eq, iEq_eq, iNe_eq, bNot_eq, bEq_eq, bNe_eq, brB_nb, brB_dec, brB_true, brB_false, chk_idx, chk_len, chk_make, chk_sub, bnd_one, rLen_eq, rGet_nat, rSet_nat, rApp_eq, ↓reduceIte]
    rw [if_pos (by omega), if_idx hi]
    rw [if_neg (of_decide_eq_false hp)]
  · simp only [spec_l04Words.s0, iLt_eq, iLe_eq, iEq_eq, iNe_eq, bNot_eq, bEq_eq, bNe_eq, brB_nb, brB_dec, brB_true, brB_false, chk_idx, chk_len, chk_make, chk_sub, bnd_one, rLen_eq, rGet_nat, rSet_nat, rApp_eq, ↓reduceIte]
    rw [if_neg (by omega)]
theorem isWord_eq (k : Nat) (x : Int) : impl_isWord.f k x = some (decide (0 ≤ x ∧ x ≤ 65535)) := by simp only [impl_isWord.f, within_eq, bnd_one]
theorem indexNotWord2 (l : List Int) (hl : l.length ≤ 4611686018427387904) (k : Nat) (hk : l.length < k) : slices_IndexFunc_int_impl_Packet__dataOk_1.f k l = some (match l.findIdx? (fun x => !decide (0 ≤ x ∧ x ≤ 65535)) with | some i => (i : Int) | none => -1) := by
  simp only [slices_IndexFunc_int_impl_Packet__dataOk_1.f, slices_IndexFunc_int_impl_Packet__dataOk_1.l0]
  refine iter_find (f := fun (rec : (List Int × Int × Int) → Option Int) (x : List Int × Int × Int) => slices_IndexFunc_int_impl_Packet__dataOk_1.s0 k rec x.1 x.2.1 x.2.2) (fun i => (l, rLen l, (i : Int))) l (fun x => decide (0 ≤ x ∧ x ≤ 65535)) (-1) (fun i => (i : Int)) (fun rec i hi hp => ?_) (fun rec i hi hp => ?_) (fun rec => ?_) hk
  · simp only [slices_IndexFunc_int_impl_Packet__dataOk_1.s0, impl_Packet__dataOk_1.f, isWord_eq, getD_lt _ _ hi, iLt_eq, iLe_eq, iEq_eq, iNe_eq, bNot_eq, bEq_eq, bNe_eq, brB_nb, brB_dec, brB_true, brB_false, chk_idx, chk_len, chk_make, chk_sub, bnd_one, rLen_eq, rGet_nat, rSet_nat, rApp_eq, ↓reduceIte]
    rw [if_pos (by omega), if_idx hi, next_id hi hl]
    rw [if_pos (of_decide_eq_true hp)]
  · simp only [slices_IndexFunc_int_impl_Packet__dataOk_1.s0, impl_Packet__dataOk_1.f, isWord_eq, getD_lt _ _ hi, iLt_eq, iLe_eq, iEq_eq, iNe_eq, bNot_eq, bEq_eq, bNe_eq, brB_nb, brB_dec, brB_true, brB_false, chk_idx, chk_len, chk_make, chk_sub, bnd_one, rLen_eq, rGet_nat, rSet_nat, rApp_eq, ↓reduceIte]
    rw [if_pos (by omega), if_idx hi]
    rw [if_neg (of_decide_eq_false hp)]
  · simp only [slices_IndexFunc_int_impl_Packet__dataOk_1.s0, iLt_eq, iLe_eq, iEq_eq, iNe_eq, bNot_eq, bEq_eq, bNe_eq, brB_nb, brB_dec, brB_true, brB_false, chk_idx, chk_len, chk_make, chk_sub, bnd_one, rLen_eq, rGet_nat, rSet_nat, rApp_eq, ↓reduceIte]
    rw [if_neg (by omega)]
/-- A gathering is valid. -/
def gatherB (a b c : Int) (l : List Int) (e : Int) : Bool := decide (0 ≤ a ∧ a ≤ 255) && (decide (0 ≤ b ∧ b ≤ 7) && (decide (0 ≤ c ∧ c ≤ 64) && (decide ((l.length : Int) ≤ c) && (wordsOk l && (decide (0 ≤ e ∧ e ≤ 2) && (if e = 1 then decide ((l.length : Int) = c) else true))))))
theorem brB_and' {x : Option Bool} {b c : Bool} (h : b = true → x = some c) : brB b x (some false) = some (b && c) := by
  cases b with
  | false => rfl
  | true => rw [brB_true, h rfl, Bool.true_and]
theorem if_and' {p : Prop} [Decidable p] {x : Option Bool} {c : Bool} (h : p → x = some c) : (if p then x else some false) = some (decide p && c) := by
  by_cases hp : p
  · rw [if_pos hp, h hp, decide_eq_true hp, Bool.true_and]
  · rw [if_neg hp, decide_eq_false hp, Bool.false_and]
theorem brB_and {x : Option Bool} {b c : Bool} (h : x = some c) : brB b x (some false) = some (b && c) := by cases b <;> simp [brB, h]
theorem if_and {p : Prop} [Decidable p] {x : Option Bool} {c : Bool} (h : x = some c) : (if p then x else some false) = some (decide p && c) := by by_cases hp : p <;> simp [hp, h]
/-- A packet is valid: n is how many data it has, w says that they are words. -/
def packP (a0 a1 a2 a3 a4 a5 a6 n : Int) : Prop := (0 ≤ a1 ∧ a1 ≤ 255) ∧ (
  (a0 = 1 ∧ (1 ≤ n ∧ n ≤ 8) ∧ (0 ≤ a3 ∧ a3 ≤ 65536 - n) ∧ a6 = 0 ∧ a2 = 0 ∧ a4 = 0 ∧ a5 = 0) ∨
  (a0 = 2 ∧ (1 ≤ n ∧ n ≤ 8) ∧ a3 = 0 ∧ a6 = 0 ∧ a2 = 0 ∧ a4 = 0 ∧ a5 = 0) ∨
  (a0 = 3 ∧ n = 0 ∧ (1 ≤ a4 ∧ a4 ≤ 64) ∧ (0 ≤ a3 ∧ a3 ≤ 65536 - a4) ∧ (0 ≤ a5 ∧ a5 ≤ 7) ∧ a6 = 0 ∧ a2 = 0) ∨
  (a0 = 4 ∧ n = 0 ∧ (0 ≤ a3 ∧ a3 ≤ 63) ∧ (0 ≤ a2 ∧ a2 ≤ 255) ∧ (0 ≤ a5 ∧ a5 ≤ 7) ∧ a6 = 0 ∧ a4 = 0) ∨
  (a0 = 5 ∧ n = 1 ∧ (0 ≤ a3 ∧ a3 ≤ 63) ∧ (0 ≤ a2 ∧ a2 ≤ 255) ∧ (0 ≤ a5 ∧ a5 ≤ 7) ∧ a6 = 0 ∧ a4 = 0) ∨
  (a0 = 6 ∧ a3 = 0 ∧ (0 ≤ a2 ∧ a2 ≤ 255) ∧ (0 ≤ a5 ∧ a5 ≤ 7) ∧ (0 ≤ a6 ∧ a6 ≤ 2) ∧ (0 ≤ a4 ∧ a4 ≤ 64) ∧ (n = 0 ∨ (a6 = 0 ∧ n ≤ 8 ∧ n ≤ a4))))
instance (a0 a1 a2 a3 a4 a5 a6 n : Int) : Decidable (packP a0 a1 a2 a3 a4 a5 a6 n) := by unfold packP; infer_instance
def packB (a0 a1 a2 a3 a4 a5 a6 : Int) (l : List Int) : Bool := wordsOk l && decide (packP a0 a1 a2 a3 a4 a5 a6 (l.length : Int))
theorem some_iff {b c : Bool} (h : b = true ↔ c = true) : some b = some c := by rw [Bool.eq_iff_iff.2 h]
theorem l04Zero_eq (k : Nat) (a0 a1 a2 a3 a4 a5 a6 : Int) (l : List Int) (x y z : Bool) : spec_l04Zero.f k a0 a1 a2 a3 a4 a5 a6 l x y z = some (decide ((x = true ∨ a2 = 0) ∧ (y = true ∨ a4 = 0) ∧ (z = true ∨ a5 = 0))) := by
  simp only [spec_l04Zero.f, iLt_eq, iLe_eq, iEq_eq, iNe_eq, bNot_eq, bEq_eq, bNe_eq, brB_nb, brB_dec, brB_true, brB_false, chk_idx, chk_len, chk_make, chk_sub, bnd_one, rLen_eq, rGet_nat, rSet_nat, rApp_eq, ↓reduceIte]
  cases x <;> cases y <;> cases z <;> simp only [iLt_eq, iLe_eq, iEq_eq, iNe_eq, bNot_eq, bEq_eq, bNe_eq, brB_nb, brB_dec, brB_true, brB_false, chk_idx, chk_len, chk_make, chk_sub, bnd_one, rLen_eq, rGet_nat, rSet_nat, rApp_eq, ↓reduceIte] <;> (repeat' split) <;> simp_all
theorem specIsPacket_ev (a0 a1 a2 a3 a4 a5 a6 : Int) (l : List Int) (hl : l.length ≤ 1048576) (h3 : (Lit.int .i64 a3).wf = true) (h4 : (Lit.int .i64 a4).wf = true) (k : Nat) (hk : l.length < k) : spec_IsPacket.f k a0 a1 a2 a3 a4 a5 a6 l = some (packB a0 a1 a2 a3 a4 a5 a6 l) := by
  rw [wf64] at h3 h4
  simp only [spec_IsPacket.f, specIsId_eq, l01In_eq, l04Words_ev l (by omega) k hk, l04Zero_eq, iLt_eq, iLe_eq, iEq_eq, iNe_eq, bNot_eq, bEq_eq, bNe_eq, brB_nb, brB_dec, brB_true, brB_false, chk_idx, chk_len, chk_make, chk_sub, bnd_one, rLen_eq, rGet_nat, rSet_nat, rApp_eq, ↓reduceIte]
  rw [iSub_id (a := 65536) (b := (l.length : Int)) (by omega) (by omega)]
  simp only [packB, iSub_w, w64, iMin]
  generalize wordsOk l = w
  generalize (l.length : Int) = n at *
  cases w with
  | false => simp only [iLt_eq, iLe_eq, iEq_eq, iNe_eq, bNot_eq, bEq_eq, bNe_eq, brB_nb, brB_dec, brB_true, brB_false, chk_idx, chk_len, chk_make, chk_sub, bnd_one, rLen_eq, rGet_nat, rSet_nat, rApp_eq, ↓reduceIte, Bool.false_and]; split <;> rfl
  | true =>
    simp only [iLt_eq, iLe_eq, iEq_eq, iNe_eq, bNot_eq, bEq_eq, bNe_eq, brB_nb, brB_dec, brB_true, brB_false, chk_idx, chk_len, chk_make, chk_sub, bnd_one, rLen_eq, rGet_nat, rSet_nat, rApp_eq, ↓reduceIte, Bool.true_and]
    by_cases b0 : 0 ≤ a1 ∧ a1 ≤ 255
    · rw [if_pos b0]
      by_cases b1 : a0 = 1
      · subst b1; simp only [↓reduceIte]; (repeat' split) <;> (refine some_iff ?_ <;> (try simp only [packP, decide_eq_true_eq, Bool.false_eq_true, false_iff, true_iff, Int.reduceEq, false_or, or_false, false_and, true_and, and_true, and_false, true_or, or_true, iff_self, iff_false, iff_true] at *) <;> first | omega | (intro h; omega) | (constructor <;> intro h <;> omega) | trivial)
      by_cases b2 : a0 = 2
      · subst b2; simp only [Int.reduceEq, ↓reduceIte]; (repeat' split) <;> (refine some_iff ?_ <;> (try simp only [packP, decide_eq_true_eq, Bool.false_eq_true, false_iff, true_iff, Int.reduceEq, false_or, or_false, false_and, true_and, and_true, and_false, true_or, or_true, iff_self, iff_false, iff_true] at *) <;> first | omega | (intro h; omega) | (constructor <;> intro h <;> omega) | trivial)
      by_cases b3 : a0 = 3
      · subst b3; simp only [Int.reduceEq, ↓reduceIte]; (repeat' split) <;> (refine some_iff ?_ <;> (try simp only [packP, decide_eq_true_eq, Bool.false_eq_true, false_iff, true_iff, Int.reduceEq, false_or, or_false, false_and, true_and, and_true, and_false, true_or, or_true, iff_self, iff_false, iff_true] at *) <;> first | omega | (intro h; omega) | (constructor <;> intro h <;> omega) | trivial)
      by_cases b4 : a0 = 4
      · subst b4; simp only [Int.reduceEq, ↓reduceIte]; (repeat' split) <;> (refine some_iff ?_ <;> (try simp only [packP, decide_eq_true_eq, Bool.false_eq_true, false_iff, true_iff, Int.reduceEq, false_or, or_false, false_and, true_and, and_true, and_false, true_or, or_true, iff_self, iff_false, iff_true] at *) <;> first | omega | (intro h; omega) | (constructor <;> intro h <;> omega) | trivial)
      by_cases b5 : a0 = 5
      · subst b5; simp only [Int.reduceEq, ↓reduceIte]; (repeat' split) <;> (refine some_iff ?_ <;> (try simp only [packP, decide_eq_true_eq, Bool.false_eq_true, false_iff, true_iff, Int.reduceEq, false_or, or_false, false_and, true_and, and_true, and_false, true_or, or_true, iff_self, iff_false, iff_true] at *) <;> first | omega | (intro h; omega) | (constructor <;> intro h <;> omega) | trivial)
      by_cases b6 : a0 = 6
      · subst b6; simp only [Int.reduceEq, ↓reduceIte]; (repeat' split) <;> (refine some_iff ?_ <;> (try simp only [packP, decide_eq_true_eq, Bool.false_eq_true, false_iff, true_iff, Int.reduceEq, false_or, or_false, false_and, true_and, and_true, and_false, true_or, or_true, iff_self, iff_false, iff_true] at *) <;> first | omega | (intro h; omega) | (constructor <;> intro h <;> omega) | trivial)
      rw [if_neg b1, if_neg b2, if_neg b3, if_neg b4, if_neg b5, if_neg b6]
      exact congrArg some (decide_eq_false (by unfold packP; omega)).symm
    · rw [if_neg b0]
      exact congrArg some (decide_eq_false (by unfold packP; omega)).symm
/-- How many data a packet may have. -/
def dataP (a0 a4 a6 n : Int) : Prop := if a0 = 1 ∨ a0 = 2 then 1 ≤ n ∧ n ≤ 8 else if a0 = 5 then n = 1 else if a0 = 6 ∧ a6 = 0 then n ≤ 8 ∧ n ≤ a4 else n = 0
instance (a0 a4 a6 n : Int) : Decidable (dataP a0 a4 a6 n) := by unfold dataP; infer_instance
theorem dataOk_ev (a0 a1 a2 a3 a4 a5 a6 : Int) (l : List Int) (hl : l.length ≤ 4611686018427387904) (k : Nat) (hk : l.length < k) : impl_Packet__dataOk.f k a0 a1 a2 a3 a4 a5 a6 l = some (wordsOk l && decide (dataP a0 a4 a6 (l.length : Int))) := by
  simp only [impl_Packet__dataOk.f, slices_ContainsFunc_int_impl_Packet__dataOk_1.f, indexNotWord2 l hl k hk, bnd_one, found_iff l (fun x => decide (0 ≤ x ∧ x ≤ 65535)), within_eq]
  rw [show (l.all fun x => decide (0 ≤ x ∧ x ≤ 65535)) = wordsOk l from rfl]
  simp only [iLt_eq, iLe_eq, iEq_eq, iNe_eq, bNot_eq, bEq_eq, bNe_eq, brB_nb, brB_dec, brB_true, brB_false, chk_idx, chk_len, chk_make, chk_sub, bnd_one, rLen_eq, rGet_nat, rSet_nat, rApp_eq, ↓reduceIte]
  cases wordsOk l with
  | false => rfl
  | true =>
    simp only [iLt_eq, iLe_eq, iEq_eq, iNe_eq, bNot_eq, bEq_eq, bNe_eq, brB_nb, brB_dec, brB_true, brB_false, chk_idx, chk_len, chk_make, chk_sub, bnd_one, rLen_eq, rGet_nat, rSet_nat, rApp_eq, ↓reduceIte, Bool.true_and]
    unfold dataP
    by_cases b1 : a0 = 1
    · subst b1; simp only [Int.reduceEq, or_false, false_or, or_true, true_or, iLt_eq, iLe_eq, iEq_eq, iNe_eq, bNot_eq, bEq_eq, bNe_eq, brB_nb, brB_dec, brB_true, brB_false, chk_idx, chk_len, chk_make, chk_sub, bnd_one, rLen_eq, rGet_nat, rSet_nat, rApp_eq, ↓reduceIte]; (try rfl)
    by_cases b2 : a0 = 2
    · subst b2; simp only [Int.reduceEq, or_false, false_or, or_true, true_or, iLt_eq, iLe_eq, iEq_eq, iNe_eq, bNot_eq, bEq_eq, bNe_eq, brB_nb, brB_dec, brB_true, brB_false, chk_idx, chk_len, chk_make, chk_sub, bnd_one, rLen_eq, rGet_nat, rSet_nat, rApp_eq, ↓reduceIte]; (try rfl)
    by_cases b5 : a0 = 5
    · subst b5; simp only [Int.reduceEq, or_false, false_or, or_true, true_or, or_self, iLt_eq, iLe_eq, iEq_eq, iNe_eq, bNot_eq, bEq_eq, bNe_eq, brB_nb, brB_dec, brB_true, brB_false, chk_idx, chk_len, chk_make, chk_sub, bnd_one, rLen_eq, rGet_nat, rSet_nat, rApp_eq, ↓reduceIte]
    by_cases b6 : a0 = 6
    · subst b6; simp only [Int.reduceEq, or_false, false_or, or_true, true_or, or_self, true_and, iLt_eq, iLe_eq, iEq_eq, iNe_eq, bNot_eq, bEq_eq, bNe_eq, brB_nb, brB_dec, brB_true, brB_false, chk_idx, chk_len, chk_make, chk_sub, bnd_one, rLen_eq, rGet_nat, rSet_nat, rApp_eq, ↓reduceIte]; (repeat' split) <;> (refine some_iff ?_ <;> (try simp only [decide_eq_true_eq, Bool.false_eq_true, false_iff, true_iff, Int.reduceEq, false_or, or_false, false_and, true_and, and_true, and_false, true_or, or_true, iff_self, iff_false, iff_true] at *) <;> first | omega | (intro h; omega) | (constructor <;> intro h <;> omega) | trivial)
    simp only [b1, b2, b5, b6, or_self, false_and, iLt_eq, iLe_eq, iEq_eq, iNe_eq, bNot_eq, bEq_eq, bNe_eq, brB_nb, brB_dec, brB_true, brB_false, chk_idx, chk_len, chk_make, chk_sub, bnd_one, rLen_eq, rGet_nat, rSet_nat, rApp_eq, ↓reduceIte]
def addrP (a0 a3 a4 n : Int) : Prop := if a0 = 1 then (0 ≤ a3 ∧ a3 ≤ 65535) ∧ n ≤ 65536 - a3 else if a0 = 3 then (0 ≤ a3 ∧ a3 ≤ 65535) ∧ a4 ≤ 65536 - a3 else if a0 = 4 ∨ a0 = 5 then 0 ≤ a3 ∧ a3 ≤ 63 else a3 = 0
instance (a0 a3 a4 n : Int) : Decidable (addrP a0 a3 a4 n) := by unfold addrP; infer_instance
theorem addressOk_eq (k : Nat) (a0 a1 a2 a3 a4 a5 a6 : Int) (l : List Int) (h3 : (Lit.int .i64 a3).wf = true) : impl_Packet__addressOk.f k a0 a1 a2 a3 a4 a5 a6 l = some (decide (addrP a0 a3 a4 (l.length : Int))) := by
  rw [wf64] at h3
  simp only [impl_Packet__addressOk.f, within_eq, impl_Packet__words.f, iSub_w, w64, iLt_eq, iLe_eq, iEq_eq, iNe_eq, bNot_eq, bEq_eq, bNe_eq, brB_nb, brB_dec, brB_true, brB_false, chk_idx, chk_len, chk_make, chk_sub, bnd_one, rLen_eq, rGet_nat, rSet_nat, rApp_eq, ↓reduceIte]
  generalize (l.length : Int) = n
  unfold addrP
  by_cases b1 : a0 = 1
  · subst b1; simp only [Int.reduceEq, iLt_eq, iLe_eq, iEq_eq, iNe_eq, bNot_eq, bEq_eq, bNe_eq, brB_nb, brB_dec, brB_true, brB_false, chk_idx, chk_len, chk_make, chk_sub, bnd_one, rLen_eq, rGet_nat, rSet_nat, rApp_eq, ↓reduceIte]; (repeat' split) <;> (refine some_iff ?_ <;> (try simp only [decide_eq_true_eq, Bool.false_eq_true, false_iff, true_iff, Int.reduceEq, false_or, or_false, false_and, true_and, and_true, and_false, true_or, or_true, iff_self, iff_false, iff_true] at *) <;> first | omega | (intro h; omega) | (constructor <;> intro h <;> omega) | trivial)
  by_cases b3 : a0 = 3
  · subst b3; simp only [Int.reduceEq, iLt_eq, iLe_eq, iEq_eq, iNe_eq, bNot_eq, bEq_eq, bNe_eq, brB_nb, brB_dec, brB_true, brB_false, chk_idx, chk_len, chk_make, chk_sub, bnd_one, rLen_eq, rGet_nat, rSet_nat, rApp_eq, ↓reduceIte]; (repeat' split) <;> (refine some_iff ?_ <;> (try simp only [decide_eq_true_eq, Bool.false_eq_true, false_iff, true_iff, Int.reduceEq, false_or, or_false, false_and, true_and, and_true, and_false, true_or, or_true, iff_self, iff_false, iff_true] at *) <;> first | omega | (intro h; omega) | (constructor <;> intro h <;> omega) | trivial)
  by_cases b4 : a0 = 4
  · subst b4; simp only [Int.reduceEq, or_false, false_or, or_true, true_or, iLt_eq, iLe_eq, iEq_eq, iNe_eq, bNot_eq, bEq_eq, bNe_eq, brB_nb, brB_dec, brB_true, brB_false, chk_idx, chk_len, chk_make, chk_sub, bnd_one, rLen_eq, rGet_nat, rSet_nat, rApp_eq, ↓reduceIte]
  by_cases b5 : a0 = 5
  · subst b5; simp only [Int.reduceEq, or_false, false_or, or_true, true_or, iLt_eq, iLe_eq, iEq_eq, iNe_eq, bNot_eq, bEq_eq, bNe_eq, brB_nb, brB_dec, brB_true, brB_false, chk_idx, chk_len, chk_make, chk_sub, bnd_one, rLen_eq, rGet_nat, rSet_nat, rApp_eq, ↓reduceIte]
  simp only [b1, b3, b4, b5, or_self, iLt_eq, iLe_eq, iEq_eq, iNe_eq, bNot_eq, bEq_eq, bNe_eq, brB_nb, brB_dec, brB_true, brB_false, chk_idx, chk_len, chk_make, chk_sub, bnd_one, rLen_eq, rGet_nat, rSet_nat, rApp_eq, ↓reduceIte]
def lenP (a0 a4 : Int) : Prop := if a0 = 3 then 1 ≤ a4 ∧ a4 ≤ 64 else if a0 = 6 then 0 ≤ a4 ∧ a4 ≤ 64 else a4 = 0
instance (a0 a4 : Int) : Decidable (lenP a0 a4) := by unfold lenP; infer_instance
theorem lengthOk_eq (k : Nat) (a0 a1 a2 a3 a4 a5 a6 : Int) (l : List Int) : impl_Packet__lengthOk.f k a0 a1 a2 a3 a4 a5 a6 l = some (decide (lenP a0 a4)) := by
  simp only [impl_Packet__lengthOk.f, within_eq, iLt_eq, iLe_eq, iEq_eq, iNe_eq, bNot_eq, bEq_eq, bNe_eq, brB_nb, brB_dec, brB_true, brB_false, chk_idx, chk_len, chk_make, chk_sub, bnd_one, rLen_eq, rGet_nat, rSet_nat, rApp_eq, ↓reduceIte]
  unfold lenP
  (repeat' split) <;> rfl
theorem implIsPacket_ev (a0 a1 a2 a3 a4 a5 a6 : Int) (l : List Int) (hl : l.length ≤ 1048576) (h3 : (Lit.int .i64 a3).wf = true) (h4 : (Lit.int .i64 a4).wf = true) (k : Nat) (hk : l.length < k) : impl_IsPacket.f k a0 a1 a2 a3 a4 a5 a6 l = some (packB a0 a1 a2 a3 a4 a5 a6 l) := by
  by_cases b0 : 1 ≤ a0 ∧ a0 ≤ 6
  · simp only [impl_IsPacket.f, implIsId_eq, within_eq, dataOk_ev a0 a1 a2 a3 a4 a5 a6 l (by omega) k hk, addressOk_eq k a0 a1 a2 a3 a4 a5 a6 l h3, lengthOk_eq, bnd_one, iEq_eq, iNe_eq, brB_nb, bNot_eq, packB]
    rw [decide_eq_true b0]
    generalize wordsOk l = w
    generalize (l.length : Int) = n at *
    have : a0 = 1 ∨ a0 = 2 ∨ a0 = 3 ∨ a0 = 4 ∨ a0 = 5 ∨ a0 = 6 := by omega
    cases w with
    | false =>
      rcases this with rfl | rfl | rfl | rfl | rfl | rfl <;> simp only [Int.reduceEq, Int.reduceLE, decide_true, decide_false, bnd_one, brB_true, brB_false, brB_dec, and_self, and_true, and_false, true_and, false_and, Bool.false_and, ↓reduceIte] <;> (repeat' split) <;> rfl
    | true =>
      rcases this with rfl | rfl | rfl | rfl | rfl | rfl <;> simp only [Int.reduceEq, Int.reduceLE, decide_true, decide_false, bnd_one, brB_true, brB_false, brB_dec, and_self, and_true, and_false, true_and, false_and, Bool.true_and, dataP, packP, addrP, lenP, or_true, true_or, or_false, false_or, ↓reduceIte] <;> (repeat' split) <;> (refine some_iff ?_ <;> (try simp only [decide_eq_true_eq, Bool.false_eq_true, false_iff, true_iff, Int.reduceEq, false_or, or_false, false_and, true_and, and_true, and_false, true_or, or_true, iff_self, iff_false, iff_true] at *) <;> first | omega | (intro h; omega) | (constructor <;> intro h <;> omega) | trivial)
  · simp only [impl_IsPacket.f, within_eq, packB, bnd_one, decide_eq_false b0, bNot_eq, Bool.not_false, brB_true]
    rw [show decide (packP a0 a1 a2 a3 a4 a5 a6 (l.length : Int)) = false from decide_eq_false (by unfold packP; omega), Bool.and_false]
theorem szPacket_eq (k : Nat) (a0 a1 a2 a3 a4 a5 a6 : Int) (l : List Int) (n : Int) (hl : l.length ≤ 9223372036854775807) (h0 : 0 ≤ n) (h1 : n ≤ 1048576) : laws_szPacket.f k a0 a1 a2 a3 a4 a5 a6 l n = some (if (l.length : Int) ≤ n then n - l.length else -1) := by
  simp only [laws_szPacket.f, szIntS_eq k l n hl h0 h1, iLt_eq, iLe_eq, iEq_eq, iNe_eq, bNot_eq, bEq_eq, bNe_eq, brB_nb, brB_dec, brB_true, brB_false, chk_idx, chk_len, chk_make, chk_sub, bnd_one, rLen_eq, rGet_nat, rSet_nat, rApp_eq, ↓reduceIte]
  (repeat' split) <;> first | rfl | omega
theorem toPacket_ev (a0 a1 a2 a3 a4 a5 a6 : Int) (l : List Int) (hl : l.length ≤ 1048576) (k : Nat) (hk : l.length < k) : laws_toPacket.f k a0 a1 a2 a3 a4 a5 a6 l = some (a0, a1, a2, a3, a4, a5, a6, l) := by
  simp only [laws_toPacket.f, toIntS_ev l hl k hk, bnd_one]
theorem eqPacket_refl (a0 a1 a2 a3 a4 a5 a6 : Int) (l : List Int) (hl : l.length ≤ 4611686018427387904) (k : Nat) (hk : l.length < k) : laws_eqPacket.f k a0 a1 a2 a3 a4 a5 a6 l a0 a1 a2 a3 a4 a5 a6 l = some true := by
  simp only [laws_eqPacket.f, eqIntS_refl l hl k hk, iLt_eq, iLe_eq, iEq_eq, iNe_eq, bNot_eq, bEq_eq, bNe_eq, brB_nb, brB_dec, brB_true, brB_false, chk_idx, chk_len, chk_make, chk_sub, bnd_one, rLen_eq, rGet_nat, rSet_nat, rApp_eq, ↓reduceIte, decide_true]
theorem markPacket_ev (a0 a1 a2 a3 a4 a5 a6 : Int) (l : List Int) (m : Int) (hn : l.length ≤ 1000000000000) (h0 : 0 ≤ m) (h1 : m ≤ 1000000000000) (k : Nat) (hk : l.length < k) : laws_markPacket.f k a0 a1 a2 a3 a4 a5 a6 l m = some (m + l.length, marks m l.length) := by
  simp only [laws_markPacket.f, markIntS_ev l m hn h0 h1 k hk, bnd_one]
theorem heldPacket_ev (a0 a1 a2 a3 a4 a5 a6 : Int) (n : Nat) (m : Int) (hn : n ≤ 1000000000000) (h0 : 0 ≤ m) (h1 : m ≤ 1000000000000) (k : Nat) (hk : n < k) : laws_heldPacket.f k a0 a1 a2 a3 a4 a5 a6 (marks m n) m = some (m + n) := by
  simp only [laws_heldPacket.f, heldIntS_ev n m hn h0 h1 k hk, iLt_eq, iLe_eq, iEq_eq, iNe_eq, bNot_eq, bEq_eq, bNe_eq, brB_nb, brB_dec, brB_true, brB_false, chk_idx, chk_len, chk_make, chk_sub, bnd_one, rLen_eq, rGet_nat, rSet_nat, rApp_eq, ↓reduceIte]
  rw [if_neg (by omega)]
/-- The class of a packet. -/
def classB (p : Bool) (a0 : Int) : Int := if p = true then (if a0 = 1 ∨ a0 = 2 then 0 else if a0 = 6 then 2 else 1) else -1
theorem specClassOf_ev (a0 a1 a2 a3 a4 a5 a6 : Int) (l : List Int) (hl : l.length ≤ 1048576) (h3 : (Lit.int .i64 a3).wf = true) (h4 : (Lit.int .i64 a4).wf = true) (k : Nat) (hk : l.length < k) : spec_ClassOf.f k a0 a1 a2 a3 a4 a5 a6 l = some (classB (packB a0 a1 a2 a3 a4 a5 a6 l) a0) := by
  simp only [spec_ClassOf.f, specIsPacket_ev a0 a1 a2 a3 a4 a5 a6 l hl h3 h4 k hk, classB, iLt_eq, iLe_eq, iEq_eq, iNe_eq, bNot_eq, bEq_eq, bNe_eq, brB_nb, brB_dec, brB_true, brB_false, chk_idx, chk_len, chk_make, chk_sub, bnd_one, rLen_eq, rGet_nat, rSet_nat, rApp_eq, ↓reduceIte]
  cases packB a0 a1 a2 a3 a4 a5 a6 l with
  | false => rfl
  | true =>
    simp only [iLt_eq, iLe_eq, iEq_eq, iNe_eq, bNot_eq, bEq_eq, bNe_eq, brB_nb, brB_dec, brB_true, brB_false, chk_idx, chk_len, chk_make, chk_sub, bnd_one, rLen_eq, rGet_nat, rSet_nat, rApp_eq, ↓reduceIte]
    by_cases b1 : a0 = 1
    · subst b1; rfl
    by_cases b2 : a0 = 2
    · subst b2; rfl
    by_cases b6 : a0 = 6
    · subst b6; rfl
    simp only [b1, b2, b6, or_self, iLt_eq, iLe_eq, iEq_eq, iNe_eq, bNot_eq, bEq_eq, bNe_eq, brB_nb, brB_dec, brB_true, brB_false, chk_idx, chk_len, chk_make, chk_sub, bnd_one, rLen_eq, rGet_nat, rSet_nat, rApp_eq, ↓reduceIte]
theorem implClassOf_ev (a0 a1 a2 a3 a4 a5 a6 : Int) (l : List Int) (hl : l.length ≤ 1048576) (h3 : (Lit.int .i64 a3).wf = true) (h4 : (Lit.int .i64 a4).wf = true) (k : Nat) (hk : l.length < k) : impl_ClassOf.f k a0 a1 a2 a3 a4 a5 a6 l = some (classB (packB a0 a1 a2 a3 a4 a5 a6 l) a0) := by
  simp only [impl_ClassOf.f, impl_classOf.f, implIsPacket_ev a0 a1 a2 a3 a4 a5 a6 l hl h3 h4 k hk, classB, iLt_eq, iLe_eq, iEq_eq, iNe_eq, bNot_eq, bEq_eq, bNe_eq, brB_nb, brB_dec, brB_true, brB_false, chk_idx, chk_len, chk_make, chk_sub, bnd_one, rLen_eq, rGet_nat, rSet_nat, rApp_eq, ↓reduceIte]
  cases packB a0 a1 a2 a3 a4 a5 a6 l with
  | false => rfl
  | true =>
    simp only [iLt_eq, iLe_eq, iEq_eq, iNe_eq, bNot_eq, bEq_eq, bNe_eq, brB_nb, brB_dec, brB_true, brB_false, chk_idx, chk_len, chk_make, chk_sub, bnd_one, rLen_eq, rGet_nat, rSet_nat, rApp_eq, ↓reduceIte]
    by_cases b1 : a0 = 1
    · subst b1; rfl
    by_cases b2 : a0 = 2
    · subst b2; rfl
    by_cases b6 : a0 = 6
    · subst b6; rfl
    simp only [b1, b2, b6, or_self, iLt_eq, iLe_eq, iEq_eq, iNe_eq, bNot_eq, bEq_eq, bNe_eq, brB_nb, brB_dec, brB_true, brB_false, chk_idx, chk_len, chk_make, chk_sub, bnd_one, rLen_eq, rGet_nat, rSet_nat, rApp_eq, ↓reduceIte]
theorem szBoolS_eq (k : Nat) (l : List Bool) (n : Int) (hl : l.length ≤ 9223372036854775807) (h0 : 0 ≤ n) (h1 : n ≤ 1048576) : laws_szBoolS.f k l n = some (if (l.length : Int) ≤ n then n - l.length else -1) := by
  simp only [laws_szBoolS.f, brB_lt, rLen_eq]
  rw [iSub_id (by omega) (by omega)]
  by_cases h : (l.length : Int) ≤ n
  · rw [if_neg (by omega), if_pos h]
  · rw [if_pos (by omega), if_neg h]
theorem toBoolS_ev (xs : List Bool) (hn : xs.length ≤ 1048576) (k : Nat) (hk : xs.length < k) : laws_toBoolS.f k xs = some xs := by
  simp only [laws_toBoolS.f, laws_toBoolS.l0, iLt_eq, iLe_eq, iEq_eq, iNe_eq, bNot_eq, bEq_eq, bNe_eq, brB_nb, brB_dec, brB_true, brB_false, chk_idx, chk_len, chk_make, chk_sub, bnd_one, rLen_eq, rGet_nat, rSet_nat, rApp_eq, ↓reduceIte]
  rw [if_pos (by omega), rRep_nat]
  have h := iter_upto (f := fun (rec : (List Bool × List Bool × Int) → Option (List Bool)) (x : List Bool × List Bool × Int) => laws_toBoolS.s0 k rec x.1 x.2.1 x.2.2)
    (fun i => (xs, fill (fun j => xs.getD j false) (List.replicate xs.length false) i, (i : Int))) xs.length (r := xs) (fun rec i hi => ?_) (fun rec => ?_) hk
  · rw [fill_zero] at h; exact h
  · simp only [laws_toBoolS.s0, fill_len (show i ≤ (List.replicate xs.length false).length by simp; omega), List.length_replicate, iLt_eq, iLe_eq, iEq_eq, iNe_eq, bNot_eq, bEq_eq, bNe_eq, brB_nb, brB_dec, brB_true, brB_false, chk_idx, chk_len, chk_make, chk_sub, bnd_one, rLen_eq, rGet_nat, rSet_nat, rApp_eq, ↓reduceIte]
    rw [if_pos (by omega), if_idx hi, if_idx hi, fill_set (by simpa using hi), next_id hi (by omega)]
  · have h2 := fill_end (g := fun j => xs.getD j false) (xs := List.replicate xs.length false)
    rw [List.length_replicate] at h2
    simp only [laws_toBoolS.s0, h2, range_getD, iLt_eq, iLe_eq, iEq_eq, iNe_eq, bNot_eq, bEq_eq, bNe_eq, brB_nb, brB_dec, brB_true, brB_false, chk_idx, chk_len, chk_make, chk_sub, bnd_one, rLen_eq, rGet_nat, rSet_nat, rApp_eq, ↓reduceIte]
    rw [if_neg (by omega)]
theorem eqBoolS_refl (xs : List Bool) (hn : xs.length ≤ 4611686018427387904) (k : Nat) (hk : xs.length < k) : laws_eqBoolS.f k xs xs = some true := by
  simp only [laws_eqBoolS.f, laws_eqBoolS.l0, iLt_eq, iLe_eq, iEq_eq, iNe_eq, bNot_eq, bEq_eq, bNe_eq, brB_nb, brB_dec, brB_true, brB_false, chk_idx, chk_len, chk_make, chk_sub, bnd_one, rLen_eq, rGet_nat, rSet_nat, rApp_eq, ↓reduceIte]
  refine iter_upto (f := fun (rec : (List Bool × List Bool × Int) → Option Bool) (x : List Bool × List Bool × Int) => laws_eqBoolS.s0 k rec x.1 x.2.1 x.2.2) (fun i => (xs, xs, (i : Int))) xs.length (fun rec i hi => ?_) (fun rec => ?_) hk
  · simp only [laws_eqBoolS.s0, iLt_eq, iLe_eq, iEq_eq, iNe_eq, bNot_eq, bEq_eq, bNe_eq, brB_nb, brB_dec, brB_true, brB_false, chk_idx, chk_len, chk_make, chk_sub, bnd_one, rLen_eq, rGet_nat, rSet_nat, rApp_eq, ↓reduceIte]
    rw [if_pos (by omega), if_idx hi, if_idx hi, next_id hi hn]
  · simp only [laws_eqBoolS.s0, iLt_eq, iLe_eq, iEq_eq, iNe_eq, bNot_eq, bEq_eq, bNe_eq, brB_nb, brB_dec, brB_true, brB_false, chk_idx, chk_len, chk_make, chk_sub, bnd_one, rLen_eq, rGet_nat, rSet_nat, rApp_eq, ↓reduceIte]
    rw [if_neg (by omega)]
/-- The marks of a row of answers. -/
def bmarks (m : Int) (n : Nat) : List Bool := (List.range n).map fun (j : Nat) => decide (iRem (m + (j : Int)) 3 = 0)
theorem bmarks_len (m : Int) (n : Nat) : (bmarks m n).length = n := by simp [bmarks]
theorem markBoolS_ev (xs : List Bool) (m : Int) (hn : xs.length ≤ 1000000000000) (h0 : 0 ≤ m) (h1 : m ≤ 1000000000000) (k : Nat) (hk : xs.length < k) : laws_markBoolS.f k xs m = some (m + xs.length, bmarks m xs.length) := by
  simp only [laws_markBoolS.f, laws_markBoolS.l0]
  have h := iter_upto (f := fun (rec : (List Bool × Int × Int) → Option (Int × List Bool)) (x : List Bool × Int × Int) => laws_markBoolS.s0 k rec x.1 x.2.1 x.2.2)
    (fun i => (fill (fun (j : Nat) => decide (iRem (m + (j : Int)) 3 = 0)) xs i, m + (i : Int), (i : Int))) xs.length (r := (m + xs.length, bmarks m xs.length)) (fun rec i hi => ?_) (fun rec => ?_) hk
  · rw [fill_zero] at h; simpa using h
  · simp only [laws_markBoolS.s0, fill_len (Nat.le_of_lt hi), chk_nz, Int.reduceEq, iLt_eq, iLe_eq, iEq_eq, iNe_eq, bNot_eq, bEq_eq, bNe_eq, brB_nb, brB_dec, brB_true, brB_false, chk_idx, chk_len, chk_make, chk_sub, bnd_one, rLen_eq, rGet_nat, rSet_nat, rApp_eq, ↓reduceIte]
    rw [if_pos (by omega), if_idx hi, fill_set hi, next_id hi (by omega), iAdd_id (by omega) (by omega)]
    congr 3
    omega
  · simp only [laws_markBoolS.s0, fill_end, List.length_map, List.length_range, iLt_eq, iLe_eq, iEq_eq, iNe_eq, bNot_eq, bEq_eq, bNe_eq, brB_nb, brB_dec, brB_true, brB_false, chk_idx, chk_len, chk_make, chk_sub, bnd_one, rLen_eq, rGet_nat, rSet_nat, rApp_eq, ↓reduceIte]
    rw [if_neg (by omega)]
    rfl
/-- A loop that looks for an element without a quality. -/
theorem iter_all {R : Type} {α : Type} {X : Type} {f : (X → Option R) → X → Option R} (s : Nat → X) (xs : List α) (p : α → Bool) (r e : Option R)
    (go : ∀ rec (i : Nat) (h : i < xs.length), p xs[i] = true → f rec (s i) = rec (s (i + 1))) (stop : ∀ rec (i : Nat) (h : i < xs.length), p xs[i] = false → f rec (s i) = e) (done : ∀ rec, f rec (s xs.length) = r) {n : Nat} (hn : xs.length < n) :
    iter f n (s 0) = brB (xs.all p) r e := by
  suffices H : ∀ d i n, i + d = xs.length → d < n → iter f n (s i) = brB ((xs.drop i).all p) r e from by
    have := H xs.length 0 n (by omega) hn
    simpa using this
  intro d
  induction d with
  | zero =>
    intro i n hi hn
    obtain ⟨m, rfl⟩ : ∃ m, n = m + 1 := ⟨n - 1, by omega⟩
    obtain rfl : i = xs.length := by omega
    rw [List.drop_length]
    exact done _
  | succ d ih =>
    intro i n hi hn
    obtain ⟨m, rfl⟩ : ∃ m, n = m + 1 := ⟨n - 1, by omega⟩
    show f (iter f m) (s i) = _
    have hlt : i < xs.length := by omega
    rw [List.drop_eq_getElem_cons hlt, List.all_cons]
    cases hq : p xs[i] with
    | false => rw [stop _ i hlt hq]; rfl
    | true => rw [go _ i hlt hq, ih (i + 1) m (by omega) (by omega), Bool.true_and]
theorem brB_chain {R : Type} {b c : Bool} {X r e : Option R} (h : b = true → X = brB c r e) : brB b X e = brB (b && c) r e := by
  cases b with
  | false => rfl
  | true => rw [brB_true, h rfl, Bool.true_and]
theorem if_chain {R : Type} {p : Prop} [Decidable p] {c : Bool} {X r e : Option R} (h : p → X = brB c r e) : (if p then X else e) = brB (decide p && c) r e := by
  by_cases hp : p
  · rw [if_pos hp, h hp, decide_eq_true hp, Bool.true_and]
  · rw [if_neg hp, decide_eq_false hp]; rfl
theorem if_chain_iff {R : Type} {p q : Prop} [Decidable p] [Decidable q] {c : Bool} {X r e : Option R} (hpq : p ↔ q) (h : q → X = brB c r e) : (if p then X else e) = brB (decide q && c) r e := by
  by_cases hp : p
  · rw [if_pos hp, h (hpq.1 hp), decide_eq_true (hpq.1 hp), Bool.true_and]
  · rw [if_neg hp, decide_eq_false (fun hq => hp (hpq.2 hq))]; rfl
theorem take_getD {α : Type} (d : α) (xs : List α) {i : Nat} (h : i ≤ xs.length) : xs.take i = (List.range i).map fun j => xs.getD j d := by
  apply List.ext_getElem?
  intro j
  rw [List.getElem?_take]
  by_cases hj : j < i
  · rw [if_pos hj]; simp [hj, List.getElem?_eq_getElem (show j < xs.length by omega)]
  · rw [if_neg hj, List.getElem?_eq_none (by simpa using Nat.le_of_not_lt hj)]
theorem take_all {α : Type} (d : α) (xs : List α) {i : Nat} (h : i ≤ xs.length) (q : α → Bool) : (xs.take i).all q = (List.range i).all fun j => q (xs.getD j d) := by
  rw [take_getD d xs h, List.all_map]; rfl
/-- A node: its parent, its place, its functions. -/
def nd (xs : List (Int × Int × Int)) (i : Nat) : Int × Int × Int := xs.getD i (0, 0, 0)
theorem rGet_nd (xs : List (Int × Int × Int)) (i : Nat) : rGet (0, 0, 0) xs (i : Int) = nd xs i := rfl
def sameB (p d : Int) (x : Int × Int × Int) : Bool := decide (x.1 = p) && decide (x.2.1 = d)
def nodeB (xs : List (Int × Int × Int)) (i : Nat) : Bool :=
  decide (0 ≤ (nd xs i).1 ∧ (nd xs i).1 ≤ (i : Int) - 1) && (decide ((nd xs (nd xs i).1.toNat).2.2 = 0) && (decide (0 ≤ (nd xs i).2.1 ∧ (nd xs i).2.1 ≤ 3) && (decide (0 ≤ (nd xs i).2.2 ∧ (nd xs i).2.2 ≤ 4) &&
    (List.range i).all fun j => !sameB (nd xs i).1 (nd xs i).2.1 (nd xs j))))
def rootB (xs : List (Int × Int × Int)) : Bool := decide ((nd xs 0).1 = -1) && (decide ((nd xs 0).2.1 = 0) && (decide ((nd xs 0).2.2 = 0) && true))
/-- A tree is valid. -/
def treeB (xs : List (Int × Int × Int)) : Bool := decide (1 ≤ (xs.length : Int) ∧ (xs.length : Int) ≤ 12) && (rootB xs && (List.range (xs.length - 1)).all fun i => nodeB xs (i + 1))
theorem specDup (xs : List (Int × Int × Int)) (p d f : Int) (i : Nat) (hi : i < xs.length) (hx : xs.length ≤ 1048576) (hr : (nd xs 0).1 ≠ p) (rec : List (Int × Int × Int) × Int → Option Bool) (k : Nat) (hk : xs.length < k) :
    spec_TreeOk.l1 k k rec xs (i : Int) 1 p d f = brB ((List.range i).all fun j => !sameB p d (nd xs j)) (rec (xs, ((i + 1 : Nat) : Int))) (some false) := by
  simp only [spec_TreeOk.l1]
  have h := iter_all (f := fun (rec' : (List (Int × Int × Int) × Int × Int × Int × Int × Int) → Option Bool) (x : List (Int × Int × Int) × Int × Int × Int × Int × Int) => spec_TreeOk.s1 k rec rec' x.1 x.2.1 x.2.2.1 x.2.2.2.1 x.2.2.2.2.1 x.2.2.2.2.2)
    (fun j => (xs, (i : Int), ((j + 1 : Nat) : Int), p, d, f)) (List.range (i - 1)) (fun j => !sameB p d (nd xs (j + 1))) (rec (xs, ((i + 1 : Nat) : Int))) (some false) (fun rec' j hj hp => ?_) (fun rec' j hj hp => ?_) (fun rec' => ?_) (n := k) (by simp; omega)
  · refine h.trans ?_
    congr 1
    cases i with
    | zero => rfl
    | succ i =>
      rw [List.range_succ_eq_map, List.all_cons, List.all_map]
      rw [show sameB p d (nd xs 0) = false by simp [sameB, hr]]
      rfl
  · simp only [List.length_range] at hj
    simp only [List.getElem_range, sameB] at hp
    simp only [spec_TreeOk.s1, iLt_eq, iEq_eq, brB_dec, chk_idx, rLen_eq, rGet_nd]
    rw [if_pos (by omega), if_idx (by omega), if_idx (by omega), next_id (i := j + 1) (n := xs.length) (by omega) (by omega)]
    by_cases h1 : (nd xs (j + 1)).1 = p <;> by_cases h2 : (nd xs (j + 1)).2.1 = d <;> simp [h1, h2] at hp ⊢
  · simp only [List.length_range] at hj
    simp only [List.getElem_range, sameB] at hp
    simp only [spec_TreeOk.s1, iLt_eq, iEq_eq, brB_dec, chk_idx, rLen_eq, rGet_nd]
    rw [if_pos (by omega), if_idx (by omega), if_idx (by omega)]
    by_cases h1 : (nd xs (j + 1)).1 = p <;> by_cases h2 : (nd xs (j + 1)).2.1 = d <;> simp [h1, h2] at hp ⊢
  · simp only [List.length_range, spec_TreeOk.s1, iLt_eq, brB_dec]
    rw [if_neg (by omega), next_id (n := xs.length) hi (by omega)]
theorem specNode (xs : List (Int × Int × Int)) (i : Nat) (h0 : 0 < i) (hi : i < xs.length) (hx : xs.length ≤ 1048576) (hr : (nd xs 0).1 = -1) (rec : List (Int × Int × Int) × Int → Option Bool) (k : Nat) (hk : xs.length < k) :
    spec_TreeOk.s0 k rec xs (i : Int) = brB (nodeB xs i) (rec (xs, ((i + 1 : Nat) : Int))) (some false) := by
  simp only [spec_TreeOk.s0, l01In_eq, iLt_eq, iNe_eq, brB_nb, brB_dec, chk_idx, bnd_one, bNot_eq, rLen_eq, rGet_nd]
  rw [if_pos (by omega), if_idx hi, iSub_id (by omega) (by omega)]
  refine if_chain fun c1 => ?_
  rw [if_pos (by omega)]
  have e : rGet (0, 0, 0) xs (nd xs i).1 = nd xs (nd xs i).1.toNat := rfl
  rw [e]
  refine if_chain fun c2 => ?_
  refine if_chain fun c3 => ?_
  refine if_chain fun c4 => ?_
  exact specDup xs _ _ _ i hi hx (by rw [hr]; omega) rec k hk
theorem specTreeOk_ev (xs : List (Int × Int × Int)) (hx : xs.length ≤ 1048576) (k : Nat) (hk : xs.length < k) : spec_TreeOk.f k xs = some (treeB xs) := by
  simp only [spec_TreeOk.f, l01In_eq, bnd_one, rLen_eq, bNot_eq, brB_nb, brB_dec, chk_idx]
  refine if_and' fun c1 => ?_
  rw [if_pos (by omega)]
  rw [show rGet (0, 0, 0) xs 0 = nd xs 0 from rfl]
  simp only [iEq_eq, bAnd]
  refine brB_and' fun c2 => ?_
  have hr : (nd xs 0).1 = -1 := by
    simp only [Bool.and_eq_true, decide_eq_true_eq] at c2
    exact c2.1
  simp only [spec_TreeOk.l0]
  have h := iter_all (f := fun (rec : (List (Int × Int × Int) × Int) → Option Bool) (x : List (Int × Int × Int) × Int) => spec_TreeOk.s0 k rec x.1 x.2) (fun i => (xs, ((i + 1 : Nat) : Int))) (List.range (xs.length - 1)) (fun i => nodeB xs (i + 1)) (some true) (some false)
    (fun rec i hi hp => ?_) (fun rec i hi hp => ?_) (fun rec => ?_) (n := k) (by simp; omega)
  · refine h.trans ?_
    cases (List.range (xs.length - 1)).all fun i => nodeB xs (i + 1) <;> rfl
  · simp only [List.length_range] at hi
    simp only [List.getElem_range] at hp
    simp only
    rw [specNode xs (i + 1) (by omega) (by omega) hx hr rec k hk, hp]; rfl
  · simp only [List.length_range] at hi
    simp only [List.getElem_range] at hp
    simp only
    rw [specNode xs (i + 1) (by omega) (by omega) hx hr rec k hk, hp]; rfl
  · simp only [List.length_range, spec_TreeOk.s0, iLt_eq, brB_dec, rLen_eq]
    rw [if_neg (by omega)]
theorem indexSame (l : List (Int × Int × Int)) (p d f : Int) (hl : l.length ≤ 4611686018427387904) (k : Nat) (hk : l.length < k) : slices_IndexFunc_Node_impl_TreeOk_1.f k l p d f = some (match l.findIdx? (fun x => !!sameB p d x) with | some i => (i : Int) | none => -1, p, d, f) := by
  simp only [slices_IndexFunc_Node_impl_TreeOk_1.f, slices_IndexFunc_Node_impl_TreeOk_1.l0]
  have one : ∀ x : Int × Int × Int, impl_TreeOk_1.f k x.1 x.2.1 x.2.2 p d f = some (sameB p d x, p, d, f) := fun x => by
    simp only [impl_TreeOk_1.f, iEq_eq, brB_dec, sameB]
    split <;> rename_i h <;> simp [h]
  have h := iter_find (f := fun (rec : (List (Int × Int × Int) × Int × Int × Int × Int × Int) → Option (Int × Int × Int × Int)) (x : List (Int × Int × Int) × Int × Int × Int × Int × Int) => slices_IndexFunc_Node_impl_TreeOk_1.s0 k rec x.1 x.2.1 x.2.2.1 x.2.2.2.1 x.2.2.2.2.1 x.2.2.2.2.2) (fun i => (l, rLen l, (i : Int), p, d, f)) l (fun x => !sameB p d x) (-1, p, d, f) (fun i => ((i : Int), p, d, f)) (fun rec i hi hp => ?_) (fun rec i hi hp => ?_) (fun rec => ?_) hk
  · refine h.trans ?_
    cases l.findIdx? (fun x => !!sameB p d x) <;> rfl
  · simp only [slices_IndexFunc_Node_impl_TreeOk_1.s0, iLt_eq, brB_dec, chk_idx, rLen_eq, rGet_nat, one, bnd_one, getD_lt _ _ hi]
    rw [if_pos (by omega), if_idx hi, next_id hi hl]
    rw [show sameB p d l[i] = false by simpa using hp]; rfl
  · simp only [slices_IndexFunc_Node_impl_TreeOk_1.s0, iLt_eq, brB_dec, chk_idx, rLen_eq, rGet_nat, one, bnd_one, getD_lt _ _ hi]
    rw [if_pos (by omega), if_idx hi]
    rw [show sameB p d l[i] = true by simpa using hp]; rfl
  · simp only [slices_IndexFunc_Node_impl_TreeOk_1.s0, iLt_eq, brB_dec, rLen_eq]
    rw [if_neg (by omega)]
theorem containsSame (l : List (Int × Int × Int)) (p d f : Int) (hl : l.length ≤ 4611686018427387904) (k : Nat) (hk : l.length < k) : slices_ContainsFunc_Node_impl_TreeOk_1.f k l p d f = some (!l.all (fun x => !sameB p d x), p, d, f) := by
  simp only [slices_ContainsFunc_Node_impl_TreeOk_1.f, indexSame l p d f hl k hk, bnd_one, found_iff l (fun x => !sameB p d x)]
theorem implNode (xs : List (Int × Int × Int)) (i : Nat) (hi : i + 1 < xs.length) (hx : xs.length ≤ 1048576) (rec : List (Int × Int × Int) × List (Int × Int × Int) × Int × Int → Option Bool) (k : Nat) (hk : xs.length < k) :
    impl_TreeOk.s0 k rec xs (rSub xs 1 (xs.length : Int)) ((xs.length - 1 : Nat) : Int) (i : Int) = brB (nodeB xs (i + 1)) (rec (xs, rSub xs 1 (xs.length : Int), ((xs.length - 1 : Nat) : Int), ((i + 1 : Nat) : Int))) (some false) := by
  have e1 : rSub xs 1 (xs.length : Int) = xs.drop 1 := by simp [rSub]
  have e2 : rSub xs 0 ((i + 1 : Nat) : Int) = xs.take (i + 1) := by simp [rSub]
  have e3 : rGet (0, 0, 0) (xs.drop 1) (i : Int) = nd xs (i + 1) := by
    rw [rGet_nat, nd, List.getD_eq_getElem?_getD, List.getElem?_drop, Nat.add_comm, ← List.getD_eq_getElem?_getD]
  have e4 : (xs.take (i + 1)).length = i + 1 := by simp; omega
  simp only [impl_TreeOk.s0, within_eq, iLt_eq, iNe_eq, brB_nb, brB_dec, chk_idx, chk_sub, bnd_one, bNot_eq, rLen_eq, e1, e3, next_id (i := i) (n := xs.length) (by omega) (by omega), e2, e4, List.length_drop]
  rw [if_pos (by omega), if_idx (by omega), if_pos (by omega)]
  refine if_chain_iff (q := 0 ≤ (nd xs (i + 1)).1 ∧ (nd xs (i + 1)).1 ≤ ((i + 1 : Nat) : Int) - 1) (by omega) fun c1 => ?_
  rw [if_pos (by omega)]
  have e5 : rGet (0, 0, 0) (xs.take (i + 1)) (nd xs (i + 1)).1 = nd xs (nd xs (i + 1)).1.toNat := by
    simp only [rGet, nd, List.getD_eq_getElem?_getD, List.getElem?_take] at c1 ⊢
    rw [if_pos (by omega)]
  rw [e5]
  refine if_chain fun c2 => ?_
  refine if_chain fun c3 => ?_
  refine if_chain fun c4 => ?_
  rw [containsSame (xs.take (i + 1)) _ _ _ (by omega) k (by omega)]
  simp only [bnd_one, brB_nb]
  rw [take_all (0, 0, 0) xs (by omega)]
  rfl
theorem implTreeOk_ev (xs : List (Int × Int × Int)) (hx : xs.length ≤ 1048576) (k : Nat) (hk : xs.length < k) : impl_TreeOk.f k xs = some (treeB xs) := by
  simp only [impl_TreeOk.f, within_eq, bnd_one, rLen_eq, bNot_eq, brB_nb, brB_dec, chk_idx, chk_sub]
  refine if_and' fun c1 => ?_
  rw [if_pos (by omega)]
  rw [show rGet (0, 0, 0) xs 0 = nd xs 0 from rfl]
  simp only [iEq_eq, bAnd]
  refine brB_and' fun c2 => ?_
  rw [if_pos (by omega)]
  have e1 : (rSub xs 1 (xs.length : Int)).length = xs.length - 1 := by simp [rSub]
  simp only [impl_TreeOk.l0, e1]
  have h := iter_all (f := fun (rec : (List (Int × Int × Int) × List (Int × Int × Int) × Int × Int) → Option Bool) (x : List (Int × Int × Int) × List (Int × Int × Int) × Int × Int) => impl_TreeOk.s0 k rec x.1 x.2.1 x.2.2.1 x.2.2.2) (fun i => (xs, rSub xs 1 (xs.length : Int), ((xs.length - 1 : Nat) : Int), (i : Int))) (List.range (xs.length - 1)) (fun i => nodeB xs (i + 1)) (some true) (some false)
    (fun rec i hi hp => ?_) (fun rec i hi hp => ?_) (fun rec => ?_) (n := k) (by simp; omega)
  · refine h.trans ?_
    cases (List.range (xs.length - 1)).all fun i => nodeB xs (i + 1) <;> rfl
  · simp only [List.length_range] at hi
    simp only [List.getElem_range] at hp
    simp only
    rw [implNode xs i (by omega) hx rec k hk, hp]; rfl
  · simp only [List.length_range] at hi
    simp only [List.getElem_range] at hp
    simp only
    rw [implNode xs i (by omega) hx rec k hk, hp]; rfl
  · simp only [List.length_range, impl_TreeOk.s0, iLt_eq, brB_dec, rLen_eq]
    rw [if_neg (by omega)]
/-- A guard is valid. -/
def guardB (xs : List (Int × Int × Int)) (g : List Bool) : Bool := treeB xs && (decide ((g.length : Int) = (xs.length : Int)) && g.getD 0 false)
theorem tree_len {xs : List (Int × Int × Int)} (h : treeB xs = true) : 1 ≤ xs.length ∧ xs.length ≤ 12 := by
  simp only [treeB, Bool.and_eq_true, decide_eq_true_eq] at h
  omega
theorem specGuardOk_ev (xs : List (Int × Int × Int)) (g : List Bool) (hx : xs.length ≤ 1048576) (k : Nat) (hk : xs.length < k) : spec_GuardOk.f k xs g = some (guardB xs g) := by
  simp only [spec_GuardOk.f, specTreeOk_ev xs hx k hk, bnd_one, iEq_eq, brB_dec, chk_idx, rLen_eq]
  refine brB_and' fun c1 => ?_
  have := tree_len c1
  refine if_and' fun c2 => ?_
  rw [if_pos (by omega)]
  rfl
theorem implGuardOk_ev (xs : List (Int × Int × Int)) (g : List Bool) (hx : xs.length ≤ 1048576) (k : Nat) (hk : xs.length < k) : impl_GuardOk.f k xs g = some (guardB xs g) := by
  simp only [impl_GuardOk.f, implTreeOk_ev xs hx k hk, bnd_one, iEq_eq, brB_dec, chk_idx, rLen_eq]
  refine brB_and' fun c1 => ?_
  have := tree_len c1
  refine if_and' fun c2 => ?_
  rw [if_pos (by omega)]
  rfl
theorem szNodeS_eq (k : Nat) (l : List (Int × Int × Int)) (n : Int) (hl : l.length ≤ 9223372036854775807) (h0 : 0 ≤ n) (h1 : n ≤ 1048576) : laws_szNodeS.f k l n = some (if (l.length : Int) ≤ n then n - l.length else -1) := by
  simp only [laws_szNodeS.f, brB_lt, rLen_eq]
  rw [iSub_id (by omega) (by omega)]
  by_cases h : (l.length : Int) ≤ n
  · rw [if_neg (by omega), if_pos h]
  · rw [if_pos (by omega), if_neg h]
theorem szGuard_eq (k : Nat) (l : List Bool) (n : Int) (hl : l.length ≤ 9223372036854775807) (h0 : 0 ≤ n) (h1 : n ≤ 1048576) : laws_szGuard.f k l n = some (if (l.length : Int) ≤ n then n - l.length else -1) := by
  simp only [laws_szGuard.f, szBoolS_eq k l n hl h0 h1, iLt_eq, iLe_eq, iEq_eq, iNe_eq, bNot_eq, bEq_eq, bNe_eq, brB_nb, brB_dec, brB_true, brB_false, chk_idx, chk_len, chk_make, chk_sub, bnd_one, rLen_eq, rGet_nat, rSet_nat, rApp_eq, ↓reduceIte]
  (repeat' split) <;> first | rfl | omega
theorem toNodeS_ev (xs : List (Int × Int × Int)) (hn : xs.length ≤ 1048576) (k : Nat) (hk : xs.length < k) : laws_toNodeS.f k xs = some xs := by
  simp only [laws_toNodeS.f, laws_toNodeS.l0, iLt_eq, iLe_eq, iEq_eq, iNe_eq, bNot_eq, bEq_eq, bNe_eq, brB_nb, brB_dec, brB_true, brB_false, chk_idx, chk_len, chk_make, chk_sub, bnd_one, rLen_eq, rGet_nat, rSet_nat, rApp_eq, ↓reduceIte]
  rw [if_pos (by omega), rRep_nat]
  have h := iter_upto (f := fun (rec : (List (Int × Int × Int) × List (Int × Int × Int) × Int) → Option (List (Int × Int × Int))) (x : List (Int × Int × Int) × List (Int × Int × Int) × Int) => laws_toNodeS.s0 k rec x.1 x.2.1 x.2.2)
    (fun i => (xs, fill (fun j => xs.getD j (0, 0, 0)) (List.replicate xs.length (0, 0, 0)) i, (i : Int))) xs.length (r := xs) (fun rec i hi => ?_) (fun rec => ?_) hk
  · rw [fill_zero] at h; exact h
  · simp only [laws_toNodeS.s0, laws_toNode.f, fill_len (show i ≤ (List.replicate xs.length ((0, 0, 0) : Int × Int × Int)).length by simp; omega), List.length_replicate, iLt_eq, iLe_eq, iEq_eq, iNe_eq, bNot_eq, bEq_eq, bNe_eq, brB_nb, brB_dec, brB_true, brB_false, chk_idx, chk_len, chk_make, chk_sub, bnd_one, rLen_eq, rGet_nat, rSet_nat, rApp_eq, ↓reduceIte]
    rw [if_pos (by omega), if_idx hi, if_idx hi]
    rw [fill_set (by simpa using hi), next_id hi (by omega)]
  · have h2 := fill_end (g := fun j => xs.getD j (0, 0, 0)) (xs := List.replicate xs.length ((0, 0, 0) : Int × Int × Int))
    rw [List.length_replicate] at h2
    simp only [laws_toNodeS.s0, h2, range_getD, iLt_eq, iLe_eq, iEq_eq, iNe_eq, bNot_eq, bEq_eq, bNe_eq, brB_nb, brB_dec, brB_true, brB_false, chk_idx, chk_len, chk_make, chk_sub, bnd_one, rLen_eq, rGet_nat, rSet_nat, rApp_eq, ↓reduceIte]
    rw [if_neg (by omega)]
theorem toGuard_ev (xs : List Bool) (hn : xs.length ≤ 1048576) (k : Nat) (hk : xs.length < k) : laws_toGuard.f k xs = some xs := by
  simp only [laws_toGuard.f, toBoolS_ev xs hn k hk, bnd_one]
theorem eqNodeS_refl (xs : List (Int × Int × Int)) (hn : xs.length ≤ 4611686018427387904) (k : Nat) (hk : xs.length < k) : laws_eqNodeS.f k xs xs = some true := by
  simp only [laws_eqNodeS.f, laws_eqNodeS.l0, iLt_eq, iLe_eq, iEq_eq, iNe_eq, bNot_eq, bEq_eq, bNe_eq, brB_nb, brB_dec, brB_true, brB_false, chk_idx, chk_len, chk_make, chk_sub, bnd_one, rLen_eq, rGet_nat, rSet_nat, rApp_eq, ↓reduceIte]
  refine iter_upto (f := fun (rec : (List (Int × Int × Int) × List (Int × Int × Int) × Int) → Option Bool) (x : List (Int × Int × Int) × List (Int × Int × Int) × Int) => laws_eqNodeS.s0 k rec x.1 x.2.1 x.2.2) (fun i => (xs, xs, (i : Int))) xs.length (fun rec i hi => ?_) (fun rec => ?_) hk
  · simp only [laws_eqNodeS.s0, laws_eqNode.f, iLt_eq, iLe_eq, iEq_eq, iNe_eq, bNot_eq, bEq_eq, bNe_eq, brB_nb, brB_dec, brB_true, brB_false, chk_idx, chk_len, chk_make, chk_sub, bnd_one, rLen_eq, rGet_nat, rSet_nat, rApp_eq, ↓reduceIte]
    rw [if_pos (by omega), if_idx hi, if_idx hi, next_id hi hn]
  · simp only [laws_eqNodeS.s0, iLt_eq, iLe_eq, iEq_eq, iNe_eq, bNot_eq, bEq_eq, bNe_eq, brB_nb, brB_dec, brB_true, brB_false, chk_idx, chk_len, chk_make, chk_sub, bnd_one, rLen_eq, rGet_nat, rSet_nat, rApp_eq, ↓reduceIte]
    rw [if_neg (by omega)]
theorem eqGuard_refl (xs : List Bool) (hn : xs.length ≤ 4611686018427387904) (k : Nat) (hk : xs.length < k) : laws_eqGuard.f k xs xs = some true := by
  simp only [laws_eqGuard.f, eqBoolS_refl xs hn k hk, iLt_eq, iLe_eq, iEq_eq, iNe_eq, bNot_eq, bEq_eq, bNe_eq, brB_nb, brB_dec, brB_true, brB_false, chk_idx, chk_len, chk_make, chk_sub, bnd_one, rLen_eq, rGet_nat, rSet_nat, rApp_eq, ↓reduceIte]
theorem getD_set_self {α : Type} {d : α} {l : List α} {i : Nat} {x : α} (h : i < l.length) : (l.set i x).getD i d = x := by
  rw [List.getD_eq_getElem?_getD, List.getElem?_set, if_pos rfl, if_pos h]; rfl
def nmark (m : Int) (j : Nat) : Int × Int × Int := (m + 3 * (j : Int), m + 3 * (j : Int) + 1, m + 3 * (j : Int) + 2)
theorem markNodeS_ev (xs : List (Int × Int × Int)) (m : Int) (hn : xs.length ≤ 1000000000) (h0 : 0 ≤ m) (h1 : m ≤ 1000000000) (k : Nat) (hk : xs.length < k) : laws_markNodeS.f k xs m = some (m + 3 * (xs.length : Int), (List.range xs.length).map (nmark m)) := by
  simp only [laws_markNodeS.f, laws_markNodeS.l0]
  have h := iter_upto (f := fun (rec : (List (Int × Int × Int) × Int × Int) → Option (Int × List (Int × Int × Int))) (x : List (Int × Int × Int) × Int × Int) => laws_markNodeS.s0 k rec x.1 x.2.1 x.2.2)
    (fun i => (fill (nmark m) xs i, m + 3 * (i : Int), (i : Int))) xs.length (r := (m + 3 * (xs.length : Int), (List.range xs.length).map (nmark m))) (fun rec i hi => ?_) (fun rec => ?_) hk
  · rw [fill_zero] at h; simpa using h
  · have hl : i < (fill (nmark m) xs i).length := by rw [fill_len (Nat.le_of_lt hi)]; exact hi
    simp only [laws_markNodeS.s0, iLt_eq, brB_dec, chk_idx, rLen_eq, rGet_nat, rSet_nat, List.length_set, getD_set_self, hl, List.set_set]
    rw [fill_len (Nat.le_of_lt hi), if_pos (by omega), if_idx hi, if_idx hi, if_idx hi]
    rw [iAdd_id (a := m + 3 * (i : Int)) (b := 1) (by omega) (by omega), iAdd_id (a := m + 3 * (i : Int) + 1) (b := 1) (by omega) (by omega), iAdd_id (a := m + 3 * (i : Int) + 1 + 1) (b := 1) (by omega) (by omega), next_id hi (by omega)]
    have e : (m + 3 * (i : Int), m + 3 * (i : Int) + 1, m + 3 * (i : Int) + 1 + 1) = nmark m i := by simp only [nmark]; congr 2; omega
    rw [e, fill_set hi]
    congr 3
    omega
  · simp only [laws_markNodeS.s0, fill_end, List.length_map, List.length_range, iLt_eq, brB_dec, rLen_eq]
    rw [if_neg (by omega)]
theorem markGuard_ev (l : List Bool) (m : Int) (hn : l.length ≤ 1000000000000) (h0 : 0 ≤ m) (h1 : m ≤ 1000000000000) (k : Nat) (hk : l.length < k) : laws_markGuard.f k l m = some (m + l.length, bmarks m l.length) := by
  simp only [laws_markGuard.f, markBoolS_ev l m hn h0 h1 k hk, bnd_one]
/-- What the setting of a node gives. -/
def setB (xs : List (Int × Int × Int)) (g : List Bool) (n : Int) (v : Bool) : List Bool × Bool :=
  if guardB xs g = true ∧ (1 ≤ n ∧ n ≤ (xs.length : Int) - 1) ∧ g.getD n.toNat false ≠ v then (g.set n.toNat v, true) else (g, false)
theorem setB_len (xs : List (Int × Int × Int)) (g : List Bool) (n : Int) (v : Bool) : (setB xs g n v).1.length = g.length := by
  unfold setB; split <;> simp
theorem guard_len {xs : List (Int × Int × Int)} {g : List Bool} (h : guardB xs g = true) : g.length = xs.length := by
  simp only [guardB, Bool.and_eq_true, decide_eq_true_eq] at h
  omega
def mix (l : List Int) (i : Nat) : List Int := (List.range l.length).map fun j => if j < i ∨ l.length ≤ j + i then l.getD (l.length - 1 - j) 0 else l.getD j 0
theorem mix_len (l : List Int) (i : Nat) : (mix l i).length = l.length := by simp [mix]
theorem mix_get (l : List Int) (i : Nat) {j : Nat} (h : j < l.length) : (mix l i).getD j 0 = if j < i ∨ l.length ≤ j + i then l.getD (l.length - 1 - j) 0 else l.getD j 0 := range_get l.length h
theorem getD_ext {l m : List Int} (hl : l.length = m.length) (h : ∀ j, j < l.length → l.getD j 0 = m.getD j 0) : l = m := by
  apply List.ext_getElem hl
  intro j h1 h2
  have := h j h1
  rwa [getD_lt 0 l h1, getD_lt 0 m h2] at this
theorem getD_set_if {α : Type} (d : α) (l : List α) (i j : Nat) (v : α) (h : i < l.length) : (l.set i v).getD j d = if j = i then v else l.getD j d := by
  rw [List.getD_eq_getElem?_getD, List.getD_eq_getElem?_getD, List.getElem?_set]
  by_cases e : j = i
  · subst e; rw [if_pos rfl, if_pos rfl, if_pos h]; rfl
  · rw [if_neg e, if_neg (by omega)]
theorem mix_zero (l : List Int) : mix l 0 = l := by
  refine getD_ext (mix_len l 0) fun j hj => ?_
  rw [mix_len] at hj
  rw [mix_get l 0 hj, if_neg (by omega)]
theorem mix_step (l : List Int) {i : Nat} (h : i + i + 1 < l.length) : ((mix l i).set i ((mix l i).getD (l.length - 1 - i) 0)).set (l.length - 1 - i) ((mix l i).getD i 0) = mix l (i + 1) := by
  refine getD_ext (by simp [mix_len]) fun j hj => ?_
  simp only [List.length_set, mix_len] at hj
  rw [getD_set_if _ _ _ _ _ (by simp [mix_len]; omega), getD_set_if _ _ _ _ _ (by simp [mix_len]; omega), mix_get l (i + 1) hj, mix_get l i (by omega), mix_get l i (by omega), mix_get l i hj]
  by_cases h1 : j = l.length - 1 - i
  · rw [if_pos h1, if_neg (by omega), if_pos (by omega)]
    congr 1; omega
  · rw [if_neg h1]
    by_cases h2 : j = i
    · rw [if_pos h2, if_neg (by omega), if_pos (by omega)]
      congr 1; omega
    · rw [if_neg h2]
      by_cases h3 : j < i ∨ l.length ≤ j + i
      · rw [if_pos h3, if_pos (by omega)]
      · rw [if_neg h3, if_neg (by omega)]
theorem mix_end (l : List Int) {i : Nat} (h : l.length ≤ i + i + 1) : mix l i = l.reverse := by
  refine getD_ext (by simp [mix_len]) fun j hj => ?_
  rw [mix_len] at hj
  have e : l.reverse.getD j 0 = l.getD (l.length - 1 - j) 0 := by
    rw [List.getD_eq_getElem?_getD, List.getD_eq_getElem?_getD, List.getElem?_reverse hj]
  rw [mix_get l i hj, e]
  split
  · rfl
  · congr 1; omega
theorem reverse_ev (l : List Int) (hl : l.length ≤ 1048576) (k : Nat) (hk : l.length < k) : slices_Reverse_int.f k l = some l.reverse := by
  simp only [slices_Reverse_int.f, slices_Reverse_int.l0, rLen_eq]
  rw [iSub_id (by omega) (by omega)]
  have h := iter_upto (f := fun (rec : (List Int × Int × Int) → Option (List Int)) (x : List Int × Int × Int) => slices_Reverse_int.s0 k rec x.1 x.2.1 x.2.2)
    (fun i => (mix l i, (i : Int), (l.length : Int) - 1 - (i : Int))) (l.length / 2) (r := l.reverse) (fun rec i hi => ?_) (fun rec => ?_) (n := k) (by omega)
  · rw [mix_zero] at h; simpa using h
  · have e : (l.length : Int) - 1 - (i : Int) = ((l.length - 1 - i : Nat) : Int) := by omega
    simp only [slices_Reverse_int.s0, e, iLt_eq, brB_dec, chk_idx, rLen_eq, rGet_nat, rSet_nat, List.length_set, mix_len]
    rw [if_pos (by omega), if_idx (by omega), if_idx (by omega), if_idx (by omega), if_idx (by omega), mix_step l (by omega), next_id (i := i) (n := l.length) (by omega) (by omega), iSub_id (by omega) (by omega)]
    congr 3
    omega
  · simp only [slices_Reverse_int.s0, iLt_eq, brB_dec]
    rw [if_neg (by omega), mix_end l (by omega)]
/-- From a node to the root. -/
def upL (xs : List (Int × Int × Int)) : Nat → Int → List Int
  | 0, _ => []
  | f + 1, n => if 0 ≤ n then n :: upL xs f (nd xs n.toNat).1 else []
/-- Each parent comes before its child. -/
def TreeP (xs : List (Int × Int × Int)) : Prop := ∀ i : Nat, i < xs.length → (nd xs i).1 < (i : Int) ∧ (0 < i → 0 ≤ (nd xs i).1)
theorem treeP_of {xs : List (Int × Int × Int)} (h : treeB xs = true) : TreeP xs := by
  intro i hi
  simp only [treeB, Bool.and_eq_true, rootB, decide_eq_true_eq, List.all_eq_true, List.mem_range] at h
  cases i with
  | zero => have := h.2.1.1; exact ⟨by omega, fun h => by omega⟩
  | succ i =>
    have := h.2.2 i (by omega)
    simp only [nodeB, Bool.and_eq_true, decide_eq_true_eq] at this
    exact ⟨by omega, fun _ => this.1.1⟩
theorem upL_len (xs : List (Int × Int × Int)) : ∀ (f : Nat) (n : Int), (upL xs f n).length ≤ f
  | 0, n => Nat.le_refl _
  | f + 1, n => by
    simp only [upL]
    split
    · simp only [List.length_cons]; have := upL_len xs f (nd xs n.toNat).1; omega
    · simp
noncomputable def spF (k : Nat) (rec : (List (Int × Int × Int) × Int × List Int) → Option (List Int)) (x : List (Int × Int × Int) × Int × List Int) : Option (List Int) := spec_PathTo.s0 k rec x.1 x.2.1 x.2.2
theorem specUp (xs : List (Int × Int × Int)) (hT : TreeP xs) (k : Nat) : ∀ (f : Nat) (n : Int) (out : List Int) (K : Nat), f < K → n < (f : Int) → n < xs.length → out.length + f ≤ 1000 →
    iter (spF k) K (xs, n, out) = some ((upL xs f n).reverse ++ out)
  | f, n, out, 0, hK, _, _, _ => by omega
  | 0, n, out, K + 1, hK, h1, h2, h3 => by
    show spec_PathTo.s0 k _ xs n out = _
    generalize iter (spF k) K = rec
    simp only [spec_PathTo.s0, iLe_eq, brB_dec, upL]
    rw [if_neg (by omega)]; rfl
  | f + 1, n, out, K + 1, hK, h1, h2, h3 => by
    have ih : 0 ≤ n → iter (spF k) K (xs, (nd xs n.toNat).1, [n] ++ out) = some ((upL xs f (nd xs n.toNat).1).reverse ++ ([n] ++ out)) := fun c =>
      have hp := hT n.toNat (by omega)
      specUp xs hT k f (nd xs n.toNat).1 ([n] ++ out) K (by omega) (by omega) (by omega) (by simp only [List.length_append, List.length_cons, List.length_nil]; omega)
    show spec_PathTo.s0 k (iter (spF k) K) xs n out = _
    generalize iter (spF k) K = rec at ih ⊢
    simp only [spec_PathTo.s0, iLe_eq, brB_dec, upL, chk_len, chk_idx, rApp_eq, rLen_eq]
    by_cases c : 0 ≤ n
    · rw [if_pos c, if_pos c, if_pos (by simp only [List.length_append, List.length_cons, List.length_nil]; omega), if_pos (by omega)]
      have e : rGet (0, 0, 0) xs n = nd xs n.toNat := rfl
      rw [e, ih c]
      simp
    · rw [if_neg c, if_neg c]; rfl
/-- From the root to a node. -/
def pathT (xs : List (Int × Int × Int)) (n : Int) : List Int := if treeB xs && decide (0 ≤ n ∧ n ≤ (xs.length : Int) - 1) then (upL xs xs.length n).reverse else []
theorem l19Ok_ev (xs : List (Int × Int × Int)) (n : Int) (hx : xs.length ≤ 1048576) (k : Nat) (hk : xs.length < k) : spec_l19Ok.f k xs n = some (treeB xs && decide (0 ≤ n ∧ n ≤ (xs.length : Int) - 1)) := by
  simp only [spec_l19Ok.f, specTreeOk_ev xs hx k hk, l01In_eq, bnd_one, rLen_eq]
  rw [iSub_id (by omega) (by omega)]
  exact brB_and rfl
theorem specPathTo_ev (xs : List (Int × Int × Int)) (n : Int) (hx : xs.length ≤ 1048576) (k : Nat) (hk : xs.length < k) : spec_PathTo.f k xs n = some (pathT xs n) := by
  simp only [spec_PathTo.f, l19Ok_ev xs n hx k hk, bnd_one, bNot_eq, brB_nb, pathT]
  cases h : treeB xs && decide (0 ≤ n ∧ n ≤ (xs.length : Int) - 1) with
  | false => rfl
  | true =>
    simp only [Bool.and_eq_true, decide_eq_true_eq] at h
    have hl := tree_len h.1
    have := specUp xs (treeP_of h.1) k xs.length n [] k (by omega) (by omega) (by omega) (by simp; omega)
    simp only [brB_true, if_true]
    rw [List.append_nil] at this
    exact this
theorem isNode_ev (xs : List (Int × Int × Int)) (n : Int) (hx : xs.length ≤ 1048576) (k : Nat) (hk : xs.length < k) : impl_isNode.f k xs n = some (treeB xs && decide (0 ≤ n ∧ n ≤ (xs.length : Int) - 1)) := by
  simp only [impl_isNode.f, implTreeOk_ev xs hx k hk, within_eq, bnd_one, rLen_eq]
  rw [iSub_id (by omega) (by omega)]
  exact brB_and rfl
noncomputable def ipF (k : Nat) (rec : (List (Int × Int × Int) × Int × List Int) → Option (List Int)) (x : List (Int × Int × Int) × Int × List Int) : Option (List Int) := impl_PathTo.s0 k rec x.1 x.2.1 x.2.2
theorem implUp (xs : List (Int × Int × Int)) (hT : TreeP xs) (k : Nat) (hk : xs.length < k) (hx : xs.length ≤ 12) : ∀ (f : Nat) (n : Int) (out : List Int) (K : Nat), f < K → n < (f : Int) → n < xs.length → out.length + f ≤ xs.length →
    iter (ipF k) K (xs, n, out) = some ((out ++ upL xs f n).reverse)
  | f, n, out, 0, hK, _, _, _ => by omega
  | 0, n, out, K + 1, hK, h1, h2, h3 => by
    show impl_PathTo.s0 k _ xs n out = _
    generalize iter (ipF k) K = rec
    simp only [impl_PathTo.s0, iLe_eq, brB_dec, upL, List.append_nil]
    rw [if_neg (by omega), reverse_ev out (by omega) k (by omega)]; rfl
  | f + 1, n, out, K + 1, hK, h1, h2, h3 => by
    have ih : 0 ≤ n → iter (ipF k) K (xs, (nd xs n.toNat).1, out ++ [n]) = some (((out ++ [n]) ++ upL xs f (nd xs n.toNat).1).reverse) := fun c =>
      have hp := hT n.toNat (by omega)
      implUp xs hT k hk hx f (nd xs n.toNat).1 (out ++ [n]) K (by omega) (by omega) (by omega) (by simp only [List.length_append, List.length_cons, List.length_nil]; omega)
    show impl_PathTo.s0 k (iter (ipF k) K) xs n out = _
    generalize iter (ipF k) K = rec at ih ⊢
    simp only [impl_PathTo.s0, iLe_eq, brB_dec, upL, chk_len, chk_idx, rApp_eq, rLen_eq]
    by_cases c : 0 ≤ n
    · rw [if_pos c, if_pos c, if_pos (by simp only [List.length_append, List.length_cons, List.length_nil]; omega), if_pos (by omega)]
      have e : rGet (0, 0, 0) xs n = nd xs n.toNat := rfl
      rw [e, ih c]
      simp
    · rw [if_neg c, if_neg c, List.append_nil, reverse_ev out (by omega) k (by omega)]; rfl
theorem implPathTo_ev (xs : List (Int × Int × Int)) (n : Int) (hx : xs.length ≤ 1048576) (k : Nat) (hk : xs.length < k) : impl_PathTo.f k xs n = some (pathT xs n) := by
  simp only [impl_PathTo.f, isNode_ev xs n hx k hk, bnd_one, bNot_eq, brB_nb, pathT]
  cases h : treeB xs && decide (0 ≤ n ∧ n ≤ (xs.length : Int) - 1) with
  | false => rfl
  | true =>
    simp only [Bool.and_eq_true, decide_eq_true_eq] at h
    have hl := tree_len h.1
    have := implUp xs (treeP_of h.1) k hk hl.2 xs.length n [] k (by omega) (by omega) (by omega) (by simp)
    simp only [brB_true, if_true]
    rw [List.nil_append] at this
    exact this
/-- Neighbours in a list. -/
def CH (R : Int → Int → Prop) (l : List Int) : Prop := ∀ (i : Nat) x y, l[i]? = some x → l[i + 1]? = some y → R x y
theorem CH.reverse {R : Int → Int → Prop} {l : List Int} (h : CH R l) : CH (fun x y => R y x) l.reverse := by
  intro i x y hx hy
  have h2 : i + 1 < l.length := by have := (List.getElem?_eq_some_iff.1 hy).1; simpa using this
  rw [List.getElem?_reverse (by omega)] at hx
  rw [List.getElem?_reverse h2] at hy
  exact h (l.length - 1 - (i + 1)) y x hy (by rw [show l.length - 1 - (i + 1) + 1 = l.length - 1 - i by omega]; exact hx)
theorem CH.drop {R : Int → Int → Prop} {l : List Int} (h : CH R l) (n : Nat) : CH R (l.drop n) := by
  intro i x y hx hy
  rw [List.getElem?_drop] at hx hy
  exact h (n + i) x y hx (by rw [Nat.add_assoc]; exact hy)
theorem CH.append {R : Int → Int → Prop} {l m : List Int} (h : CH R l) (h' : CH R m) (hj : ∀ x y, l.getLast? = some x → m.head? = some y → R x y) : CH R (l ++ m) := by
  intro i x y hx hy
  rw [List.getElem?_append] at hx hy
  by_cases c1 : i + 1 < l.length
  · rw [if_pos (by omega)] at hx; rw [if_pos c1] at hy
    exact h i x y hx hy
  · rw [if_neg c1] at hy
    by_cases c2 : i < l.length
    · rw [if_pos c2] at hx
      refine hj x y ?_ ?_
      · rw [List.getLast?_eq_getElem?, show l.length - 1 = i by omega]; exact hx
      · rw [show i + 1 - l.length = 0 by omega] at hy
        rw [← hy]; cases m <;> rfl
    · rw [if_neg c2] at hx
      exact h' (i - l.length) x y hx (by rw [show i - l.length + 1 = i + 1 - l.length by omega]; exact hy)
/-- y is the parent of x. -/
def upR (xs : List (Int × Int × Int)) (x y : Int) : Prop := 0 ≤ x ∧ x < xs.length ∧ 0 ≤ y ∧ y < x ∧ (nd xs x.toNat).1 = y
theorem upL_mem {xs : List (Int × Int × Int)} (hT : TreeP xs) : ∀ (f : Nat) (n : Int), n < xs.length → ∀ x ∈ upL xs f n, 0 ≤ x ∧ x < xs.length
  | 0, n, hn, x, hx => by simp [upL] at hx
  | f + 1, n, hn, x, hx => by
    simp only [upL] at hx
    split at hx
    · rename_i c
      rcases List.mem_cons.1 hx with rfl | hx
      · exact ⟨c, hn⟩
      · have := hT n.toNat (by omega)
        exact upL_mem hT f _ (by omega) x hx
    · cases hx
theorem upL_chain {xs : List (Int × Int × Int)} (hT : TreeP xs) : ∀ (f : Nat) (n : Int), n < xs.length → CH (upR xs) (upL xs f n)
  | 0, n, hn => by intro i x y hx; simp [upL] at hx
  | f + 1, n, hn => by
    intro i x y hx hy
    simp only [upL] at hx hy
    split at hx
    · rename_i c
      rw [if_pos c] at hy
      have hp := hT n.toNat (by omega)
      cases i with
      | succ i => exact upL_chain hT f (nd xs n.toNat).1 (by omega) i x y (by simpa using hx) (by simpa using hy)
      | zero =>
        simp at hx
        subst hx
        cases f with
        | zero => simp [upL] at hy
        | succ f =>
          simp only [upL] at hy
          split at hy
          · rename_i c2
            simp at hy
            exact ⟨c, hn, by omega, by omega, hy⟩
          · simp at hy
    · simp at hx
theorem upL_last {xs : List (Int × Int × Int)} (hT : TreeP xs) : ∀ (f : Nat) (n : Int), 0 ≤ n → n < (f : Int) → n < xs.length → (upL xs f n).getLast? = some 0
  | 0, n, h0, h1, h2 => by omega
  | f + 1, n, h0, h1, h2 => by
    have hp := hT n.toNat (by omega)
    simp only [upL]
    rw [if_pos h0]
    by_cases c : 0 ≤ (nd xs n.toNat).1
    · rw [List.getLast?_cons, upL_last hT f _ c (by omega) (by omega)]; rfl
    · have : n = 0 := by
        rcases Nat.eq_zero_or_pos n.toNat with h | h
        · omega
        · exact absurd (hp.2 h) c
      subst this
      have e : upL xs f (nd xs (Int.toNat 0)).1 = [] := by
        cases f with
        | zero => rfl
        | succ f => simp only [upL]; rw [if_neg c]
      rw [e]; rfl
/-- A way from the root. -/
structure WayP (xs : List (Int × Int × Int)) (p : List Int) : Prop where
  head : p[0]? = some 0
  chain : CH (fun x y => upR xs y x) p
  mem : ∀ x ∈ p, 0 ≤ x ∧ x < xs.length
  len : p.length ≤ xs.length
def okN (xs : List (Int × Int × Int)) (n : Int) : Bool := treeB xs && decide (0 ≤ n ∧ n ≤ (xs.length : Int) - 1)
theorem path_way {xs : List (Int × Int × Int)} {n : Int} (h : okN xs n = true) : WayP xs (pathT xs n) := by
  have h' := h
  simp only [okN, Bool.and_eq_true, decide_eq_true_eq] at h'
  have hT := treeP_of h'.1
  have e : pathT xs n = (upL xs xs.length n).reverse := if_pos h
  rw [e]
  have hl := upL_last hT xs.length n (by omega) (by omega) (by omega)
  refine ⟨?_, (upL_chain hT _ _ (by omega)).reverse, fun x hx => upL_mem hT _ _ (by omega) x (List.mem_reverse.1 hx), by rw [List.length_reverse]; exact upL_len xs _ _⟩
  rw [← List.head?_eq_getElem?, List.head?_reverse]
  exact hl
theorem path_nil {xs : List (Int × Int × Int)} {n : Int} (h : okN xs n = false) : pathT xs n = [] := by
  have : ¬ okN xs n = true := by rw [h]; decide
  exact if_neg this
/-- How far two ways go together. -/
def cpl : List Int → List Int → Nat
  | x :: a, y :: b => if x = y then cpl a b + 1 else 0
  | _, _ => 0
theorem cpl_le : ∀ (a b : List Int), cpl a b ≤ a.length ∧ cpl a b ≤ b.length
  | [], _ => by simp [cpl]
  | _ :: _, [] => by simp [cpl]
  | x :: a, y :: b => by
    simp only [cpl, List.length_cons]
    split
    · have := cpl_le a b; omega
    · omega
theorem cpl_eq : ∀ (a b : List Int) (i : Nat), i < cpl a b → a.getD i 0 = b.getD i 0
  | [], _, i, h => by simp [cpl] at h
  | _ :: _, [], i, h => by simp [cpl] at h
  | x :: a, y :: b, i, h => by
    simp only [cpl] at h
    split at h
    · rename_i e
      cases i with
      | zero => simpa using e
      | succ i => simpa using cpl_eq a b i (by omega)
    · omega
theorem cpl_ne : ∀ (a b : List Int), cpl a b < a.length → cpl a b < b.length → a.getD (cpl a b) 0 ≠ b.getD (cpl a b) 0
  | [], _, h, _ => by simp at h
  | _ :: _, [], _, h => by simp at h
  | x :: a, y :: b, h, h' => by
    simp only [cpl, List.length_cons] at h h' ⊢
    split
    · rename_i e
      rw [if_pos e] at h h'
      simpa using cpl_ne a b (by omega) (by omega)
    · rename_i e
      simpa using e
/-- From one node up and down to another. -/
def betB (a b : List Int) : List Int := (a.drop (cpl a b - 1)).reverse ++ b.drop (cpl a b)
theorem cpl_pos {xs : List (Int × Int × Int)} {a b : List Int} (ha : WayP xs a) (hb : WayP xs b) : 1 ≤ cpl a b := by
  have h1 := ha.head; have h2 := hb.head
  match a, b, h1, h2 with
  | x :: a, y :: b, h1, h2 =>
    simp at h1 h2
    simp [cpl, h1, h2]
theorem rSub_drop {α : Type} (l : List α) (c : Nat) : rSub l (c : Int) (l.length : Int) = l.drop c := by simp [rSub]
theorem drop_rev (a : List Int) {i : Nat} (h : i < a.length) : (a.drop (i + 1)).reverse ++ [a.getD i 0] = (a.drop i).reverse := by
  rw [List.drop_eq_getElem_cons h, List.reverse_cons, getD_lt 0 a h]
theorem specBet_in (k : Nat) (a b : List Int) (c : Nat) (h1 : 1 ≤ c) (ha : c ≤ a.length) (hb : c ≤ b.length) (la : a.length ≤ 1000) (lb : b.length ≤ 1000) (hk : a.length < k) :
    spec_PathBetween.l1 k k a b [] (c : Int) ((a.length : Int) - 1) = some ((a.drop (c - 1)).reverse ++ b.drop c) := by
  simp only [spec_PathBetween.l1]
  have h := iter_upto (f := fun (rec : (List Int × List Int × List Int × Int × Int) → Option (List Int)) (x : List Int × List Int × List Int × Int × Int) => spec_PathBetween.s1 k rec x.1 x.2.1 x.2.2.1 x.2.2.2.1 x.2.2.2.2)
    (fun i => (a, b, (a.drop (a.length - i)).reverse, (c : Int), (a.length : Int) - 1 - (i : Int))) (a.length + 1 - c) (r := (a.drop (c - 1)).reverse ++ b.drop c) (fun rec i hi => ?_) (fun rec => ?_) (n := k) (by omega)
  · simpa using h
  · have e : (a.length : Int) - 1 - (i : Int) = ((a.length - 1 - i : Nat) : Int) := by omega
    have e2 : (a.drop (a.length - i)).reverse ++ [a.getD (a.length - 1 - i) 0] = (a.drop (a.length - (i + 1))).reverse := by
      have := drop_rev a (i := a.length - 1 - i) (by omega)
      rw [show a.length - 1 - i + 1 = a.length - i by omega] at this
      rw [this, show a.length - (i + 1) = a.length - 1 - i by omega]
    simp only [spec_PathBetween.s1, e, iLe_eq, brB_dec, chk_idx, chk_len, rLen_eq, rGet_nat, rApp_eq, e2]
    rw [iSub_id (a := (c : Int)) (b := 1) (by omega) (by omega), if_pos (by omega), if_idx (by omega), if_pos (by simp only [List.length_reverse, List.length_drop]; omega), iSub_id (by omega) (by omega)]
    congr 5
    omega
  · simp only [spec_PathBetween.s1, iLe_eq, brB_dec, chk_sub, chk_len, rLen_eq, rApp_eq, rSub_drop]
    rw [iSub_id (a := (c : Int)) (b := 1) (by omega) (by omega), if_neg (by omega), if_pos (by omega), if_pos (by simp only [List.length_append, List.length_reverse, List.length_drop]; omega)]
    rw [show a.length - (a.length + 1 - c) = c - 1 by omega]
theorem l2_eq : @spec_PathBetween.l2 = @spec_PathBetween.l1 := rfl
theorem l3_eq : @spec_PathBetween.l3 = @spec_PathBetween.l1 := rfl
theorem specBet_out {xs : List (Int × Int × Int)} (k : Nat) (a b : List Int) (wa : WayP xs a) (wb : WayP xs b) (hx : xs.length ≤ 12) (hk : xs.length < k) : spec_PathBetween.l0 k k a b [] 0 = some (betB a b) := by
  have hc := cpl_pos wa wb
  obtain ⟨ca, cb⟩ := cpl_le a b
  have la := wa.len; have lb := wb.len
  simp only [spec_PathBetween.l0]
  have h := iter_upto (f := fun (rec : (List Int × List Int × List Int × Int) → Option (List Int)) (x : List Int × List Int × List Int × Int) => spec_PathBetween.s0 k rec x.1 x.2.1 x.2.2.1 x.2.2.2)
    (fun i => (a, b, ([] : List Int), (i : Int))) (cpl a b) (r := betB a b) (fun rec i hi => ?_) (fun rec => ?_) (n := k) (by omega)
  · exact h
  · simp only [spec_PathBetween.s0, iLt_eq, iEq_eq, brB_dec, chk_idx, rLen_eq, rGet_nat]
    rw [if_pos (by omega), if_pos (by omega), if_idx (by omega), if_idx (by omega), if_pos (cpl_eq a b i hi), next_id hi (by omega)]
  · have hin := specBet_in k a b (cpl a b) hc ca cb (by omega) (by omega) (by omega)
    simp only [spec_PathBetween.s0, iLt_eq, iEq_eq, brB_dec, chk_idx, rLen_eq, rGet_nat, l2_eq, l3_eq]
    rw [iSub_id (by omega) (by omega), hin]
    by_cases c1 : cpl a b < a.length
    · rw [if_pos (by omega)]
      by_cases c2 : cpl a b < b.length
      · rw [if_pos (by omega), if_idx c1, if_idx c2, if_neg (cpl_ne a b c1 c2)]; rfl
      · rw [if_neg (by omega)]; rfl
    · rw [if_neg (by omega)]; rfl
/-- The way between two nodes. -/
def betT (xs : List (Int × Int × Int)) (m n : Int) : List Int := if okN xs m && okN xs n then betB (pathT xs m) (pathT xs n) else []
theorem specBetween_ev (xs : List (Int × Int × Int)) (m n : Int) (hx : xs.length ≤ 1048576) (k : Nat) (hk : xs.length < k) : spec_PathBetween.f k xs m n = some (betT xs m n) := by
  simp only [spec_PathBetween.f, specPathTo_ev xs _ hx k hk, bnd_one, iEq_eq, brB_dec, rLen_eq, betT]
  cases hm : okN xs m with
  | false => rw [path_nil hm]; rfl
  | true =>
    have wa := path_way hm
    have l0 : ¬ ((pathT xs m).length : Int) = 0 := fun e => by
      have : pathT xs m = [] := List.length_eq_zero_iff.1 (by omega)
      have h := wa.head
      rw [this] at h; cases h
    rw [if_neg l0]
    cases hn : okN xs n with
    | false => rw [path_nil hn]; rfl
    | true =>
      have wb := path_way hn
      have l1 : ¬ ((pathT xs n).length : Int) = 0 := fun e => by
        have : pathT xs n = [] := List.length_eq_zero_iff.1 (by omega)
        have h := wb.head
        rw [this] at h; cases h
      have hl : xs.length ≤ 12 := by simp only [okN, Bool.and_eq_true] at hm; exact (tree_len hm.1).2
      rw [if_neg l1, specBet_out k _ _ wa wb hl hk]; rfl
theorem implBet_end (k : Nat) (a b : List Int) (c : Nat) (h1 : 1 ≤ c) (ha : c ≤ a.length) (hb : c ≤ b.length) (la : a.length ≤ 1000) (lb : b.length ≤ 1000) (hk : a.length < k) :
    (chk (cSub (iSub .i64 (c : Int) 1) (rLen a) (rLen a)) (bnd (slices_Clone_int.f k (rSub a (iSub .i64 (c : Int) 1) (rLen a))) fun y4 => bnd (slices_Reverse_int.f k y4) fun y5 => chk (cSub (c : Int) (rLen b) (rLen b)) (chk (cLen (rLen (rApp y5 (rSub b (c : Int) (rLen b)))) 8) (some (rApp y5 (rSub b (c : Int) (rLen b))))))) = some ((a.drop (c - 1)).reverse ++ b.drop c) := by
  rw [iSub_id (by omega) (by omega), show (c : Int) - 1 = ((c - 1 : Nat) : Int) by omega]
  simp only [rLen_eq, rSub_drop, slices_Clone_int.f, chk_sub, chk_len, rApp_eq]
  rw [if_pos (by omega), if_pos (by simp only [List.length_drop]; omega)]
  simp only [bnd_one]
  rw [reverse_ev _ (by simp only [List.length_drop]; omega) k (by simp only [List.length_drop]; omega)]
  simp only [bnd_one]
  rw [if_pos (by omega), if_pos (by simp only [List.length_append, List.length_reverse, List.length_drop]; omega)]
theorem iMin_lt (i a b : Int) : i < iMin a b ↔ i < a ∧ i < b := by
  unfold iMin
  by_cases h : b < a
  · rw [if_pos h]; omega
  · rw [if_neg h]; omega
theorem implBet_out {xs : List (Int × Int × Int)} (k : Nat) (a b : List Int) (wa : WayP xs a) (wb : WayP xs b) (hx : xs.length ≤ 12) (hk : xs.length < k) : impl_PathBetween.l0 k k a b 0 = some (betB a b) := by
  have hc := cpl_pos wa wb
  obtain ⟨ca, cb⟩ := cpl_le a b
  have la := wa.len; have lb := wb.len
  simp only [impl_PathBetween.l0]
  have h := iter_upto (f := fun (rec : (List Int × List Int × Int) → Option (List Int)) (x : List Int × List Int × Int) => impl_PathBetween.s0 k rec x.1 x.2.1 x.2.2)
    (fun i => (a, b, (i : Int))) (cpl a b) (r := betB a b) (fun rec i hi => ?_) (fun rec => ?_) (n := k) (by omega)
  · exact h
  · simp only [impl_PathBetween.s0, iLt_eq, iEq_eq, brB_dec, chk_idx, rGet_nat, rLen_eq]
    rw [if_pos ((iMin_lt _ _ _).2 (by omega)), if_idx (by omega), if_idx (by omega), if_pos (cpl_eq a b i hi), next_id hi (by omega)]
  · have hin := implBet_end k a b (cpl a b) hc ca cb (by omega) (by omega) (by omega)
    simp only [impl_PathBetween.s0]
    rw [hin]
    simp only [iLt_eq, iEq_eq, brB_dec, chk_idx, rLen_eq, rGet_nat]
    by_cases c1 : cpl a b < a.length ∧ cpl a b < b.length
    · rw [if_pos ((iMin_lt _ _ _).2 (by omega)), if_idx c1.1, if_idx c1.2, if_neg (cpl_ne a b c1.1 c1.2)]; rfl
    · rw [if_neg (fun h => c1 (by have := (iMin_lt _ _ _).1 h; omega))]; rfl
theorem implBetween_ev (xs : List (Int × Int × Int)) (m n : Int) (hx : xs.length ≤ 1048576) (k : Nat) (hk : xs.length < k) : impl_PathBetween.f k xs m n = some (betT xs m n) := by
  have e : ∀ n, impl_isNode.f k xs n = some (okN xs n) := fun n => isNode_ev xs n hx k hk
  simp only [impl_PathBetween.f, e, implPathTo_ev xs _ hx k hk, bnd_one, bNot_eq, brB_nb, betT]
  cases hm : okN xs m with
  | false => rfl
  | true =>
    cases hn : okN xs n with
    | false => rfl
    | true =>
      have hl : xs.length ≤ 12 := by have := hm; simp only [okN, Bool.and_eq_true] at this; exact (tree_len this.1).2
      rw [brB_true, brB_true, implBet_out k _ _ (path_way hm) (path_way hn) hl hk]; rfl
/-- Neighbours on a way. -/
def nbR (xs : List (Int × Int × Int)) (x y : Int) : Prop := upR xs x y ∨ upR xs y x
theorem CH.imp {R S : Int → Int → Prop} {l : List Int} (h : CH R l) (hi : ∀ x y, R x y → S x y) : CH S l := fun i x y hx hy => hi x y (h i x y hx hy)
theorem bet_chain {xs : List (Int × Int × Int)} {a b : List Int} (wa : WayP xs a) (wb : WayP xs b) : CH (nbR xs) (betB a b) := by
  have hc := cpl_pos wa wb
  obtain ⟨ca, cb⟩ := cpl_le a b
  refine CH.append (((wa.chain.drop _).reverse).imp fun x y h => .inl h) ((wb.chain.drop _).imp fun x y h => .inr h) fun x y hx hy => .inr ?_
  rw [List.getLast?_reverse, List.head?_eq_getElem?, List.getElem?_drop] at hx
  rw [List.head?_eq_getElem?, List.getElem?_drop] at hy
  have hx' : b[cpl a b - 1]? = some x := by
    have e := cpl_eq a b (cpl a b - 1) (by omega)
    rw [getD_lt 0 a (by omega), getD_lt 0 b (by omega)] at e
    rw [List.getElem?_eq_getElem (by omega)] at hx ⊢
    simp only [Nat.add_zero] at hx
    rw [← e]; exact hx
  exact wb.chain (cpl a b - 1) x y hx' (by rw [show cpl a b - 1 + 1 = cpl a b + 0 by omega]; exact hy)
theorem bet_mem {xs : List (Int × Int × Int)} {a b : List Int} (wa : WayP xs a) (wb : WayP xs b) : ∀ x ∈ betB a b, 0 ≤ x ∧ x < xs.length := by
  intro x hx
  rcases List.mem_append.1 hx with h | h
  · exact wa.mem x (List.mem_of_mem_drop (List.mem_reverse.1 h))
  · exact wb.mem x (List.mem_of_mem_drop h)
theorem betT_len (xs : List (Int × Int × Int)) (m n : Int) : (betT xs m n).length ≤ 24 := by
  unfold betT
  split
  · rename_i h
    simp only [Bool.and_eq_true] at h
    have h' := h
    simp only [okN, Bool.and_eq_true] at h'
    have l := tree_len h'.1.1
    have wa := path_way h.1; have wb := path_way h.2
    have la := wa.len; have lb := wb.len
    simp only [betB, List.length_append, List.length_reverse, List.length_drop]
    omega
  · simp
/-- One step of a way is open. -/
def openB (xs : List (Int × Int × Int)) (g : List Bool) (x y : Int) : Bool := if (nd xs y.toNat).1 = x then g.getD y.toNat false else g.getD x.toNat false
def canB (xs : List (Int × Int × Int)) (g : List Bool) (m n : Int) : Bool := guardB xs g && (!decide (((betT xs m n).length : Int) = 0) && (List.range ((betT xs m n).length - 1)).all fun i => openB xs g ((betT xs m n).getD i 0) ((betT xs m n).getD (i + 1) 0))
theorem bet_facts {xs : List (Int × Int × Int)} {m n : Int} {i : Nat} (hi : i + 1 < (betT xs m n).length) : ∃ x y, (betT xs m n).getD i 0 = x ∧ (betT xs m n).getD (i + 1) 0 = y ∧ (0 ≤ x ∧ x < xs.length) ∧ (0 ≤ y ∧ y < xs.length) ∧ nbR xs x y := by
  unfold betT at hi ⊢
  split at hi
  · rename_i h
    rw [if_pos h]
    simp only [Bool.and_eq_true] at h
    have wa := path_way h.1; have wb := path_way h.2
    refine ⟨_, _, rfl, rfl, ?_, ?_, ?_⟩
    · rw [getD_lt 0 _ (by omega)]; exact bet_mem wa wb _ (List.getElem_mem _)
    · rw [getD_lt 0 _ hi]; exact bet_mem wa wb _ (List.getElem_mem _)
    · rw [getD_lt 0 _ (show i < (betB (pathT xs m) (pathT xs n)).length by omega), getD_lt 0 _ hi]
      exact bet_chain wa wb i _ _ (List.getElem?_eq_getElem _) (List.getElem?_eq_getElem _)
  · simp at hi
theorem specCanReach_ev (xs : List (Int × Int × Int)) (g : List Bool) (m n : Int) (hx : xs.length ≤ 1048576) (k : Nat) (hk : xs.length + 100 < k) : spec_CanReach.f k xs g m n = some (canB xs g m n) := by
  simp only [spec_CanReach.f, specBetween_ev xs m n hx k (by omega), specGuardOk_ev xs g hx k (by omega), bnd_one, bNot_eq, brB_nb, iEq_eq, brB_dec, rLen_eq, canB]
  refine brB_and' fun c1 => ?_
  have hg := guard_len c1
  have hl := betT_len xs m n
  by_cases c2 : ((betT xs m n).length : Int) = 0
  · rw [if_pos c2, decide_eq_true c2]; rfl
  · rw [if_neg c2, decide_eq_false c2, Bool.not_false, Bool.true_and]
    simp only [spec_CanReach.l0]
    have h := iter_all (f := fun (rec : (List (Int × Int × Int) × List Int × Int × List Bool) → Option Bool) (x : List (Int × Int × Int) × List Int × Int × List Bool) => spec_CanReach.s0 k rec x.1 x.2.1 x.2.2.1 x.2.2.2) (fun i => (xs, betT xs m n, (i : Int), g)) (List.range ((betT xs m n).length - 1)) (fun i => openB xs g ((betT xs m n).getD i 0) ((betT xs m n).getD (i + 1) 0)) (some true) (some false)
      (fun rec i hi hp => ?_) (fun rec i hi hp => ?_) (fun rec => ?_) (n := k) (by simp; omega)
    · refine h.trans ?_
      cases (List.range ((betT xs m n).length - 1)).all _ <;> rfl
    · simp only [List.length_range] at hi
      simp only [List.getElem_range] at hp
      obtain ⟨x, y, ex, ey, hxr, hyr, hn⟩ := bet_facts (xs := xs) (m := m) (n := n) (i := i) (by omega)
      rw [ex, ey] at hp
      simp only [spec_CanReach.s0, next_id (i := i) (n := (betT xs m n).length) (by omega) (by omega), iLt_eq, iEq_eq, brB_dec, chk_idx, bNot_eq, brB_nb, rLen_eq, rGet_nat, ex, ey]
      rw [if_pos (by omega), if_idx (by omega), if_idx (by omega), if_pos (by omega), if_idx (by omega)]
      simp only [show rGet (0, 0, 0) xs y = nd xs y.toNat from rfl, show rGet false g y = g.getD y.toNat false from rfl, show rGet false g x = g.getD x.toNat false from rfl]
      simp only [openB] at hp
      by_cases hc : (nd xs y.toNat).1 = x
      · rw [if_pos hc] at hp
        rw [if_pos hc, if_idx (by omega), if_pos (by omega), hp]; rfl
      · rw [if_neg hc] at hp
        rw [if_neg hc, if_pos (by omega), hp]; rfl
    · simp only [List.length_range] at hi
      simp only [List.getElem_range] at hp
      obtain ⟨x, y, ex, ey, hxr, hyr, hn⟩ := bet_facts (xs := xs) (m := m) (n := n) (i := i) (by omega)
      rw [ex, ey] at hp
      simp only [spec_CanReach.s0, next_id (i := i) (n := (betT xs m n).length) (by omega) (by omega), iLt_eq, iEq_eq, brB_dec, chk_idx, bNot_eq, brB_nb, rLen_eq, rGet_nat, ex, ey]
      rw [if_pos (by omega), if_idx (by omega), if_idx (by omega), if_pos (by omega), if_idx (by omega)]
      simp only [show rGet (0, 0, 0) xs y = nd xs y.toNat from rfl, show rGet false g y = g.getD y.toNat false from rfl, show rGet false g x = g.getD x.toNat false from rfl]
      simp only [openB] at hp
      by_cases hc : (nd xs y.toNat).1 = x
      · rw [if_pos hc] at hp
        rw [if_pos hc, if_idx (by omega), if_pos (by omega), hp]; rfl
      · rw [if_neg hc] at hp
        rw [if_neg hc, if_pos (by omega), hp]; rfl
    · simp only [List.length_range, spec_CanReach.s0, iLt_eq, brB_dec, rLen_eq]
      rw [iAdd_id (by omega) (by omega), if_neg (by omega)]
theorem open_back {xs : List (Int × Int × Int)} (hT : TreeP xs) {g : List Bool} {x y : Int} (h : nbR xs x y) : openB xs g x y = (if (nd xs x.toNat).1 = y then g.getD x.toNat false else g.getD y.toNat false) := by
  unfold openB
  rcases h with ⟨h1, h2, h3, h4, h5⟩ | ⟨h1, h2, h3, h4, h5⟩
  · have := hT y.toNat (by omega)
    rw [if_neg (by omega), if_pos h5]
  · have := hT x.toNat (by omega)
    rw [if_pos h5, if_neg (by omega)]
theorem implCanReach_ev (xs : List (Int × Int × Int)) (g : List Bool) (m n : Int) (hx : xs.length ≤ 1048576) (k : Nat) (hk : xs.length + 100 < k) : impl_CanReach.f k xs g m n = some (canB xs g m n) := by
  simp only [impl_CanReach.f, implBetween_ev xs m n hx k (by omega), implGuardOk_ev xs g hx k (by omega), bnd_one, bNot_eq, brB_nb, iEq_eq, brB_dec, rLen_eq, canB]
  refine brB_and' fun c1 => ?_
  have hg := guard_len c1
  have hT : TreeP xs := treeP_of (by have h := c1; simp only [guardB, Bool.and_eq_true] at h; exact h.1)
  have hl := betT_len xs m n
  by_cases c2 : ((betT xs m n).length : Int) = 0
  · rw [if_pos c2, decide_eq_true c2]; rfl
  · rw [if_neg c2, decide_eq_false c2, Bool.not_false, Bool.true_and]
    simp only [impl_CanReach.l0]
    have h := iter_all (f := fun (rec : (List (Int × Int × Int) × List Int × Int × List Bool) → Option Bool) (x : List (Int × Int × Int) × List Int × Int × List Bool) => impl_CanReach.s0 k rec x.1 x.2.1 x.2.2.1 x.2.2.2) (fun i => (xs, betT xs m n, ((i + 1 : Nat) : Int), g)) (List.range ((betT xs m n).length - 1)) (fun i => openB xs g ((betT xs m n).getD i 0) ((betT xs m n).getD (i + 1) 0)) (some true) (some false)
      (fun rec i hi hp => ?_) (fun rec i hi hp => ?_) (fun rec => ?_) (n := k) (by simp; omega)
    · refine h.trans ?_
      cases (List.range ((betT xs m n).length - 1)).all _ <;> rfl
    · simp only [List.length_range] at hi
      simp only [List.getElem_range] at hp
      obtain ⟨x, y, ex, ey, hxr, hyr, hn⟩ := bet_facts (xs := xs) (m := m) (n := n) (i := i) (by omega)
      rw [ex, ey] at hp
      simp only [impl_CanReach.s0, show iSub .i64 ((i + 1 : Nat) : Int) 1 = (i : Int) by (rw [iSub_id (by omega) (by omega)]; omega), next_id (i := i + 1) (n := (betT xs m n).length) (by omega) (by omega), iLt_eq, iEq_eq, brB_dec, chk_idx, bNot_eq, brB_nb, rLen_eq, rGet_nat, ex, ey]
      rw [if_pos (by omega), if_idx (by omega), if_idx (by omega), if_pos (by omega), if_idx (by omega)]
      simp only [show rGet (0, 0, 0) xs x = nd xs x.toNat from rfl, show rGet false g y = g.getD y.toNat false from rfl, show rGet false g x = g.getD x.toNat false from rfl]
      rw [open_back hT hn] at hp
      by_cases hc : (nd xs x.toNat).1 = y
      · rw [if_pos hc] at hp
        rw [if_pos hc, if_idx (by omega), if_pos (by omega), hp]; rfl
      · rw [if_neg hc] at hp
        rw [if_neg hc, if_pos (by omega), hp]; rfl
    · simp only [List.length_range] at hi
      simp only [List.getElem_range] at hp
      obtain ⟨x, y, ex, ey, hxr, hyr, hn⟩ := bet_facts (xs := xs) (m := m) (n := n) (i := i) (by omega)
      rw [ex, ey] at hp
      simp only [impl_CanReach.s0, show iSub .i64 ((i + 1 : Nat) : Int) 1 = (i : Int) by (rw [iSub_id (by omega) (by omega)]; omega), next_id (i := i + 1) (n := (betT xs m n).length) (by omega) (by omega), iLt_eq, iEq_eq, brB_dec, chk_idx, bNot_eq, brB_nb, rLen_eq, rGet_nat, ex, ey]
      rw [if_pos (by omega), if_idx (by omega), if_idx (by omega), if_pos (by omega), if_idx (by omega)]
      simp only [show rGet (0, 0, 0) xs x = nd xs x.toNat from rfl, show rGet false g y = g.getD y.toNat false from rfl, show rGet false g x = g.getD x.toNat false from rfl]
      rw [open_back hT hn] at hp
      by_cases hc : (nd xs x.toNat).1 = y
      · rw [if_pos hc] at hp
        rw [if_pos hc, if_idx (by omega), if_pos (by omega), hp]; rfl
      · rw [if_neg hc] at hp
        rw [if_neg hc, if_pos (by omega), hp]; rfl
    · simp only [List.length_range, impl_CanReach.s0, iLt_eq, brB_dec, rLen_eq]
      rw [if_neg (by omega)]
def noP : Int × Int × Int × Int × Int × Int × Int × List Int × Bool := (0, 0, 0, 0, 0, 0, 0, [], false)
/-- What the refusal of a packet gives. -/
def refB (c p1 p5 d s : Int) : Int × Int × Int × Int × Int × Int × Int × List Int × Bool := if c = 1 ∧ (0 ≤ d ∧ d ≤ 255) ∧ (1 ≤ s ∧ s ≤ 2) then (6, d, p1, 0, 0, p5, s, [], true) else noP
theorem refB_nil (c p1 p5 d s : Int) : (refB c p1 p5 d s).2.2.2.2.2.2.2.1 = [] := by unfold refB noP; split <;> rfl
theorem specRefusal_ev (a0 a1 a2 a3 a4 a5 a6 : Int) (l : List Int) (d s : Int) (hl : l.length ≤ 1048576) (h3 : (Lit.int .i64 a3).wf = true) (h4 : (Lit.int .i64 a4).wf = true) (k : Nat) (hk : l.length < k) : spec_RefusalOf.f k a0 a1 a2 a3 a4 a5 a6 l d s = some (refB (classB (packB a0 a1 a2 a3 a4 a5 a6 l) a0) a1 a5 d s) := by
  simp only [spec_RefusalOf.f, specClassOf_ev a0 a1 a2 a3 a4 a5 a6 l hl h3 h4 k hk, specIsId_eq, l01In_eq, iLt_eq, iLe_eq, iEq_eq, iNe_eq, bNot_eq, bEq_eq, bNe_eq, brB_nb, brB_dec, brB_true, brB_false, chk_idx, chk_len, chk_make, chk_sub, bnd_one, rLen_eq, rGet_nat, rSet_nat, rApp_eq, ↓reduceIte]
  generalize classB (packB a0 a1 a2 a3 a4 a5 a6 l) a0 = c
  unfold refB noP
  by_cases c1 : c = 1 <;> by_cases c2 : 0 ≤ d ∧ d ≤ 255 <;> by_cases c3 : 1 ≤ s ∧ s ≤ 2 <;> simp [c1, c2, c3]
theorem implRefusal_ev (a0 a1 a2 a3 a4 a5 a6 : Int) (l : List Int) (d s : Int) (hl : l.length ≤ 1048576) (h3 : (Lit.int .i64 a3).wf = true) (h4 : (Lit.int .i64 a4).wf = true) (k : Nat) (hk : l.length < k) : impl_RefusalOf.f k a0 a1 a2 a3 a4 a5 a6 l d s = some (refB (classB (packB a0 a1 a2 a3 a4 a5 a6 l) a0) a1 a5 d s) := by
  simp only [impl_RefusalOf.f, implClassOf_ev a0 a1 a2 a3 a4 a5 a6 l hl h3 h4 k hk, implIsId_eq, iLt_eq, iLe_eq, iEq_eq, iNe_eq, bNot_eq, bEq_eq, bNe_eq, brB_nb, brB_dec, brB_true, brB_false, chk_idx, chk_len, chk_make, chk_sub, bnd_one, rLen_eq, rGet_nat, rSet_nat, rApp_eq, ↓reduceIte]
  generalize classB (packB a0 a1 a2 a3 a4 a5 a6 l) a0 = c
  unfold refB noP
  by_cases c1 : c = 1
  · by_cases c2 : 0 ≤ d ∧ d ≤ 255
    · by_cases c3 : s = 1
      · subst c3; simp [c1, c2]
      · by_cases c4 : s = 2
        · subst c4; simp [c1, c2]
        · rw [if_pos c1, if_pos c2, if_neg c3, if_neg c4, if_neg (by omega)]
    · rw [if_pos c1, if_neg c2, if_neg (fun h => c2 h.2.1)]
  · rw [if_neg c1, if_neg (fun h => c1 h.1)]
/-- What is answered for a node that cannot be reached. -/
def ansB (xs : List (Int × Int × Int)) (g : List Bool) (c p1 p5 m n : Int) : Int × Int × Int × Int × Int × Int × Int × List Int × Bool :=
  if guardB xs g = true ∧ (0 ≤ m ∧ m ≤ (xs.length : Int) - 1) ∧ (0 ≤ n ∧ n ≤ (xs.length : Int) - 1) ∧ canB xs g m n = false then refB c p1 p5 p1 1 else noP
theorem ansB_nil (xs : List (Int × Int × Int)) (g : List Bool) (c p1 p5 m n : Int) : (ansB xs g c p1 p5 m n).2.2.2.2.2.2.2.1 = [] := by
  unfold ansB; split
  · exact refB_nil _ _ _ _ _
  · rfl
theorem specAnswer_ev (xs : List (Int × Int × Int)) (g : List Bool) (a0 a1 a2 a3 a4 a5 a6 : Int) (l : List Int) (m n : Int) (hx : xs.length ≤ 1048576) (hl : l.length ≤ 1048576) (h3 : (Lit.int .i64 a3).wf = true) (h4 : (Lit.int .i64 a4).wf = true) (k : Nat) (hk : xs.length + l.length + 100 < k) :
    spec_AnswerFor.f k xs g a0 a1 a2 a3 a4 a5 a6 l m n = some (ansB xs g (classB (packB a0 a1 a2 a3 a4 a5 a6 l) a0) a1 a5 m n) := by
  simp only [spec_AnswerFor.f, specGuardOk_ev xs g hx k (by omega), l01In_eq, specCanReach_ev xs g m n hx k (by omega), specRefusal_ev a0 a1 a2 a3 a4 a5 a6 l a1 1 hl h3 h4 k (by omega), iLt_eq, iLe_eq, iEq_eq, iNe_eq, bNot_eq, bEq_eq, bNe_eq, brB_nb, brB_dec, brB_true, brB_false, chk_idx, chk_len, chk_make, chk_sub, bnd_one, rLen_eq, rGet_nat, rSet_nat, rApp_eq, ↓reduceIte]
  rw [iSub_id (by omega) (by omega)]
  generalize classB (packB a0 a1 a2 a3 a4 a5 a6 l) a0 = c
  unfold ansB
  cases hg : guardB xs g with
  | false => simp [brB, noP]
  | true =>
    rw [brB_true]
    by_cases c1 : 0 ≤ m ∧ m ≤ (xs.length : Int) - 1
    · rw [if_pos c1]
      by_cases c2 : 0 ≤ n ∧ n ≤ (xs.length : Int) - 1
      · rw [if_pos c2]
        cases hc : canB xs g m n with
        | true => rw [brB_true, if_neg (by simp)]; rfl
        | false => rw [brB_false, if_pos ⟨rfl, c1, c2, rfl⟩]
      · rw [if_neg c2, if_neg (fun h => c2 h.2.2.1)]; rfl
    · rw [if_neg c1, if_neg (fun h => c1 h.2.1)]; rfl
theorem implAnswer_ev (xs : List (Int × Int × Int)) (g : List Bool) (a0 a1 a2 a3 a4 a5 a6 : Int) (l : List Int) (m n : Int) (hx : xs.length ≤ 1048576) (hl : l.length ≤ 1048576) (h3 : (Lit.int .i64 a3).wf = true) (h4 : (Lit.int .i64 a4).wf = true) (k : Nat) (hk : xs.length + l.length + 100 < k) :
    impl_AnswerFor.f k xs g a0 a1 a2 a3 a4 a5 a6 l m n = some (ansB xs g (classB (packB a0 a1 a2 a3 a4 a5 a6 l) a0) a1 a5 m n) := by
  simp only [impl_AnswerFor.f, implGuardOk_ev xs g hx k (by omega), isNode_ev xs _ hx k (show xs.length < k by omega), implCanReach_ev xs g m n hx k (by omega), implRefusal_ev a0 a1 a2 a3 a4 a5 a6 l a1 1 hl h3 h4 k (by omega), iLt_eq, iLe_eq, iEq_eq, iNe_eq, bNot_eq, bEq_eq, bNe_eq, brB_nb, brB_dec, brB_true, brB_false, chk_idx, chk_len, chk_make, chk_sub, bnd_one, rLen_eq, rGet_nat, rSet_nat, rApp_eq, ↓reduceIte]
  generalize classB (packB a0 a1 a2 a3 a4 a5 a6 l) a0 = c
  unfold ansB
  cases hg : guardB xs g with
  | false => simp [brB, noP]
  | true =>
    have ht : treeB xs = true := by have h := hg; simp only [guardB, Bool.and_eq_true] at h; exact h.1
    rw [brB_true, ht]
    simp only [Bool.true_and, brB_dec]
    by_cases c1 : 0 ≤ m ∧ m ≤ (xs.length : Int) - 1
    · rw [if_pos c1]
      by_cases c2 : 0 ≤ n ∧ n ≤ (xs.length : Int) - 1
      · rw [if_pos c2]
        cases hc : canB xs g m n with
        | true => rw [brB_true, if_neg (by simp)]; rfl
        | false => rw [brB_false, if_pos ⟨by trivial, c1, c2, by trivial⟩]
      · rw [if_neg c2, if_neg (fun h => c2 h.2.2.1)]; rfl
    · rw [if_neg c1, if_neg (fun h => c1 h.2.1)]; rfl
theorem laws_FnExactAnswerFor.main (xs : List (Int × Int × Int)) (g : List Bool) (a0 a1 a2 a3 a4 a5 a6 : Int) (l : List Int) (m n : Int) (hx : xs.length ≤ 9223372036854775807) (hg : g.length ≤ 9223372036854775807) (hl : l.length ≤ 9223372036854775807) (h3 : (Lit.int .i64 a3).wf = true) (h4 : (Lit.int .i64 a4).wf = true) : ∃ k, laws_FnExactAnswerFor.f k xs g a0 a1 a2 a3 a4 a5 a6 l m n = some true := by
  refine ⟨xs.length + g.length + l.length + 200, ?_⟩
  generalize hk : xs.length + g.length + l.length + 200 = k
  by_cases c1 : (xs.length : Int) ≤ 1048576
  · by_cases c2 : (g.length : Int) ≤ 1048576 - xs.length
    · by_cases c3 : (l.length : Int) ≤ 1048576 - xs.length - g.length
      · have tx := toNodeS_ev xs (by omega) k (by omega)
        have tg := toGuard_ev g (by omega) k (by omega)
        have tp := toPacket_ev a0 a1 a2 a3 a4 a5 a6 l (by omega) k (by omega)
        have f1 := specAnswer_ev xs g a0 a1 a2 a3 a4 a5 a6 l m n (by omega) (by omega) h3 h4 k (by omega)
        have f2 := implAnswer_ev xs g a0 a1 a2 a3 a4 a5 a6 l m n (by omega) (by omega) h3 h4 k (by omega)
        have hn := ansB_nil xs g (classB (packB a0 a1 a2 a3 a4 a5 a6 l) a0) a1 a5 m n
        generalize ansB xs g (classB (packB a0 a1 a2 a3 a4 a5 a6 l) a0) a1 a5 m n = r at f1 f2 hn
        obtain ⟨r0, r1, r2, r3, r4, r5, r6, rl, rb⟩ := r
        simp only at hn
        subst hn
        have e := eqPacket_refl r0 r1 r2 r3 r4 r5 r6 [] (by simp) k (by simp; omega)
        have ex := eqNodeS_refl xs (by omega) k (by omega)
        have eg := eqGuard_refl g (by omega) k (by omega)
        have ep := eqPacket_refl a0 a1 a2 a3 a4 a5 a6 l (by omega) k (by omega)
        have mx := markNodeS_ev xs 1 (by omega) (by omega) (by omega) k (by omega)
        have mg := markGuard_ev g (1 + 3 * (xs.length : Int)) (by omega) (by omega) (by omega) k (by omega)
        have mp := markPacket_ev a0 a1 a2 a3 a4 a5 a6 l (1 + 3 * (xs.length : Int) + g.length) (by omega) (by omega) (by omega) k (by omega)
        have mr := markPacket_ev r0 r1 r2 r3 r4 r5 r6 [] 1 (by simp) (by omega) (by omega) k (by simp; omega)
        have hr := heldPacket_ev r0 r1 r2 r3 r4 r5 r6 0 1 (by omega) (by omega) (by omega) k (by omega)
        simp only [List.length_nil] at mr
        simp only [laws_FnExactAnswerFor.f, szNodeS_eq k xs 1048576 hx (by omega) (by omega), if_pos c1, szGuard_eq k g (1048576 - xs.length) hg (by omega) (by omega), if_pos c2, szPacket_eq k a0 a1 a2 a3 a4 a5 a6 l (1048576 - xs.length - g.length) hl (by omega) (by omega), if_pos c3,
          tx, tg, tp, f1, f2, e, ex, eg, ep, mx, mg, mp, mr, hr, iLt_eq, iLe_eq, iEq_eq, iNe_eq, bNot_eq, bEq_eq, bNe_eq, brB_nb, brB_dec, brB_true, brB_false, chk_idx, chk_len, chk_make, chk_sub, bnd_one, rLen_eq, rGet_nat, rSet_nat, rApp_eq, ↓reduceIte, decide_true]
        repeat rw [if_neg (by omega)]
      · simp only [laws_FnExactAnswerFor.f, szNodeS_eq k xs 1048576 hx (by omega) (by omega), if_pos c1, szGuard_eq k g (1048576 - xs.length) hg (by omega) (by omega), if_pos c2, szPacket_eq k a0 a1 a2 a3 a4 a5 a6 l (1048576 - xs.length - g.length) hl (by omega) (by omega), if_neg c3, iLt_eq, iLe_eq, iEq_eq, iNe_eq, bNot_eq, bEq_eq, bNe_eq, brB_nb, brB_dec, brB_true, brB_false, chk_idx, chk_len, chk_make, chk_sub, bnd_one, rLen_eq, rGet_nat, rSet_nat, rApp_eq, ↓reduceIte]
        repeat rw [if_neg (by omega)]
        rfl
    · simp only [laws_FnExactAnswerFor.f, szNodeS_eq k xs 1048576 hx (by omega) (by omega), if_pos c1, szGuard_eq k g (1048576 - xs.length) hg (by omega) (by omega), if_neg c2, iLt_eq, iLe_eq, iEq_eq, iNe_eq, bNot_eq, bEq_eq, bNe_eq, brB_nb, brB_dec, brB_true, brB_false, chk_idx, chk_len, chk_make, chk_sub, bnd_one, rLen_eq, rGet_nat, rSet_nat, rApp_eq, ↓reduceIte]
      repeat rw [if_neg (by omega)]
      rfl
  · simp only [laws_FnExactAnswerFor.f, szNodeS_eq k xs 1048576 hx (by omega) (by omega), if_neg c1, iLt_eq, iLe_eq, iEq_eq, iNe_eq, bNot_eq, bEq_eq, bNe_eq, brB_nb, brB_dec, brB_true, brB_false, chk_idx, chk_len, chk_make, chk_sub, bnd_one, rLen_eq, rGet_nat, rSet_nat, rApp_eq, ↓reduceIte]
    rfl
theorem laws_FnExactAnswerFor.pure : ∀ x : laws_FnExactAnswerFor.sig.inTy.T, Good laws_FnExactAnswerFor.sig.inTy x → ∃ k, laws_FnExactAnswerFor.spec.fn k x = some true :=
  fun ⟨xs, g, a0, a1, a2, a3, a4, a5, a6, l, m, n⟩ ⟨⟨hx, _⟩, ⟨hg, _⟩, _, _, _, h3, h4, _, _, ⟨hl, _⟩, _⟩ => laws_FnExactAnswerFor.main xs g a0 a1 a2 a3 a4 a5 a6 l m n hx hg hl h3 h4
end Go.Proofs.YtknaadbgljjpiaaT

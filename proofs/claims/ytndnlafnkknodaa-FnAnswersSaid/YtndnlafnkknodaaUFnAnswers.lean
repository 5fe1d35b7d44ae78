/- What the functions of FnAnswers give, in plain terms. -/
import Derived.Test.YtndnlafnkknodaaFFnAnswers
import Derived.Test.YtndnlafnkknodaaTiPL
set_option linter.unusedVariables false
set_option linter.unusedSimpArgs false
set_option maxRecDepth 100000
namespace Go.Proofs.YtndnlafnkknodaaT
open Go
theorem iLe_eq (a b : Int) : iLe a b = decide (a ≤ b) := rfl
theorem iLt_eq (a b : Int) : iLt a b = decide (a < b) := rfl
theorem iEq_eq (a b : Int) : iEq a b = decide (a = b) := by by_cases h : a = b <;> simp [iEq, h]
theorem iNe_eq (a b : Int) : iNe a b = !decide (a = b) := by by_cases h : a = b <;> simp [iNe, h]
theorem bNot_eq (a : Bool) : bNot a = !a := rfl
/-- A loop that looks for the first element with a quality. -/
theorem iter_find {R : Type} {α : Type} {X : Type} {f : (X → Option R) → X → Option R} (s : Nat → X) (xs : List α) (p : α → Bool) (r : R) (e : Nat → R)
    (go : ∀ rec (i : Nat) (h : i < xs.length), p xs[i] = true → f rec (s i) = rec (s (i + 1))) (stop : ∀ rec (i : Nat) (h : i < xs.length), p xs[i] = false → f rec (s i) = some (e i)) (done : ∀ rec, f rec (s xs.length) = some r) {n : Nat} (hn : xs.length < n) :
    iter f n (s 0) = some (match xs.findIdx? (fun x => !p x) with | some i => e i | none => r) := by
  suffices H : ∀ d i n, i + d = xs.length → d < n → (∀ j (h : j < xs.length), j < i → p xs[j] = true) → iter f n (s i) = some (match xs.findIdx? (fun x => !p x) with | some i => e i | none => r) from H xs.length 0 n (by omega) hn (fun j _ h => by omega)
  intro d
  induction d with
  | zero =>
    intro i n hi hn hp
    obtain ⟨m, rfl⟩ : ∃ m, n = m + 1 := ⟨n - 1, by omega⟩
    obtain rfl : i = xs.length := by omega
    have : xs.findIdx? (fun x => !p x) = none := by
      rw [List.findIdx?_eq_none_iff]
      intro x hx
      obtain ⟨j, hj, rfl⟩ := List.mem_iff_getElem.1 hx
      simp [hp j hj (by omega)]
    rw [this]
    exact done _
  | succ d ih =>
    intro i n hi hn hp
    obtain ⟨m, rfl⟩ : ∃ m, n = m + 1 := ⟨n - 1, by omega⟩
    show f (iter f m) (s i) = _
    have hlt : i < xs.length := by omega
    by_cases hq : p xs[i] = false
    · rw [stop _ i hlt hq]
      have : xs.findIdx? (fun x => !p x) = some i := by
        rw [List.findIdx?_eq_some_iff_getElem]
        exact ⟨hlt, by simp [hq], fun j hj => by simp [hp j (by omega) hj]⟩
      rw [this]
    · have hq : p xs[i] = true := by simpa using hq
      rw [go _ i hlt hq]
      refine ih (i + 1) m (by omega) (by omega) fun j h hj => ?_
      rcases Nat.lt_or_ge j i with h' | h'
      · exact hp j h h'
      · obtain rfl : j = i := by omega
        exact hq
theorem getD_lt {α : Type} (d : α) (xs : List α) {i : Nat} (h : i < xs.length) : xs.getD i d = xs[i] := by
  rw [List.getD_eq_getElem?_getD, List.getElem?_eq_getElem h]; rfl
theorem bEq_eq (a b : Bool) : bEq a b = decide (a = b) := by cases a <;> cases b <;> rfl
theorem bNe_eq (a b : Bool) : bNe a b = !decide (a = b) := by cases a <;> cases b <;> rfl
theorem brB_nb {R : Type} (b : Bool) (x y : Option R) : brB (!b) x y = brB b y x := by cases b <;> rfl
theorem brB_dec {R : Type} (p : Prop) [Decidable p] (x y : Option R) : brB (decide p) x y = if p then x else y := by by_cases h : p <;> simp [h, brB]
theorem if_idx {R : Type} {i n : Nat} {x : Option R} (h : i < n) : (if 0 ≤ (i : Int) ∧ (i : Int) < (n : Int) then x else none) = x := if_pos (by omega)
theorem within_eq (k : Nat) (x a b : Int) : impl_within.f k x a b = some (decide (a ≤ x ∧ x ≤ b)) := by
  simp only [impl_within.f, iLt_eq, iLe_eq, iEq_eq, iNe_eq, bNot_eq, bEq_eq, bNe_eq, brB_nb, brB_dec, brB_true, brB_false, chk_idx, chk_len, chk_make, chk_sub, bnd_one, rLen_eq, rGet_nat, rSet_nat, rApp_eq, ↓reduceIte]; split <;> rename_i h <;> simp [h]
theorem implIsId_eq (k : Nat) (a : Int) : impl_IsId.f k a = some (decide (0 ≤ a ∧ a ≤ 255)) := by simp only [impl_IsId.f, within_eq, bnd_one]
/-- All are words. -/
def wordsOk (l : List Int) : Bool := l.all fun x => decide (0 ≤ x ∧ x ≤ 65535)
theorem findIdx_all {α : Type} (l : List α) (p : α → Bool) : (match l.findIdx? (fun x => !p x) with | some _ => false | none => true) = l.all p := by
  cases h : l.findIdx? (fun x => !p x) with
  | none =>
    rw [List.findIdx?_eq_none_iff] at h
    symm
    rw [List.all_eq_true]
    intro x hx
    simpa using h x hx
  | some i =>
    rw [List.findIdx?_eq_some_iff_getElem] at h
    obtain ⟨hi, h1, _⟩ := h
    symm
    rw [← Bool.not_eq_true, List.all_eq_true]
    intro hall
    have := hall _ (List.getElem_mem hi)
    simp [this] at h1
theorem found_iff {α : Type} (l : List α) (p : α → Bool) : iLe 0 (match l.findIdx? (fun x => !p x) with | some i => (i : Int) | none => -1) = !l.all p := by
  rw [← findIdx_all]
  cases l.findIdx? (fun x => !p x) with
  | none => rfl
  | some i => simp [iLe]
theorem isWord_eq (k : Nat) (x : Int) : impl_isWord.f k x = some (decide (0 ≤ x ∧ x ≤ 65535)) := by simp only [impl_isWord.f, within_eq, bnd_one]
theorem indexNotWord1 (l : List Int) (hl : l.length ≤ 4611686018427387904) (k : Nat) (hk : l.length < k) : slices_IndexFunc_int_impl_areWords_1.f k l = some (match l.findIdx? (fun x => !decide (0 ≤ x ∧ x ≤ 65535)) with | some i => (i : Int) | none => -1) := by
  simp only [slices_IndexFunc_int_impl_areWords_1.f, slices_IndexFunc_int_impl_areWords_1.l0]
  refine iter_find (f := fun (rec : (List Int × Int × Int) → Option Int) (x : List Int × Int × Int) => slices_IndexFunc_int_impl_areWords_1.s0 k rec x.1 x.2.1 x.2.2) (fun i => (l, rLen l, (i : Int))) l (fun x => decide (0 ≤ x ∧ x ≤ 65535)) (-1) (fun i => (i : Int)) (fun rec i hi hp => ?_) (fun rec i hi hp => ?_) (fun rec => ?_) hk
  · simp only [slices_IndexFunc_int_impl_areWords_1.s0, impl_areWords_1.f, isWord_eq, getD_lt _ _ hi, iLt_eq, iLe_eq, iEq_eq, iNe_eq, bNot_eq, bEq_eq, bNe_eq, brB_nb, brB_dec, brB_true, brB_false, chk_idx, chk_len, chk_make, chk_sub, bnd_one, rLen_eq, rGet_nat, rSet_nat, rApp_eq, ↓reduceIte]
    rw [if_pos (by omega), if_idx hi, next_id hi hl]
    rw [if_pos (of_decide_eq_true hp)]
  · simp only [slices_IndexFunc_int_impl_areWords_1.s0, impl_areWords_1.f, isWord_eq, getD_lt _ _ hi, iLt_eq, iLe_eq, iEq_eq, iNe_eq, bNot_eq, bEq_eq, bNe_eq, brB_nb, brB_dec, brB_true, brB_false, chk_idx, chk_len, chk_make, chk_sub, bnd_one, rLen_eq, rGet_nat, rSet_nat, rApp_eq, ↓reduceIte]
    rw [if_pos (by omega), if_idx hi]
    rw [if_neg (of_decide_eq_false hp)]
  · simp only [slices_IndexFunc_int_impl_areWords_1.s0, iLt_eq, iLe_eq, iEq_eq, iNe_eq, bNot_eq, bEq_eq, bNe_eq, brB_nb, brB_dec, brB_true, brB_false, chk_idx, chk_len, chk_make, chk_sub, bnd_one, rLen_eq, rGet_nat, rSet_nat, rApp_eq, ↓reduceIte]
    rw [if_neg (by omega)]
theorem areWords_ev (l : List Int) (hl : l.length ≤ 4611686018427387904) (k : Nat) (hk : l.length < k) : impl_areWords.f k l = some (wordsOk l) := by
  simp only [impl_areWords.f, slices_ContainsFunc_int_impl_areWords_1.f, indexNotWord1 l hl k hk, bnd_one, found_iff l (fun x => decide (0 ≤ x ∧ x ≤ 65535)), bNot_eq, Bool.not_not]
  rfl
theorem indexNotWord2 (l : List Int) (hl : l.length ≤ 4611686018427387904) (k : Nat) (hk : l.length < k) : slices_IndexFunc_int_impl_Packet__dataOk_1.f k l = some (match l.findIdx? (fun x => !decide (0 ≤ x ∧ x ≤ 65535)) with | some i => (i : Int) | none => -1) := by
  simp only [slices_IndexFunc_int_impl_Packet__dataOk_1.f, slices_IndexFunc_int_impl_Packet__dataOk_1.l0]
  refine iter_find (f := fun (rec : (List Int × Int × Int) → Option Int) (x : List Int × Int × Int) => slices_IndexFunc_int_impl_Packet__dataOk_1.s0 k rec x.1 x.2.1 x.2.2) (fun i => (l, rLen l, (i : Int))) l (fun x => decide (0 ≤ x ∧ x ≤ 65535)) (-1) (fun i => (i : Int)) (fun rec i hi hp => ?_) (fun rec i hi hp => ?_) (fun rec => ?_) hk
  · simp only [slices_IndexFunc_int_impl_Packet__dataOk_1.s0, impl_Packet__dataOk_1.f, isWord_eq, getD_lt _ _ hi, iLt_eq, iLe_eq, iEq_eq, iNe_eq, bNot_eq, bEq_eq, bNe_eq, brB_nb, brB_dec, brB_true, brB_false, chk_idx, chk_len, chk_make, chk_sub, bnd_one, rLen_eq, rGet_nat, rSet_nat, rApp_eq, ↓reduceIte]
    rw [if_pos (by omega), if_idx hi, next_id hi hl]
    rw [if_pos (of_decide_eq_true hp)]
  · simp only [slices_IndexFunc_int_impl_Packet__dataOk_1.s0, impl_Packet__dataOk_1.f, isWord_eq, getD_lt _ _ hi, iLt_eq, iLe_eq, iEq_eq, iNe_eq, bNot_eq, bEq_eq, bNe_eq, brB_nb, brB_dec, brB_true, brB_false, chk_idx, chk_len, chk_make, chk_sub, bnd_one, rLen_eq, rGet_nat, rSet_nat, rApp_eq, ↓reduceIte]
    rw [if_pos (by omega), if_idx hi]
    rw [if_neg (of_decide_eq_false hp)]
  · simp only [slices_IndexFunc_int_impl_Packet__dataOk_1.s0, iLt_eq, iLe_eq, iEq_eq, iNe_eq, bNot_eq, bEq_eq, bNe_eq, brB_nb, brB_dec, brB_true, brB_false, chk_idx, chk_len, chk_make, chk_sub, bnd_one, rLen_eq, rGet_nat, rSet_nat, rApp_eq, ↓reduceIte]
    rw [if_neg (by omega)]
/-- A packet is valid: n is how many data it has, w says that they are words. -/
def packP (a0 a1 a2 a3 a4 a5 a6 n : Int) : Prop := (0 ≤ a1 ∧ a1 ≤ 255) ∧ (
  (a0 = 1 ∧ (1 ≤ n ∧ n ≤ 8) ∧ (0 ≤ a3 ∧ a3 ≤ 65536 - n) ∧ a6 = 0 ∧ a2 = 0 ∧ a4 = 0 ∧ a5 = 0) ∨
  (a0 = 2 ∧ (1 ≤ n ∧ n ≤ 8) ∧ a3 = 0 ∧ a6 = 0 ∧ a2 = 0 ∧ a4 = 0 ∧ a5 = 0) ∨
  (a0 = 3 ∧ n = 0 ∧ (1 ≤ a4 ∧ a4 ≤ 64) ∧ (0 ≤ a3 ∧ a3 ≤ 65536 - a4) ∧ (0 ≤ a5 ∧ a5 ≤ 7) ∧ a6 = 0 ∧ a2 = 0) ∨
  (a0 = 4 ∧ n = 0 ∧ (0 ≤ a3 ∧ a3 ≤ 63) ∧ (0 ≤ a2 ∧ a2 ≤ 255) ∧ (0 ≤ a5 ∧ a5 ≤ 7) ∧ a6 = 0 ∧ a4 = 0) ∨
  (a0 = 5 ∧ n = 1 ∧ (0 ≤ a3 ∧ a3 ≤ 63) ∧ (0 ≤ a2 ∧ a2 ≤ 255) ∧ (0 ≤ a5 ∧ a5 ≤ 7) ∧ a6 = 0 ∧ a4 = 0) ∨
  (a0 = 6 ∧ a3 = 0 ∧ (0 ≤ a2 ∧ a2 ≤ 255) ∧ (0 ≤ a5 ∧ a5 ≤ 7) ∧ (0 ≤ a6 ∧ a6 ≤ 2) ∧ (0 ≤ a4 ∧ a4 ≤ 64) ∧ (n = 0 ∨ (a6 = 0 ∧ n ≤ 8 ∧ n ≤ a4))))
instance (a0 a1 a2 a3 a4 a5 a6 n : Int) : Decidable (packP a0 a1 a2 a3 a4 a5 a6 n) := by unfold packP; infer_instance
def packB (a0 a1 a2 a3 a4 a5 a6 : Int) (l : List Int) : Bool := wordsOk l && decide (packP a0 a1 a2 a3 a4 a5 a6 (l.length : Int))
theorem some_iff {b c : Bool} (h : b = true ↔ c = true) : some b = some c := by rw [Bool.eq_iff_iff.2 h]
/-- How many data a packet may have. -/
def dataP (a0 a4 a6 n : Int) : Prop := if a0 = 1 ∨ a0 = 2 then 1 ≤ n ∧ n ≤ 8 else if a0 = 5 then n = 1 else if a0 = 6 ∧ a6 = 0 then n ≤ 8 ∧ n ≤ a4 else n = 0
instance (a0 a4 a6 n : Int) : Decidable (dataP a0 a4 a6 n) := by unfold dataP; infer_instance
theorem dataOk_ev (a0 a1 a2 a3 a4 a5 a6 : Int) (l : List Int) (hl : l.length ≤ 4611686018427387904) (k : Nat) (hk : l.length < k) : impl_Packet__dataOk.f k a0 a1 a2 a3 a4 a5 a6 l = some (wordsOk l && decide (dataP a0 a4 a6 (l.length : Int))) := by
  simp only [impl_Packet__dataOk.f, slices_ContainsFunc_int_impl_Packet__dataOk_1.f, indexNotWord2 l hl k hk, bnd_one, found_iff l (fun x => decide (0 ≤ x ∧ x ≤ 65535)), within_eq]
  rw [show (l.all fun x => decide (0 ≤ x ∧ x ≤ 65535)) = wordsOk l from rfl]
  simp only [iLt_eq, iLe_eq, iEq_eq, iNe_eq, bNot_eq, bEq_eq, bNe_eq, brB_nb, brB_dec, brB_true, brB_false, chk_idx, chk_len, chk_make, chk_sub, bnd_one, rLen_eq, rGet_nat, rSet_nat, rApp_eq, ↓reduceIte]
  cases wordsOk l with
  | false => rfl
  | true =>
    simp only [iLt_eq, iLe_eq, iEq_eq, iNe_eq, bNot_eq, bEq_eq, bNe_eq, brB_nb, brB_dec, brB_true, brB_false, chk_idx, chk_len, chk_make, chk_sub, bnd_one, rLen_eq, rGet_nat, rSet_nat, rApp_eq, ↓reduceIte, Bool.true_and]
    unfold dataP
    by_cases b1 : a0 = 1
    · subst b1; simp only [Int.reduceEq, or_false, false_or, or_true, true_or, iLt_eq, iLe_eq, iEq_eq, iNe_eq, bNot_eq, bEq_eq, bNe_eq, brB_nb, brB_dec, brB_true, brB_false, chk_idx, chk_len, chk_make, chk_sub, bnd_one, rLen_eq, rGet_nat, rSet_nat, rApp_eq, ↓reduceIte]; (try rfl)
    by_cases b2 : a0 = 2
    · subst b2; simp only [Int.reduceEq, or_false, false_or, or_true, true_or, iLt_eq, iLe_eq, iEq_eq, iNe_eq, bNot_eq, bEq_eq, bNe_eq, brB_nb, brB_dec, brB_true, brB_false, chk_idx, chk_len, chk_make, chk_sub, bnd_one, rLen_eq, rGet_nat, rSet_nat, rApp_eq, ↓reduceIte]; (try rfl)
    by_cases b5 : a0 = 5
    · subst b5; simp only [Int.reduceEq, or_false, false_or, or_true, true_or, or_self, iLt_eq, iLe_eq, iEq_eq, iNe_eq, bNot_eq, bEq_eq, bNe_eq, brB_nb, brB_dec, brB_true, brB_false, chk_idx, chk_len, chk_make, chk_sub, bnd_one, rLen_eq, rGet_nat, rSet_nat, rApp_eq, ↓reduceIte]
    by_cases b6 : a0 = 6
    · subst b6; simp only [Int.reduceEq, or_false, false_or, or_true, true_or, or_self, true_and, iLt_eq, iLe_eq, iEq_eq, iNe_eq, bNot_eq, bEq_eq, bNe_eq, brB_nb, brB_dec, brB_true, brB_false, chk_idx, chk_len, chk_make, chk_sub, bnd_one, rLen_eq, rGet_nat, rSet_nat, rApp_eq, ↓reduceIte]; (repeat' split) <;> (refine some_iff ?_ <;> (try simp only [decide_eq_true_eq, Bool.false_eq_true, false_iff, true_iff, Int.reduceEq, false_or, or_false, false_and, true_and, and_true, and_false, true_or, or_true, iff_self, iff_false, iff_true] at *) <;> first | omega | (intro h; omega) | (constructor <;> intro h <;> omega) | trivial)
    simp only [b1, b2, b5, b6, or_self, false_and, iLt_eq, iLe_eq, iEq_eq, iNe_eq, bNot_eq, bEq_eq, bNe_eq, brB_nb, brB_dec, brB_true, brB_false, chk_idx, chk_len, chk_make, chk_sub, bnd_one, rLen_eq, rGet_nat, rSet_nat, rApp_eq, ↓reduceIte]
def addrP (a0 a3 a4 n : Int) : Prop := if a0 = 1 then (0 ≤ a3 ∧ a3 ≤ 65535) ∧ n ≤ 65536 - a3 else if a0 = 3 then (0 ≤ a3 ∧ a3 ≤ 65535) ∧ a4 ≤ 65536 - a3 else if a0 = 4 ∨ a0 = 5 then 0 ≤ a3 ∧ a3 ≤ 63 else a3 = 0
instance (a0 a3 a4 n : Int) : Decidable (addrP a0 a3 a4 n) := by unfold addrP; infer_instance
theorem addressOk_eq (k : Nat) (a0 a1 a2 a3 a4 a5 a6 : Int) (l : List Int) (h3 : (Lit.int .i64 a3).wf = true) : impl_Packet__addressOk.f k a0 a1 a2 a3 a4 a5 a6 l = some (decide (addrP a0 a3 a4 (l.length : Int))) := by
  rw [wf64] at h3
  simp only [impl_Packet__addressOk.f, within_eq, impl_Packet__words.f, iSub_w, w64, iLt_eq, iLe_eq, iEq_eq, iNe_eq, bNot_eq, bEq_eq, bNe_eq, brB_nb, brB_dec, brB_true, brB_false, chk_idx, chk_len, chk_make, chk_sub, bnd_one, rLen_eq, rGet_nat, rSet_nat, rApp_eq, ↓reduceIte]
  generalize (l.length : Int) = n
  unfold addrP
  by_cases b1 : a0 = 1
  · subst b1; simp only [Int.reduceEq, iLt_eq, iLe_eq, iEq_eq, iNe_eq, bNot_eq, bEq_eq, bNe_eq, brB_nb, brB_dec, brB_true, brB_false, chk_idx, chk_len, chk_make, chk_sub, bnd_one, rLen_eq, rGet_nat, rSet_nat, rApp_eq, ↓reduceIte]; (repeat' split) <;> (refine some_iff ?_ <;> (try simp only [decide_eq_true_eq, Bool.false_eq_true, false_iff, true_iff, Int.reduceEq, false_or, or_false, false_and, true_and, and_true, and_false, true_or, or_true, iff_self, iff_false, iff_true] at *) <;> first | omega | (intro h; omega) | (constructor <;> intro h <;> omega) | trivial)
  by_cases b3 : a0 = 3
  · subst b3; simp only [Int.reduceEq, iLt_eq, iLe_eq, iEq_eq, iNe_eq, bNot_eq, bEq_eq, bNe_eq, brB_nb, brB_dec, brB_true, brB_false, chk_idx, chk_len, chk_make, chk_sub, bnd_one, rLen_eq, rGet_nat, rSet_nat, rApp_eq, ↓reduceIte]; (repeat' split) <;> (refine some_iff ?_ <;> (try simp only [decide_eq_true_eq, Bool.false_eq_true, false_iff, true_iff, Int.reduceEq, false_or, or_false, false_and, true_and, and_true, and_false, true_or, or_true, iff_self, iff_false, iff_true] at *) <;> first | omega | (intro h; omega) | (constructor <;> intro h <;> omega) | trivial)
  by_cases b4 : a0 = 4
  · subst b4; simp only [Int.reduceEq, or_false, false_or, or_true, true_or, iLt_eq, iLe_eq, iEq_eq, iNe_eq, bNot_eq, bEq_eq, bNe_eq, brB_nb, brB_dec, brB_true, brB_false, chk_idx, chk_len, chk_make, chk_sub, bnd_one, rLen_eq, rGet_nat, rSet_nat, rApp_eq, ↓reduceIte]
  by_cases b5 : a0 = 5
  · subst b5; simp only [Int.reduceEq, or_false, false_or, or_true, true_or, iLt_eq, iLe_eq, iEq_eq, iNe_eq, bNot_eq, bEq_eq, bNe_eq, brB_nb, brB_dec, brB_true, brB_false, chk_idx, chk_len, chk_make, chk_sub, bnd_one, rLen_eq, rGet_nat, rSet_nat, rApp_eq, ↓reduceIte]
  simp only [b1, b3, b4, b5, or_self, iLt_eq, iLe_eq, iEq_eq, iNe_eq, bNot_eq, bEq_eq, bNe_eq, brB_nb, brB_dec, brB_true, brB_false, chk_idx, chk_len, chk_make, chk_sub, bnd_one, rLen_eq, rGet_nat, rSet_nat, rApp_eq, ↓reduceIte]
def lenP (a0 a4 : Int) : Prop := if a0 = 3 then 1 ≤ a4 ∧ a4 ≤ 64 else if a0 = 6 then 0 ≤ a4 ∧ a4 ≤ 64 else a4 = 0
instance (a0 a4 : Int) : Decidable (lenP a0 a4) := by unfold lenP; infer_instance
theorem lengthOk_eq (k : Nat) (a0 a1 a2 a3 a4 a5 a6 : Int) (l : List Int) : impl_Packet__lengthOk.f k a0 a1 a2 a3 a4 a5 a6 l = some (decide (lenP a0 a4)) := by
  simp only [impl_Packet__lengthOk.f, within_eq, iLt_eq, iLe_eq, iEq_eq, iNe_eq, bNot_eq, bEq_eq, bNe_eq, brB_nb, brB_dec, brB_true, brB_false, chk_idx, chk_len, chk_make, chk_sub, bnd_one, rLen_eq, rGet_nat, rSet_nat, rApp_eq, ↓reduceIte]
  unfold lenP
  (repeat' split) <;> rfl
theorem implIsPacket_ev (a0 a1 a2 a3 a4 a5 a6 : Int) (l : List Int) (hl : l.length ≤ 1048576) (h3 : (Lit.int .i64 a3).wf = true) (h4 : (Lit.int .i64 a4).wf = true) (k : Nat) (hk : l.length < k) : impl_IsPacket.f k a0 a1 a2 a3 a4 a5 a6 l = some (packB a0 a1 a2 a3 a4 a5 a6 l) := by
  by_cases b0 : 1 ≤ a0 ∧ a0 ≤ 6
  · simp only [impl_IsPacket.f, implIsId_eq, within_eq, dataOk_ev a0 a1 a2 a3 a4 a5 a6 l (by omega) k hk, addressOk_eq k a0 a1 a2 a3 a4 a5 a6 l h3, lengthOk_eq, bnd_one, iEq_eq, iNe_eq, brB_nb, bNot_eq, packB]
    rw [decide_eq_true b0]
    generalize wordsOk l = w
    generalize (l.length : Int) = n at *
    have : a0 = 1 ∨ a0 = 2 ∨ a0 = 3 ∨ a0 = 4 ∨ a0 = 5 ∨ a0 = 6 := by omega
    cases w with
    | false =>
      rcases this with rfl | rfl | rfl | rfl | rfl | rfl <;> simp only [Int.reduceEq, Int.reduceLE, decide_true, decide_false, bnd_one, brB_true, brB_false, brB_dec, and_self, and_true, and_false, true_and, false_and, Bool.false_and, ↓reduceIte] <;> (repeat' split) <;> rfl
    | true =>
      rcases this with rfl | rfl | rfl | rfl | rfl | rfl <;> simp only [Int.reduceEq, Int.reduceLE, decide_true, decide_false, bnd_one, brB_true, brB_false, brB_dec, and_self, and_true, and_false, true_and, false_and, Bool.true_and, dataP, packP, addrP, lenP, or_true, true_or, or_false, false_or, ↓reduceIte] <;> (repeat' split) <;> (refine some_iff ?_ <;> (try simp only [decide_eq_true_eq, Bool.false_eq_true, false_iff, true_iff, Int.reduceEq, false_or, or_false, false_and, true_and, and_true, and_false, true_or, or_true, iff_self, iff_false, iff_true] at *) <;> first | omega | (intro h; omega) | (constructor <;> intro h <;> omega) | trivial)
  · simp only [impl_IsPacket.f, within_eq, packB, bnd_one, decide_eq_false b0, bNot_eq, Bool.not_false, brB_true]
    rw [show decide (packP a0 a1 a2 a3 a4 a5 a6 (l.length : Int)) = false from decide_eq_false (by unfold packP; omega), Bool.and_false]
/-- The class of a packet. -/
def classB (p : Bool) (a0 : Int) : Int := if p = true then (if a0 = 1 ∨ a0 = 2 then 0 else if a0 = 6 then 2 else 1) else -1
theorem implClassOf_ev (a0 a1 a2 a3 a4 a5 a6 : Int) (l : List Int) (hl : l.length ≤ 1048576) (h3 : (Lit.int .i64 a3).wf = true) (h4 : (Lit.int .i64 a4).wf = true) (k : Nat) (hk : l.length < k) : impl_ClassOf.f k a0 a1 a2 a3 a4 a5 a6 l = some (classB (packB a0 a1 a2 a3 a4 a5 a6 l) a0) := by
  simp only [impl_ClassOf.f, impl_classOf.f, implIsPacket_ev a0 a1 a2 a3 a4 a5 a6 l hl h3 h4 k hk, classB, iLt_eq, iLe_eq, iEq_eq, iNe_eq, bNot_eq, bEq_eq, bNe_eq, brB_nb, brB_dec, brB_true, brB_false, chk_idx, chk_len, chk_make, chk_sub, bnd_one, rLen_eq, rGet_nat, rSet_nat, rApp_eq, ↓reduceIte]
  cases packB a0 a1 a2 a3 a4 a5 a6 l with
  | false => rfl
  | true =>
    simp only [iLt_eq, iLe_eq, iEq_eq, iNe_eq, bNot_eq, bEq_eq, bNe_eq, brB_nb, brB_dec, brB_true, brB_false, chk_idx, chk_len, chk_make, chk_sub, bnd_one, rLen_eq, rGet_nat, rSet_nat, rApp_eq, ↓reduceIte]
    by_cases b1 : a0 = 1
    · subst b1; rfl
    by_cases b2 : a0 = 2
    · subst b2; rfl
    by_cases b6 : a0 = 6
    · subst b6; rfl
    simp only [b1, b2, b6, or_self, iLt_eq, iLe_eq, iEq_eq, iNe_eq, bNot_eq, bEq_eq, bNe_eq, brB_nb, brB_dec, brB_true, brB_false, chk_idx, chk_len, chk_make, chk_sub, bnd_one, rLen_eq, rGet_nat, rSet_nat, rApp_eq, ↓reduceIte]

theorem rGet_in {α : Type} (d : α) (l : List α) {v : Int} (h : 0 ≤ v) : rGet d l v = l.getD v.toNat d := rfl
def noP : Int × Int × Int × Int × Int × Int × Int × List Int × Bool := (0, 0, 0, 0, 0, 0, 0, [], false)
/-- What the refusal of a packet gives. -/
def refB (c p1 p5 d s : Int) : Int × Int × Int × Int × Int × Int × Int × List Int × Bool := if c = 1 ∧ (0 ≤ d ∧ d ≤ 255) ∧ (1 ≤ s ∧ s ≤ 2) then (6, d, p1, 0, 0, p5, s, [], true) else noP
theorem implRefusal_ev (a0 a1 a2 a3 a4 a5 a6 : Int) (l : List Int) (d s : Int) (hl : l.length ≤ 1048576) (h3 : (Lit.int .i64 a3).wf = true) (h4 : (Lit.int .i64 a4).wf = true) (k : Nat) (hk : l.length < k) : impl_RefusalOf.f k a0 a1 a2 a3 a4 a5 a6 l d s = some (refB (classB (packB a0 a1 a2 a3 a4 a5 a6 l) a0) a1 a5 d s) := by
  simp only [impl_RefusalOf.f, implClassOf_ev a0 a1 a2 a3 a4 a5 a6 l hl h3 h4 k hk, implIsId_eq, iLt_eq, iLe_eq, iEq_eq, iNe_eq, bNot_eq, bEq_eq, bNe_eq, brB_nb, brB_dec, brB_true, brB_false, chk_idx, chk_len, chk_make, chk_sub, bnd_one, rLen_eq, rGet_nat, rSet_nat, rApp_eq, ↓reduceIte]
  generalize classB (packB a0 a1 a2 a3 a4 a5 a6 l) a0 = c
  unfold refB noP
  by_cases c1 : c = 1
  · by_cases c2 : 0 ≤ d ∧ d ≤ 255
    · by_cases c3 : s = 1
      · subst c3; simp [c1, c2]
      · by_cases c4 : s = 2
        · subst c4; simp [c1, c2]
        · rw [if_pos c1, if_pos c2, if_neg c3, if_neg c4, if_neg (by omega)]
    · rw [if_pos c1, if_neg c2, if_neg (fun h => c2 h.2.1)]
  · rw [if_neg c1, if_neg (fun h => c1 h.1)]
theorem iBit_and255 (x : Int) : 0 ≤ iBit .and .i64 x 255 ∧ iBit .and .i64 x 255 ≤ 255 := by
  have h : (BitVec.ofInt IntKind.i64.bits x &&& BitVec.ofInt IntKind.i64.bits 255).toNat ≤ 255 := by
    rw [BitVec.toNat_and]
    refine Nat.le_trans Nat.and_le_right ?_
    decide
  simp only [iBit]
  rw [wrap64, w64_id (by omega) (by omega)]
  omega
noncomputable def lnF (k : Nat) (rec : (List Int × Int × Int) → Option (List Int × Int × Int)) (x : List Int × Int × Int) : Option (List Int × Int × Int) := spec_l01New.s0 k rec x.1 x.2.1 x.2.2
theorem l01New_ev (c : List Int) (k : Nat) (hk : 4000 < k) : ∃ s, spec_l01New.f k c = some (c, 0, s) := by
  suffices H : ∀ (n i : Nat) (x : Int) (K : Nat), i + n = 4000 → n < K → ∃ s, iter (lnF k) K (c, x, (i : Int)) = some (c, 0, s) from H 4000 0 (iAdd .i64 98663 (rLen c)) k (by omega) hk
  intro n
  induction n with
  | zero =>
    intro i x K hi hK
    obtain ⟨m, rfl⟩ : ∃ m, K = m + 1 := ⟨K - 1, by omega⟩
    refine ⟨x, ?_⟩
    show spec_l01New.s0 k (iter (lnF k) m) c x (i : Int) = _
    generalize iter (lnF k) m = rec
    simp only [spec_l01New.s0, iLt_eq, iLe_eq, iEq_eq, iNe_eq, bNot_eq, bEq_eq, bNe_eq, brB_nb, brB_dec, brB_true, brB_false, chk_idx, chk_len, chk_make, chk_sub, bnd_one, rLen_eq, rGet_nat, rSet_nat, rApp_eq, ↓reduceIte]
    by_cases h : (i : Int) < (c.length : Int)
    · rw [if_pos h, if_neg (by omega)]
    · rw [if_neg h]
  | succ n ih =>
    intro i x K hi hK
    obtain ⟨m, rfl⟩ : ∃ m, K = m + 1 := ⟨K - 1, by omega⟩
    by_cases h : (i : Int) < (c.length : Int)
    · obtain ⟨s, hs⟩ := ih (i + 1) (iBit .and .i64 (iAdd .i64 (iAdd .i64 (iMul .i64 x 131) (iCnv .i64 (c.getD i 0))) 7) 1073741823) m (by omega) (by omega)
      refine ⟨s, ?_⟩
      show spec_l01New.s0 k (iter (lnF k) m) c x (i : Int) = _
      generalize iter (lnF k) m = rec at hs ⊢
      simp only [spec_l01New.s0, iLt_eq, iLe_eq, iEq_eq, iNe_eq, bNot_eq, bEq_eq, bNe_eq, brB_nb, brB_dec, brB_true, brB_false, chk_idx, chk_len, chk_make, chk_sub, bnd_one, rLen_eq, rGet_nat, rSet_nat, rApp_eq, ↓reduceIte]
      rw [if_pos h, if_pos (by omega), if_pos (by omega), next_id (n := 4000) (by omega) (by omega), hs]
    · refine ⟨x, ?_⟩
      show spec_l01New.s0 k (iter (lnF k) m) c x (i : Int) = _
      generalize iter (lnF k) m = rec
      simp only [spec_l01New.s0, iLt_eq, iLe_eq, iEq_eq, iNe_eq, bNot_eq, bEq_eq, bNe_eq, brB_nb, brB_dec, brB_true, brB_false, chk_idx, chk_len, chk_make, chk_sub, bnd_one, rLen_eq, rGet_nat, rSet_nat, rApp_eq, ↓reduceIte]
      rw [if_neg h]
theorem l01Byte_some (k : Nat) (c : List Int) (hc : c.length ≤ 2000000) (p s : Int) (hp : 0 ≤ p) : ∃ b p' s', spec_l01Byte.f k c p s = some (b, c, p', s') ∧ 0 ≤ b ∧ b ≤ 255 ∧ 0 ≤ p' := by
  simp only [spec_l01Byte.f, chk_nn, iLt_eq, brB_dec, chk_idx, rLen_eq]
  rw [if_pos (by omega), if_pos (by omega)]
  by_cases h : p < (c.length : Int)
  · rw [if_pos h, if_pos (by omega)]
    exact ⟨_, _, _, rfl, (iBit_and255 _).1, (iBit_and255 _).2, by rw [iAdd_id (by omega) (by omega)]; omega⟩
  · rw [if_neg h]
    exact ⟨_, _, _, rfl, (iBit_and255 _).1, (iBit_and255 _).2, hp⟩
theorem l01Below_some (k : Nat) (c : List Int) (hc : c.length ≤ 2000000) (p s n : Int) (hp : 0 ≤ p) (hn : 0 < n) : ∃ v p' s', spec_l01Below.f k n c p s = some (v, c, p', s') ∧ 0 ≤ v ∧ v < n ∧ 0 ≤ p' := by
  obtain ⟨b1, p1, s1, e1, h1, g1, q1⟩ := l01Byte_some k c hc p s hp
  obtain ⟨b2, p2, s2, e2, h2, g2, q2⟩ := l01Byte_some k c hc p1 s1 q1
  obtain ⟨b3, p3, s3, e3, h3, g3, q3⟩ := l01Byte_some k c hc p2 s2 q2
  obtain ⟨b4, p4, s4, e4, h4, g4, q4⟩ := l01Byte_some k c hc p3 s3 q3
  simp only [spec_l01Below.f, iLe_eq, brB_dec, e1, e2, e3, e4, bnd_one, chk_nz]
  rw [if_neg (by omega)]
  by_cases h : n ≤ 256
  · rw [if_pos h, if_neg (by omega)]
    exact ⟨_, _, _, rfl, Int.tmod_nonneg _ h1, Int.tmod_lt_of_pos _ hn, q1⟩
  · rw [if_neg h, if_neg (by omega)]
    have e : iAdd .i64 (iAdd .i64 (iAdd .i64 (iMul .i64 b1 16777216) (iMul .i64 b2 65536)) (iMul .i64 b3 256)) b4 = b1 * 16777216 + b2 * 65536 + b3 * 256 + b4 := by
      simp only [iAdd_w, iMul_w, w64]; omega
    rw [e]
    exact ⟨_, _, _, rfl, Int.tmod_nonneg _ (by omega), Int.tmod_lt_of_pos _ hn, q4⟩
theorem l01PickInt_some (k : Nat) (l c : List Int) (hc : c.length ≤ 2000000) (p s : Int) (hp : 0 ≤ p) (hl : 0 < l.length) : ∃ v p' s', spec_l01PickInt.f k l c p s = some (v, c, p', s') ∧ v ∈ l ∧ 0 ≤ p' := by
  obtain ⟨v, p1, s1, e1, h1, g1, q1⟩ := l01Below_some k c hc p s (l.length : Int) hp (by omega)
  simp only [spec_l01PickInt.f, rLen_eq, e1, bnd_one, chk_idx]
  rw [if_pos ⟨h1, g1⟩, rGet_in _ _ h1, getD_lt 0 l (by omega)]
  exact ⟨_, _, _, rfl, List.getElem_mem _, q1⟩
noncomputable def dpF (k : Nat) (rec : (List Int × Int × List Int × Int × Int) → Option (List Int)) (x : List Int × Int × List Int × Int × Int) : Option (List Int) := spec_DrawPlaces.s0 k rec x.1 x.2.1 x.2.2.1 x.2.2.2.1 x.2.2.2.2
/-- Twelve places. -/
theorem drawPlaces_ev (c : List Int) (hc : c.length ≤ 2000000) (k : Nat) (hk : 4000 < k) : ∃ l : List Int, spec_DrawPlaces.f k c = some l ∧ l.length = 12 ∧ ∀ x ∈ l, 0 ≤ x ∧ x < 10000 := by
  obtain ⟨s0, h0⟩ := l01New_ev c k hk
  suffices H : ∀ (n i : Nat) (x : List Int) (p s : Int) (K : Nat), i + n = 12 → n < K → x.length = i → 0 ≤ p → (∀ y ∈ x, 0 ≤ y ∧ y < 10000) → ∃ l : List Int, iter (dpF k) K (x, (i : Int), c, p, s) = some l ∧ l.length = 12 ∧ ∀ x ∈ l, 0 ≤ x ∧ x < 10000 by
    obtain ⟨l, h, hl⟩ := H 12 0 [] 0 s0 k (by omega) (by omega) rfl (by omega) (fun y hy => by cases hy)
    refine ⟨l, ?_, hl⟩
    simp only [spec_DrawPlaces.f, h0, bnd_one]
    exact h
  intro n
  induction n with
  | zero =>
    intro i x p s K hi hK hx hp hxs
    obtain ⟨m, rfl⟩ : ∃ m, K = m + 1 := ⟨K - 1, by omega⟩
    refine ⟨x, ?_, by omega, hxs⟩
    show spec_DrawPlaces.s0 k (iter (dpF k) m) x (i : Int) c p s = _
    generalize iter (dpF k) m = rec
    simp only [spec_DrawPlaces.s0, iLt_eq, brB_dec]
    rw [if_neg (by omega)]
  | succ n ih =>
    intro i x p s K hi hK hx hp hxs
    obtain ⟨m, rfl⟩ : ∃ m, K = m + 1 := ⟨K - 1, by omega⟩
    obtain ⟨v, p1, s1, e1, h1, g1, q1⟩ := l01Below_some k c hc p s 10000 hp (by omega)
    obtain ⟨l, h, hl⟩ := ih (i + 1) (x ++ [v]) p1 s1 m (by omega) (by omega) (by simp [hx]) q1 (fun y hy => by
      rcases List.mem_append.1 hy with hy | hy
      · exact hxs y hy
      · simp at hy; subst hy; exact ⟨h1, g1⟩)
    refine ⟨l, ?_, hl⟩
    show spec_DrawPlaces.s0 k (iter (dpF k) m) x (i : Int) c p s = _
    generalize iter (dpF k) m = rec at h ⊢
    simp only [spec_DrawPlaces.s0, iLt_eq, brB_dec, e1, bnd_one, chk_len, rLen_eq, rApp_eq]
    rw [if_pos (by omega), if_pos (by simp only [List.length_append, List.length_cons, List.length_nil]; omega), next_id (n := 12) (by omega) (by omega), h]
theorem sameInts_refl (xs : List Int) (hn : xs.length ≤ 4611686018427387904) (k : Nat) (hk : xs.length < k) : laws_sameInts.f k xs xs = some true := by
  simp only [laws_sameInts.f, laws_sameInts.l0, iLt_eq, iLe_eq, iEq_eq, iNe_eq, bNot_eq, bEq_eq, bNe_eq, brB_nb, brB_dec, brB_true, brB_false, chk_idx, chk_len, chk_make, chk_sub, bnd_one, rLen_eq, rGet_nat, rSet_nat, rApp_eq, ↓reduceIte]
  refine iter_upto (f := fun (rec : (List Int × List Int × Int) → Option Bool) (x : List Int × List Int × Int) => laws_sameInts.s0 k rec x.1 x.2.1 x.2.2) (fun i => (xs, xs, (i : Int))) xs.length (fun rec i hi => ?_) (fun rec => ?_) hk
  · simp only [laws_sameInts.s0, iLt_eq, iLe_eq, iEq_eq, iNe_eq, bNot_eq, bEq_eq, bNe_eq, brB_nb, brB_dec, brB_true, brB_false, chk_idx, chk_len, chk_make, chk_sub, bnd_one, rLen_eq, rGet_nat, rSet_nat, rApp_eq, ↓reduceIte]
    rw [if_pos (by omega), if_idx hi, if_idx hi, next_id hi hn]
  · simp only [laws_sameInts.s0, iLt_eq, iLe_eq, iEq_eq, iNe_eq, bNot_eq, bEq_eq, bNe_eq, brB_nb, brB_dec, brB_true, brB_false, chk_idx, chk_len, chk_make, chk_sub, bnd_one, rLen_eq, rGet_nat, rSet_nat, rApp_eq, ↓reduceIte]
    rw [if_neg (by omega)]

/-- It gives something that is so. -/
def Yd {R : Type} (x : Option R) (Q : R → Prop) : Prop := ∃ r, x = some r ∧ Q r
theorem Yd.one {R : Type} {r : R} {Q : R → Prop} (h : Q r) : Yd (some r) Q := ⟨r, rfl, h⟩
theorem Yd.bnd {A R : Type} {x : Option A} {f : A → Option R} {P : A → Prop} {Q : R → Prop} (h : Yd x P) (hf : ∀ a, P a → Yd (f a) Q) : Yd (bnd x f) Q := by
  obtain ⟨a, e, ha⟩ := h
  subst e
  exact hf a ha
theorem Yd.br {R : Type} {b : Bool} {x y : Option R} {Q : R → Prop} (hx : b = true → Yd x Q) (hy : b = false → Yd y Q) : Yd (brB b x y) Q := by
  cases b with
  | true => exact hx rfl
  | false => exact hy rfl
theorem Yd.eq {R : Type} {a b : Int} {x y : Option R} {Q : R → Prop} (hx : a = b → Yd x Q) (hy : ¬ a = b → Yd y Q) : Yd (brB (iEq a b) x y) Q := by
  rw [iEq_eq, brB_dec]; split
  · exact hx ‹_›
  · exact hy ‹_›
theorem Yd.lt {R : Type} {a b : Int} {x y : Option R} {Q : R → Prop} (hx : a < b → Yd x Q) (hy : ¬ a < b → Yd y Q) : Yd (brB (iLt a b) x y) Q := by
  rw [iLt_eq, brB_dec]; split
  · exact hx ‹_›
  · exact hy ‹_›
theorem Yd.imp {R : Type} {x : Option R} {P Q : R → Prop} (h : Yd x P) (hi : ∀ r, P r → Q r) : Yd x Q := by
  obtain ⟨r, e, hr⟩ := h
  exact ⟨r, e, hi r hr⟩
theorem Yd.len {R : Type} {n b : Int} {x : Option R} {Q : R → Prop} (h : n * b ≤ 35184372088832) (hx : Yd x Q) : Yd (chk (cLen n b) x) Q := by rw [chk_len, if_pos h]; exact hx
theorem Yd.idx {R : Type} {i n : Int} {x : Option R} {Q : R → Prop} (h : 0 ≤ i ∧ i < n) (hx : Yd x Q) : Yd (chk (cIdx i n) x) Q := by rw [chk_idx, if_pos h]; exact hx
theorem below_bnd {R : Type} {k : Nat} {c : List Int} {p s n : Int} {f : Int × List Int × Int × Int → Option R} {Q : R → Prop} (hc : c.length ≤ 2000000) (hp : 0 ≤ p) (hn : 0 < n)
    (h : ∀ v p' s', 0 ≤ v → v < n → 0 ≤ p' → Yd (f (v, c, p', s')) Q) : Yd (bnd (spec_l01Below.f k n c p s) f) Q := by
  obtain ⟨v, p1, s1, e1, h1, g1, q1⟩ := l01Below_some k c hc p s n hp hn
  rw [e1]
  exact h v p1 s1 h1 g1 q1
theorem pick_bnd {R : Type} {k : Nat} {l c : List Int} {p s : Int} {f : Int × List Int × Int × Int → Option R} {Q : R → Prop} (hc : c.length ≤ 2000000) (hp : 0 ≤ p) (hl : 0 < l.length)
    (h : ∀ v p' s', v ∈ l → 0 ≤ p' → Yd (f (v, c, p', s')) Q) : Yd (bnd (spec_l01PickInt.f k l c p s) f) Q := by
  obtain ⟨v, p1, s1, e1, m1, q1⟩ := l01PickInt_some k l c hc p s hp hl
  rw [e1]
  exact h v p1 s1 m1 q1
/-- A loop that makes something of its state in at most N rounds. -/
theorem iter_yd {X R : Type} {f : (X → Option R) → X → Option R} {I : Nat → X → Prop} {Q : R → Prop} (N : Nat)
    (step : ∀ rec i x, i ≤ N → I i x → (∀ x', i < N → I (i + 1) x' → ∃ r, rec x' = some r ∧ Q r) → ∃ r, f rec x = some r ∧ Q r) {n : Nat} (hn : N < n) {x : X} (hx : I 0 x) : ∃ r, iter f n x = some r ∧ Q r := by
  suffices H : ∀ d i n x, i + d = N → d < n → I i x → ∃ r, iter f n x = some r ∧ Q r from H N 0 n x (by omega) hn hx
  intro d
  induction d with
  | zero =>
    intro i n x hi hn hx
    obtain ⟨m, rfl⟩ : ∃ m, n = m + 1 := ⟨n - 1, by omega⟩
    exact step _ i x (by omega) hx fun x' h => by omega
  | succ d ih =>
    intro i n x hi hn hx
    obtain ⟨m, rfl⟩ : ∃ m, n = m + 1 := ⟨n - 1, by omega⟩
    exact step _ i x (by omega) hx fun x' _ hx' => ih (i + 1) m x' (by omega) (by omega) hx'
theorem l04Data_yd (k : Nat) (n : Nat) (hn : n ≤ 1000) (hk : 4000 < k) (c : List Int) (hc : c.length ≤ 2000000) (p s : Int) (hp : 0 ≤ p) : Yd (spec_l04Data.f k (n : Int) c p s) fun r => r.2.1 = c ∧ 0 ≤ r.2.2.1 ∧ r.1.length = n ∧ wordsOk r.1 = true := by
  refine iter_yd (f := fun (rec : (Int × List Int × Int × List Int × Int × Int) → Option (List Int × List Int × Int × Int)) (x : Int × List Int × Int × List Int × Int × Int) => spec_l04Data.s0 k rec x.1 x.2.1 x.2.2.1 x.2.2.2.1 x.2.2.2.2.1 x.2.2.2.2.2)
    (I := fun i x => x.1 = (n : Int) ∧ x.2.1.length = i ∧ wordsOk x.2.1 = true ∧ x.2.2.1 = (i : Int) ∧ x.2.2.2.1 = c ∧ 0 ≤ x.2.2.2.2.1) (Q := fun r : List Int × List Int × Int × Int => r.2.1 = c ∧ 0 ≤ r.2.2.1 ∧ r.1.length = n ∧ wordsOk r.1 = true) n (fun rec i x hi hx hr => ?_) (by omega) ⟨rfl, rfl, rfl, rfl, rfl, hp⟩
  obtain ⟨n', l, j, c', p', s'⟩ := x
  obtain ⟨hn', hl, hw, hj, hc', hp'⟩ := hx
  simp only at hn' hl hw hj hc' hp'
  subst hn' hj hc'
  show Yd (spec_l04Data.s0 k rec (n : Int) l (i : Int) c' p' s') _
  unfold spec_l04Data.s0
  refine Yd.lt (fun h => ?_) fun h => Yd.one ⟨rfl, hp', by show l.length = n; have := hr; omega, hw⟩
  refine below_bnd hc hp' (by omega) fun y0 p1 s1 g0 g1 q1 => ?_
  dsimp only
  refine below_bnd hc q1 (by omega) fun y1 p2 s2 g2 g3 q2 => ?_
  dsimp only
  refine pick_bnd hc q2 (by simp) fun v p3 s3 g4 q3 => ?_
  dsimp only
  simp only [rApp_eq, rLen_eq, List.length_append, List.length_cons, List.length_nil, hl]
  refine Yd.len (by omega) ?_
  rw [next_id (i := i) (n := n) (by omega) (by omega)]
  refine hr _ (by omega) ⟨rfl, by simp [hl], ?_, rfl, rfl, q3⟩
  simp only [wordsOk, List.all_append, List.all_cons, List.all_nil, Bool.and_true, Bool.and_eq_true, decide_eq_true_eq] at hw ⊢
  refine ⟨hw, ?_⟩
  simp only [List.mem_cons, List.not_mem_nil, or_false] at g4
  omega
/-- How long the next piece is. -/
def mOf (pay a : Int) (n : Nat) : Nat := (iMin (pay - a.tmod pay) (n : Int)).toNat
theorem mOf_ok {pay a : Int} {n : Nat} (hp : 1 ≤ pay ∧ pay ≤ 8) (ha : 0 ≤ a) (hn : 0 < n) : 1 ≤ mOf pay a n ∧ mOf pay a n ≤ n ∧ mOf pay a n ≤ 8 ∧ iMin (pay - a.tmod pay) (n : Int) = (mOf pay a n : Int) := by
  have h0 := Int.tmod_nonneg pay ha
  have h1 := Int.tmod_lt_of_pos a (show 0 < pay by omega)
  unfold mOf iMin
  split <;> omega
/-- The pieces of a range. -/
def pcsL (pay : Int) : Nat → Int → Nat → List (Int × Int)
  | 0, _, _ => []
  | f + 1, a, n => if n = 0 then [] else (a, (mOf pay a n : Int)) :: pcsL pay f (a + mOf pay a n) (n - mOf pay a n)
theorem pcsL_len (pay : Int) : ∀ (f : Nat) (a : Int) (n : Nat), (pcsL pay f a n).length ≤ f
  | 0, _, _ => Nat.le_refl _
  | f + 1, a, n => by
    simp only [pcsL]
    split
    · simp
    · have := pcsL_len pay f (a + mOf pay a n) (n - mOf pay a n)
      simp only [List.length_cons]; omega
noncomputable def srF (k : Nat) (rec : (Int × Int × Int × (List (Int × Int))) → Option (List (Int × Int))) (x : Int × Int × Int × (List (Int × Int))) : Option (List (Int × Int)) := impl_SplitRange.s0 k rec x.1 x.2.1 x.2.2.1 x.2.2.2
theorem splitLoop (k : Nat) (pay : Int) (hp : 1 ≤ pay ∧ pay ≤ 8) : ∀ (f : Nat) (a : Int) (n : Nat) (out : List (Int × Int)) (K : Nat), n ≤ f → f < K → 0 ≤ a → a + n ≤ 65536 → out.length + n ≤ 100 → iter (srF k) K (a, (n : Int), pay, out) = some (out ++ pcsL pay f a n)
  | f, a, n, out, 0, _, hK, _, _, _ => by omega
  | 0, a, n, out, K + 1, hn, hK, h0, h1, h2 => by
    obtain rfl : n = 0 := by omega
    show impl_SplitRange.s0 k (iter (srF k) K) a ((0 : Nat) : Int) pay out = _
    generalize iter (srF k) K = rec
    simp only [impl_SplitRange.s0, iLt_eq, brB_dec, pcsL, List.append_nil]
    rw [if_neg (by omega)]
  | f + 1, a, n, out, K + 1, hn, hK, h0, h1, h2 => by
    show impl_SplitRange.s0 k (iter (srF k) K) a (n : Int) pay out = _
    by_cases hz : n = 0
    · subst hz
      generalize iter (srF k) K = rec
      simp only [impl_SplitRange.s0, iLt_eq, brB_dec, pcsL, ↓reduceIte, List.append_nil]
      rw [if_neg (by omega)]
    · obtain ⟨m1, m2, m3, m4⟩ := mOf_ok (a := a) hp h0 (Nat.pos_of_ne_zero hz)
      have t0 := Int.tmod_nonneg pay h0
      have t1 := Int.tmod_lt_of_pos a (show 0 < pay by omega)
      have ih := splitLoop k pay hp f (a + mOf pay a n) (n - mOf pay a n) (out ++ [(a, (mOf pay a n : Int))]) K (by omega) (by omega) (by omega) (by omega) (by simp only [List.length_append, List.length_cons, List.length_nil]; omega)
      simp only [impl_SplitRange.s0, iLt_eq, brB_dec, chk_nz, chk_len, rLen_eq, rApp_eq, pcsL, if_neg hz]
      rw [if_pos (by omega), if_neg (by omega), show iRem a pay = a.tmod pay from rfl, iSub_id (a := pay) (by omega) (by omega), m4, if_pos (by simp only [List.length_append, List.length_cons, List.length_nil]; omega), iAdd_id (by omega) (by omega), iSub_id (by omega) (by omega),
        show (n : Int) - (mOf pay a n : Int) = ((n - mOf pay a n : Nat) : Int) by omega, ih]
      simp
theorem isPayload_eq (k : Nat) (n : Int) : impl_IsPayload.f k n = some (decide (n = 1 ∨ n = 2 ∨ n = 4 ∨ n = 8)) := by
  simp only [impl_IsPayload.f, iLt_eq, iLe_eq, iEq_eq, iNe_eq, bNot_eq, bEq_eq, bNe_eq, brB_nb, brB_dec, brB_true, brB_false, chk_idx, chk_len, chk_make, chk_sub, bnd_one, rLen_eq, rGet_nat, rSet_nat, rApp_eq, ↓reduceIte]
  by_cases h1 : n = 1
  · subst h1; rfl
  by_cases h2 : n = 2
  · subst h2; rfl
  by_cases h3 : n = 4
  · subst h3; rfl
  simp [h1, h2, h3]
theorem splitRange_ev (a : Int) (n : Nat) (pay : Int) (hp : pay = 1 ∨ pay = 2 ∨ pay = 4 ∨ pay = 8) (h0 : 0 ≤ a) (h1 : a + n ≤ 65536) (hn : 1 ≤ n ∧ n ≤ 64) (k : Nat) (hk : 100 < k) : impl_SplitRange.f k a (n : Int) pay = some (pcsL pay n a n) := by
  have h := splitLoop k pay (by omega) n a n [] k (by omega) (by omega) h0 h1 (by simp; omega)
  simp only [impl_SplitRange.f, isPayload_eq, within_eq, bnd_one, decide_eq_true hp, bNot_eq, brB_nb, brB_true]
  rw [iSub_id (by omega) (by omega), decide_eq_true (show 1 ≤ (n : Int) ∧ (n : Int) ≤ 64 by omega), decide_eq_true (show 0 ≤ a ∧ a ≤ 65536 - (n : Int) by omega)]
  exact h
/-- The answer of one piece. -/
def ansP (from_ by_ tag a0 : Int) (d : List Int) (p : Int × Int) : Int × Int × Int × Int × Int × Int × Int × List Int :=
  (6, by_, from_, 0, (d.length : Int) - (p.1 - a0), tag, 0, (d.take (p.1 - a0 + p.2).toNat).drop (p.1 - a0).toNat)
/-- The answers to a read, as their rest is worked off. -/
def ansL (pay from_ by_ tag : Int) : Nat → Int → List Int → List (Int × Int × Int × Int × Int × Int × Int × List Int)
  | 0, _, _ => []
  | f + 1, a, d => if d.length = 0 then [] else (6, by_, from_, 0, (d.length : Int), tag, 0, d.take (mOf pay a d.length)) :: ansL pay from_ by_ tag f (a + mOf pay a d.length) (d.drop (mOf pay a d.length))
theorem ans_map (pay from_ by_ tag a0 : Int) (hp : 1 ≤ pay ∧ pay ≤ 8) (h0 : 0 ≤ a0) (d : List Int) : ∀ (f o : Nat), o ≤ d.length → (pcsL pay f (a0 + o) (d.length - o)).map (ansP from_ by_ tag a0 d) = ansL pay from_ by_ tag f (a0 + o) (d.drop o)
  | 0, o, _ => rfl
  | f + 1, o, ho => by
    simp only [pcsL, ansL, List.length_drop]
    by_cases hz : d.length - o = 0
    · rw [if_pos hz, if_pos hz]; rfl
    · rw [if_neg hz, if_neg hz]
      obtain ⟨m1, m2, m3, m4⟩ := mOf_ok (a := a0 + o) hp (by omega) (Nat.pos_of_ne_zero hz)
      generalize mOf pay (a0 + o) (d.length - o) = m at *
      have ih := ans_map pay from_ by_ tag a0 hp h0 d f (o + m) (by omega)
      rw [show a0 + (o : Int) + (m : Int) = a0 + ((o + m : Nat) : Int) by omega, show d.length - o - m = d.length - (o + m) by omega, List.map_cons, ih, List.drop_drop]
      congr 1
      simp only [ansP]
      rw [show a0 + (o : Int) - a0 = (o : Int) by omega, show ((o : Int) + (m : Int)).toNat = o + m by omega, Int.toNat_natCast, show (d.length : Int) - (o : Int) = ((d.length - o : Nat) : Int) by omega]
      congr 7
      rw [List.drop_take, show o + m - o = m by omega]
theorem pcs_in (pay a0 : Int) (hp : 1 ≤ pay ∧ pay ≤ 8) (h0 : 0 ≤ a0) (n : Nat) : ∀ (f o : Nat), o ≤ n → ∀ p ∈ pcsL pay f (a0 + o) (n - o), 0 ≤ p.1 - a0 ∧ 0 ≤ p.2 ∧ p.1 - a0 + p.2 ≤ n
  | 0, o, _, p, hm => by simp [pcsL] at hm
  | f + 1, o, ho, p, hm => by
    simp only [pcsL] at hm
    split at hm
    · simp at hm
    · rename_i hz
      obtain ⟨m1, m2, m3, m4⟩ := mOf_ok (a := a0 + o) hp (by omega) (Nat.pos_of_ne_zero hz)
      generalize mOf pay (a0 + o) (n - o) = m at *
      rcases List.mem_cons.1 hm with rfl | hm
      · exact ⟨by show 0 ≤ a0 + (o : Int) - a0; omega, by show (0 : Int) ≤ m; omega, by show a0 + (o : Int) - a0 + (m : Int) ≤ n; omega⟩
      · rw [show a0 + (o : Int) + (m : Int) = a0 + ((o + m : Nat) : Int) by omega, show n - o - m = n - (o + m) by omega] at hm
        exact pcs_in pay a0 hp h0 n f (o + m) (by omega) p hm
/-- The answers to a valid read. -/
theorem answersTo_ev (p1 p3 p5 by_ pay : Int) (d : List Int) (hd : 1 ≤ d.length ∧ d.length ≤ 64) (hw : wordsOk d = true) (h1 : 0 ≤ p1 ∧ p1 ≤ 255) (h3 : 0 ≤ p3) (h4 : p3 + d.length ≤ 65536) (h5 : 0 ≤ p5 ∧ p5 ≤ 7) (hb : 0 ≤ by_ ∧ by_ ≤ 255) (hp : pay = 1 ∨ pay = 2 ∨ pay = 4 ∨ pay = 8) (k : Nat) (hk : 200 < k) :
    impl_AnswersTo.f k 3 p1 0 p3 (d.length : Int) p5 0 [] by_ d pay = some (ansL pay p1 by_ p5 d.length p3 d) := by
  have hpk : packB 3 p1 0 p3 (d.length : Int) p5 0 [] = true := by
    simp only [packB, wordsOk, List.all_nil, Bool.true_and, decide_eq_true_eq]
    exact ⟨h1, .inr (.inr (.inl ⟨rfl, rfl, by omega, by omega, h5, rfl, rfl⟩))⟩
  have hm := ans_map pay p1 by_ p5 p3 (by omega) h3 d d.length 0 (by omega)
  have hi := pcs_in pay p3 (by omega) h3 d.length d.length 0 (by omega)
  simp only [Nat.sub_zero, List.drop_zero, show p3 + ((0 : Nat) : Int) = p3 by omega] at hm hi
  simp only [impl_AnswersTo.f, implIsPacket_ev 3 p1 0 p3 (d.length : Int) p5 0 [] (by simp) (by rw [wf64]; omega) (by rw [wf64]; omega) k (by simp; omega), hpk, implIsId_eq, areWords_ev d (by omega) k (by omega), hw, isPayload_eq, decide_eq_true hp, decide_eq_true hb, splitRange_ev p3 d.length pay hp h3 h4 hd k (by omega),
    bnd_one, bNot_eq, brB_nb, brB_true, rLen_eq, iNe_eq, decide_true, brB_true]
  have hl := pcsL_len pay d.length p3 d.length
  generalize pcsL pay d.length p3 d.length = pl at *
  rw [← hm]
  have h := iter_upto (f := fun (rec : (Int × List Int × (List (Int × Int × Int × Int × Int × Int × Int × List Int)) × (List (Int × Int)) × Int × Int × Int × Int × Int × Int × Int × Int × Int × List Int) → Option (List (Int × Int × Int × Int × Int × Int × Int × List Int))) (x : Int × List Int × (List (Int × Int × Int × Int × Int × Int × Int × List Int)) × (List (Int × Int)) × Int × Int × Int × Int × Int × Int × Int × Int × Int × List Int) => impl_AnswersTo.s0 k rec x.1 x.2.1 x.2.2.1 x.2.2.2.1 x.2.2.2.2.1 x.2.2.2.2.2.1 x.2.2.2.2.2.2.1 x.2.2.2.2.2.2.2.1 x.2.2.2.2.2.2.2.2.1 x.2.2.2.2.2.2.2.2.2.1 x.2.2.2.2.2.2.2.2.2.2.1 x.2.2.2.2.2.2.2.2.2.2.2.1 x.2.2.2.2.2.2.2.2.2.2.2.2.1 x.2.2.2.2.2.2.2.2.2.2.2.2.2)
    (fun i => (by_, d, (pl.take i).map (ansP p1 by_ p5 p3 d), pl, (pl.length : Int), (i : Int), 3, p1, 0, p3, (d.length : Int), p5, 0, [])) pl.length (r := pl.map (ansP p1 by_ p5 p3 d)) (fun rec i hj => ?_) (fun rec => ?_) (n := k) (by omega)
  · exact h
  · obtain ⟨q1, q2, q3⟩ := hi pl[i] (List.getElem_mem hj)
    have e : rGet (0, 0) pl (i : Int) = pl[i] := getD_lt _ _ hj
    have et : (pl.take (i + 1)).map (ansP p1 by_ p5 p3 d) = (pl.take i).map (ansP p1 by_ p5 p3 d) ++ [ansP p1 by_ p5 p3 d pl[i]] := by rw [List.take_succ_eq_append_getElem hj, List.map_append]; rfl
    have lt : ((pl.take i).map (ansP p1 by_ p5 p3 d)).length = i := by simp; omega
    rw [et]
    simp only [impl_AnswersTo.s0, slices_Clone_int.f, e, iLt_eq, brB_dec, chk_idx, chk_sub, chk_len, rLen_eq, rApp_eq]
    generalize pl[i] = pc at *
    obtain ⟨b, m⟩ := pc
    simp only at q1 q2 q3
    dsimp only
    have hs : (rSub d (b - p3) (b - p3 + m)).length ≤ d.length := by simp only [rSub, List.length_drop, List.length_take]; omega
    rw [if_pos (by omega), if_idx hj, iSub_id (a := b) (by omega) (by omega), iAdd_id (a := b - p3) (by omega) (by omega), if_pos (by omega), iSub_id (a := (d.length : Int)) (by omega) (by omega), next_id hj (by omega), if_pos (by omega)]
    rw [bnd_one, if_pos (by simp only [List.length_append, List.length_cons, List.length_nil, lt]; omega)]
    simp only [ansP, rSub]
  · simp only [impl_AnswersTo.s0, iLt_eq, brB_dec, List.take_length]
    rw [if_neg (by omega)]
theorem words_take {d : List Int} (h : wordsOk d = true) (m : Nat) : wordsOk (d.take m) = true := by
  simp only [wordsOk, List.all_eq_true] at h ⊢
  exact fun x hx => h x (List.mem_of_mem_take hx)
theorem drop_cons_get {α : Type} {l t : List α} {i : Nat} {x : α} (h : l.drop i = x :: t) (d : α) : i < l.length ∧ rGet d l (i : Int) = x ∧ l.drop (i + 1) = t := by
  have hi : i < l.length := by
    rcases Nat.lt_or_ge i l.length with h' | h'
    · exact h'
    · rw [List.drop_eq_nil_of_le h'] at h; cases h
  rw [List.drop_eq_getElem_cons hi] at h
  injection h with h1 h2
  exact ⟨hi, (getD_lt d l hi).trans h1, h2⟩
theorem ans_pack {from_ by_ tag : Int} (hf : 0 ≤ from_ ∧ from_ ≤ 255) (hb : 0 ≤ by_ ∧ by_ ≤ 255) (ht : 0 ≤ tag ∧ tag ≤ 7) {d : List Int} {n m : Nat} (hw : wordsOk d = true) (hn : d.length ≤ n) (hn2 : n ≤ 64) (hm : d.length ≤ 8) : packB 6 by_ from_ 0 (n : Int) tag 0 d = true := by
  simp only [packB, hw, Bool.true_and, decide_eq_true_eq]
  exact ⟨hb, .inr (.inr (.inr (.inr (.inr ⟨rfl, rfl, hf, ht, by omega, by omega, by omega⟩))))⟩
theorem l26Read_yd (k : Nat) (c : List Int) (hc : c.length ≤ 2000000) (p s : Int) (hp : 0 ≤ p) : Yd (spec_l26Read.f k c p s) fun r => r.2.2.2.2.2.2.2.2.1 = c ∧ 0 ≤ r.2.2.2.2.2.2.2.2.2.1 ∧
    r.1 = 3 ∧ (0 ≤ r.2.1 ∧ r.2.1 ≤ 255) ∧ r.2.2.1 = 0 ∧ (0 ≤ r.2.2.2.1 ∧ r.2.2.2.1 ≤ 9000) ∧ (1 ≤ r.2.2.2.2.1 ∧ r.2.2.2.2.1 ≤ 20) ∧ (0 ≤ r.2.2.2.2.2.1 ∧ r.2.2.2.2.2.1 ≤ 7) ∧ r.2.2.2.2.2.2.1 = 0 ∧ r.2.2.2.2.2.2.2.1 = [] := by
  unfold spec_l26Read.f
  refine below_bnd hc hp (by omega) fun y0 p0 s0 g0 g1 q0 => ?_
  dsimp only
  refine below_bnd hc q0 (by omega) fun y1 p1 s1 g2 g3 q1 => ?_
  dsimp only
  refine below_bnd hc q1 (by omega) fun y2 p2 s2 g4 g5 q2 => ?_
  dsimp only
  refine below_bnd hc q2 (by omega) fun y3 p3 s3 g6 g7 q3 => ?_
  dsimp only
  refine pick_bnd hc q3 (by simp) fun y4 p4 s4 g8 q4 => ?_
  dsimp only
  rw [iAdd_id (by omega) (by omega)]
  refine Yd.one ⟨rfl, q4, rfl, by constructor <;> dsimp only <;> omega, rfl, ?_, by constructor <;> dsimp only <;> omega, by constructor <;> dsimp only <;> omega, rfl, rfl⟩
  simp only [List.mem_cons, List.not_mem_nil, or_false] at g8
  dsimp only
  omega
/-- A drawn read and its data. -/
theorem drawRead_ev (k : Nat) (hk : 4000 < k) (c : List Int) (hc : c.length ≤ 2000000) : ∃ (p1 p3 p5 : Int) (d : List Int), spec_DrawRead.f k c = some (3, p1, 0, p3, (d.length : Int), p5, 0, [], d) ∧ (0 ≤ p1 ∧ p1 ≤ 255) ∧ (0 ≤ p3 ∧ p3 ≤ 9000) ∧ (1 ≤ d.length ∧ d.length ≤ 20) ∧ (0 ≤ p5 ∧ p5 ≤ 7) ∧ wordsOk d = true := by
  obtain ⟨s0, h0⟩ := l01New_ev c k hk
  obtain ⟨⟨r0, r1, r2, r3, r4, r5, r6, rl, c1, p1, s1⟩, e1, q1, q2, rfl, q4, q5, q6, q7, q8, q9, q10⟩ := l26Read_yd k c hc 0 s0 (by omega)
  simp only at q1 q2 q4 q5 q6 q7 q8 q9 q10
  subst q1 q5 q9 q10
  obtain ⟨⟨d, c2, p2, s2⟩, e2, g1, g2, g3, g4⟩ := l04Data_yd k r4.toNat (by omega) hk c1 hc p1 s1 q2
  simp only at g1 g2 g3 g4
  rw [show (r4.toNat : Int) = r4 by omega] at e2
  refine ⟨r1, r3, r5, d, ?_, q4, q6, by omega, q8, g4⟩
  simp only [spec_DrawRead.f, h0, e1, e2, bnd_one]
  rw [g3, show (r4.toNat : Int) = r4 by omega]
/-- One of four payloads. -/
theorem pay_four (x : Int) (h : 0 ≤ x) : (0 ≤ iRem x 4 ∧ iRem x 4 < 4) ∧ (rGet (0 : Int) [1, 2, 4, 8] (iRem x 4) = 1 ∨ rGet (0 : Int) [1, 2, 4, 8] (iRem x 4) = 2 ∨ rGet (0 : Int) [1, 2, 4, 8] (iRem x 4) = 4 ∨ rGet (0 : Int) [1, 2, 4, 8] (iRem x 4) = 8) := by
  have m0 : 0 ≤ iRem x 4 := Int.tmod_nonneg _ h
  have m1 : iRem x 4 < 4 := Int.tmod_lt_of_pos _ (by omega)
  generalize iRem x 4 = r at m0 m1
  refine ⟨⟨m0, m1⟩, ?_⟩
  have : r = 0 ∨ r = 1 ∨ r = 2 ∨ r = 3 := by omega
  rcases this with rfl | rfl | rfl | rfl <;> decide

noncomputable def faF (k : Nat) (rec : (List Int × (List (Int × Int × Int × Int × Int × Int × Int × List Int)) × List Int × Int × Int × Int × Int × Int × Int × Int × Int × List Int) → Option (Bool)) (x : List Int × (List (Int × Int × Int × Int × Int × Int × Int × List Int)) × List Int × Int × Int × Int × Int × Int × Int × Int × Int × List Int) : Option Bool := laws_FnAnswers.s0 k rec x.1 x.2.1 x.2.2.1 x.2.2.2.1 x.2.2.2.2.1 x.2.2.2.2.2.1 x.2.2.2.2.2.2.1 x.2.2.2.2.2.2.2.1 x.2.2.2.2.2.2.2.2.1 x.2.2.2.2.2.2.2.2.2.1 x.2.2.2.2.2.2.2.2.2.2.1 x.2.2.2.2.2.2.2.2.2.2.2
theorem laws_FnAnswers.loop (k : Nat) (hk : 5000 ≤ k) (p1 p3 p5 pay : Int) (hp : 1 ≤ pay ∧ pay ≤ 8) (h1 : 0 ≤ p1 ∧ p1 ≤ 255) (h3 : 0 ≤ p3 ∧ p3 ≤ 9000) (h5 : 0 ≤ p5 ∧ p5 ≤ 7) (d : List Int) (hd : 1 ≤ d.length ∧ d.length ≤ 20) (hw : wordsOk d = true) (l : List (Int × Int × Int × Int × Int × Int × Int × List Int)) :
    ∀ (f : Nat) (i : Nat) (all rest : List Int) (a : Int) (K : Nat), d = all ++ rest → l.drop i = ansL pay p1 7 p5 f a rest → rest.length ≤ f → f < K → 0 ≤ a → i + f ≤ 100 → iter (faF k) K (d, l, all, (i : Int), 3, p1, 0, p3, (d.length : Int), p5, 0, []) = some true
  | f, i, all, rest, a, 0, _, _, _, hK, _, _ => by omega
  | f, i, all, rest, a, K + 1, hda, hl, hf, hK, ha, hi => by
    show laws_FnAnswers.s0 k (iter (faF k) K) d l all (i : Int) 3 p1 0 p3 (d.length : Int) p5 0 [] = _
    by_cases hz : rest.length = 0
    · have hr : rest = [] := List.length_eq_zero_iff.1 hz
      subst hr
      have hnil : ansL pay p1 7 p5 f a ([] : List Int) = [] := by cases f <;> rfl
      rw [hnil] at hl
      have hil : l.length ≤ i := by
        rcases Nat.lt_or_ge i l.length with h' | h'
        · rw [List.drop_eq_getElem_cons h'] at hl; cases hl
        · exact h'
      rw [List.append_nil] at hda
      subst hda
      have hpk : packB 3 p1 0 p3 (d.length : Int) p5 0 [] = true := by
        simp only [packB, wordsOk, List.all_nil, Bool.true_and, decide_eq_true_eq]
        exact ⟨h1, .inr (.inr (.inl ⟨rfl, rfl, by omega, by omega, h5, rfl, rfl⟩))⟩
      have hrf := implRefusal_ev 3 p1 0 p3 (d.length : Int) p5 0 [] 7 1 (by simp) (by rw [wf64]; omega) (by rw [wf64]; omega) k (by simp; omega)
      rw [hpk, show classB true 3 = 1 from rfl, refB, if_pos ⟨rfl, by omega, by omega⟩] at hrf
      have hip : impl_IsPacket.f k 6 7 p1 0 0 p5 1 [] = some true := by
        rw [implIsPacket_ev 6 7 p1 0 0 p5 1 [] (by simp) (by rw [wf64]; omega) (by rw [wf64]; omega) k (by simp; omega)]
        refine congrArg some ?_
        simp only [packB, wordsOk, List.all_nil, Bool.true_and, decide_eq_true_eq]
        exact ⟨by omega, .inr (.inr (.inr (.inr (.inr ⟨rfl, rfl, h1, h5, by omega, by omega, .inl rfl⟩))))⟩
      generalize iter (faF k) K = rec
      simp only [laws_FnAnswers.s0, hrf, hip, sameInts_refl d (show d.length ≤ 4611686018427387904 by omega) k (by omega), bnd_one, iLt_eq, brB_dec, rLen_eq, brB_true, iEq_eq, decide_true, List.length_nil]
      rw [if_neg (by omega)]; rfl
    · obtain ⟨f', rfl⟩ : ∃ f', f = f' + 1 := ⟨f - 1, by omega⟩
      simp only [ansL, if_neg hz] at hl
      obtain ⟨m1, m2, m3, m4⟩ := mOf_ok (a := a) hp ha (Nat.pos_of_ne_zero hz)
      generalize mOf pay a rest.length = m at *
      obtain ⟨q1, q2, q3⟩ := drop_cons_get hl (0, 0, 0, 0, 0, 0, 0, [])
      have hlen : d.length = all.length + rest.length := by rw [hda, List.length_append]
      have hwr : wordsOk rest = true := by
        have := hw
        rw [hda] at this
        simp only [wordsOk, List.all_append, Bool.and_eq_true] at this ⊢
        exact this.2
      have lt : (rest.take m).length = m := by rw [List.length_take]; omega
      have hip : impl_IsPacket.f k 6 7 p1 0 (rest.length : Int) p5 0 (rest.take m) = some true := by
        rw [implIsPacket_ev 6 7 p1 0 (rest.length : Int) p5 0 (rest.take m) (by omega) (by rw [wf64]; omega) (by rw [wf64]; omega) k (by omega)]
        exact congrArg some (ans_pack (m := 0) h1 (by omega) h5 (words_take hwr m) (by omega) (by omega) (by omega))
      have ih := laws_FnAnswers.loop k hk p1 p3 p5 pay hp h1 h3 h5 d hd hw l f' (i + 1) (all ++ rest.take m) (rest.drop m) (a + m) K (by rw [List.append_assoc, List.take_append_drop]; exact hda) q3 (by rw [List.length_drop]; omega) (by omega) (by omega) (by omega)
      · generalize iter (faF k) K = rec at ih ⊢
        simp only [laws_FnAnswers.s0, q2, hip, bnd_one, iLt_eq, iNe_eq, bNot_eq, brB_nb, brB_dec, chk_idx, chk_len, rLen_eq, rApp_eq, brB_true, ↓reduceIte]
        rw [if_pos (by omega), iSub_id (by omega) (by omega)]
        simp only [if_idx q1]
        rw [if_pos (by omega), if_pos (by rw [List.length_append, lt]; omega), next_id (i := i) (n := 1000) (by omega) (by omega), ih]
theorem laws_FnAnswers.main (c : List Int) : ∃ k, laws_FnAnswers.f k c = some true := by
  refine ⟨5000, ?_⟩
  by_cases hc : 1048576 < (c.length : Int)
  · simp only [laws_FnAnswers.f, laws_big.f, bnd_one, iLt_eq, rLen_eq, decide_eq_true hc, brB_true]
  · obtain ⟨p1, p3, p5, d, hd, h1, h3, hl, h5, hw⟩ := drawRead_ev 5000 (by omega) c (by omega)
    obtain ⟨p, hp, lp, bp⟩ := drawPlaces_ev c (by omega) 5000 (by omega)
    have b0 : 0 ≤ rGet 0 p 0 := by
      show 0 ≤ p.getD 0 0
      rw [getD_lt 0 p (by omega)]; exact (bp _ (List.getElem_mem _)).1
    obtain ⟨r0, r1⟩ := pay_four (rGet 0 p 0) b0
    simp only [laws_FnAnswers.f, laws_big.f, bnd_one, iLt_eq, rLen_eq, decide_eq_false hc, brB_false, hd, hp, chk_idx, chk_nz]
    rw [if_pos (by omega), if_neg (by omega), if_pos (by simp only [List.length_cons, List.length_nil]; omega)]
    generalize rGet (0 : Int) [1, 2, 4, 8] (iRem (rGet 0 p 0) 4) = pay at r1
    rw [answersTo_ev p1 p3 p5 7 pay d (by omega) hw h1 (by omega) (by omega) h5 (by omega) r1 5000 (by omega), bnd_one]
    exact laws_FnAnswers.loop 5000 (by omega) p1 p3 p5 pay (by omega) h1 h3 h5 d hl hw _ d.length 0 [] d p3 5000 rfl rfl (by omega) (by omega) (by omega) (by omega)
theorem laws_FnAnswers.pure : ∀ x : laws_FnAnswers.sig.inTy.T, Good laws_FnAnswers.sig.inTy x → ∃ k, laws_FnAnswers.spec.fn k x = some true :=
  fun x _ => laws_FnAnswers.main x
end Go.Proofs.YtndnlafnkknodaaT

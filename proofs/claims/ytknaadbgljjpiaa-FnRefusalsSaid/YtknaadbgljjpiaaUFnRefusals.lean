/- What the functions of FnRefusals give, in plain terms. -/
import Derived.Test.YtknaadbgljjpiaaFFnRefusals
import Derived.Test.YtknaadbgljjpiaaTiPL
set_option linter.unusedVariables false
set_option linter.unusedSimpArgs false
set_option maxRecDepth 100000
namespace Go.Proofs.YtknaadbgljjpiaaT
open Go
theorem iLe_eq (a b : Int) : iLe a b = decide (a ≤ b) := rfl
theorem iLt_eq (a b : Int) : iLt a b = decide (a < b) := rfl
theorem iEq_eq (a b : Int) : iEq a b = decide (a = b) := by by_cases h : a = b <;> simp [iEq, h]
theorem iNe_eq (a b : Int) : iNe a b = !decide (a = b) := by by_cases h : a = b <;> simp [iNe, h]
theorem bNot_eq (a : Bool) : bNot a = !a := rfl
/-- A loop that looks for the first element with a quality. -/
theorem iter_find {R : Type} {α : Type} {X : Type} {f : (X → Option R) → X → Option R} (s : Nat → X) (xs : List α) (p : α → Bool) (r : R) (e : Nat → R)
    (go : ∀ rec (i : Nat) (h : i < xs.length), p xs[i] = true → f rec (s i) = rec (s (i + 1))) (stop : ∀ rec (i : Nat) (h : i < xs.length), p xs[i] = false → f rec (s i) = some (e i)) (done : ∀ rec, f rec (s xs.length) = some r) {n : Nat} (hn : xs.length < n) :
    iter f n (s 0) = some (match xs.findIdx? (fun x => !p x) with | some i => e i | none => r) := by
  suffices H : ∀ d i n, i + d = xs.length → d < n → (∀ j (h : j < xs.length), j < i → p xs[j] = true) → iter f n (s i) = some (match xs.findIdx? (fun x => !p x) with | some i => e i | none => r) from H xs.length 0 n (by omega) hn (fun j _ h => by omega)
  intro d
  induction d with
  | zero =>
    intro i n hi hn hp
    obtain ⟨m, rfl⟩ : ∃ m, n = m + 1 := ⟨n - 1, by omega⟩
    obtain rfl : i = xs.length := by omega
    have : xs.findIdx? (fun x => !p x) = none := by
      rw [List.findIdx?_eq_none_iff]
      intro x hx
      obtain ⟨j, hj, rfl⟩ := List.mem_iff_getElem.1 hx
      simp [hp j hj (by omega)]
    rw [this]
    exact done _
  | succ d ih =>
    intro i n hi hn hp
    obtain ⟨m, rfl⟩ : ∃ m, n = m + 1 := ⟨n - 1, by omega⟩
    show f (iter f m) (s i) = _
    have hlt : i < xs.length := by omega
    by_cases hq : p xs[i] = false
    · rw [stop _ i hlt hq]
      have : xs.findIdx? (fun x => !p x) = some i := by
        rw [List.findIdx?_eq_some_iff_getElem]
        exact ⟨hlt, by simp [hq], fun j hj => by simp [hp j (by omega) hj]⟩
      rw [this]
    · have hq : p xs[i] = true := by simpa using hq
      rw [go _ i hlt hq]
      refine ih (i + 1) m (by omega) (by omega) fun j h hj => ?_
      rcases Nat.lt_or_ge j i with h' | h'
      · exact hp j h h'
      · obtain rfl : j = i := by omega
        exact hq
theorem getD_lt {α : Type} (d : α) (xs : List α) {i : Nat} (h : i < xs.length) : xs.getD i d = xs[i] := by
  rw [List.getD_eq_getElem?_getD, List.getElem?_eq_getElem h]; rfl
theorem bEq_eq (a b : Bool) : bEq a b = decide (a = b) := by cases a <;> cases b <;> rfl
theorem bNe_eq (a b : Bool) : bNe a b = !decide (a = b) := by cases a <;> cases b <;> rfl
theorem brB_nb {R : Type} (b : Bool) (x y : Option R) : brB (!b) x y = brB b y x := by cases b <;> rfl
theorem brB_dec {R : Type} (p : Prop) [Decidable p] (x y : Option R) : brB (decide p) x y = if p then x else y := by by_cases h : p <;> simp [h, brB]
theorem if_idx {R : Type} {i n : Nat} {x : Option R} (h : i < n) : (if 0 ≤ (i : Int) ∧ (i : Int) < (n : Int) then x else none) = x := if_pos (by omega)
theorem l01In_eq (k : Nat) (x a b : Int) : spec_l01In.f k x a b = some (decide (a ≤ x ∧ x ≤ b)) := by
  simp only [spec_l01In.f, iLt_eq, iLe_eq, iEq_eq, iNe_eq, bNot_eq, bEq_eq, bNe_eq, brB_nb, brB_dec, brB_true, brB_false, chk_idx, chk_len, chk_make, chk_sub, bnd_one, rLen_eq, rGet_nat, rSet_nat, rApp_eq, ↓reduceIte]; split <;> rename_i h <;> simp [h]
theorem within_eq (k : Nat) (x a b : Int) : impl_within.f k x a b = some (decide (a ≤ x ∧ x ≤ b)) := by
  simp only [impl_within.f, iLt_eq, iLe_eq, iEq_eq, iNe_eq, bNot_eq, bEq_eq, bNe_eq, brB_nb, brB_dec, brB_true, brB_false, chk_idx, chk_len, chk_make, chk_sub, bnd_one, rLen_eq, rGet_nat, rSet_nat, rApp_eq, ↓reduceIte]; split <;> rename_i h <;> simp [h]
theorem implIsId_eq (k : Nat) (a : Int) : impl_IsId.f k a = some (decide (0 ≤ a ∧ a ≤ 255)) := by simp only [impl_IsId.f, within_eq, bnd_one]
/-- All are words. -/
def wordsOk (l : List Int) : Bool := l.all fun x => decide (0 ≤ x ∧ x ≤ 65535)
theorem findIdx_all {α : Type} (l : List α) (p : α → Bool) : (match l.findIdx? (fun x => !p x) with | some _ => false | none => true) = l.all p := by
  cases h : l.findIdx? (fun x => !p x) with
  | none =>
    rw [List.findIdx?_eq_none_iff] at h
    symm
    rw [List.all_eq_true]
    intro x hx
    simpa using h x hx
  | some i =>
    rw [List.findIdx?_eq_some_iff_getElem] at h
    obtain ⟨hi, h1, _⟩ := h
    symm
    rw [← Bool.not_eq_true, List.all_eq_true]
    intro hall
    have := hall _ (List.getElem_mem hi)
    simp [this] at h1
theorem found_iff {α : Type} (l : List α) (p : α → Bool) : iLe 0 (match l.findIdx? (fun x => !p x) with | some i => (i : Int) | none => -1) = !l.all p := by
  rw [← findIdx_all]
  cases l.findIdx? (fun x => !p x) with
  | none => rfl
  | some i => simp [iLe]
theorem isWord_eq (k : Nat) (x : Int) : impl_isWord.f k x = some (decide (0 ≤ x ∧ x ≤ 65535)) := by simp only [impl_isWord.f, within_eq, bnd_one]
theorem indexNotWord2 (l : List Int) (hl : l.length ≤ 4611686018427387904) (k : Nat) (hk : l.length < k) : slices_IndexFunc_int_impl_Packet__dataOk_1.f k l = some (match l.findIdx? (fun x => !decide (0 ≤ x ∧ x ≤ 65535)) with | some i => (i : Int) | none => -1) := by
  simp only [slices_IndexFunc_int_impl_Packet__dataOk_1.f, slices_IndexFunc_int_impl_Packet__dataOk_1.l0]
  refine iter_find (f := fun (rec : (List Int × Int × Int) → Option Int) (x : List Int × Int × Int) => slices_IndexFunc_int_impl_Packet__dataOk_1.s0 k rec x.1 x.2.1 x.2.2) (fun i => (l, rLen l, (i : Int))) l (fun x => decide (0 ≤ x ∧ x ≤ 65535)) (-1) (fun i => (i : Int)) (fun rec i hi hp => ?_) (fun rec i hi hp => ?_) (fun rec => ?_) hk
  · simp only [slices_IndexFunc_int_impl_Packet__dataOk_1.s0, impl_Packet__dataOk_1.f, isWord_eq, getD_lt _ _ hi, iLt_eq, iLe_eq, iEq_eq, iNe_eq, bNot_eq, bEq_eq, bNe_eq, brB_nb, brB_dec, brB_true, brB_false, chk_idx, chk_len, chk_make, chk_sub, bnd_one, rLen_eq, rGet_nat, rSet_nat, rApp_eq, ↓reduceIte]
    rw [if_pos (by omega), if_idx hi, next_id hi hl]
    rw [if_pos (of_decide_eq_true hp)]
  · simp only [slices_IndexFunc_int_impl_Packet__dataOk_1.s0, impl_Packet__dataOk_1.f, isWord_eq, getD_lt _ _ hi, iLt_eq, iLe_eq, iEq_eq, iNe_eq, bNot_eq, bEq_eq, bNe_eq, brB_nb, brB_dec, brB_true, brB_false, chk_idx, chk_len, chk_make, chk_sub, bnd_one, rLen_eq, rGet_nat, rSet_nat, rApp_eq, ↓reduceIte]
    rw [if_pos (by omega), if_idx hi]
    rw [if_neg (of_decide_eq_false hp)]
  · simp only [slices_IndexFunc_int_impl_Packet__dataOk_1.s0, iLt_eq, iLe_eq, iEq_eq, iNe_eq, bNot_eq, bEq_eq, bNe_eq, brB_nb, brB_dec, brB_true, brB_false, chk_idx, chk_len, chk_make, chk_sub, bnd_one, rLen_eq, rGet_nat, rSet_nat, rApp_eq, ↓reduceIte]
    rw [if_neg (by omega)]
theorem brB_and' {x : Option Bool} {b c : Bool} (h : b = true → x = some c) : brB b x (some false) = some (b && c) := by
  cases b with
  | false => rfl
  | true => rw [brB_true, h rfl, Bool.true_and]
theorem if_and' {p : Prop} [Decidable p] {x : Option Bool} {c : Bool} (h : p → x = some c) : (if p then x else some false) = some (decide p && c) := by
  by_cases hp : p
  · rw [if_pos hp, h hp, decide_eq_true hp, Bool.true_and]
  · rw [if_neg hp, decide_eq_false hp, Bool.false_and]
theorem brB_and {x : Option Bool} {b c : Bool} (h : x = some c) : brB b x (some false) = some (b && c) := by cases b <;> simp [brB, h]
/-- A packet is valid: n is how many data it has, w says that they are words. -/
def packP (a0 a1 a2 a3 a4 a5 a6 n : Int) : Prop := (0 ≤ a1 ∧ a1 ≤ 255) ∧ (
  (a0 = 1 ∧ (1 ≤ n ∧ n ≤ 8) ∧ (0 ≤ a3 ∧ a3 ≤ 65536 - n) ∧ a6 = 0 ∧ a2 = 0 ∧ a4 = 0 ∧ a5 = 0) ∨
  (a0 = 2 ∧ (1 ≤ n ∧ n ≤ 8) ∧ a3 = 0 ∧ a6 = 0 ∧ a2 = 0 ∧ a4 = 0 ∧ a5 = 0) ∨
  (a0 = 3 ∧ n = 0 ∧ (1 ≤ a4 ∧ a4 ≤ 64) ∧ (0 ≤ a3 ∧ a3 ≤ 65536 - a4) ∧ (0 ≤ a5 ∧ a5 ≤ 7) ∧ a6 = 0 ∧ a2 = 0) ∨
  (a0 = 4 ∧ n = 0 ∧ (0 ≤ a3 ∧ a3 ≤ 63) ∧ (0 ≤ a2 ∧ a2 ≤ 255) ∧ (0 ≤ a5 ∧ a5 ≤ 7) ∧ a6 = 0 ∧ a4 = 0) ∨
  (a0 = 5 ∧ n = 1 ∧ (0 ≤ a3 ∧ a3 ≤ 63) ∧ (0 ≤ a2 ∧ a2 ≤ 255) ∧ (0 ≤ a5 ∧ a5 ≤ 7) ∧ a6 = 0 ∧ a4 = 0) ∨
  (a0 = 6 ∧ a3 = 0 ∧ (0 ≤ a2 ∧ a2 ≤ 255) ∧ (0 ≤ a5 ∧ a5 ≤ 7) ∧ (0 ≤ a6 ∧ a6 ≤ 2) ∧ (0 ≤ a4 ∧ a4 ≤ 64) ∧ (n = 0 ∨ (a6 = 0 ∧ n ≤ 8 ∧ n ≤ a4))))
instance (a0 a1 a2 a3 a4 a5 a6 n : Int) : Decidable (packP a0 a1 a2 a3 a4 a5 a6 n) := by unfold packP; infer_instance
def packB (a0 a1 a2 a3 a4 a5 a6 : Int) (l : List Int) : Bool := wordsOk l && decide (packP a0 a1 a2 a3 a4 a5 a6 (l.length : Int))
theorem some_iff {b c : Bool} (h : b = true ↔ c = true) : some b = some c := by rw [Bool.eq_iff_iff.2 h]
/-- How many data a packet may have. -/
def dataP (a0 a4 a6 n : Int) : Prop := if a0 = 1 ∨ a0 = 2 then 1 ≤ n ∧ n ≤ 8 else if a0 = 5 then n = 1 else if a0 = 6 ∧ a6 = 0 then n ≤ 8 ∧ n ≤ a4 else n = 0
instance (a0 a4 a6 n : Int) : Decidable (dataP a0 a4 a6 n) := by unfold dataP; infer_instance
theorem dataOk_ev (a0 a1 a2 a3 a4 a5 a6 : Int) (l : List Int) (hl : l.length ≤ 4611686018427387904) (k : Nat) (hk : l.length < k) : impl_Packet__dataOk.f k a0 a1 a2 a3 a4 a5 a6 l = some (wordsOk l && decide (dataP a0 a4 a6 (l.length : Int))) := by
  simp only [impl_Packet__dataOk.f, slices_ContainsFunc_int_impl_Packet__dataOk_1.f, indexNotWord2 l hl k hk, bnd_one, found_iff l (fun x => decide (0 ≤ x ∧ x ≤ 65535)), within_eq]
  rw [show (l.all fun x => decide (0 ≤ x ∧ x ≤ 65535)) = wordsOk l from rfl]
  simp only [iLt_eq, iLe_eq, iEq_eq, iNe_eq, bNot_eq, bEq_eq, bNe_eq, brB_nb, brB_dec, brB_true, brB_false, chk_idx, chk_len, chk_make, chk_sub, bnd_one, rLen_eq, rGet_nat, rSet_nat, rApp_eq, ↓reduceIte]
  cases wordsOk l with
  | false => rfl
  | true =>
    simp only [iLt_eq, iLe_eq, iEq_eq, iNe_eq, bNot_eq, bEq_eq, bNe_eq, brB_nb, brB_dec, brB_true, brB_false, chk_idx, chk_len, chk_make, chk_sub, bnd_one, rLen_eq, rGet_nat, rSet_nat, rApp_eq, ↓reduceIte, Bool.true_and]
    unfold dataP
    by_cases b1 : a0 = 1
    · subst b1; simp only [Int.reduceEq, or_false, false_or, or_true, true_or, iLt_eq, iLe_eq, iEq_eq, iNe_eq, bNot_eq, bEq_eq, bNe_eq, brB_nb, brB_dec, brB_true, brB_false, chk_idx, chk_len, chk_make, chk_sub, bnd_one, rLen_eq, rGet_nat, rSet_nat, rApp_eq, ↓reduceIte]; (try rfl)
    by_cases b2 : a0 = 2
    · subst b2; simp only [Int.reduceEq, or_false, false_or, or_true, true_or, iLt_eq, iLe_eq, iEq_eq, iNe_eq, bNot_eq, bEq_eq, bNe_eq, brB_nb, brB_dec, brB_true, brB_false, chk_idx, chk_len, chk_make, chk_sub, bnd_one, rLen_eq, rGet_nat, rSet_nat, rApp_eq, ↓reduceIte]; (try rfl)
    by_cases b5 : a0 = 5
    · subst b5; simp only [Int.reduceEq, or_false, false_or, or_true, true_or, or_self, iLt_eq, iLe_eq, iEq_eq, iNe_eq, bNot_eq, bEq_eq, bNe_eq, brB_nb, brB_dec, brB_true, brB_false, chk_idx, chk_len, chk_make, chk_sub, bnd_one, rLen_eq, rGet_nat, rSet_nat, rApp_eq, ↓reduceIte]
    by_cases b6 : a0 = 6
    · subst b6; simp only [Int.reduceEq, or_false, false_or, or_true, true_or, or_self, true_and, iLt_eq, iLe_eq, iEq_eq, iNe_eq, bNot_eq, bEq_eq, bNe_eq, brB_nb, brB_dec, brB_true, brB_false, chk_idx, chk_len, chk_make, chk_sub, bnd_one, rLen_eq, rGet_nat, rSet_nat, rApp_eq, ↓reduceIte]; (repeat' split) <;> (refine some_iff ?_ <;> (try simp only [decide_eq_true_eq, Bool.false_eq_true, false_iff, true_iff, Int.reduceEq, false_or, or_false, false_and, true_and, and_true, and_false, true_or, or_true, iff_self, iff_false, iff_true] at *) <;> first | omega | (intro h; omega) | (constructor <;> intro h <;> omega) | trivial)
    simp only [b1, b2, b5, b6, or_self, false_and, iLt_eq, iLe_eq, iEq_eq, iNe_eq, bNot_eq, bEq_eq, bNe_eq, brB_nb, brB_dec, brB_true, brB_false, chk_idx, chk_len, chk_make, chk_sub, bnd_one, rLen_eq, rGet_nat, rSet_nat, rApp_eq, ↓reduceIte]
def addrP (a0 a3 a4 n : Int) : Prop := if a0 = 1 then (0 ≤ a3 ∧ a3 ≤ 65535) ∧ n ≤ 65536 - a3 else if a0 = 3 then (0 ≤ a3 ∧ a3 ≤ 65535) ∧ a4 ≤ 65536 - a3 else if a0 = 4 ∨ a0 = 5 then 0 ≤ a3 ∧ a3 ≤ 63 else a3 = 0
instance (a0 a3 a4 n : Int) : Decidable (addrP a0 a3 a4 n) := by unfold addrP; infer_instance
theorem addressOk_eq (k : Nat) (a0 a1 a2 a3 a4 a5 a6 : Int) (l : List Int) (h3 : (Lit.int .i64 a3).wf = true) : impl_Packet__addressOk.f k a0 a1 a2 a3 a4 a5 a6 l = some (decide (addrP a0 a3 a4 (l.length : Int))) := by
  rw [wf64] at h3
  simp only [impl_Packet__addressOk.f, within_eq, impl_Packet__words.f, iSub_w, w64, iLt_eq, iLe_eq, iEq_eq, iNe_eq, bNot_eq, bEq_eq, bNe_eq, brB_nb, brB_dec, brB_true, brB_false, chk_idx, chk_len, chk_make, chk_sub, bnd_one, rLen_eq, rGet_nat, rSet_nat, rApp_eq, ↓reduceIte]
  generalize (l.length : Int) = n
  unfold addrP
  by_cases b1 : a0 = 1
  · subst b1; simp only [Int.reduceEq, iLt_eq, iLe_eq, iEq_eq, iNe_eq, bNot_eq, bEq_eq, bNe_eq, brB_nb, brB_dec, brB_true, brB_false, chk_idx, chk_len, chk_make, chk_sub, bnd_one, rLen_eq, rGet_nat, rSet_nat, rApp_eq, ↓reduceIte]; (repeat' split) <;> (refine some_iff ?_ <;> (try simp only [decide_eq_true_eq, Bool.false_eq_true, false_iff, true_iff, Int.reduceEq, false_or, or_false, false_and, true_and, and_true, and_false, true_or, or_true, iff_self, iff_false, iff_true] at *) <;> first | omega | (intro h; omega) | (constructor <;> intro h <;> omega) | trivial)
  by_cases b3 : a0 = 3
  · subst b3; simp only [Int.reduceEq, iLt_eq, iLe_eq, iEq_eq, iNe_eq, bNot_eq, bEq_eq, bNe_eq, brB_nb, brB_dec, brB_true, brB_false, chk_idx, chk_len, chk_make, chk_sub, bnd_one, rLen_eq, rGet_nat, rSet_nat, rApp_eq, ↓reduceIte]; (repeat' split) <;> (refine some_iff ?_ <;> (try simp only [decide_eq_true_eq, Bool.false_eq_true, false_iff, true_iff, Int.reduceEq, false_or, or_false, false_and, true_and, and_true, and_false, true_or, or_true, iff_self, iff_false, iff_true] at *) <;> first | omega | (intro h; omega) | (constructor <;> intro h <;> omega) | trivial)
  by_cases b4 : a0 = 4
  · subst b4; simp only [Int.reduceEq, or_false, false_or, or_true, true_or, iLt_eq, iLe_eq, iEq_eq, iNe_eq, bNot_eq, bEq_eq, bNe_eq, brB_nb, brB_dec, brB_true, brB_false, chk_idx, chk_len, chk_make, chk_sub, bnd_one, rLen_eq, rGet_nat, rSet_nat, rApp_eq, ↓reduceIte]
  by_cases b5 : a0 = 5
  · subst b5; simp only [Int.reduceEq, or_false, false_or, or_true, true_or, iLt_eq, iLe_eq, iEq_eq, iNe_eq, bNot_eq, bEq_eq, bNe_eq, brB_nb, brB_dec, brB_true, brB_false, chk_idx, chk_len, chk_make, chk_sub, bnd_one, rLen_eq, rGet_nat, rSet_nat, rApp_eq, ↓reduceIte]
  simp only [b1, b3, b4, b5, or_self, iLt_eq, iLe_eq, iEq_eq, iNe_eq, bNot_eq, bEq_eq, bNe_eq, brB_nb, brB_dec, brB_true, brB_false, chk_idx, chk_len, chk_make, chk_sub, bnd_one, rLen_eq, rGet_nat, rSet_nat, rApp_eq, ↓reduceIte]
def lenP (a0 a4 : Int) : Prop := if a0 = 3 then 1 ≤ a4 ∧ a4 ≤ 64 else if a0 = 6 then 0 ≤ a4 ∧ a4 ≤ 64 else a4 = 0
instance (a0 a4 : Int) : Decidable (lenP a0 a4) := by unfold lenP; infer_instance
theorem lengthOk_eq (k : Nat) (a0 a1 a2 a3 a4 a5 a6 : Int) (l : List Int) : impl_Packet__lengthOk.f k a0 a1 a2 a3 a4 a5 a6 l = some (decide (lenP a0 a4)) := by
  simp only [impl_Packet__lengthOk.f, within_eq, iLt_eq, iLe_eq, iEq_eq, iNe_eq, bNot_eq, bEq_eq, bNe_eq, brB_nb, brB_dec, brB_true, brB_false, chk_idx, chk_len, chk_make, chk_sub, bnd_one, rLen_eq, rGet_nat, rSet_nat, rApp_eq, ↓reduceIte]
  unfold lenP
  (repeat' split) <;> rfl
theorem implIsPacket_ev (a0 a1 a2 a3 a4 a5 a6 : Int) (l : List Int) (hl : l.length ≤ 1048576) (h3 : (Lit.int .i64 a3).wf = true) (h4 : (Lit.int .i64 a4).wf = true) (k : Nat) (hk : l.length < k) : impl_IsPacket.f k a0 a1 a2 a3 a4 a5 a6 l = some (packB a0 a1 a2 a3 a4 a5 a6 l) := by
  by_cases b0 : 1 ≤ a0 ∧ a0 ≤ 6
  · simp only [impl_IsPacket.f, implIsId_eq, within_eq, dataOk_ev a0 a1 a2 a3 a4 a5 a6 l (by omega) k hk, addressOk_eq k a0 a1 a2 a3 a4 a5 a6 l h3, lengthOk_eq, bnd_one, iEq_eq, iNe_eq, brB_nb, bNot_eq, packB]
    rw [decide_eq_true b0]
    generalize wordsOk l = w
    generalize (l.length : Int) = n at *
    have : a0 = 1 ∨ a0 = 2 ∨ a0 = 3 ∨ a0 = 4 ∨ a0 = 5 ∨ a0 = 6 := by omega
    cases w with
    | false =>
      rcases this with rfl | rfl | rfl | rfl | rfl | rfl <;> simp only [Int.reduceEq, Int.reduceLE, decide_true, decide_false, bnd_one, brB_true, brB_false, brB_dec, and_self, and_true, and_false, true_and, false_and, Bool.false_and, ↓reduceIte] <;> (repeat' split) <;> rfl
    | true =>
      rcases this with rfl | rfl | rfl | rfl | rfl | rfl <;> simp only [Int.reduceEq, Int.reduceLE, decide_true, decide_false, bnd_one, brB_true, brB_false, brB_dec, and_self, and_true, and_false, true_and, false_and, Bool.true_and, dataP, packP, addrP, lenP, or_true, true_or, or_false, false_or, ↓reduceIte] <;> (repeat' split) <;> (refine some_iff ?_ <;> (try simp only [decide_eq_true_eq, Bool.false_eq_true, false_iff, true_iff, Int.reduceEq, false_or, or_false, false_and, true_and, and_true, and_false, true_or, or_true, iff_self, iff_false, iff_true] at *) <;> first | omega | (intro h; omega) | (constructor <;> intro h <;> omega) | trivial)
  · simp only [impl_IsPacket.f, within_eq, packB, bnd_one, decide_eq_false b0, bNot_eq, Bool.not_false, brB_true]
    rw [show decide (packP a0 a1 a2 a3 a4 a5 a6 (l.length : Int)) = false from decide_eq_false (by unfold packP; omega), Bool.and_false]
/-- The class of a packet. -/
def classB (p : Bool) (a0 : Int) : Int := if p = true then (if a0 = 1 ∨ a0 = 2 then 0 else if a0 = 6 then 2 else 1) else -1
theorem implClassOf_ev (a0 a1 a2 a3 a4 a5 a6 : Int) (l : List Int) (hl : l.length ≤ 1048576) (h3 : (Lit.int .i64 a3).wf = true) (h4 : (Lit.int .i64 a4).wf = true) (k : Nat) (hk : l.length < k) : impl_ClassOf.f k a0 a1 a2 a3 a4 a5 a6 l = some (classB (packB a0 a1 a2 a3 a4 a5 a6 l) a0) := by
  simp only [impl_ClassOf.f, impl_classOf.f, implIsPacket_ev a0 a1 a2 a3 a4 a5 a6 l hl h3 h4 k hk, classB, iLt_eq, iLe_eq, iEq_eq, iNe_eq, bNot_eq, bEq_eq, bNe_eq, brB_nb, brB_dec, brB_true, brB_false, chk_idx, chk_len, chk_make, chk_sub, bnd_one, rLen_eq, rGet_nat, rSet_nat, rApp_eq, ↓reduceIte]
  cases packB a0 a1 a2 a3 a4 a5 a6 l with
  | false => rfl
  | true =>
    simp only [iLt_eq, iLe_eq, iEq_eq, iNe_eq, bNot_eq, bEq_eq, bNe_eq, brB_nb, brB_dec, brB_true, brB_false, chk_idx, chk_len, chk_make, chk_sub, bnd_one, rLen_eq, rGet_nat, rSet_nat, rApp_eq, ↓reduceIte]
    by_cases b1 : a0 = 1
    · subst b1; rfl
    by_cases b2 : a0 = 2
    · subst b2; rfl
    by_cases b6 : a0 = 6
    · subst b6; rfl
    simp only [b1, b2, b6, or_self, iLt_eq, iLe_eq, iEq_eq, iNe_eq, bNot_eq, bEq_eq, bNe_eq, brB_nb, brB_dec, brB_true, brB_false, chk_idx, chk_len, chk_make, chk_sub, bnd_one, rLen_eq, rGet_nat, rSet_nat, rApp_eq, ↓reduceIte]

theorem rGet_in {α : Type} (d : α) (l : List α) {v : Int} (h : 0 ≤ v) : rGet d l v = l.getD v.toNat d := rfl
/-- A loop that looks for an element without a quality. -/
theorem iter_all {R : Type} {α : Type} {X : Type} {f : (X → Option R) → X → Option R} (s : Nat → X) (xs : List α) (p : α → Bool) (r e : Option R)
    (go : ∀ rec (i : Nat) (h : i < xs.length), p xs[i] = true → f rec (s i) = rec (s (i + 1))) (stop : ∀ rec (i : Nat) (h : i < xs.length), p xs[i] = false → f rec (s i) = e) (done : ∀ rec, f rec (s xs.length) = r) {n : Nat} (hn : xs.length < n) :
    iter f n (s 0) = brB (xs.all p) r e := by
  suffices H : ∀ d i n, i + d = xs.length → d < n → iter f n (s i) = brB ((xs.drop i).all p) r e from by
    have := H xs.length 0 n (by omega) hn
    simpa using this
  intro d
  induction d with
  | zero =>
    intro i n hi hn
    obtain ⟨m, rfl⟩ : ∃ m, n = m + 1 := ⟨n - 1, by omega⟩
    obtain rfl : i = xs.length := by omega
    rw [List.drop_length]
    exact done _
  | succ d ih =>
    intro i n hi hn
    obtain ⟨m, rfl⟩ : ∃ m, n = m + 1 := ⟨n - 1, by omega⟩
    show f (iter f m) (s i) = _
    have hlt : i < xs.length := by omega
    rw [List.drop_eq_getElem_cons hlt, List.all_cons]
    cases hq : p xs[i] with
    | false => rw [stop _ i hlt hq]; rfl
    | true => rw [go _ i hlt hq, ih (i + 1) m (by omega) (by omega), Bool.true_and]
theorem if_chain {R : Type} {p : Prop} [Decidable p] {c : Bool} {X r e : Option R} (h : p → X = brB c r e) : (if p then X else e) = brB (decide p && c) r e := by
  by_cases hp : p
  · rw [if_pos hp, h hp, decide_eq_true hp, Bool.true_and]
  · rw [if_neg hp, decide_eq_false hp]; rfl
theorem if_chain_iff {R : Type} {p q : Prop} [Decidable p] [Decidable q] {c : Bool} {X r e : Option R} (hpq : p ↔ q) (h : q → X = brB c r e) : (if p then X else e) = brB (decide q && c) r e := by
  by_cases hp : p
  · rw [if_pos hp, h (hpq.1 hp), decide_eq_true (hpq.1 hp), Bool.true_and]
  · rw [if_neg hp, decide_eq_false (fun hq => hp (hpq.2 hq))]; rfl
theorem take_getD {α : Type} (d : α) (xs : List α) {i : Nat} (h : i ≤ xs.length) : xs.take i = (List.range i).map fun j => xs.getD j d := by
  apply List.ext_getElem?
  intro j
  rw [List.getElem?_take]
  by_cases hj : j < i
  · rw [if_pos hj]; simp [hj, List.getElem?_eq_getElem (show j < xs.length by omega)]
  · rw [if_neg hj, List.getElem?_eq_none (by simpa using Nat.le_of_not_lt hj)]
theorem take_all {α : Type} (d : α) (xs : List α) {i : Nat} (h : i ≤ xs.length) (q : α → Bool) : (xs.take i).all q = (List.range i).all fun j => q (xs.getD j d) := by
  rw [take_getD d xs h, List.all_map]; rfl
/-- A node: its parent, its place, its functions. -/
def nd (xs : List (Int × Int × Int)) (i : Nat) : Int × Int × Int := xs.getD i (0, 0, 0)
theorem rGet_nd (xs : List (Int × Int × Int)) (i : Nat) : rGet (0, 0, 0) xs (i : Int) = nd xs i := rfl
def sameB (p d : Int) (x : Int × Int × Int) : Bool := decide (x.1 = p) && decide (x.2.1 = d)
def nodeB (xs : List (Int × Int × Int)) (i : Nat) : Bool :=
  decide (0 ≤ (nd xs i).1 ∧ (nd xs i).1 ≤ (i : Int) - 1) && (decide ((nd xs (nd xs i).1.toNat).2.2 = 0) && (decide (0 ≤ (nd xs i).2.1 ∧ (nd xs i).2.1 ≤ 3) && (decide (0 ≤ (nd xs i).2.2 ∧ (nd xs i).2.2 ≤ 4) &&
    (List.range i).all fun j => !sameB (nd xs i).1 (nd xs i).2.1 (nd xs j))))
def rootB (xs : List (Int × Int × Int)) : Bool := decide ((nd xs 0).1 = -1) && (decide ((nd xs 0).2.1 = 0) && (decide ((nd xs 0).2.2 = 0) && true))
/-- A tree is valid. -/
def treeB (xs : List (Int × Int × Int)) : Bool := decide (1 ≤ (xs.length : Int) ∧ (xs.length : Int) ≤ 12) && (rootB xs && (List.range (xs.length - 1)).all fun i => nodeB xs (i + 1))
theorem specDup (xs : List (Int × Int × Int)) (p d f : Int) (i : Nat) (hi : i < xs.length) (hx : xs.length ≤ 1048576) (hr : (nd xs 0).1 ≠ p) (rec : List (Int × Int × Int) × Int → Option Bool) (k : Nat) (hk : xs.length < k) :
    spec_TreeOk.l1 k k rec xs (i : Int) 1 p d f = brB ((List.range i).all fun j => !sameB p d (nd xs j)) (rec (xs, ((i + 1 : Nat) : Int))) (some false) := by
  simp only [spec_TreeOk.l1]
  have h := iter_all (f := fun (rec' : (List (Int × Int × Int) × Int × Int × Int × Int × Int) → Option Bool) (x : List (Int × Int × Int) × Int × Int × Int × Int × Int) => spec_TreeOk.s1 k rec rec' x.1 x.2.1 x.2.2.1 x.2.2.2.1 x.2.2.2.2.1 x.2.2.2.2.2)
    (fun j => (xs, (i : Int), ((j + 1 : Nat) : Int), p, d, f)) (List.range (i - 1)) (fun j => !sameB p d (nd xs (j + 1))) (rec (xs, ((i + 1 : Nat) : Int))) (some false) (fun rec' j hj hp => ?_) (fun rec' j hj hp => ?_) (fun rec' => ?_) (n := k) (by simp; omega)
  · refine h.trans ?_
    congr 1
    cases i with
    | zero => rfl
    | succ i =>
      rw [List.range_succ_eq_map, List.all_cons, List.all_map]
      rw [show sameB p d (nd xs 0) = false by simp [sameB, hr]]
      rfl
  · simp only [List.length_range] at hj
    simp only [List.getElem_range, sameB] at hp
    simp only [spec_TreeOk.s1, iLt_eq, iEq_eq, brB_dec, chk_idx, rLen_eq, rGet_nd]
    rw [if_pos (by omega), if_idx (by omega), if_idx (by omega), next_id (i := j + 1) (n := xs.length) (by omega) (by omega)]
    by_cases h1 : (nd xs (j + 1)).1 = p <;> by_cases h2 : (nd xs (j + 1)).2.1 = d <;> simp [h1, h2] at hp ⊢
  · simp only [List.length_range] at hj
    simp only [List.getElem_range, sameB] at hp
    simp only [spec_TreeOk.s1, iLt_eq, iEq_eq, brB_dec, chk_idx, rLen_eq, rGet_nd]
    rw [if_pos (by omega), if_idx (by omega), if_idx (by omega)]
    by_cases h1 : (nd xs (j + 1)).1 = p <;> by_cases h2 : (nd xs (j + 1)).2.1 = d <;> simp [h1, h2] at hp ⊢
  · simp only [List.length_range, spec_TreeOk.s1, iLt_eq, brB_dec]
    rw [if_neg (by omega), next_id (n := xs.length) hi (by omega)]
theorem specNode (xs : List (Int × Int × Int)) (i : Nat) (h0 : 0 < i) (hi : i < xs.length) (hx : xs.length ≤ 1048576) (hr : (nd xs 0).1 = -1) (rec : List (Int × Int × Int) × Int → Option Bool) (k : Nat) (hk : xs.length < k) :
    spec_TreeOk.s0 k rec xs (i : Int) = brB (nodeB xs i) (rec (xs, ((i + 1 : Nat) : Int))) (some false) := by
  simp only [spec_TreeOk.s0, l01In_eq, iLt_eq, iNe_eq, brB_nb, brB_dec, chk_idx, bnd_one, bNot_eq, rLen_eq, rGet_nd]
  rw [if_pos (by omega), if_idx hi, iSub_id (by omega) (by omega)]
  refine if_chain fun c1 => ?_
  rw [if_pos (by omega)]
  have e : rGet (0, 0, 0) xs (nd xs i).1 = nd xs (nd xs i).1.toNat := rfl
  rw [e]
  refine if_chain fun c2 => ?_
  refine if_chain fun c3 => ?_
  refine if_chain fun c4 => ?_
  exact specDup xs _ _ _ i hi hx (by rw [hr]; omega) rec k hk
theorem specTreeOk_ev (xs : List (Int × Int × Int)) (hx : xs.length ≤ 1048576) (k : Nat) (hk : xs.length < k) : spec_TreeOk.f k xs = some (treeB xs) := by
  simp only [spec_TreeOk.f, l01In_eq, bnd_one, rLen_eq, bNot_eq, brB_nb, brB_dec, chk_idx]
  refine if_and' fun c1 => ?_
  rw [if_pos (by omega)]
  rw [show rGet (0, 0, 0) xs 0 = nd xs 0 from rfl]
  simp only [iEq_eq, bAnd]
  refine brB_and' fun c2 => ?_
  have hr : (nd xs 0).1 = -1 := by
    simp only [Bool.and_eq_true, decide_eq_true_eq] at c2
    exact c2.1
  simp only [spec_TreeOk.l0]
  have h := iter_all (f := fun (rec : (List (Int × Int × Int) × Int) → Option Bool) (x : List (Int × Int × Int) × Int) => spec_TreeOk.s0 k rec x.1 x.2) (fun i => (xs, ((i + 1 : Nat) : Int))) (List.range (xs.length - 1)) (fun i => nodeB xs (i + 1)) (some true) (some false)
    (fun rec i hi hp => ?_) (fun rec i hi hp => ?_) (fun rec => ?_) (n := k) (by simp; omega)
  · refine h.trans ?_
    cases (List.range (xs.length - 1)).all fun i => nodeB xs (i + 1) <;> rfl
  · simp only [List.length_range] at hi
    simp only [List.getElem_range] at hp
    simp only
    rw [specNode xs (i + 1) (by omega) (by omega) hx hr rec k hk, hp]; rfl
  · simp only [List.length_range] at hi
    simp only [List.getElem_range] at hp
    simp only
    rw [specNode xs (i + 1) (by omega) (by omega) hx hr rec k hk, hp]; rfl
  · simp only [List.length_range, spec_TreeOk.s0, iLt_eq, brB_dec, rLen_eq]
    rw [if_neg (by omega)]
theorem indexSame (l : List (Int × Int × Int)) (p d f : Int) (hl : l.length ≤ 4611686018427387904) (k : Nat) (hk : l.length < k) : slices_IndexFunc_Node_impl_TreeOk_1.f k l p d f = some (match l.findIdx? (fun x => !!sameB p d x) with | some i => (i : Int) | none => -1, p, d, f) := by
  simp only [slices_IndexFunc_Node_impl_TreeOk_1.f, slices_IndexFunc_Node_impl_TreeOk_1.l0]
  have one : ∀ x : Int × Int × Int, impl_TreeOk_1.f k x.1 x.2.1 x.2.2 p d f = some (sameB p d x, p, d, f) := fun x => by
    simp only [impl_TreeOk_1.f, iEq_eq, brB_dec, sameB]
    split <;> rename_i h <;> simp [h]
  have h := iter_find (f := fun (rec : (List (Int × Int × Int) × Int × Int × Int × Int × Int) → Option (Int × Int × Int × Int)) (x : List (Int × Int × Int) × Int × Int × Int × Int × Int) => slices_IndexFunc_Node_impl_TreeOk_1.s0 k rec x.1 x.2.1 x.2.2.1 x.2.2.2.1 x.2.2.2.2.1 x.2.2.2.2.2) (fun i => (l, rLen l, (i : Int), p, d, f)) l (fun x => !sameB p d x) (-1, p, d, f) (fun i => ((i : Int), p, d, f)) (fun rec i hi hp => ?_) (fun rec i hi hp => ?_) (fun rec => ?_) hk
  · refine h.trans ?_
    cases l.findIdx? (fun x => !!sameB p d x) <;> rfl
  · simp only [slices_IndexFunc_Node_impl_TreeOk_1.s0, iLt_eq, brB_dec, chk_idx, rLen_eq, rGet_nat, one, bnd_one, getD_lt _ _ hi]
    rw [if_pos (by omega), if_idx hi, next_id hi hl]
    rw [show sameB p d l[i] = false by simpa using hp]; rfl
  · simp only [slices_IndexFunc_Node_impl_TreeOk_1.s0, iLt_eq, brB_dec, chk_idx, rLen_eq, rGet_nat, one, bnd_one, getD_lt _ _ hi]
    rw [if_pos (by omega), if_idx hi]
    rw [show sameB p d l[i] = true by simpa using hp]; rfl
  · simp only [slices_IndexFunc_Node_impl_TreeOk_1.s0, iLt_eq, brB_dec, rLen_eq]
    rw [if_neg (by omega)]
theorem containsSame (l : List (Int × Int × Int)) (p d f : Int) (hl : l.length ≤ 4611686018427387904) (k : Nat) (hk : l.length < k) : slices_ContainsFunc_Node_impl_TreeOk_1.f k l p d f = some (!l.all (fun x => !sameB p d x), p, d, f) := by
  simp only [slices_ContainsFunc_Node_impl_TreeOk_1.f, indexSame l p d f hl k hk, bnd_one, found_iff l (fun x => !sameB p d x)]
theorem implNode (xs : List (Int × Int × Int)) (i : Nat) (hi : i + 1 < xs.length) (hx : xs.length ≤ 1048576) (rec : List (Int × Int × Int) × List (Int × Int × Int) × Int × Int → Option Bool) (k : Nat) (hk : xs.length < k) :
    impl_TreeOk.s0 k rec xs (rSub xs 1 (xs.length : Int)) ((xs.length - 1 : Nat) : Int) (i : Int) = brB (nodeB xs (i + 1)) (rec (xs, rSub xs 1 (xs.length : Int), ((xs.length - 1 : Nat) : Int), ((i + 1 : Nat) : Int))) (some false) := by
  have e1 : rSub xs 1 (xs.length : Int) = xs.drop 1 := by simp [rSub]
  have e2 : rSub xs 0 ((i + 1 : Nat) : Int) = xs.take (i + 1) := by simp [rSub]
  have e3 : rGet (0, 0, 0) (xs.drop 1) (i : Int) = nd xs (i + 1) := by
    rw [rGet_nat, nd, List.getD_eq_getElem?_getD, List.getElem?_drop, Nat.add_comm, ← List.getD_eq_getElem?_getD]
  have e4 : (xs.take (i + 1)).length = i + 1 := by simp; omega
  simp only [impl_TreeOk.s0, within_eq, iLt_eq, iNe_eq, brB_nb, brB_dec, chk_idx, chk_sub, bnd_one, bNot_eq, rLen_eq, e1, e3, next_id (i := i) (n := xs.length) (by omega) (by omega), e2, e4, List.length_drop]
  rw [if_pos (by omega), if_idx (by omega), if_pos (by omega)]
  refine if_chain_iff (q := 0 ≤ (nd xs (i + 1)).1 ∧ (nd xs (i + 1)).1 ≤ ((i + 1 : Nat) : Int) - 1) (by omega) fun c1 => ?_
  rw [if_pos (by omega)]
  have e5 : rGet (0, 0, 0) (xs.take (i + 1)) (nd xs (i + 1)).1 = nd xs (nd xs (i + 1)).1.toNat := by
    simp only [rGet, nd, List.getD_eq_getElem?_getD, List.getElem?_take] at c1 ⊢
    rw [if_pos (by omega)]
  rw [e5]
  refine if_chain fun c2 => ?_
  refine if_chain fun c3 => ?_
  refine if_chain fun c4 => ?_
  rw [containsSame (xs.take (i + 1)) _ _ _ (by omega) k (by omega)]
  simp only [bnd_one, brB_nb]
  rw [take_all (0, 0, 0) xs (by omega)]
  rfl
theorem implTreeOk_ev (xs : List (Int × Int × Int)) (hx : xs.length ≤ 1048576) (k : Nat) (hk : xs.length < k) : impl_TreeOk.f k xs = some (treeB xs) := by
  simp only [impl_TreeOk.f, within_eq, bnd_one, rLen_eq, bNot_eq, brB_nb, brB_dec, chk_idx, chk_sub]
  refine if_and' fun c1 => ?_
  rw [if_pos (by omega)]
  rw [show rGet (0, 0, 0) xs 0 = nd xs 0 from rfl]
  simp only [iEq_eq, bAnd]
  refine brB_and' fun c2 => ?_
  rw [if_pos (by omega)]
  have e1 : (rSub xs 1 (xs.length : Int)).length = xs.length - 1 := by simp [rSub]
  simp only [impl_TreeOk.l0, e1]
  have h := iter_all (f := fun (rec : (List (Int × Int × Int) × List (Int × Int × Int) × Int × Int) → Option Bool) (x : List (Int × Int × Int) × List (Int × Int × Int) × Int × Int) => impl_TreeOk.s0 k rec x.1 x.2.1 x.2.2.1 x.2.2.2) (fun i => (xs, rSub xs 1 (xs.length : Int), ((xs.length - 1 : Nat) : Int), (i : Int))) (List.range (xs.length - 1)) (fun i => nodeB xs (i + 1)) (some true) (some false)
    (fun rec i hi hp => ?_) (fun rec i hi hp => ?_) (fun rec => ?_) (n := k) (by simp; omega)
  · refine h.trans ?_
    cases (List.range (xs.length - 1)).all fun i => nodeB xs (i + 1) <;> rfl
  · simp only [List.length_range] at hi
    simp only [List.getElem_range] at hp
    simp only
    rw [implNode xs i (by omega) hx rec k hk, hp]; rfl
  · simp only [List.length_range] at hi
    simp only [List.getElem_range] at hp
    simp only
    rw [implNode xs i (by omega) hx rec k hk, hp]; rfl
  · simp only [List.length_range, impl_TreeOk.s0, iLt_eq, brB_dec, rLen_eq]
    rw [if_neg (by omega)]
/-- A guard is valid. -/
def guardB (xs : List (Int × Int × Int)) (g : List Bool) : Bool := treeB xs && (decide ((g.length : Int) = (xs.length : Int)) && g.getD 0 false)
theorem tree_len {xs : List (Int × Int × Int)} (h : treeB xs = true) : 1 ≤ xs.length ∧ xs.length ≤ 12 := by
  simp only [treeB, Bool.and_eq_true, decide_eq_true_eq] at h
  omega
theorem implGuardOk_ev (xs : List (Int × Int × Int)) (g : List Bool) (hx : xs.length ≤ 1048576) (k : Nat) (hk : xs.length < k) : impl_GuardOk.f k xs g = some (guardB xs g) := by
  simp only [impl_GuardOk.f, implTreeOk_ev xs hx k hk, bnd_one, iEq_eq, brB_dec, chk_idx, rLen_eq]
  refine brB_and' fun c1 => ?_
  have := tree_len c1
  refine if_and' fun c2 => ?_
  rw [if_pos (by omega)]
  rfl
theorem guard_len {xs : List (Int × Int × Int)} {g : List Bool} (h : guardB xs g = true) : g.length = xs.length := by
  simp only [guardB, Bool.and_eq_true, decide_eq_true_eq] at h
  omega
def mix (l : List Int) (i : Nat) : List Int := (List.range l.length).map fun j => if j < i ∨ l.length ≤ j + i then l.getD (l.length - 1 - j) 0 else l.getD j 0
theorem mix_len (l : List Int) (i : Nat) : (mix l i).length = l.length := by simp [mix]
theorem mix_get (l : List Int) (i : Nat) {j : Nat} (h : j < l.length) : (mix l i).getD j 0 = if j < i ∨ l.length ≤ j + i then l.getD (l.length - 1 - j) 0 else l.getD j 0 := range_get l.length h
theorem getD_ext {l m : List Int} (hl : l.length = m.length) (h : ∀ j, j < l.length → l.getD j 0 = m.getD j 0) : l = m := by
  apply List.ext_getElem hl
  intro j h1 h2
  have := h j h1
  rwa [getD_lt 0 l h1, getD_lt 0 m h2] at this
theorem getD_set_if {α : Type} (d : α) (l : List α) (i j : Nat) (v : α) (h : i < l.length) : (l.set i v).getD j d = if j = i then v else l.getD j d := by
  rw [List.getD_eq_getElem?_getD, List.getD_eq_getElem?_getD, List.getElem?_set]
  by_cases e : j = i
  · subst e; rw [if_pos rfl, if_pos rfl, if_pos h]; rfl
  · rw [if_neg e, if_neg (by omega)]
theorem mix_zero (l : List Int) : mix l 0 = l := by
  refine getD_ext (mix_len l 0) fun j hj => ?_
  rw [mix_len] at hj
  rw [mix_get l 0 hj, if_neg (by omega)]
theorem mix_step (l : List Int) {i : Nat} (h : i + i + 1 < l.length) : ((mix l i).set i ((mix l i).getD (l.length - 1 - i) 0)).set (l.length - 1 - i) ((mix l i).getD i 0) = mix l (i + 1) := by
  refine getD_ext (by simp [mix_len]) fun j hj => ?_
  simp only [List.length_set, mix_len] at hj
  rw [getD_set_if _ _ _ _ _ (by simp [mix_len]; omega), getD_set_if _ _ _ _ _ (by simp [mix_len]; omega), mix_get l (i + 1) hj, mix_get l i (by omega), mix_get l i (by omega), mix_get l i hj]
  by_cases h1 : j = l.length - 1 - i
  · rw [if_pos h1, if_neg (by omega), if_pos (by omega)]
    congr 1; omega
  · rw [if_neg h1]
    by_cases h2 : j = i
    · rw [if_pos h2, if_neg (by omega), if_pos (by omega)]
      congr 1; omega
    · rw [if_neg h2]
      by_cases h3 : j < i ∨ l.length ≤ j + i
      · rw [if_pos h3, if_pos (by omega)]
      · rw [if_neg h3, if_neg (by omega)]
theorem mix_end (l : List Int) {i : Nat} (h : l.length ≤ i + i + 1) : mix l i = l.reverse := by
  refine getD_ext (by simp [mix_len]) fun j hj => ?_
  rw [mix_len] at hj
  have e : l.reverse.getD j 0 = l.getD (l.length - 1 - j) 0 := by
    rw [List.getD_eq_getElem?_getD, List.getD_eq_getElem?_getD, List.getElem?_reverse hj]
  rw [mix_get l i hj, e]
  split
  · rfl
  · congr 1; omega
theorem reverse_ev (l : List Int) (hl : l.length ≤ 1048576) (k : Nat) (hk : l.length < k) : slices_Reverse_int.f k l = some l.reverse := by
  simp only [slices_Reverse_int.f, slices_Reverse_int.l0, rLen_eq]
  rw [iSub_id (by omega) (by omega)]
  have h := iter_upto (f := fun (rec : (List Int × Int × Int) → Option (List Int)) (x : List Int × Int × Int) => slices_Reverse_int.s0 k rec x.1 x.2.1 x.2.2)
    (fun i => (mix l i, (i : Int), (l.length : Int) - 1 - (i : Int))) (l.length / 2) (r := l.reverse) (fun rec i hi => ?_) (fun rec => ?_) (n := k) (by omega)
  · rw [mix_zero] at h; simpa using h
  · have e : (l.length : Int) - 1 - (i : Int) = ((l.length - 1 - i : Nat) : Int) := by omega
    simp only [slices_Reverse_int.s0, e, iLt_eq, brB_dec, chk_idx, rLen_eq, rGet_nat, rSet_nat, List.length_set, mix_len]
    rw [if_pos (by omega), if_idx (by omega), if_idx (by omega), if_idx (by omega), if_idx (by omega), mix_step l (by omega), next_id (i := i) (n := l.length) (by omega) (by omega), iSub_id (by omega) (by omega)]
    congr 3
    omega
  · simp only [slices_Reverse_int.s0, iLt_eq, brB_dec]
    rw [if_neg (by omega), mix_end l (by omega)]
/-- From a node to the root. -/
def upL (xs : List (Int × Int × Int)) : Nat → Int → List Int
  | 0, _ => []
  | f + 1, n => if 0 ≤ n then n :: upL xs f (nd xs n.toNat).1 else []
/-- Each parent comes before its child. -/
def TreeP (xs : List (Int × Int × Int)) : Prop := ∀ i : Nat, i < xs.length → (nd xs i).1 < (i : Int) ∧ (0 < i → 0 ≤ (nd xs i).1)
theorem treeP_of {xs : List (Int × Int × Int)} (h : treeB xs = true) : TreeP xs := by
  intro i hi
  simp only [treeB, Bool.and_eq_true, rootB, decide_eq_true_eq, List.all_eq_true, List.mem_range] at h
  cases i with
  | zero => have := h.2.1.1; exact ⟨by omega, fun h => by omega⟩
  | succ i =>
    have := h.2.2 i (by omega)
    simp only [nodeB, Bool.and_eq_true, decide_eq_true_eq] at this
    exact ⟨by omega, fun _ => this.1.1⟩
theorem upL_len (xs : List (Int × Int × Int)) : ∀ (f : Nat) (n : Int), (upL xs f n).length ≤ f
  | 0, n => Nat.le_refl _
  | f + 1, n => by
    simp only [upL]
    split
    · simp only [List.length_cons]; have := upL_len xs f (nd xs n.toNat).1; omega
    · simp
/-- From the root to a node. -/
def pathT (xs : List (Int × Int × Int)) (n : Int) : List Int := if treeB xs && decide (0 ≤ n ∧ n ≤ (xs.length : Int) - 1) then (upL xs xs.length n).reverse else []
theorem isNode_ev (xs : List (Int × Int × Int)) (n : Int) (hx : xs.length ≤ 1048576) (k : Nat) (hk : xs.length < k) : impl_isNode.f k xs n = some (treeB xs && decide (0 ≤ n ∧ n ≤ (xs.length : Int) - 1)) := by
  simp only [impl_isNode.f, implTreeOk_ev xs hx k hk, within_eq, bnd_one, rLen_eq]
  rw [iSub_id (by omega) (by omega)]
  exact brB_and rfl
noncomputable def ipF (k : Nat) (rec : (List (Int × Int × Int) × Int × List Int) → Option (List Int)) (x : List (Int × Int × Int) × Int × List Int) : Option (List Int) := impl_PathTo.s0 k rec x.1 x.2.1 x.2.2
theorem implUp (xs : List (Int × Int × Int)) (hT : TreeP xs) (k : Nat) (hk : xs.length < k) (hx : xs.length ≤ 12) : ∀ (f : Nat) (n : Int) (out : List Int) (K : Nat), f < K → n < (f : Int) → n < xs.length → out.length + f ≤ xs.length →
    iter (ipF k) K (xs, n, out) = some ((out ++ upL xs f n).reverse)
  | f, n, out, 0, hK, _, _, _ => by omega
  | 0, n, out, K + 1, hK, h1, h2, h3 => by
    show impl_PathTo.s0 k _ xs n out = _
    generalize iter (ipF k) K = rec
    simp only [impl_PathTo.s0, iLe_eq, brB_dec, upL, List.append_nil]
    rw [if_neg (by omega), reverse_ev out (by omega) k (by omega)]; rfl
  | f + 1, n, out, K + 1, hK, h1, h2, h3 => by
    have ih : 0 ≤ n → iter (ipF k) K (xs, (nd xs n.toNat).1, out ++ [n]) = some (((out ++ [n]) ++ upL xs f (nd xs n.toNat).1).reverse) := fun c =>
      have hp := hT n.toNat (by omega)
      implUp xs hT k hk hx f (nd xs n.toNat).1 (out ++ [n]) K (by omega) (by omega) (by omega) (by simp only [List.length_append, List.length_cons, List.length_nil]; omega)
    show impl_PathTo.s0 k (iter (ipF k) K) xs n out = _
    generalize iter (ipF k) K = rec at ih ⊢
    simp only [impl_PathTo.s0, iLe_eq, brB_dec, upL, chk_len, chk_idx, rApp_eq, rLen_eq]
    by_cases c : 0 ≤ n
    · rw [if_pos c, if_pos c, if_pos (by simp only [List.length_append, List.length_cons, List.length_nil]; omega), if_pos (by omega)]
      have e : rGet (0, 0, 0) xs n = nd xs n.toNat := rfl
      rw [e, ih c]
      simp
    · rw [if_neg c, if_neg c, List.append_nil, reverse_ev out (by omega) k (by omega)]; rfl
theorem implPathTo_ev (xs : List (Int × Int × Int)) (n : Int) (hx : xs.length ≤ 1048576) (k : Nat) (hk : xs.length < k) : impl_PathTo.f k xs n = some (pathT xs n) := by
  simp only [impl_PathTo.f, isNode_ev xs n hx k hk, bnd_one, bNot_eq, brB_nb, pathT]
  cases h : treeB xs && decide (0 ≤ n ∧ n ≤ (xs.length : Int) - 1) with
  | false => rfl
  | true =>
    simp only [Bool.and_eq_true, decide_eq_true_eq] at h
    have hl := tree_len h.1
    have := implUp xs (treeP_of h.1) k hk hl.2 xs.length n [] k (by omega) (by omega) (by omega) (by simp)
    simp only [brB_true, if_true]
    rw [List.nil_append] at this
    exact this

/-- Neighbours in a list. -/
def CH (R : Int → Int → Prop) (l : List Int) : Prop := ∀ (i : Nat) x y, l[i]? = some x → l[i + 1]? = some y → R x y
theorem CH.reverse {R : Int → Int → Prop} {l : List Int} (h : CH R l) : CH (fun x y => R y x) l.reverse := by
  intro i x y hx hy
  have h2 : i + 1 < l.length := by have := (List.getElem?_eq_some_iff.1 hy).1; simpa using this
  rw [List.getElem?_reverse (by omega)] at hx
  rw [List.getElem?_reverse h2] at hy
  exact h (l.length - 1 - (i + 1)) y x hy (by rw [show l.length - 1 - (i + 1) + 1 = l.length - 1 - i by omega]; exact hx)
theorem CH.drop {R : Int → Int → Prop} {l : List Int} (h : CH R l) (n : Nat) : CH R (l.drop n) := by
  intro i x y hx hy
  rw [List.getElem?_drop] at hx hy
  exact h (n + i) x y hx (by rw [Nat.add_assoc]; exact hy)
theorem CH.append {R : Int → Int → Prop} {l m : List Int} (h : CH R l) (h' : CH R m) (hj : ∀ x y, l.getLast? = some x → m.head? = some y → R x y) : CH R (l ++ m) := by
  intro i x y hx hy
  rw [List.getElem?_append] at hx hy
  by_cases c1 : i + 1 < l.length
  · rw [if_pos (by omega)] at hx; rw [if_pos c1] at hy
    exact h i x y hx hy
  · rw [if_neg c1] at hy
    by_cases c2 : i < l.length
    · rw [if_pos c2] at hx
      refine hj x y ?_ ?_
      · rw [List.getLast?_eq_getElem?, show l.length - 1 = i by omega]; exact hx
      · rw [show i + 1 - l.length = 0 by omega] at hy
        rw [← hy]; cases m <;> rfl
    · rw [if_neg c2] at hx
      exact h' (i - l.length) x y hx (by rw [show i - l.length + 1 = i + 1 - l.length by omega]; exact hy)
/-- y is the parent of x. -/
def upR (xs : List (Int × Int × Int)) (x y : Int) : Prop := 0 ≤ x ∧ x < xs.length ∧ 0 ≤ y ∧ y < x ∧ (nd xs x.toNat).1 = y
theorem upL_mem {xs : List (Int × Int × Int)} (hT : TreeP xs) : ∀ (f : Nat) (n : Int), n < xs.length → ∀ x ∈ upL xs f n, 0 ≤ x ∧ x < xs.length
  | 0, n, hn, x, hx => by simp [upL] at hx
  | f + 1, n, hn, x, hx => by
    simp only [upL] at hx
    split at hx
    · rename_i c
      rcases List.mem_cons.1 hx with rfl | hx
      · exact ⟨c, hn⟩
      · have := hT n.toNat (by omega)
        exact upL_mem hT f _ (by omega) x hx
    · cases hx
theorem upL_chain {xs : List (Int × Int × Int)} (hT : TreeP xs) : ∀ (f : Nat) (n : Int), n < xs.length → CH (upR xs) (upL xs f n)
  | 0, n, hn => by intro i x y hx; simp [upL] at hx
  | f + 1, n, hn => by
    intro i x y hx hy
    simp only [upL] at hx hy
    split at hx
    · rename_i c
      rw [if_pos c] at hy
      have hp := hT n.toNat (by omega)
      cases i with
      | succ i => exact upL_chain hT f (nd xs n.toNat).1 (by omega) i x y (by simpa using hx) (by simpa using hy)
      | zero =>
        simp at hx
        subst hx
        cases f with
        | zero => simp [upL] at hy
        | succ f =>
          simp only [upL] at hy
          split at hy
          · rename_i c2
            simp at hy
            exact ⟨c, hn, by omega, by omega, hy⟩
          · simp at hy
    · simp at hx
theorem upL_last {xs : List (Int × Int × Int)} (hT : TreeP xs) : ∀ (f : Nat) (n : Int), 0 ≤ n → n < (f : Int) → n < xs.length → (upL xs f n).getLast? = some 0
  | 0, n, h0, h1, h2 => by omega
  | f + 1, n, h0, h1, h2 => by
    have hp := hT n.toNat (by omega)
    simp only [upL]
    rw [if_pos h0]
    by_cases c : 0 ≤ (nd xs n.toNat).1
    · rw [List.getLast?_cons, upL_last hT f _ c (by omega) (by omega)]; rfl
    · have : n = 0 := by
        rcases Nat.eq_zero_or_pos n.toNat with h | h
        · omega
        · exact absurd (hp.2 h) c
      subst this
      have e : upL xs f (nd xs (Int.toNat 0)).1 = [] := by
        cases f with
        | zero => rfl
        | succ f => simp only [upL]; rw [if_neg c]
      rw [e]; rfl
/-- A way from the root. -/
structure WayP (xs : List (Int × Int × Int)) (p : List Int) : Prop where
  head : p[0]? = some 0
  chain : CH (fun x y => upR xs y x) p
  mem : ∀ x ∈ p, 0 ≤ x ∧ x < xs.length
  len : p.length ≤ xs.length
def okN (xs : List (Int × Int × Int)) (n : Int) : Bool := treeB xs && decide (0 ≤ n ∧ n ≤ (xs.length : Int) - 1)
theorem path_way {xs : List (Int × Int × Int)} {n : Int} (h : okN xs n = true) : WayP xs (pathT xs n) := by
  have h' := h
  simp only [okN, Bool.and_eq_true, decide_eq_true_eq] at h'
  have hT := treeP_of h'.1
  have e : pathT xs n = (upL xs xs.length n).reverse := if_pos h
  rw [e]
  have hl := upL_last hT xs.length n (by omega) (by omega) (by omega)
  refine ⟨?_, (upL_chain hT _ _ (by omega)).reverse, fun x hx => upL_mem hT _ _ (by omega) x (List.mem_reverse.1 hx), by rw [List.length_reverse]; exact upL_len xs _ _⟩
  rw [← List.head?_eq_getElem?, List.head?_reverse]
  exact hl
/-- How far two ways go together. -/
def cpl : List Int → List Int → Nat
  | x :: a, y :: b => if x = y then cpl a b + 1 else 0
  | _, _ => 0
theorem cpl_le : ∀ (a b : List Int), cpl a b ≤ a.length ∧ cpl a b ≤ b.length
  | [], _ => by simp [cpl]
  | _ :: _, [] => by simp [cpl]
  | x :: a, y :: b => by
    simp only [cpl, List.length_cons]
    split
    · have := cpl_le a b; omega
    · omega
theorem cpl_eq : ∀ (a b : List Int) (i : Nat), i < cpl a b → a.getD i 0 = b.getD i 0
  | [], _, i, h => by simp [cpl] at h
  | _ :: _, [], i, h => by simp [cpl] at h
  | x :: a, y :: b, i, h => by
    simp only [cpl] at h
    split at h
    · rename_i e
      cases i with
      | zero => simpa using e
      | succ i => simpa using cpl_eq a b i (by omega)
    · omega
theorem cpl_ne : ∀ (a b : List Int), cpl a b < a.length → cpl a b < b.length → a.getD (cpl a b) 0 ≠ b.getD (cpl a b) 0
  | [], _, h, _ => by simp at h
  | _ :: _, [], _, h => by simp at h
  | x :: a, y :: b, h, h' => by
    simp only [cpl, List.length_cons] at h h' ⊢
    split
    · rename_i e
      rw [if_pos e] at h h'
      simpa using cpl_ne a b (by omega) (by omega)
    · rename_i e
      simpa using e
/-- From one node up and down to another. -/
def betB (a b : List Int) : List Int := (a.drop (cpl a b - 1)).reverse ++ b.drop (cpl a b)
theorem cpl_pos {xs : List (Int × Int × Int)} {a b : List Int} (ha : WayP xs a) (hb : WayP xs b) : 1 ≤ cpl a b := by
  have h1 := ha.head; have h2 := hb.head
  match a, b, h1, h2 with
  | x :: a, y :: b, h1, h2 =>
    simp at h1 h2
    simp [cpl, h1, h2]
theorem rSub_drop {α : Type} (l : List α) (c : Nat) : rSub l (c : Int) (l.length : Int) = l.drop c := by simp [rSub]
/-- The way between two nodes. -/
def betT (xs : List (Int × Int × Int)) (m n : Int) : List Int := if okN xs m && okN xs n then betB (pathT xs m) (pathT xs n) else []
theorem implBet_end (k : Nat) (a b : List Int) (c : Nat) (h1 : 1 ≤ c) (ha : c ≤ a.length) (hb : c ≤ b.length) (la : a.length ≤ 1000) (lb : b.length ≤ 1000) (hk : a.length < k) :
    (chk (cSub (iSub .i64 (c : Int) 1) (rLen a) (rLen a)) (bnd (slices_Clone_int.f k (rSub a (iSub .i64 (c : Int) 1) (rLen a))) fun y4 => bnd (slices_Reverse_int.f k y4) fun y5 => chk (cSub (c : Int) (rLen b) (rLen b)) (chk (cLen (rLen (rApp y5 (rSub b (c : Int) (rLen b)))) 8) (some (rApp y5 (rSub b (c : Int) (rLen b))))))) = some ((a.drop (c - 1)).reverse ++ b.drop c) := by
  rw [iSub_id (by omega) (by omega), show (c : Int) - 1 = ((c - 1 : Nat) : Int) by omega]
  simp only [rLen_eq, rSub_drop, slices_Clone_int.f, chk_sub, chk_len, rApp_eq]
  rw [if_pos (by omega), if_pos (by simp only [List.length_drop]; omega)]
  simp only [bnd_one]
  rw [reverse_ev _ (by simp only [List.length_drop]; omega) k (by simp only [List.length_drop]; omega)]
  simp only [bnd_one]
  rw [if_pos (by omega), if_pos (by simp only [List.length_append, List.length_reverse, List.length_drop]; omega)]
theorem iMin_lt (i a b : Int) : i < iMin a b ↔ i < a ∧ i < b := by
  unfold iMin
  by_cases h : b < a
  · rw [if_pos h]; omega
  · rw [if_neg h]; omega
theorem implBet_out {xs : List (Int × Int × Int)} (k : Nat) (a b : List Int) (wa : WayP xs a) (wb : WayP xs b) (hx : xs.length ≤ 12) (hk : xs.length < k) : impl_PathBetween.l0 k k a b 0 = some (betB a b) := by
  have hc := cpl_pos wa wb
  obtain ⟨ca, cb⟩ := cpl_le a b
  have la := wa.len; have lb := wb.len
  simp only [impl_PathBetween.l0]
  have h := iter_upto (f := fun (rec : (List Int × List Int × Int) → Option (List Int)) (x : List Int × List Int × Int) => impl_PathBetween.s0 k rec x.1 x.2.1 x.2.2)
    (fun i => (a, b, (i : Int))) (cpl a b) (r := betB a b) (fun rec i hi => ?_) (fun rec => ?_) (n := k) (by omega)
  · exact h
  · simp only [impl_PathBetween.s0, iLt_eq, iEq_eq, brB_dec, chk_idx, rGet_nat, rLen_eq]
    rw [if_pos ((iMin_lt _ _ _).2 (by omega)), if_idx (by omega), if_idx (by omega), if_pos (cpl_eq a b i hi), next_id hi (by omega)]
  · have hin := implBet_end k a b (cpl a b) hc ca cb (by omega) (by omega) (by omega)
    simp only [impl_PathBetween.s0]
    rw [hin]
    simp only [iLt_eq, iEq_eq, brB_dec, chk_idx, rLen_eq, rGet_nat]
    by_cases c1 : cpl a b < a.length ∧ cpl a b < b.length
    · rw [if_pos ((iMin_lt _ _ _).2 (by omega)), if_idx c1.1, if_idx c1.2, if_neg (cpl_ne a b c1.1 c1.2)]; rfl
    · rw [if_neg (fun h => c1 (by have := (iMin_lt _ _ _).1 h; omega))]; rfl
theorem implBetween_ev (xs : List (Int × Int × Int)) (m n : Int) (hx : xs.length ≤ 1048576) (k : Nat) (hk : xs.length < k) : impl_PathBetween.f k xs m n = some (betT xs m n) := by
  have e : ∀ n, impl_isNode.f k xs n = some (okN xs n) := fun n => isNode_ev xs n hx k hk
  simp only [impl_PathBetween.f, e, implPathTo_ev xs _ hx k hk, bnd_one, bNot_eq, brB_nb, betT]
  cases hm : okN xs m with
  | false => rfl
  | true =>
    cases hn : okN xs n with
    | false => rfl
    | true =>
      have hl : xs.length ≤ 12 := by have := hm; simp only [okN, Bool.and_eq_true] at this; exact (tree_len this.1).2
      rw [brB_true, brB_true, implBet_out k _ _ (path_way hm) (path_way hn) hl hk]; rfl
/-- Neighbours on a way. -/
def nbR (xs : List (Int × Int × Int)) (x y : Int) : Prop := upR xs x y ∨ upR xs y x
theorem CH.imp {R S : Int → Int → Prop} {l : List Int} (h : CH R l) (hi : ∀ x y, R x y → S x y) : CH S l := fun i x y hx hy => hi x y (h i x y hx hy)
theorem bet_chain {xs : List (Int × Int × Int)} {a b : List Int} (wa : WayP xs a) (wb : WayP xs b) : CH (nbR xs) (betB a b) := by
  have hc := cpl_pos wa wb
  obtain ⟨ca, cb⟩ := cpl_le a b
  refine CH.append (((wa.chain.drop _).reverse).imp fun x y h => .inl h) ((wb.chain.drop _).imp fun x y h => .inr h) fun x y hx hy => .inr ?_
  rw [List.getLast?_reverse, List.head?_eq_getElem?, List.getElem?_drop] at hx
  rw [List.head?_eq_getElem?, List.getElem?_drop] at hy
  have hx' : b[cpl a b - 1]? = some x := by
    have e := cpl_eq a b (cpl a b - 1) (by omega)
    rw [getD_lt 0 a (by omega), getD_lt 0 b (by omega)] at e
    rw [List.getElem?_eq_getElem (by omega)] at hx ⊢
    simp only [Nat.add_zero] at hx
    rw [← e]; exact hx
  exact wb.chain (cpl a b - 1) x y hx' (by rw [show cpl a b - 1 + 1 = cpl a b + 0 by omega]; exact hy)
theorem bet_mem {xs : List (Int × Int × Int)} {a b : List Int} (wa : WayP xs a) (wb : WayP xs b) : ∀ x ∈ betB a b, 0 ≤ x ∧ x < xs.length := by
  intro x hx
  rcases List.mem_append.1 hx with h | h
  · exact wa.mem x (List.mem_of_mem_drop (List.mem_reverse.1 h))
  · exact wb.mem x (List.mem_of_mem_drop h)
theorem betT_len (xs : List (Int × Int × Int)) (m n : Int) : (betT xs m n).length ≤ 24 := by
  unfold betT
  split
  · rename_i h
    simp only [Bool.and_eq_true] at h
    have h' := h
    simp only [okN, Bool.and_eq_true] at h'
    have l := tree_len h'.1.1
    have wa := path_way h.1; have wb := path_way h.2
    have la := wa.len; have lb := wb.len
    simp only [betB, List.length_append, List.length_reverse, List.length_drop]
    omega
  · simp
/-- One step of a way is open. -/
def openB (xs : List (Int × Int × Int)) (g : List Bool) (x y : Int) : Bool := if (nd xs y.toNat).1 = x then g.getD y.toNat false else g.getD x.toNat false
def canB (xs : List (Int × Int × Int)) (g : List Bool) (m n : Int) : Bool := guardB xs g && (!decide (((betT xs m n).length : Int) = 0) && (List.range ((betT xs m n).length - 1)).all fun i => openB xs g ((betT xs m n).getD i 0) ((betT xs m n).getD (i + 1) 0))
theorem bet_facts {xs : List (Int × Int × Int)} {m n : Int} {i : Nat} (hi : i + 1 < (betT xs m n).length) : ∃ x y, (betT xs m n).getD i 0 = x ∧ (betT xs m n).getD (i + 1) 0 = y ∧ (0 ≤ x ∧ x < xs.length) ∧ (0 ≤ y ∧ y < xs.length) ∧ nbR xs x y := by
  unfold betT at hi ⊢
  split at hi
  · rename_i h
    rw [if_pos h]
    simp only [Bool.and_eq_true] at h
    have wa := path_way h.1; have wb := path_way h.2
    refine ⟨_, _, rfl, rfl, ?_, ?_, ?_⟩
    · rw [getD_lt 0 _ (by omega)]; exact bet_mem wa wb _ (List.getElem_mem _)
    · rw [getD_lt 0 _ hi]; exact bet_mem wa wb _ (List.getElem_mem _)
    · rw [getD_lt 0 _ (show i < (betB (pathT xs m) (pathT xs n)).length by omega), getD_lt 0 _ hi]
      exact bet_chain wa wb i _ _ (List.getElem?_eq_getElem _) (List.getElem?_eq_getElem _)
  · simp at hi
theorem open_back {xs : List (Int × Int × Int)} (hT : TreeP xs) {g : List Bool} {x y : Int} (h : nbR xs x y) : openB xs g x y = (if (nd xs x.toNat).1 = y then g.getD x.toNat false else g.getD y.toNat false) := by
  unfold openB
  rcases h with ⟨h1, h2, h3, h4, h5⟩ | ⟨h1, h2, h3, h4, h5⟩
  · have := hT y.toNat (by omega)
    rw [if_neg (by omega), if_pos h5]
  · have := hT x.toNat (by omega)
    rw [if_pos h5, if_neg (by omega)]
theorem implCanReach_ev (xs : List (Int × Int × Int)) (g : List Bool) (m n : Int) (hx : xs.length ≤ 1048576) (k : Nat) (hk : xs.length + 100 < k) : impl_CanReach.f k xs g m n = some (canB xs g m n) := by
  simp only [impl_CanReach.f, implBetween_ev xs m n hx k (by omega), implGuardOk_ev xs g hx k (by omega), bnd_one, bNot_eq, brB_nb, iEq_eq, brB_dec, rLen_eq, canB]
  refine brB_and' fun c1 => ?_
  have hg := guard_len c1
  have hT : TreeP xs := treeP_of (by have h := c1; simp only [guardB, Bool.and_eq_true] at h; exact h.1)
  have hl := betT_len xs m n
  by_cases c2 : ((betT xs m n).length : Int) = 0
  · rw [if_pos c2, decide_eq_true c2]; rfl
  · rw [if_neg c2, decide_eq_false c2, Bool.not_false, Bool.true_and]
    simp only [impl_CanReach.l0]
    have h := iter_all (f := fun (rec : (List (Int × Int × Int) × List Int × Int × List Bool) → Option Bool) (x : List (Int × Int × Int) × List Int × Int × List Bool) => impl_CanReach.s0 k rec x.1 x.2.1 x.2.2.1 x.2.2.2) (fun i => (xs, betT xs m n, ((i + 1 : Nat) : Int), g)) (List.range ((betT xs m n).length - 1)) (fun i => openB xs g ((betT xs m n).getD i 0) ((betT xs m n).getD (i + 1) 0)) (some true) (some false)
      (fun rec i hi hp => ?_) (fun rec i hi hp => ?_) (fun rec => ?_) (n := k) (by simp; omega)
    · refine h.trans ?_
      cases (List.range ((betT xs m n).length - 1)).all _ <;> rfl
    · simp only [List.length_range] at hi
      simp only [List.getElem_range] at hp
      obtain ⟨x, y, ex, ey, hxr, hyr, hn⟩ := bet_facts (xs := xs) (m := m) (n := n) (i := i) (by omega)
      rw [ex, ey] at hp
      simp only [impl_CanReach.s0, show iSub .i64 ((i + 1 : Nat) : Int) 1 = (i : Int) by (rw [iSub_id (by omega) (by omega)]; omega), next_id (i := i + 1) (n := (betT xs m n).length) (by omega) (by omega), iLt_eq, iEq_eq, brB_dec, chk_idx, bNot_eq, brB_nb, rLen_eq, rGet_nat, ex, ey]
      rw [if_pos (by omega), if_idx (by omega), if_idx (by omega), if_pos (by omega), if_idx (by omega)]
      simp only [show rGet (0, 0, 0) xs x = nd xs x.toNat from rfl, show rGet false g y = g.getD y.toNat false from rfl, show rGet false g x = g.getD x.toNat false from rfl]
      rw [open_back hT hn] at hp
      by_cases hc : (nd xs x.toNat).1 = y
      · rw [if_pos hc] at hp
        rw [if_pos hc, if_idx (by omega), if_pos (by omega), hp]; rfl
      · rw [if_neg hc] at hp
        rw [if_neg hc, if_pos (by omega), hp]; rfl
    · simp only [List.length_range] at hi
      simp only [List.getElem_range] at hp
      obtain ⟨x, y, ex, ey, hxr, hyr, hn⟩ := bet_facts (xs := xs) (m := m) (n := n) (i := i) (by omega)
      rw [ex, ey] at hp
      simp only [impl_CanReach.s0, show iSub .i64 ((i + 1 : Nat) : Int) 1 = (i : Int) by (rw [iSub_id (by omega) (by omega)]; omega), next_id (i := i + 1) (n := (betT xs m n).length) (by omega) (by omega), iLt_eq, iEq_eq, brB_dec, chk_idx, bNot_eq, brB_nb, rLen_eq, rGet_nat, ex, ey]
      rw [if_pos (by omega), if_idx (by omega), if_idx (by omega), if_pos (by omega), if_idx (by omega)]
      simp only [show rGet (0, 0, 0) xs x = nd xs x.toNat from rfl, show rGet false g y = g.getD y.toNat false from rfl, show rGet false g x = g.getD x.toNat false from rfl]
      rw [open_back hT hn] at hp
      by_cases hc : (nd xs x.toNat).1 = y
      · rw [if_pos hc] at hp
        rw [if_pos hc, if_idx (by omega), if_pos (by omega), hp]; rfl
      · rw [if_neg hc] at hp
        rw [if_neg hc, if_pos (by omega), hp]; rfl
    · simp only [List.length_range, impl_CanReach.s0, iLt_eq, brB_dec, rLen_eq]
      rw [if_neg (by omega)]

def noP : Int × Int × Int × Int × Int × Int × Int × List Int × Bool := (0, 0, 0, 0, 0, 0, 0, [], false)
/-- What the refusal of a packet gives. -/
def refB (c p1 p5 d s : Int) : Int × Int × Int × Int × Int × Int × Int × List Int × Bool := if c = 1 ∧ (0 ≤ d ∧ d ≤ 255) ∧ (1 ≤ s ∧ s ≤ 2) then (6, d, p1, 0, 0, p5, s, [], true) else noP
theorem implRefusal_ev (a0 a1 a2 a3 a4 a5 a6 : Int) (l : List Int) (d s : Int) (hl : l.length ≤ 1048576) (h3 : (Lit.int .i64 a3).wf = true) (h4 : (Lit.int .i64 a4).wf = true) (k : Nat) (hk : l.length < k) : impl_RefusalOf.f k a0 a1 a2 a3 a4 a5 a6 l d s = some (refB (classB (packB a0 a1 a2 a3 a4 a5 a6 l) a0) a1 a5 d s) := by
  simp only [impl_RefusalOf.f, implClassOf_ev a0 a1 a2 a3 a4 a5 a6 l hl h3 h4 k hk, implIsId_eq, iLt_eq, iLe_eq, iEq_eq, iNe_eq, bNot_eq, bEq_eq, bNe_eq, brB_nb, brB_dec, brB_true, brB_false, chk_idx, chk_len, chk_make, chk_sub, bnd_one, rLen_eq, rGet_nat, rSet_nat, rApp_eq, ↓reduceIte]
  generalize classB (packB a0 a1 a2 a3 a4 a5 a6 l) a0 = c
  unfold refB noP
  by_cases c1 : c = 1
  · by_cases c2 : 0 ≤ d ∧ d ≤ 255
    · by_cases c3 : s = 1
      · subst c3; simp [c1, c2]
      · by_cases c4 : s = 2
        · subst c4; simp [c1, c2]
        · rw [if_pos c1, if_pos c2, if_neg c3, if_neg c4, if_neg (by omega)]
    · rw [if_pos c1, if_neg c2, if_neg (fun h => c2 h.2.1)]
  · rw [if_neg c1, if_neg (fun h => c1 h.1)]
/-- What is answered for a node that cannot be reached. -/
def ansB (xs : List (Int × Int × Int)) (g : List Bool) (c p1 p5 m n : Int) : Int × Int × Int × Int × Int × Int × Int × List Int × Bool :=
  if guardB xs g = true ∧ (0 ≤ m ∧ m ≤ (xs.length : Int) - 1) ∧ (0 ≤ n ∧ n ≤ (xs.length : Int) - 1) ∧ canB xs g m n = false then refB c p1 p5 p1 1 else noP
theorem implAnswer_ev (xs : List (Int × Int × Int)) (g : List Bool) (a0 a1 a2 a3 a4 a5 a6 : Int) (l : List Int) (m n : Int) (hx : xs.length ≤ 1048576) (hl : l.length ≤ 1048576) (h3 : (Lit.int .i64 a3).wf = true) (h4 : (Lit.int .i64 a4).wf = true) (k : Nat) (hk : xs.length + l.length + 100 < k) :
    impl_AnswerFor.f k xs g a0 a1 a2 a3 a4 a5 a6 l m n = some (ansB xs g (classB (packB a0 a1 a2 a3 a4 a5 a6 l) a0) a1 a5 m n) := by
  simp only [impl_AnswerFor.f, implGuardOk_ev xs g hx k (by omega), isNode_ev xs _ hx k (show xs.length < k by omega), implCanReach_ev xs g m n hx k (by omega), implRefusal_ev a0 a1 a2 a3 a4 a5 a6 l a1 1 hl h3 h4 k (by omega), iLt_eq, iLe_eq, iEq_eq, iNe_eq, bNot_eq, bEq_eq, bNe_eq, brB_nb, brB_dec, brB_true, brB_false, chk_idx, chk_len, chk_make, chk_sub, bnd_one, rLen_eq, rGet_nat, rSet_nat, rApp_eq, ↓reduceIte]
  generalize classB (packB a0 a1 a2 a3 a4 a5 a6 l) a0 = c
  unfold ansB
  cases hg : guardB xs g with
  | false => simp [brB, noP]
  | true =>
    have ht : treeB xs = true := by have h := hg; simp only [guardB, Bool.and_eq_true] at h; exact h.1
    rw [brB_true, ht]
    simp only [Bool.true_and, brB_dec]
    by_cases c1 : 0 ≤ m ∧ m ≤ (xs.length : Int) - 1
    · rw [if_pos c1]
      by_cases c2 : 0 ≤ n ∧ n ≤ (xs.length : Int) - 1
      · rw [if_pos c2]
        cases hc : canB xs g m n with
        | true => rw [brB_true, if_neg (by simp)]; rfl
        | false => rw [brB_false, if_pos ⟨by trivial, c1, c2, by trivial⟩]
      · rw [if_neg c2, if_neg (fun h => c2 h.2.2.1)]; rfl
    · rw [if_neg c1, if_neg (fun h => c1 h.2.1)]; rfl

theorem iBit_and255 (x : Int) : 0 ≤ iBit .and .i64 x 255 ∧ iBit .and .i64 x 255 ≤ 255 := by
  have h : (BitVec.ofInt IntKind.i64.bits x &&& BitVec.ofInt IntKind.i64.bits 255).toNat ≤ 255 := by
    rw [BitVec.toNat_and]
    refine Nat.le_trans Nat.and_le_right ?_
    decide
  simp only [iBit]
  rw [wrap64, w64_id (by omega) (by omega)]
  omega
noncomputable def lnF (k : Nat) (rec : (List Int × Int × Int) → Option (List Int × Int × Int)) (x : List Int × Int × Int) : Option (List Int × Int × Int) := spec_l01New.s0 k rec x.1 x.2.1 x.2.2
theorem l01New_ev (c : List Int) (k : Nat) (hk : 4000 < k) : ∃ s, spec_l01New.f k c = some (c, 0, s) := by
  suffices H : ∀ (n i : Nat) (x : Int) (K : Nat), i + n = 4000 → n < K → ∃ s, iter (lnF k) K (c, x, (i : Int)) = some (c, 0, s) from H 4000 0 (iAdd .i64 98663 (rLen c)) k (by omega) hk
  intro n
  induction n with
  | zero =>
    intro i x K hi hK
    obtain ⟨m, rfl⟩ : ∃ m, K = m + 1 := ⟨K - 1, by omega⟩
    refine ⟨x, ?_⟩
    show spec_l01New.s0 k (iter (lnF k) m) c x (i : Int) = _
    generalize iter (lnF k) m = rec
    simp only [spec_l01New.s0, iLt_eq, iLe_eq, iEq_eq, iNe_eq, bNot_eq, bEq_eq, bNe_eq, brB_nb, brB_dec, brB_true, brB_false, chk_idx, chk_len, chk_make, chk_sub, bnd_one, rLen_eq, rGet_nat, rSet_nat, rApp_eq, ↓reduceIte]
    by_cases h : (i : Int) < (c.length : Int)
    · rw [if_pos h, if_neg (by omega)]
    · rw [if_neg h]
  | succ n ih =>
    intro i x K hi hK
    obtain ⟨m, rfl⟩ : ∃ m, K = m + 1 := ⟨K - 1, by omega⟩
    by_cases h : (i : Int) < (c.length : Int)
    · obtain ⟨s, hs⟩ := ih (i + 1) (iBit .and .i64 (iAdd .i64 (iAdd .i64 (iMul .i64 x 131) (iCnv .i64 (c.getD i 0))) 7) 1073741823) m (by omega) (by omega)
      refine ⟨s, ?_⟩
      show spec_l01New.s0 k (iter (lnF k) m) c x (i : Int) = _
      generalize iter (lnF k) m = rec at hs ⊢
      simp only [spec_l01New.s0, iLt_eq, iLe_eq, iEq_eq, iNe_eq, bNot_eq, bEq_eq, bNe_eq, brB_nb, brB_dec, brB_true, brB_false, chk_idx, chk_len, chk_make, chk_sub, bnd_one, rLen_eq, rGet_nat, rSet_nat, rApp_eq, ↓reduceIte]
      rw [if_pos h, if_pos (by omega), if_pos (by omega), next_id (n := 4000) (by omega) (by omega), hs]
    · refine ⟨x, ?_⟩
      show spec_l01New.s0 k (iter (lnF k) m) c x (i : Int) = _
      generalize iter (lnF k) m = rec
      simp only [spec_l01New.s0, iLt_eq, iLe_eq, iEq_eq, iNe_eq, bNot_eq, bEq_eq, bNe_eq, brB_nb, brB_dec, brB_true, brB_false, chk_idx, chk_len, chk_make, chk_sub, bnd_one, rLen_eq, rGet_nat, rSet_nat, rApp_eq, ↓reduceIte]
      rw [if_neg h]
theorem l01Byte_some (k : Nat) (c : List Int) (hc : c.length ≤ 2000000) (p s : Int) (hp : 0 ≤ p) : ∃ b p' s', spec_l01Byte.f k c p s = some (b, c, p', s') ∧ 0 ≤ b ∧ b ≤ 255 ∧ 0 ≤ p' := by
  simp only [spec_l01Byte.f, chk_nn, iLt_eq, brB_dec, chk_idx, rLen_eq]
  rw [if_pos (by omega), if_pos (by omega)]
  by_cases h : p < (c.length : Int)
  · rw [if_pos h, if_pos (by omega)]
    exact ⟨_, _, _, rfl, (iBit_and255 _).1, (iBit_and255 _).2, by rw [iAdd_id (by omega) (by omega)]; omega⟩
  · rw [if_neg h]
    exact ⟨_, _, _, rfl, (iBit_and255 _).1, (iBit_and255 _).2, hp⟩
theorem l01Below_some (k : Nat) (c : List Int) (hc : c.length ≤ 2000000) (p s n : Int) (hp : 0 ≤ p) (hn : 0 < n) : ∃ v p' s', spec_l01Below.f k n c p s = some (v, c, p', s') ∧ 0 ≤ v ∧ v < n ∧ 0 ≤ p' := by
  obtain ⟨b1, p1, s1, e1, h1, g1, q1⟩ := l01Byte_some k c hc p s hp
  obtain ⟨b2, p2, s2, e2, h2, g2, q2⟩ := l01Byte_some k c hc p1 s1 q1
  obtain ⟨b3, p3, s3, e3, h3, g3, q3⟩ := l01Byte_some k c hc p2 s2 q2
  obtain ⟨b4, p4, s4, e4, h4, g4, q4⟩ := l01Byte_some k c hc p3 s3 q3
  simp only [spec_l01Below.f, iLe_eq, brB_dec, e1, e2, e3, e4, bnd_one, chk_nz]
  rw [if_neg (by omega)]
  by_cases h : n ≤ 256
  · rw [if_pos h, if_neg (by omega)]
    exact ⟨_, _, _, rfl, Int.tmod_nonneg _ h1, Int.tmod_lt_of_pos _ hn, q1⟩
  · rw [if_neg h, if_neg (by omega)]
    have e : iAdd .i64 (iAdd .i64 (iAdd .i64 (iMul .i64 b1 16777216) (iMul .i64 b2 65536)) (iMul .i64 b3 256)) b4 = b1 * 16777216 + b2 * 65536 + b3 * 256 + b4 := by
      simp only [iAdd_w, iMul_w, w64]; omega
    rw [e]
    exact ⟨_, _, _, rfl, Int.tmod_nonneg _ (by omega), Int.tmod_lt_of_pos _ hn, q4⟩
theorem l01PickInt_some (k : Nat) (l c : List Int) (hc : c.length ≤ 2000000) (p s : Int) (hp : 0 ≤ p) (hl : 0 < l.length) : ∃ v p' s', spec_l01PickInt.f k l c p s = some (v, c, p', s') ∧ v ∈ l ∧ 0 ≤ p' := by
  obtain ⟨v, p1, s1, e1, h1, g1, q1⟩ := l01Below_some k c hc p s (l.length : Int) hp (by omega)
  simp only [spec_l01PickInt.f, rLen_eq, e1, bnd_one, chk_idx]
  rw [if_pos ⟨h1, g1⟩, rGet_in _ _ h1, getD_lt 0 l (by omega)]
  exact ⟨_, _, _, rfl, List.getElem_mem _, q1⟩
theorem l01Once_some (k : Nat) (c : List Int) (hc : c.length ≤ 2000000) (p s n : Int) (hp : 0 ≤ p) (hn : 0 < n) : ∃ v p' s', spec_l01Once.f k n c p s = some (v, c, p', s') ∧ 0 ≤ p' := by
  obtain ⟨v, p1, s1, e1, h1, g1, q1⟩ := l01Below_some k c hc p s n hp hn
  simp only [spec_l01Once.f, e1, bnd_one]
  exact ⟨_, _, _, rfl, q1⟩
noncomputable def dpF (k : Nat) (rec : (List Int × Int × List Int × Int × Int) → Option (List Int)) (x : List Int × Int × List Int × Int × Int) : Option (List Int) := spec_DrawPlaces.s0 k rec x.1 x.2.1 x.2.2.1 x.2.2.2.1 x.2.2.2.2
/-- Twelve places. -/
theorem drawPlaces_ev (c : List Int) (hc : c.length ≤ 2000000) (k : Nat) (hk : 4000 < k) : ∃ l : List Int, spec_DrawPlaces.f k c = some l ∧ l.length = 12 ∧ ∀ x ∈ l, 0 ≤ x ∧ x < 10000 := by
  obtain ⟨s0, h0⟩ := l01New_ev c k hk
  suffices H : ∀ (n i : Nat) (x : List Int) (p s : Int) (K : Nat), i + n = 12 → n < K → x.length = i → 0 ≤ p → (∀ y ∈ x, 0 ≤ y ∧ y < 10000) → ∃ l : List Int, iter (dpF k) K (x, (i : Int), c, p, s) = some l ∧ l.length = 12 ∧ ∀ x ∈ l, 0 ≤ x ∧ x < 10000 by
    obtain ⟨l, h, hl⟩ := H 12 0 [] 0 s0 k (by omega) (by omega) rfl (by omega) (fun y hy => by cases hy)
    refine ⟨l, ?_, hl⟩
    simp only [spec_DrawPlaces.f, h0, bnd_one]
    exact h
  intro n
  induction n with
  | zero =>
    intro i x p s K hi hK hx hp hxs
    obtain ⟨m, rfl⟩ : ∃ m, K = m + 1 := ⟨K - 1, by omega⟩
    refine ⟨x, ?_, by omega, hxs⟩
    show spec_DrawPlaces.s0 k (iter (dpF k) m) x (i : Int) c p s = _
    generalize iter (dpF k) m = rec
    simp only [spec_DrawPlaces.s0, iLt_eq, brB_dec]
    rw [if_neg (by omega)]
  | succ n ih =>
    intro i x p s K hi hK hx hp hxs
    obtain ⟨m, rfl⟩ : ∃ m, K = m + 1 := ⟨K - 1, by omega⟩
    obtain ⟨v, p1, s1, e1, h1, g1, q1⟩ := l01Below_some k c hc p s 10000 hp (by omega)
    obtain ⟨l, h, hl⟩ := ih (i + 1) (x ++ [v]) p1 s1 m (by omega) (by omega) (by simp [hx]) q1 (fun y hy => by
      rcases List.mem_append.1 hy with hy | hy
      · exact hxs y hy
      · simp at hy; subst hy; exact ⟨h1, g1⟩)
    refine ⟨l, ?_, hl⟩
    show spec_DrawPlaces.s0 k (iter (dpF k) m) x (i : Int) c p s = _
    generalize iter (dpF k) m = rec at h ⊢
    simp only [spec_DrawPlaces.s0, iLt_eq, brB_dec, e1, bnd_one, chk_len, rLen_eq, rApp_eq]
    rw [if_pos (by omega), if_pos (by simp only [List.length_append, List.length_cons, List.length_nil]; omega), next_id (n := 12) (by omega) (by omega), h]
theorem cpl_comm : ∀ (a b : List Int), cpl a b = cpl b a
  | [], [] => rfl
  | [], _ :: _ => rfl
  | _ :: _, [] => rfl
  | x :: a, y :: b => by
    simp only [cpl]
    rw [cpl_comm a b]
    by_cases h : x = y
    · rw [if_pos h, if_pos h.symm]
    · rw [if_neg h, if_neg (fun e => h e.symm)]
theorem betB_rev {xs : List (Int × Int × Int)} {a b : List Int} (wa : WayP xs a) (wb : WayP xs b) : betB b a = (betB a b).reverse := by
  have hc := cpl_pos wa wb
  obtain ⟨ca, cb⟩ := cpl_le a b
  have e := cpl_eq a b (cpl a b - 1) (by omega)
  unfold betB
  rw [cpl_comm b a, List.reverse_append, List.reverse_reverse]
  generalize cpl a b = c at *
  rw [getD_lt 0 a (by omega), getD_lt 0 b (by omega)] at e
  rw [List.drop_eq_getElem_cons (show c - 1 < a.length by omega), List.drop_eq_getElem_cons (show c - 1 < b.length by omega), show c - 1 + 1 = c by omega, e]
  simp
theorem betT_rev (xs : List (Int × Int × Int)) (m n : Int) : betT xs n m = (betT xs m n).reverse := by
  unfold betT
  cases hm : okN xs m with
  | false => cases hn : okN xs n <;> rfl
  | true =>
    cases hn : okN xs n with
    | false => rfl
    | true => exact betB_rev (path_way hm) (path_way hn)
theorem canB_comm {xs : List (Int × Int × Int)} {g : List Bool} (hg : guardB xs g = true) (m n : Int) : canB xs g m n = canB xs g n m := by
  have hT : TreeP xs := treeP_of (by have h := hg; simp only [guardB, Bool.and_eq_true] at h; exact h.1)
  have H : ∀ m n, canB xs g m n = true → canB xs g n m = true := by
    intro m n h
    unfold canB at h ⊢
    rw [betT_rev xs m n]
    simp only [Bool.and_eq_true, List.all_eq_true, List.mem_range, List.length_reverse] at h ⊢
    refine ⟨h.1, h.2.1, fun i hi => ?_⟩
    have := h.2.2 ((betT xs m n).length - 1 - (i + 1)) (by omega)
    obtain ⟨x, y, ex, ey, hxr, hyr, hn⟩ := bet_facts (xs := xs) (m := m) (n := n) (i := (betT xs m n).length - 1 - (i + 1)) (by omega)
    have r1 : (betT xs m n).reverse.getD i 0 = y := by
      rw [List.getD_eq_getElem?_getD, List.getElem?_reverse (by omega), ← List.getD_eq_getElem?_getD, ← ey]
      congr 1; omega
    have r2 : (betT xs m n).reverse.getD (i + 1) 0 = x := by
      rw [List.getD_eq_getElem?_getD, List.getElem?_reverse (by omega), ← List.getD_eq_getElem?_getD, ← ex]
    rw [r1, r2]
    rw [ex, ey, open_back hT hn] at this
    exact this
  rw [Bool.eq_iff_iff]
  exact ⟨H m n, H n m⟩
theorem cpl_self : ∀ (a : List Int), cpl a a = a.length
  | [] => rfl
  | x :: a => by simp only [cpl, ↓reduceIte, List.length_cons, cpl_self a]
theorem canB_self {xs : List (Int × Int × Int)} {g : List Bool} (hg : guardB xs g = true) {n : Int} (h : okN xs n = true) : canB xs g n n = true := by
  have wb := path_way h
  have hl : 1 ≤ (pathT xs n).length := by
    have hh := wb.head
    rcases Nat.eq_zero_or_pos (pathT xs n).length with e | e
    · rw [List.length_eq_zero_iff.1 e] at hh; cases hh
    · exact e
  have e : (betT xs n n).length = 1 := by
    unfold betT
    rw [if_pos (by rw [h]; rfl)]
    simp only [betB, cpl_self, List.length_append, List.length_reverse, List.length_drop]
    omega
  unfold canB
  rw [hg, e]
  rfl

/-- It gives something that is so. -/
def Yd {R : Type} (x : Option R) (Q : R → Prop) : Prop := ∃ r, x = some r ∧ Q r
theorem Yd.one {R : Type} {r : R} {Q : R → Prop} (h : Q r) : Yd (some r) Q := ⟨r, rfl, h⟩
theorem Yd.bnd {A R : Type} {x : Option A} {f : A → Option R} {P : A → Prop} {Q : R → Prop} (h : Yd x P) (hf : ∀ a, P a → Yd (f a) Q) : Yd (bnd x f) Q := by
  obtain ⟨a, e, ha⟩ := h
  subst e
  exact hf a ha
theorem Yd.br {R : Type} {b : Bool} {x y : Option R} {Q : R → Prop} (hx : b = true → Yd x Q) (hy : b = false → Yd y Q) : Yd (brB b x y) Q := by
  cases b with
  | true => exact hx rfl
  | false => exact hy rfl
theorem Yd.eq {R : Type} {a b : Int} {x y : Option R} {Q : R → Prop} (hx : a = b → Yd x Q) (hy : ¬ a = b → Yd y Q) : Yd (brB (iEq a b) x y) Q := by
  rw [iEq_eq, brB_dec]; split
  · exact hx ‹_›
  · exact hy ‹_›
theorem Yd.lt {R : Type} {a b : Int} {x y : Option R} {Q : R → Prop} (hx : a < b → Yd x Q) (hy : ¬ a < b → Yd y Q) : Yd (brB (iLt a b) x y) Q := by
  rw [iLt_eq, brB_dec]; split
  · exact hx ‹_›
  · exact hy ‹_›
theorem Yd.imp {R : Type} {x : Option R} {P Q : R → Prop} (h : Yd x P) (hi : ∀ r, P r → Q r) : Yd x Q := by
  obtain ⟨r, e, hr⟩ := h
  exact ⟨r, e, hi r hr⟩
theorem Yd.len {R : Type} {n b : Int} {x : Option R} {Q : R → Prop} (h : n * b ≤ 35184372088832) (hx : Yd x Q) : Yd (chk (cLen n b) x) Q := by rw [chk_len, if_pos h]; exact hx
theorem Yd.idx {R : Type} {i n : Int} {x : Option R} {Q : R → Prop} (h : 0 ≤ i ∧ i < n) (hx : Yd x Q) : Yd (chk (cIdx i n) x) Q := by rw [chk_idx, if_pos h]; exact hx
theorem below_bnd {R : Type} {k : Nat} {c : List Int} {p s n : Int} {f : Int × List Int × Int × Int → Option R} {Q : R → Prop} (hc : c.length ≤ 2000000) (hp : 0 ≤ p) (hn : 0 < n)
    (h : ∀ v p' s', 0 ≤ v → v < n → 0 ≤ p' → Yd (f (v, c, p', s')) Q) : Yd (bnd (spec_l01Below.f k n c p s) f) Q := by
  obtain ⟨v, p1, s1, e1, h1, g1, q1⟩ := l01Below_some k c hc p s n hp hn
  rw [e1]
  exact h v p1 s1 h1 g1 q1
theorem pick_bnd {R : Type} {k : Nat} {l c : List Int} {p s : Int} {f : Int × List Int × Int × Int → Option R} {Q : R → Prop} (hc : c.length ≤ 2000000) (hp : 0 ≤ p) (hl : 0 < l.length)
    (h : ∀ v p' s', v ∈ l → 0 ≤ p' → Yd (f (v, c, p', s')) Q) : Yd (bnd (spec_l01PickInt.f k l c p s) f) Q := by
  obtain ⟨v, p1, s1, e1, m1, q1⟩ := l01PickInt_some k l c hc p s hp hl
  rw [e1]
  exact h v p1 s1 m1 q1
theorem once_bnd {R : Type} {k : Nat} {c : List Int} {p s n : Int} {f : Bool × List Int × Int × Int → Option R} {Q : R → Prop} (hc : c.length ≤ 2000000) (hp : 0 ≤ p) (hn : 0 < n)
    (h : ∀ v p' s', 0 ≤ p' → Yd (f (v, c, p', s')) Q) : Yd (bnd (spec_l01Once.f k n c p s) f) Q := by
  obtain ⟨v, p1, s1, e1, q1⟩ := l01Once_some k c hc p s n hp hn
  rw [e1]
  exact h v p1 s1 q1
/-- A loop that makes something of its state in at most N rounds. -/
theorem iter_yd {X R : Type} {f : (X → Option R) → X → Option R} {I : Nat → X → Prop} {Q : R → Prop} (N : Nat)
    (step : ∀ rec i x, i ≤ N → I i x → (∀ x', i < N → I (i + 1) x' → ∃ r, rec x' = some r ∧ Q r) → ∃ r, f rec x = some r ∧ Q r) {n : Nat} (hn : N < n) {x : X} (hx : I 0 x) : ∃ r, iter f n x = some r ∧ Q r := by
  suffices H : ∀ d i n x, i + d = N → d < n → I i x → ∃ r, iter f n x = some r ∧ Q r from H N 0 n x (by omega) hn hx
  intro d
  induction d with
  | zero =>
    intro i n x hi hn hx
    obtain ⟨m, rfl⟩ : ∃ m, n = m + 1 := ⟨n - 1, by omega⟩
    exact step _ i x (by omega) hx fun x' h => by omega
  | succ d ih =>
    intro i n x hi hn hx
    obtain ⟨m, rfl⟩ : ∃ m, n = m + 1 := ⟨n - 1, by omega⟩
    exact step _ i x (by omega) hx fun x' _ hx' => ih (i + 1) m x' (by omega) (by omega) hx'
/-- A drawn tree is valid. -/
theorem l19Tree_yd (k : Nat) (hk : 4000 < k) (c : List Int) (hc : c.length ≤ 2000000) (p s : Int) (hp : 0 ≤ p) : Yd (spec_l19Tree.f k c p s) fun r => r.2.1 = c ∧ 0 ≤ r.2.2.1 ∧ treeB r.1 = true := by
  refine iter_yd (f := fun (rec : ((List (Int × Int × Int)) × Int × List Int × Int × Int) → Option (List (Int × Int × Int) × List Int × Int × Int)) (x : (List (Int × Int × Int)) × Int × List Int × Int × Int) => spec_l19Tree.s0 k rec x.1 x.2.1 x.2.2.1 x.2.2.2.1 x.2.2.2.2)
    (I := fun i x => treeB x.1 = true ∧ x.2.1 = (i : Int) ∧ x.2.2.1 = c ∧ 0 ≤ x.2.2.2.1) (Q := fun r : List (Int × Int × Int) × List Int × Int × Int => r.2.1 = c ∧ 0 ≤ r.2.2.1 ∧ treeB r.1 = true) 11 (fun rec i x hi hx hr => ?_) (by omega) ⟨(by decide : treeB [(-1, 0, 0)] = true), rfl, rfl, hp⟩
  obtain ⟨t, j, c', p', s'⟩ := x
  obtain ⟨ht, hj, hc', hp'⟩ := hx
  simp only at ht hj hc' hp'
  subst hj hc'
  have hl := tree_len ht
  show Yd (spec_l19Tree.s0 k rec t (i : Int) c' p' s') _
  unfold spec_l19Tree.s0
  refine below_bnd hc hp' (by omega) fun y0 p1 s1 g0 g1 q1 => ?_
  dsimp only
  refine Yd.lt (fun h => ?_) fun h => Yd.one ⟨rfl, q1, ht⟩
  rw [iAdd_id (by omega) (by omega)] at h
  refine below_bnd hc q1 (by rw [rLen_eq]; omega) fun y4 p2 s2 g2 g3 q2 => ?_
  dsimp only
  refine below_bnd hc q2 (by omega) fun y8 p3 s3 g4 g5 q3 => ?_
  dsimp only
  refine pick_bnd hc q3 (by simp) fun y12 p4 s4 g6 q4 => ?_
  dsimp only
  simp only [rApp_eq, List.nil_append, rLen_eq, List.length_append, List.length_cons, List.length_nil]
  refine Yd.len (by omega) (Yd.len (by omega) ?_)
  rw [specTreeOk_ev _ (by simp only [List.length_append, List.length_cons, List.length_nil]; omega) k (by simp only [List.length_append, List.length_cons, List.length_nil]; omega), bnd_one]
  rw [next_id (i := i) (n := 12) (by omega) (by omega)]
  refine Yd.br (fun e => hr _ (by omega) ⟨e, rfl, rfl, q4⟩) fun _ => hr _ (by omega) ⟨ht, rfl, rfl, q4⟩
theorem l33Guard_yd (k : Nat) (hk : 4000 < k) (t : List (Int × Int × Int)) (ht : 1 ≤ t.length ∧ t.length ≤ 12) (c : List Int) (hc : c.length ≤ 2000000) (p s : Int) (hp : 0 ≤ p) : Yd (spec_l33Guard.f k t c p s) fun r => r.2.1 = c ∧ 0 ≤ r.2.2.1 ∧ r.1.length = t.length ∧ r.1.getD 0 false = true := by
  refine iter_yd (f := fun (rec : ((List (Int × Int × Int)) × Int × List Int × Int × Int × List Bool × List Bool) → Option (List Bool × List Int × Int × Int)) (x : (List (Int × Int × Int)) × Int × List Int × Int × Int × List Bool × List Bool) => spec_l33Guard.s0 k rec x.1 x.2.1 x.2.2.1 x.2.2.2.1 x.2.2.2.2.1 x.2.2.2.2.2.1 x.2.2.2.2.2.2)
    (I := fun i x => x.1 = t ∧ x.2.1 = (i : Int) ∧ x.2.2.1 = c ∧ 0 ≤ x.2.2.2.1 ∧ x.2.2.2.2.2.2.length = i ∧ i ≤ t.length ∧ (0 < i → x.2.2.2.2.2.2.getD 0 false = true)) (Q := fun r : List Bool × List Int × Int × Int => r.2.1 = c ∧ 0 ≤ r.2.2.1 ∧ r.1.length = t.length ∧ r.1.getD 0 false = true) 12 (fun rec i x hi hx hr => ?_) (by omega) ⟨rfl, rfl, rfl, hp, rfl, by omega, fun h => by omega⟩
  obtain ⟨t', j, c', p', s', e, g⟩ := x
  obtain ⟨ht', hj, hc', hp', hl, hit, hg⟩ := hx
  simp only at ht' hj hc' hp' hl hit hg
  subst ht' hj hc'
  show Yd (spec_l33Guard.s0 k rec t' (i : Int) c' p' s' e g) _
  unfold spec_l33Guard.s0
  refine Yd.lt (fun h => ?_) fun h => Yd.one ⟨rfl, hp', by rw [rLen_eq] at h; show g.length = t'.length; omega, hg (by rw [rLen_eq] at h; omega)⟩
  rw [rLen_eq] at h
  simp only [rApp_eq, rLen_eq, List.length_append, List.length_cons, List.length_nil, hl]
  refine Yd.eq (fun e0 => Yd.len (by omega) ?_) fun e0 => ?_
  · rw [next_id (i := i) (n := 12) (by omega) (by omega)]
    refine hr _ (by omega) ⟨rfl, rfl, rfl, hp', by simp [hl], by omega, fun _ => ?_⟩
    have : g = [] := List.length_eq_zero_iff.1 (by omega)
    subst this; rfl
  · refine once_bnd hc hp' (by omega) fun v p1 s1 q1 => ?_
    dsimp only
    refine Yd.len (by omega) ?_
    rw [next_id (i := i) (n := 12) (by omega) (by omega)]
    refine hr _ (by omega) ⟨rfl, rfl, rfl, q1, by simp [hl], by omega, fun _ => ?_⟩
    have := hg (by omega)
    simp only
    rw [List.getD_eq_getElem?_getD] at this ⊢
    rw [List.getElem?_append_left (by omega)]
    exact this
theorem drawGuard_ev (k : Nat) (hk : 4000 < k) (c : List Int) (hc : c.length ≤ 2000000) : ∃ (t : List (Int × Int × Int)) (g : List Bool), spec_DrawGuard.f k c = some (t, g) ∧ guardB t g = true ∧ treeB t = true := by
  obtain ⟨s0, h0⟩ := l01New_ev c k hk
  obtain ⟨⟨t, c1, p1, s1⟩, e1, q1, q2, q3⟩ := l19Tree_yd k hk c hc 0 s0 (by omega)
  simp only at q1 q2 q3
  subst q1
  have hl := tree_len q3
  obtain ⟨⟨g, c2, p2, s2⟩, e2, r1, r2, r3, r4⟩ := l33Guard_yd k hk t hl c1 hc p1 s1 q2
  simp only at r1 r2 r3 r4
  refine ⟨t, g, ?_, ?_, q3⟩
  · simp only [spec_DrawGuard.f, h0, e1, e2, bnd_one]
  · simp only [guardB, q3, r3, r4, Bool.true_and, Bool.and_true, decide_eq_true_eq]
theorem l04Data_yd (k : Nat) (n : Nat) (hn : n ≤ 1000) (hk : 4000 < k) (c : List Int) (hc : c.length ≤ 2000000) (p s : Int) (hp : 0 ≤ p) : Yd (spec_l04Data.f k (n : Int) c p s) fun r => r.2.1 = c ∧ 0 ≤ r.2.2.1 ∧ r.1.length = n ∧ wordsOk r.1 = true := by
  refine iter_yd (f := fun (rec : (Int × List Int × Int × List Int × Int × Int) → Option (List Int × List Int × Int × Int)) (x : Int × List Int × Int × List Int × Int × Int) => spec_l04Data.s0 k rec x.1 x.2.1 x.2.2.1 x.2.2.2.1 x.2.2.2.2.1 x.2.2.2.2.2)
    (I := fun i x => x.1 = (n : Int) ∧ x.2.1.length = i ∧ wordsOk x.2.1 = true ∧ x.2.2.1 = (i : Int) ∧ x.2.2.2.1 = c ∧ 0 ≤ x.2.2.2.2.1) (Q := fun r : List Int × List Int × Int × Int => r.2.1 = c ∧ 0 ≤ r.2.2.1 ∧ r.1.length = n ∧ wordsOk r.1 = true) n (fun rec i x hi hx hr => ?_) (by omega) ⟨rfl, rfl, rfl, rfl, rfl, hp⟩
  obtain ⟨n', l, j, c', p', s'⟩ := x
  obtain ⟨hn', hl, hw, hj, hc', hp'⟩ := hx
  simp only at hn' hl hw hj hc' hp'
  subst hn' hj hc'
  show Yd (spec_l04Data.s0 k rec (n : Int) l (i : Int) c' p' s') _
  unfold spec_l04Data.s0
  refine Yd.lt (fun h => ?_) fun h => Yd.one ⟨rfl, hp', by show l.length = n; have := hr; omega, hw⟩
  refine below_bnd hc hp' (by omega) fun y0 p1 s1 g0 g1 q1 => ?_
  dsimp only
  refine below_bnd hc q1 (by omega) fun y1 p2 s2 g2 g3 q2 => ?_
  dsimp only
  refine pick_bnd hc q2 (by simp) fun v p3 s3 g4 q3 => ?_
  dsimp only
  simp only [rApp_eq, rLen_eq, List.length_append, List.length_cons, List.length_nil, hl]
  refine Yd.len (by omega) ?_
  rw [next_id (i := i) (n := n) (by omega) (by omega)]
  refine hr _ (by omega) ⟨rfl, by simp [hl], ?_, rfl, rfl, q3⟩
  simp only [wordsOk, List.all_append, List.all_cons, List.all_nil, Bool.and_true, Bool.and_eq_true, decide_eq_true_eq] at hw ⊢
  refine ⟨hw, ?_⟩
  simp only [List.mem_cons, List.not_mem_nil, or_false] at g4
  omega
theorem data_bnd {R : Type} {k : Nat} {c : List Int} {p s n : Int} {f : List Int × List Int × Int × Int → Option R} {Q : R → Prop} (hk : 4000 < k) (hc : c.length ≤ 2000000) (hp : 0 ≤ p) (h0 : 0 ≤ n) (hn : n ≤ 1000)
    (h : ∀ l p' s', (l.length : Int) = n → wordsOk l = true → 0 ≤ p' → Yd (f (l, c, p', s')) Q) : Yd (bnd (spec_l04Data.f k n c p s) f) Q := by
  obtain ⟨⟨l, c1, p1, s1⟩, e1, q1, q2, q3, q4⟩ := l04Data_yd k n.toNat (by omega) hk c hc p s hp
  simp only at q1 q2 q3 q4
  subst q1
  rw [show (n.toNat : Int) = n by omega] at e1
  rw [e1]
  exact h l p1 s1 (by omega) q4 q2
/-- A drawn packet is valid. -/
theorem l04Packet_yd (k : Nat) (hk : 4000 < k) (c : List Int) (hc : c.length ≤ 2000000) (p s : Int) (hp : 0 ≤ p) : Yd (spec_l04Packet.f k c p s) fun r => r.2.2.2.2.2.2.2.2.1 = c ∧ 0 ≤ r.2.2.2.2.2.2.2.2.2.1 ∧
    wordsOk r.2.2.2.2.2.2.2.1 = true ∧ packP r.1 r.2.1 r.2.2.1 r.2.2.2.1 r.2.2.2.2.1 r.2.2.2.2.2.1 r.2.2.2.2.2.2.1 (r.2.2.2.2.2.2.2.1.length : Int) := by
  unfold spec_l04Packet.f
  refine below_bnd hc hp (by omega) fun y0 p0 s0 g0 g1 q0 => ?_
  dsimp only
  rw [iAdd_id (by omega) (by omega)]
  refine below_bnd hc q0 (by omega) fun y1 p1 s1 g2 g3 q1 => ?_
  dsimp only
  generalize hK : (1 : Int) + y0 = K
  have hK6 : K = 1 ∨ K = 2 ∨ K = 3 ∨ K = 4 ∨ K = 5 ∨ K = 6 := by omega
  clear hK
  rcases hK6 with rfl | rfl | rfl | rfl | rfl | rfl
  all_goals repeat' first
    | (refine Yd.eq (fun _ => ?_) fun _ => ?_ <;> try (exfalso; omega))
    | (refine below_bnd hc (by assumption) (by omega) fun _ _ _ _ _ _ => ?_; dsimp only)
    | (refine pick_bnd hc (by assumption) (by simp) fun _ _ _ _ _ => ?_; dsimp only)
    | (rw [iAdd_id (by omega) (by omega)])
    | (refine data_bnd hk hc (by assumption) (by (try simp only [iMin, List.mem_cons, List.not_mem_nil, or_false] at *); (try split) <;> omega) (by (try simp only [iMin, List.mem_cons, List.not_mem_nil, or_false] at *); (try split) <;> omega) fun _ _ _ _ _ _ => ?_; dsimp only)
  all_goals
    refine Yd.one ⟨rfl, by assumption, (by first | assumption | rfl), ?_⟩
    simp only [List.mem_cons, List.not_mem_nil, or_false, iMin, packP, List.length_nil, Int.reduceEq, false_and, false_or, true_and, and_true, true_or, or_true] at *
    try split at *
    all_goals omega

theorem laws_FnRefusals.main (c : List Int) : ∃ k, laws_FnRefusals.f k c = some true := by
  refine ⟨5000, ?_⟩
  by_cases hc : 1048576 < (c.length : Int)
  · simp only [laws_FnRefusals.f, laws_big.f, bnd_one, iLt_eq, rLen_eq, decide_eq_true hc, brB_true]
  · obtain ⟨t, g, hd, hg, ht⟩ := drawGuard_ev 5000 (by omega) c (by omega)
    obtain ⟨p, hp, lp, bp⟩ := drawPlaces_ev c (by omega) 5000 (by omega)
    obtain ⟨s0, h0⟩ := l01New_ev c 5000 (by omega)
    obtain ⟨⟨a0, a1, a2, a3, a4, a5, a6, l, c1, p1, s1⟩, e1, q1, q2, q3, q4⟩ := l04Packet_yd 5000 (by omega) c (by omega) 0 s0 (by omega)
    simp only at q1 q2 q3 q4
    subst q1
    have hl := tree_len ht
    have dp : spec_DrawPacket.f 5000 c1 = some (a0, a1, a2, a3, a4, a5, a6, l) := by simp only [spec_DrawPacket.f, h0, e1, bnd_one]
    have w3 : (Lit.int .i64 a3).wf = true := by rw [wf64]; unfold packP at q4; omega
    have w4 : (Lit.int .i64 a4).wf = true := by rw [wf64]; unfold packP at q4; omega
    have ll : l.length ≤ 8 := by unfold packP at q4; omega
    have r1 : 0 ≤ a1 ∧ a1 ≤ 255 := by unfold packP at q4; exact q4.1
    have r5 : 0 ≤ a5 ∧ a5 ≤ 7 := by unfold packP at q4; omega
    have b0 : 0 ≤ p.getD 0 0 := by rw [getD_lt 0 p (by omega)]; exact (bp _ (List.getElem_mem _)).1
    have b1 : 0 ≤ p.getD 1 0 := by rw [getD_lt 0 p (by omega)]; exact (bp _ (List.getElem_mem _)).1
    have m0 : 0 ≤ iRem (rGet 0 p 0) (t.length : Int) := Int.tmod_nonneg _ b0
    have m1 : iRem (rGet 0 p 0) (t.length : Int) < (t.length : Int) := Int.tmod_lt_of_pos _ (by omega)
    have n0 : 0 ≤ iRem (rGet 0 p 1) (t.length : Int) := Int.tmod_nonneg _ b1
    have n1 : iRem (rGet 0 p 1) (t.length : Int) < (t.length : Int) := Int.tmod_lt_of_pos _ (by omega)
    simp only [laws_FnRefusals.f, laws_big.f, bnd_one, iLt_eq, rLen_eq, decide_eq_false hc, brB_false, hd, hp, dp, chk_idx, chk_nz]
    rw [if_pos (by omega), if_neg (by omega), if_pos (by omega), if_neg (by omega)]
    generalize iRem (rGet 0 p 0) (t.length : Int) = m at m0 m1
    generalize iRem (rGet 0 p 1) (t.length : Int) = n at n0 n1
    have om : okN t m = true := by simp only [okN, ht, Bool.true_and, decide_eq_true_eq]; omega
    simp only [implAnswer_ev t g a0 a1 a2 a3 a4 a5 a6 l m n (show t.length ≤ 1048576 by omega) (by omega) w3 w4 5000 (by omega), implClassOf_ev a0 a1 a2 a3 a4 a5 a6 l (show l.length ≤ 1048576 by omega) w3 w4 5000 (by omega),
      implCanReach_ev t g _ _ (show t.length ≤ 1048576 by omega) 5000 (by omega), canB_comm hg n m, canB_self hg om, bnd_one, bEq_eq, decide_true, brB_true]
    have e : ansB t g (classB (packB a0 a1 a2 a3 a4 a5 a6 l) a0) a1 a5 m n = if classB (packB a0 a1 a2 a3 a4 a5 a6 l) a0 = 1 ∧ canB t g m n = false then (6, a1, a1, 0, 0, a5, 1, [], true) else noP := by
      unfold ansB refB
      by_cases c1 : canB t g m n = false
      · rw [if_pos ⟨hg, by omega, by omega, c1⟩]
        by_cases c2 : classB (packB a0 a1 a2 a3 a4 a5 a6 l) a0 = 1
        · rw [if_pos ⟨c2, r1, by omega⟩, if_pos ⟨c2, c1⟩]
        · rw [if_neg (fun h => c2 h.1), if_neg (fun h => c2 h.1)]
      · rw [if_neg (fun h => c1 h.2.2.2), if_neg (fun h => c1 h.2)]
    have ip : impl_IsPacket.f 5000 6 a1 a1 0 0 a5 1 [] = some true := by
      rw [implIsPacket_ev 6 a1 a1 0 0 a5 1 [] (by simp) (by rw [wf64]; omega) (by rw [wf64]; omega) 5000 (by simp)]
      refine congrArg some ?_
      simp only [packB, wordsOk, List.all_nil, Bool.true_and, decide_eq_true_eq]
      exact ⟨r1, .inr (.inr (.inr (.inr (.inr ⟨rfl, rfl, r1, r5, by omega, by omega, .inl rfl⟩))))⟩
    rw [e]
    generalize classB (packB a0 a1 a2 a3 a4 a5 a6 l) a0 = cl
    by_cases c1 : cl = 1
    · subst c1
      cases c2 : canB t g m n with
      | false =>
        rw [if_pos ⟨rfl, rfl⟩]
        simp only [ip, bnd_one, iEq_eq, decide_true, brB_true, brB_false, bNe_eq, bNot_eq, Bool.not_false, Bool.not_true]
      | true =>
        rw [if_neg (fun h => by cases h.2)]
        rfl
    · rw [if_neg (fun h => c1 h.1)]
      simp only [iEq_eq, decide_eq_false c1, brB_false]
      rfl
theorem laws_FnRefusals.pure : ∀ x : laws_FnRefusals.sig.inTy.T, Good laws_FnRefusals.sig.inTy x → ∃ k, laws_FnRefusals.spec.fn k x = some true :=
  fun x _ => laws_FnRefusals.main x
end Go.Proofs.YtknaadbgljjpiaaT

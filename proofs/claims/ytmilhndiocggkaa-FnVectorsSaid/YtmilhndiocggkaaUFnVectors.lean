/- What the functions of FnVectors give, in plain terms. -/
import Derived.Test.YtmilhndiocggkaaFFnVectors
import Derived.Test.YtmilhndiocggkaaTiPL
set_option linter.unusedVariables false
set_option linter.unusedSimpArgs false
set_option maxRecDepth 100000
namespace Go.Proofs.YtmilhndiocggkaaT
open Go
theorem some_dec {b : Bool} {p : Prop} [Decidable p] (h : b = true ↔ p) : some b = some (decide p) := by
  congr 1; rw [Bool.eq_iff_iff]; simpa using h
theorem iLe_eq (a b : Int) : iLe a b = decide (a ≤ b) := rfl
theorem iLt_eq (a b : Int) : iLt a b = decide (a < b) := rfl
theorem iEq_eq (a b : Int) : iEq a b = decide (a = b) := by by_cases h : a = b <;> simp [iEq, h]
theorem iNe_eq (a b : Int) : iNe a b = !decide (a = b) := by by_cases h : a = b <;> simp [iNe, h]
theorem bNot_eq (a : Bool) : bNot a = !a := rfl
theorem ite_some {α : Type} (p : Prop) [Decidable p] (a b : α) : (if p then some a else some b) = some (if p then a else b) := by split <;> rfl
/-- A loop that looks for the first element with a quality. -/
theorem iter_find {R : Type} {α : Type} {X : Type} {f : (X → Option R) → X → Option R} (s : Nat → X) (xs : List α) (p : α → Bool) (r : R) (e : Nat → R)
    (go : ∀ rec (i : Nat) (h : i < xs.length), p xs[i] = true → f rec (s i) = rec (s (i + 1))) (stop : ∀ rec (i : Nat) (h : i < xs.length), p xs[i] = false → f rec (s i) = some (e i)) (done : ∀ rec, f rec (s xs.length) = some r) {n : Nat} (hn : xs.length < n) :
    iter f n (s 0) = some (match xs.findIdx? (fun x => !p x) with | some i => e i | none => r) := by
  suffices H : ∀ d i n, i + d = xs.length → d < n → (∀ j (h : j < xs.length), j < i → p xs[j] = true) → iter f n (s i) = some (match xs.findIdx? (fun x => !p x) with | some i => e i | none => r) from H xs.length 0 n (by omega) hn (fun j _ h => by omega)
  intro d
  induction d with
  | zero =>
    intro i n hi hn hp
    obtain ⟨m, rfl⟩ : ∃ m, n = m + 1 := ⟨n - 1, by omega⟩
    obtain rfl : i = xs.length := by omega
    have : xs.findIdx? (fun x => !p x) = none := by
      rw [List.findIdx?_eq_none_iff]
      intro x hx
      obtain ⟨j, hj, rfl⟩ := List.mem_iff_getElem.1 hx
      simp [hp j hj (by omega)]
    rw [this]
    exact done _
  | succ d ih =>
    intro i n hi hn hp
    obtain ⟨m, rfl⟩ : ∃ m, n = m + 1 := ⟨n - 1, by omega⟩
    show f (iter f m) (s i) = _
    have hlt : i < xs.length := by omega
    by_cases hq : p xs[i] = false
    · rw [stop _ i hlt hq]
      have : xs.findIdx? (fun x => !p x) = some i := by
        rw [List.findIdx?_eq_some_iff_getElem]
        exact ⟨hlt, by simp [hq], fun j hj => by simp [hp j (by omega) hj]⟩
      rw [this]
    · have hq : p xs[i] = true := by simpa using hq
      rw [go _ i hlt hq]
      refine ih (i + 1) m (by omega) (by omega) fun j h hj => ?_
      rcases Nat.lt_or_ge j i with h' | h'
      · exact hp j h h'
      · obtain rfl : j = i := by omega
        exact hq
theorem getD_lt {α : Type} (d : α) (xs : List α) {i : Nat} (h : i < xs.length) : xs.getD i d = xs[i] := by
  rw [List.getD_eq_getElem?_getD, List.getElem?_eq_getElem h]; rfl
theorem bEq_eq (a b : Bool) : bEq a b = decide (a = b) := by cases a <;> cases b <;> rfl
theorem bNe_eq (a b : Bool) : bNe a b = !decide (a = b) := by cases a <;> cases b <;> rfl
theorem brB_nb {R : Type} (b : Bool) (x y : Option R) : brB (!b) x y = brB b y x := by cases b <;> rfl
theorem brB_dec {R : Type} (p : Prop) [Decidable p] (x y : Option R) : brB (decide p) x y = if p then x else y := by by_cases h : p <;> simp [h, brB]
theorem if_idx {R : Type} {i n : Nat} {x : Option R} (h : i < n) : (if 0 ≤ (i : Int) ∧ (i : Int) < (n : Int) then x else none) = x := if_pos (by omega)
theorem within_eq (k : Nat) (x a b : Int) : impl_within.f k x a b = some (decide (a ≤ x ∧ x ≤ b)) := by
  simp only [impl_within.f, iLt_eq, iLe_eq, iEq_eq, iNe_eq, bNot_eq, bEq_eq, bNe_eq, brB_nb, brB_dec, brB_true, brB_false, chk_idx, chk_len, chk_make, chk_sub, bnd_one, rLen_eq, rGet_nat, rSet_nat, rApp_eq, ↓reduceIte]; split <;> rename_i h <;> simp [h]
theorem implIsId_eq (k : Nat) (a : Int) : impl_IsId.f k a = some (decide (0 ≤ a ∧ a ≤ 255)) := by simp only [impl_IsId.f, within_eq, bnd_one]
/-- All are words. -/
def wordsOk (l : List Int) : Bool := l.all fun x => decide (0 ≤ x ∧ x ≤ 65535)
theorem findIdx_all {α : Type} (l : List α) (p : α → Bool) : (match l.findIdx? (fun x => !p x) with | some _ => false | none => true) = l.all p := by
  cases h : l.findIdx? (fun x => !p x) with
  | none =>
    rw [List.findIdx?_eq_none_iff] at h
    symm
    rw [List.all_eq_true]
    intro x hx
    simpa using h x hx
  | some i =>
    rw [List.findIdx?_eq_some_iff_getElem] at h
    obtain ⟨hi, h1, _⟩ := h
    symm
    rw [← Bool.not_eq_true, List.all_eq_true]
    intro hall
    have := hall _ (List.getElem_mem hi)
    simp [this] at h1
theorem found_iff {α : Type} (l : List α) (p : α → Bool) : iLe 0 (match l.findIdx? (fun x => !p x) with | some i => (i : Int) | none => -1) = !l.all p := by
  rw [← findIdx_all]
  cases l.findIdx? (fun x => !p x) with
  | none => rfl
  | some i => simp [iLe]
theorem isWord_eq (k : Nat) (x : Int) : impl_isWord.f k x = some (decide (0 ≤ x ∧ x ≤ 65535)) := by simp only [impl_isWord.f, within_eq, bnd_one]
theorem indexNotWord2 (l : List Int) (hl : l.length ≤ 4611686018427387904) (k : Nat) (hk : l.length < k) : slices_IndexFunc_int_impl_Packet__dataOk_1.f k l = some (match l.findIdx? (fun x => !decide (0 ≤ x ∧ x ≤ 65535)) with | some i => (i : Int) | none => -1) := by
  simp only [slices_IndexFunc_int_impl_Packet__dataOk_1.f, slices_IndexFunc_int_impl_Packet__dataOk_1.l0]
  refine iter_find (f := fun (rec : (List Int × Int × Int) → Option Int) (x : List Int × Int × Int) => slices_IndexFunc_int_impl_Packet__dataOk_1.s0 k rec x.1 x.2.1 x.2.2) (fun i => (l, rLen l, (i : Int))) l (fun x => decide (0 ≤ x ∧ x ≤ 65535)) (-1) (fun i => (i : Int)) (fun rec i hi hp => ?_) (fun rec i hi hp => ?_) (fun rec => ?_) hk
  · simp only [slices_IndexFunc_int_impl_Packet__dataOk_1.s0, impl_Packet__dataOk_1.f, isWord_eq, getD_lt _ _ hi, iLt_eq, iLe_eq, iEq_eq, iNe_eq, bNot_eq, bEq_eq, bNe_eq, brB_nb, brB_dec, brB_true, brB_false, chk_idx, chk_len, chk_make, chk_sub, bnd_one, rLen_eq, rGet_nat, rSet_nat, rApp_eq, ↓reduceIte]
    rw [if_pos (by omega), if_idx hi, next_id hi hl]
    rw [if_pos (of_decide_eq_true hp)]
  · simp only [slices_IndexFunc_int_impl_Packet__dataOk_1.s0, impl_Packet__dataOk_1.f, isWord_eq, getD_lt _ _ hi, iLt_eq, iLe_eq, iEq_eq, iNe_eq, bNot_eq, bEq_eq, bNe_eq, brB_nb, brB_dec, brB_true, brB_false, chk_idx, chk_len, chk_make, chk_sub, bnd_one, rLen_eq, rGet_nat, rSet_nat, rApp_eq, ↓reduceIte]
    rw [if_pos (by omega), if_idx hi]
    rw [if_neg (of_decide_eq_false hp)]
  · simp only [slices_IndexFunc_int_impl_Packet__dataOk_1.s0, iLt_eq, iLe_eq, iEq_eq, iNe_eq, bNot_eq, bEq_eq, bNe_eq, brB_nb, brB_dec, brB_true, brB_false, chk_idx, chk_len, chk_make, chk_sub, bnd_one, rLen_eq, rGet_nat, rSet_nat, rApp_eq, ↓reduceIte]
    rw [if_neg (by omega)]
/-- A gathering is valid. -/
def gatherB (a b c : Int) (l : List Int) (e : Int) : Bool := decide (0 ≤ a ∧ a ≤ 255) && (decide (0 ≤ b ∧ b ≤ 7) && (decide (0 ≤ c ∧ c ≤ 64) && (decide ((l.length : Int) ≤ c) && (wordsOk l && (decide (0 ≤ e ∧ e ≤ 2) && (if e = 1 then decide ((l.length : Int) = c) else true))))))
theorem brB_and' {x : Option Bool} {b c : Bool} (h : b = true → x = some c) : brB b x (some false) = some (b && c) := by
  cases b with
  | false => rfl
  | true => rw [brB_true, h rfl, Bool.true_and]
theorem if_and' {p : Prop} [Decidable p] {x : Option Bool} {c : Bool} (h : p → x = some c) : (if p then x else some false) = some (decide p && c) := by
  by_cases hp : p
  · rw [if_pos hp, h hp, decide_eq_true hp, Bool.true_and]
  · rw [if_neg hp, decide_eq_false hp, Bool.false_and]
theorem brB_and {x : Option Bool} {b c : Bool} (h : x = some c) : brB b x (some false) = some (b && c) := by cases b <;> simp [brB, h]
theorem if_and {p : Prop} [Decidable p] {x : Option Bool} {c : Bool} (h : x = some c) : (if p then x else some false) = some (decide p && c) := by by_cases hp : p <;> simp [hp, h]
/-- A packet is valid: n is how many data it has, w says that they are words. -/
def packP (a0 a1 a2 a3 a4 a5 a6 n : Int) : Prop := (0 ≤ a1 ∧ a1 ≤ 255) ∧ (
  (a0 = 1 ∧ (1 ≤ n ∧ n ≤ 8) ∧ (0 ≤ a3 ∧ a3 ≤ 65536 - n) ∧ a6 = 0 ∧ a2 = 0 ∧ a4 = 0 ∧ a5 = 0) ∨
  (a0 = 2 ∧ (1 ≤ n ∧ n ≤ 8) ∧ a3 = 0 ∧ a6 = 0 ∧ a2 = 0 ∧ a4 = 0 ∧ a5 = 0) ∨
  (a0 = 3 ∧ n = 0 ∧ (1 ≤ a4 ∧ a4 ≤ 64) ∧ (0 ≤ a3 ∧ a3 ≤ 65536 - a4) ∧ (0 ≤ a5 ∧ a5 ≤ 7) ∧ a6 = 0 ∧ a2 = 0) ∨
  (a0 = 4 ∧ n = 0 ∧ (0 ≤ a3 ∧ a3 ≤ 63) ∧ (0 ≤ a2 ∧ a2 ≤ 255) ∧ (0 ≤ a5 ∧ a5 ≤ 7) ∧ a6 = 0 ∧ a4 = 0) ∨
  (a0 = 5 ∧ n = 1 ∧ (0 ≤ a3 ∧ a3 ≤ 63) ∧ (0 ≤ a2 ∧ a2 ≤ 255) ∧ (0 ≤ a5 ∧ a5 ≤ 7) ∧ a6 = 0 ∧ a4 = 0) ∨
  (a0 = 6 ∧ a3 = 0 ∧ (0 ≤ a2 ∧ a2 ≤ 255) ∧ (0 ≤ a5 ∧ a5 ≤ 7) ∧ (0 ≤ a6 ∧ a6 ≤ 2) ∧ (0 ≤ a4 ∧ a4 ≤ 64) ∧ (n = 0 ∨ (a6 = 0 ∧ n ≤ 8 ∧ n ≤ a4))))
instance (a0 a1 a2 a3 a4 a5 a6 n : Int) : Decidable (packP a0 a1 a2 a3 a4 a5 a6 n) := by unfold packP; infer_instance
def packB (a0 a1 a2 a3 a4 a5 a6 : Int) (l : List Int) : Bool := wordsOk l && decide (packP a0 a1 a2 a3 a4 a5 a6 (l.length : Int))
theorem some_iff {b c : Bool} (h : b = true ↔ c = true) : some b = some c := by rw [Bool.eq_iff_iff.2 h]
/-- How many data a packet may have. -/
def dataP (a0 a4 a6 n : Int) : Prop := if a0 = 1 ∨ a0 = 2 then 1 ≤ n ∧ n ≤ 8 else if a0 = 5 then n = 1 else if a0 = 6 ∧ a6 = 0 then n ≤ 8 ∧ n ≤ a4 else n = 0
instance (a0 a4 a6 n : Int) : Decidable (dataP a0 a4 a6 n) := by unfold dataP; infer_instance
theorem dataOk_ev (a0 a1 a2 a3 a4 a5 a6 : Int) (l : List Int) (hl : l.length ≤ 4611686018427387904) (k : Nat) (hk : l.length < k) : impl_Packet__dataOk.f k a0 a1 a2 a3 a4 a5 a6 l = some (wordsOk l && decide (dataP a0 a4 a6 (l.length : Int))) := by
  simp only [impl_Packet__dataOk.f, slices_ContainsFunc_int_impl_Packet__dataOk_1.f, indexNotWord2 l hl k hk, bnd_one, found_iff l (fun x => decide (0 ≤ x ∧ x ≤ 65535)), within_eq]
  rw [show (l.all fun x => decide (0 ≤ x ∧ x ≤ 65535)) = wordsOk l from rfl]
  simp only [iLt_eq, iLe_eq, iEq_eq, iNe_eq, bNot_eq, bEq_eq, bNe_eq, brB_nb, brB_dec, brB_true, brB_false, chk_idx, chk_len, chk_make, chk_sub, bnd_one, rLen_eq, rGet_nat, rSet_nat, rApp_eq, ↓reduceIte]
  cases wordsOk l with
  | false => rfl
  | true =>
    simp only [iLt_eq, iLe_eq, iEq_eq, iNe_eq, bNot_eq, bEq_eq, bNe_eq, brB_nb, brB_dec, brB_true, brB_false, chk_idx, chk_len, chk_make, chk_sub, bnd_one, rLen_eq, rGet_nat, rSet_nat, rApp_eq, ↓reduceIte, Bool.true_and]
    unfold dataP
    by_cases b1 : a0 = 1
    · subst b1; simp only [Int.reduceEq, or_false, false_or, or_true, true_or, iLt_eq, iLe_eq, iEq_eq, iNe_eq, bNot_eq, bEq_eq, bNe_eq, brB_nb, brB_dec, brB_true, brB_false, chk_idx, chk_len, chk_make, chk_sub, bnd_one, rLen_eq, rGet_nat, rSet_nat, rApp_eq, ↓reduceIte]; (try rfl)
    by_cases b2 : a0 = 2
    · subst b2; simp only [Int.reduceEq, or_false, false_or, or_true, true_or, iLt_eq, iLe_eq, iEq_eq, iNe_eq, bNot_eq, bEq_eq, bNe_eq, brB_nb, brB_dec, brB_true, brB_false, chk_idx, chk_len, chk_make, chk_sub, bnd_one, rLen_eq, rGet_nat, rSet_nat, rApp_eq, ↓reduceIte]; (try rfl)
    by_cases b5 : a0 = 5
    · subst b5; simp only [Int.reduceEq, or_false, false_or, or_true, true_or, or_self, iLt_eq, iLe_eq, iEq_eq, iNe_eq, bNot_eq, bEq_eq, bNe_eq, brB_nb, brB_dec, brB_true, brB_false, chk_idx, chk_len, chk_make, chk_sub, bnd_one, rLen_eq, rGet_nat, rSet_nat, rApp_eq, ↓reduceIte]
    by_cases b6 : a0 = 6
    · subst b6; simp only [Int.reduceEq, or_false, false_or, or_true, true_or, or_self, true_and, iLt_eq, iLe_eq, iEq_eq, iNe_eq, bNot_eq, bEq_eq, bNe_eq, brB_nb, brB_dec, brB_true, brB_false, chk_idx, chk_len, chk_make, chk_sub, bnd_one, rLen_eq, rGet_nat, rSet_nat, rApp_eq, ↓reduceIte]; (repeat' split) <;> (refine some_iff ?_ <;> (try simp only [decide_eq_true_eq, Bool.false_eq_true, false_iff, true_iff, Int.reduceEq, false_or, or_false, false_and, true_and, and_true, and_false, true_or, or_true, iff_self, iff_false, iff_true] at *) <;> first | omega | (intro h; omega) | (constructor <;> intro h <;> omega) | trivial)
    simp only [b1, b2, b5, b6, or_self, false_and, iLt_eq, iLe_eq, iEq_eq, iNe_eq, bNot_eq, bEq_eq, bNe_eq, brB_nb, brB_dec, brB_true, brB_false, chk_idx, chk_len, chk_make, chk_sub, bnd_one, rLen_eq, rGet_nat, rSet_nat, rApp_eq, ↓reduceIte]
def addrP (a0 a3 a4 n : Int) : Prop := if a0 = 1 then (0 ≤ a3 ∧ a3 ≤ 65535) ∧ n ≤ 65536 - a3 else if a0 = 3 then (0 ≤ a3 ∧ a3 ≤ 65535) ∧ a4 ≤ 65536 - a3 else if a0 = 4 ∨ a0 = 5 then 0 ≤ a3 ∧ a3 ≤ 63 else a3 = 0
instance (a0 a3 a4 n : Int) : Decidable (addrP a0 a3 a4 n) := by unfold addrP; infer_instance
theorem addressOk_eq (k : Nat) (a0 a1 a2 a3 a4 a5 a6 : Int) (l : List Int) (h3 : (Lit.int .i64 a3).wf = true) : impl_Packet__addressOk.f k a0 a1 a2 a3 a4 a5 a6 l = some (decide (addrP a0 a3 a4 (l.length : Int))) := by
  rw [wf64] at h3
  simp only [impl_Packet__addressOk.f, within_eq, impl_Packet__words.f, iSub_w, w64, iLt_eq, iLe_eq, iEq_eq, iNe_eq, bNot_eq, bEq_eq, bNe_eq, brB_nb, brB_dec, brB_true, brB_false, chk_idx, chk_len, chk_make, chk_sub, bnd_one, rLen_eq, rGet_nat, rSet_nat, rApp_eq, ↓reduceIte]
  generalize (l.length : Int) = n
  unfold addrP
  by_cases b1 : a0 = 1
  · subst b1; simp only [Int.reduceEq, iLt_eq, iLe_eq, iEq_eq, iNe_eq, bNot_eq, bEq_eq, bNe_eq, brB_nb, brB_dec, brB_true, brB_false, chk_idx, chk_len, chk_make, chk_sub, bnd_one, rLen_eq, rGet_nat, rSet_nat, rApp_eq, ↓reduceIte]; (repeat' split) <;> (refine some_iff ?_ <;> (try simp only [decide_eq_true_eq, Bool.false_eq_true, false_iff, true_iff, Int.reduceEq, false_or, or_false, false_and, true_and, and_true, and_false, true_or, or_true, iff_self, iff_false, iff_true] at *) <;> first | omega | (intro h; omega) | (constructor <;> intro h <;> omega) | trivial)
  by_cases b3 : a0 = 3
  · subst b3; simp only [Int.reduceEq, iLt_eq, iLe_eq, iEq_eq, iNe_eq, bNot_eq, bEq_eq, bNe_eq, brB_nb, brB_dec, brB_true, brB_false, chk_idx, chk_len, chk_make, chk_sub, bnd_one, rLen_eq, rGet_nat, rSet_nat, rApp_eq, ↓reduceIte]; (repeat' split) <;> (refine some_iff ?_ <;> (try simp only [decide_eq_true_eq, Bool.false_eq_true, false_iff, true_iff, Int.reduceEq, false_or, or_false, false_and, true_and, and_true, and_false, true_or, or_true, iff_self, iff_false, iff_true] at *) <;> first | omega | (intro h; omega) | (constructor <;> intro h <;> omega) | trivial)
  by_cases b4 : a0 = 4
  · subst b4; simp only [Int.reduceEq, or_false, false_or, or_true, true_or, iLt_eq, iLe_eq, iEq_eq, iNe_eq, bNot_eq, bEq_eq, bNe_eq, brB_nb, brB_dec, brB_true, brB_false, chk_idx, chk_len, chk_make, chk_sub, bnd_one, rLen_eq, rGet_nat, rSet_nat, rApp_eq, ↓reduceIte]
  by_cases b5 : a0 = 5
  · subst b5; simp only [Int.reduceEq, or_false, false_or, or_true, true_or, iLt_eq, iLe_eq, iEq_eq, iNe_eq, bNot_eq, bEq_eq, bNe_eq, brB_nb, brB_dec, brB_true, brB_false, chk_idx, chk_len, chk_make, chk_sub, bnd_one, rLen_eq, rGet_nat, rSet_nat, rApp_eq, ↓reduceIte]
  simp only [b1, b3, b4, b5, or_self, iLt_eq, iLe_eq, iEq_eq, iNe_eq, bNot_eq, bEq_eq, bNe_eq, brB_nb, brB_dec, brB_true, brB_false, chk_idx, chk_len, chk_make, chk_sub, bnd_one, rLen_eq, rGet_nat, rSet_nat, rApp_eq, ↓reduceIte]
def lenP (a0 a4 : Int) : Prop := if a0 = 3 then 1 ≤ a4 ∧ a4 ≤ 64 else if a0 = 6 then 0 ≤ a4 ∧ a4 ≤ 64 else a4 = 0
instance (a0 a4 : Int) : Decidable (lenP a0 a4) := by unfold lenP; infer_instance
theorem lengthOk_eq (k : Nat) (a0 a1 a2 a3 a4 a5 a6 : Int) (l : List Int) : impl_Packet__lengthOk.f k a0 a1 a2 a3 a4 a5 a6 l = some (decide (lenP a0 a4)) := by
  simp only [impl_Packet__lengthOk.f, within_eq, iLt_eq, iLe_eq, iEq_eq, iNe_eq, bNot_eq, bEq_eq, bNe_eq, brB_nb, brB_dec, brB_true, brB_false, chk_idx, chk_len, chk_make, chk_sub, bnd_one, rLen_eq, rGet_nat, rSet_nat, rApp_eq, ↓reduceIte]
  unfold lenP
  (repeat' split) <;> rfl
theorem implIsPacket_ev (a0 a1 a2 a3 a4 a5 a6 : Int) (l : List Int) (hl : l.length ≤ 1048576) (h3 : (Lit.int .i64 a3).wf = true) (h4 : (Lit.int .i64 a4).wf = true) (k : Nat) (hk : l.length < k) : impl_IsPacket.f k a0 a1 a2 a3 a4 a5 a6 l = some (packB a0 a1 a2 a3 a4 a5 a6 l) := by
  by_cases b0 : 1 ≤ a0 ∧ a0 ≤ 6
  · simp only [impl_IsPacket.f, implIsId_eq, within_eq, dataOk_ev a0 a1 a2 a3 a4 a5 a6 l (by omega) k hk, addressOk_eq k a0 a1 a2 a3 a4 a5 a6 l h3, lengthOk_eq, bnd_one, iEq_eq, iNe_eq, brB_nb, bNot_eq, packB]
    rw [decide_eq_true b0]
    generalize wordsOk l = w
    generalize (l.length : Int) = n at *
    have : a0 = 1 ∨ a0 = 2 ∨ a0 = 3 ∨ a0 = 4 ∨ a0 = 5 ∨ a0 = 6 := by omega
    cases w with
    | false =>
      rcases this with rfl | rfl | rfl | rfl | rfl | rfl <;> simp only [Int.reduceEq, Int.reduceLE, decide_true, decide_false, bnd_one, brB_true, brB_false, brB_dec, and_self, and_true, and_false, true_and, false_and, Bool.false_and, ↓reduceIte] <;> (repeat' split) <;> rfl
    | true =>
      rcases this with rfl | rfl | rfl | rfl | rfl | rfl <;> simp only [Int.reduceEq, Int.reduceLE, decide_true, decide_false, bnd_one, brB_true, brB_false, brB_dec, and_self, and_true, and_false, true_and, false_and, Bool.true_and, dataP, packP, addrP, lenP, or_true, true_or, or_false, false_or, ↓reduceIte] <;> (repeat' split) <;> (refine some_iff ?_ <;> (try simp only [decide_eq_true_eq, Bool.false_eq_true, false_iff, true_iff, Int.reduceEq, false_or, or_false, false_and, true_and, and_true, and_false, true_or, or_true, iff_self, iff_false, iff_true] at *) <;> first | omega | (intro h; omega) | (constructor <;> intro h <;> omega) | trivial)
  · simp only [impl_IsPacket.f, within_eq, packB, bnd_one, decide_eq_false b0, bNot_eq, Bool.not_false, brB_true]
    rw [show decide (packP a0 a1 a2 a3 a4 a5 a6 (l.length : Int)) = false from decide_eq_false (by unfold packP; omega), Bool.and_false]
/-- No vector is pending that is not masked. -/
def pendB (a b : List Bool) : Bool := (List.range a.length).all fun i => !b.getD i false || a.getD i false
/-- Vectors are valid. -/
def vecB (e : Int) (a b : List Bool) : Bool := decide (1 ≤ (a.length : Int) ∧ (a.length : Int) ≤ 8) && (decide ((b.length : Int) = (a.length : Int)) && (decide (0 ≤ e ∧ e ≤ 65535) && pendB a b))
theorem implVectorsOk_ev (e : Int) (a b : List Bool) (hb : b.length ≤ 1048576) (ha : a.length ≤ 1048576) (k : Nat) (hk : a.length + b.length < k) : impl_VectorsOk.f k e a b = some (vecB e a b) := by
  simp only [impl_VectorsOk.f, within_eq, impl_VectorsOk.l0, iLt_eq, iLe_eq, iEq_eq, iNe_eq, bNot_eq, bEq_eq, bNe_eq, brB_nb, brB_dec, brB_true, brB_false, chk_idx, chk_len, chk_make, chk_sub, bnd_one, rLen_eq, rGet_nat, rSet_nat, rApp_eq, ↓reduceIte]
  refine if_and ?_
  by_cases h : (b.length : Int) = (a.length : Int)
  · rw [if_pos h, decide_eq_true h, Bool.true_and]
    refine if_and ?_
    have h' := iter_find (f := fun (rec : (List Bool × Int × Int × Int × List Bool × List Bool) → Option (Bool)) (x : List Bool × Int × Int × Int × List Bool × List Bool) => impl_VectorsOk.s0 k rec x.1 x.2.1 x.2.2.1 x.2.2.2.1 x.2.2.2.2.1 x.2.2.2.2.2) (fun i => (b, (b.length : Int), (i : Int), e, a, b)) (List.range a.length) (fun i => !b.getD i false || a.getD i false) true (fun _ => false)
      (fun rec i hi hp => ?_) (fun rec i hi hp => ?_) (fun rec => ?_) (n := k) (by simp; omega)
    · exact h'.trans (congrArg some (findIdx_all _ _))
    · simp only [List.length_range] at hi
      simp only [List.getElem_range] at hp
      simp only [impl_VectorsOk.s0, iLt_eq, iLe_eq, iEq_eq, iNe_eq, bNot_eq, bEq_eq, bNe_eq, brB_nb, brB_dec, brB_true, brB_false, chk_idx, chk_len, chk_make, chk_sub, bnd_one, rLen_eq, rGet_nat, rSet_nat, rApp_eq, ↓reduceIte]
      rw [if_pos (by omega), if_idx (by omega), if_idx hi, next_id hi (by omega)]
      cases h1 : b.getD i false <;> cases h2 : a.getD i false <;> rw [h1, h2] at hp <;> first | rfl | cases hp
    · simp only [List.length_range] at hi
      simp only [List.getElem_range] at hp
      simp only [impl_VectorsOk.s0, iLt_eq, iLe_eq, iEq_eq, iNe_eq, bNot_eq, bEq_eq, bNe_eq, brB_nb, brB_dec, brB_true, brB_false, chk_idx, chk_len, chk_make, chk_sub, bnd_one, rLen_eq, rGet_nat, rSet_nat, rApp_eq, ↓reduceIte]
      rw [if_pos (by omega), if_idx (by omega), if_idx hi]
      cases h1 : b.getD i false <;> cases h2 : a.getD i false <;> rw [h1, h2] at hp <;> first | rfl | cases hp
    · simp only [impl_VectorsOk.s0, List.length_range, iLt_eq, iLe_eq, iEq_eq, iNe_eq, bNot_eq, bEq_eq, bNe_eq, brB_nb, brB_dec, brB_true, brB_false, chk_idx, chk_len, chk_make, chk_sub, bnd_one, rLen_eq, rGet_nat, rSet_nat, rApp_eq, ↓reduceIte]
      rw [if_neg (by omega)]
  · rw [if_neg h, decide_eq_false h, Bool.false_and]
/-- The vector is one of these, and the device may call. -/
def hasB (e : Int) (a b : List Bool) (d v : Int) : Bool := vecB e a b && (decide (0 ≤ d ∧ d ≤ 255) && decide (0 ≤ v ∧ v ≤ (a.length : Int) - 1))
/-- What the raising of a vector gives. -/
def raiseB (ok : Bool) (e : Int) (a b : List Bool) (d v : Int) : Int × List Bool × List Bool × Int × Int × Int × Int × Int × Int × Int × List Int × Bool :=
  if ok = true then (if a.getD v.toNat false = true then (e, a, b.set v.toNat true, 0, 0, 0, 0, 0, 0, 0, [], true) else (e, a, b, 1, d, 0, e, 0, 0, 0, [v], true)) else (e, a, b, 0, 0, 0, 0, 0, 0, 0, [], false)
theorem raiseB_len (ok : Bool) (e : Int) (a b : List Bool) (d v : Int) : (raiseB ok e a b d v).2.1.length = a.length ∧ (raiseB ok e a b d v).2.2.1.length = b.length ∧ (raiseB ok e a b d v).2.2.2.2.2.2.2.2.2.2.1.length ≤ 1 := by
  unfold raiseB; (repeat' split) <;> simp
theorem hasB_lt {e : Int} {a b : List Bool} {d v : Int} (h : hasB e a b d v = true) : 0 ≤ v ∧ v < a.length ∧ v < b.length := by
  simp only [hasB, vecB, Bool.and_eq_true, decide_eq_true_eq] at h
  omega
theorem hasVector_ev (e : Int) (a b : List Bool) (d v : Int) (hb : b.length ≤ 1048576) (ha : a.length ≤ 1048576) (k : Nat) (hk : a.length + b.length < k) : impl_hasVector.f k e a b d v = some (hasB e a b d v) := by
  simp only [impl_hasVector.f, implVectorsOk_ev e a b hb ha k hk, implIsId_eq, within_eq, bnd_one, rLen_eq]
  rw [iSub_id (by omega) (by omega)]
  exact brB_and (brB_and rfl)
theorem copyVectors_eq (k : Nat) (e : Int) (a b : List Bool) (hb : b.length ≤ 1048576) (ha : a.length ≤ 1048576) : impl_copyVectors.f k e a b = some (e, a, b) := by
  simp only [impl_copyVectors.f, slices_Clone_bool.f, iLt_eq, iLe_eq, iEq_eq, iNe_eq, bNot_eq, bEq_eq, bNe_eq, brB_nb, brB_dec, brB_true, brB_false, chk_idx, chk_len, chk_make, chk_sub, bnd_one, rLen_eq, rGet_nat, rSet_nat, rApp_eq, ↓reduceIte]
  rw [if_pos (by omega), if_pos (by omega)]
  rfl
theorem rGet_in {α : Type} (d : α) (l : List α) {v : Int} (h : 0 ≤ v) : rGet d l v = l.getD v.toNat d := rfl
theorem rSet_in {α : Type} (l : List α) {v : Int} (x : α) (h : 0 ≤ v) : rSet l v x = l.set v.toNat x := rfl
theorem implRaise_ev (e : Int) (a b : List Bool) (d v : Int) (hb : b.length ≤ 1048576) (ha : a.length ≤ 1048576) (k : Nat) (hk : a.length + b.length < k) : impl_RaiseVector.f k e a b d v = some (raiseB (hasB e a b d v) e a b d v) := by
  simp only [impl_RaiseVector.f, copyVectors_eq k e a b hb ha, hasVector_ev e a b d v hb ha k hk, impl_call.f, raiseB, iLt_eq, iLe_eq, iEq_eq, iNe_eq, bNot_eq, bEq_eq, bNe_eq, brB_nb, brB_dec, brB_true, brB_false, chk_idx, chk_len, chk_make, chk_sub, bnd_one, rLen_eq, rGet_nat, rSet_nat, rApp_eq, ↓reduceIte]
  cases h : hasB e a b d v with
  | false => rfl
  | true =>
    have := hasB_lt h
    simp only [iLt_eq, iLe_eq, iEq_eq, iNe_eq, bNot_eq, bEq_eq, bNe_eq, brB_nb, brB_dec, brB_true, brB_false, chk_idx, chk_len, chk_make, chk_sub, bnd_one, rLen_eq, rGet_nat, rSet_nat, rApp_eq, ↓reduceIte]
    rw [if_pos (by omega), if_pos (by omega), rGet_in _ _ this.1, rSet_in _ _ this.1]
    cases a.getD v.toNat false <;> rfl
/-- A loop that looks for an element without a quality. -/
theorem iter_all {R : Type} {α : Type} {X : Type} {f : (X → Option R) → X → Option R} (s : Nat → X) (xs : List α) (p : α → Bool) (r e : Option R)
    (go : ∀ rec (i : Nat) (h : i < xs.length), p xs[i] = true → f rec (s i) = rec (s (i + 1))) (stop : ∀ rec (i : Nat) (h : i < xs.length), p xs[i] = false → f rec (s i) = e) (done : ∀ rec, f rec (s xs.length) = r) {n : Nat} (hn : xs.length < n) :
    iter f n (s 0) = brB (xs.all p) r e := by
  suffices H : ∀ d i n, i + d = xs.length → d < n → iter f n (s i) = brB ((xs.drop i).all p) r e from by
    have := H xs.length 0 n (by omega) hn
    simpa using this
  intro d
  induction d with
  | zero =>
    intro i n hi hn
    obtain ⟨m, rfl⟩ : ∃ m, n = m + 1 := ⟨n - 1, by omega⟩
    obtain rfl : i = xs.length := by omega
    rw [List.drop_length]
    exact done _
  | succ d ih =>
    intro i n hi hn
    obtain ⟨m, rfl⟩ : ∃ m, n = m + 1 := ⟨n - 1, by omega⟩
    show f (iter f m) (s i) = _
    have hlt : i < xs.length := by omega
    rw [List.drop_eq_getElem_cons hlt, List.all_cons]
    cases hq : p xs[i] with
    | false => rw [stop _ i hlt hq]; rfl
    | true => rw [go _ i hlt hq, ih (i + 1) m (by omega) (by omega), Bool.true_and]
theorem brB_chain {R : Type} {b c : Bool} {X r e : Option R} (h : b = true → X = brB c r e) : brB b X e = brB (b && c) r e := by
  cases b with
  | false => rfl
  | true => rw [brB_true, h rfl, Bool.true_and]
theorem if_chain {R : Type} {p : Prop} [Decidable p] {c : Bool} {X r e : Option R} (h : p → X = brB c r e) : (if p then X else e) = brB (decide p && c) r e := by
  by_cases hp : p
  · rw [if_pos hp, h hp, decide_eq_true hp, Bool.true_and]
  · rw [if_neg hp, decide_eq_false hp]; rfl
theorem if_chain_iff {R : Type} {p q : Prop} [Decidable p] [Decidable q] {c : Bool} {X r e : Option R} (hpq : p ↔ q) (h : q → X = brB c r e) : (if p then X else e) = brB (decide q && c) r e := by
  by_cases hp : p
  · rw [if_pos hp, h (hpq.1 hp), decide_eq_true (hpq.1 hp), Bool.true_and]
  · rw [if_neg hp, decide_eq_false (fun hq => hp (hpq.2 hq))]; rfl
theorem take_getD {α : Type} (d : α) (xs : List α) {i : Nat} (h : i ≤ xs.length) : xs.take i = (List.range i).map fun j => xs.getD j d := by
  apply List.ext_getElem?
  intro j
  rw [List.getElem?_take]
  by_cases hj : j < i
  · rw [if_pos hj]; simp [hj, List.getElem?_eq_getElem (show j < xs.length by omega)]
  · rw [if_neg hj, List.getElem?_eq_none (by simpa using Nat.le_of_not_lt hj)]
theorem take_all {α : Type} (d : α) (xs : List α) {i : Nat} (h : i ≤ xs.length) (q : α → Bool) : (xs.take i).all q = (List.range i).all fun j => q (xs.getD j d) := by
  rw [take_getD d xs h, List.all_map]; rfl
/-- A node: its parent, its place, its functions. -/
def nd (xs : List (Int × Int × Int)) (i : Nat) : Int × Int × Int := xs.getD i (0, 0, 0)
theorem rGet_nd (xs : List (Int × Int × Int)) (i : Nat) : rGet (0, 0, 0) xs (i : Int) = nd xs i := rfl
def sameB (p d : Int) (x : Int × Int × Int) : Bool := decide (x.1 = p) && decide (x.2.1 = d)
def nodeB (xs : List (Int × Int × Int)) (i : Nat) : Bool :=
  decide (0 ≤ (nd xs i).1 ∧ (nd xs i).1 ≤ (i : Int) - 1) && (decide ((nd xs (nd xs i).1.toNat).2.2 = 0) && (decide (0 ≤ (nd xs i).2.1 ∧ (nd xs i).2.1 ≤ 3) && (decide (0 ≤ (nd xs i).2.2 ∧ (nd xs i).2.2 ≤ 4) &&
    (List.range i).all fun j => !sameB (nd xs i).1 (nd xs i).2.1 (nd xs j))))
def rootB (xs : List (Int × Int × Int)) : Bool := decide ((nd xs 0).1 = -1) && (decide ((nd xs 0).2.1 = 0) && (decide ((nd xs 0).2.2 = 0) && true))
/-- A tree is valid. -/
def treeB (xs : List (Int × Int × Int)) : Bool := decide (1 ≤ (xs.length : Int) ∧ (xs.length : Int) ≤ 12) && (rootB xs && (List.range (xs.length - 1)).all fun i => nodeB xs (i + 1))
theorem getD_set_self {α : Type} {d : α} {l : List α} {i : Nat} {x : α} (h : i < l.length) : (l.set i x).getD i d = x := by
  rw [List.getD_eq_getElem?_getD, List.getElem?_set, if_pos rfl, if_pos h]; rfl
theorem iBit_and255 (x : Int) : 0 ≤ iBit .and .i64 x 255 ∧ iBit .and .i64 x 255 ≤ 255 := by
  have h : (BitVec.ofInt IntKind.i64.bits x &&& BitVec.ofInt IntKind.i64.bits 255).toNat ≤ 255 := by
    rw [BitVec.toNat_and]
    refine Nat.le_trans Nat.and_le_right ?_
    decide
  simp only [iBit]
  rw [wrap64, w64_id (by omega) (by omega)]
  omega
noncomputable def lnF (k : Nat) (rec : (List Int × Int × Int) → Option (List Int × Int × Int)) (x : List Int × Int × Int) : Option (List Int × Int × Int) := spec_l01New.s0 k rec x.1 x.2.1 x.2.2
theorem l01New_ev (c : List Int) (k : Nat) (hk : 4000 < k) : ∃ s, spec_l01New.f k c = some (c, 0, s) := by
  suffices H : ∀ (n i : Nat) (x : Int) (K : Nat), i + n = 4000 → n < K → ∃ s, iter (lnF k) K (c, x, (i : Int)) = some (c, 0, s) from H 4000 0 (iAdd .i64 98663 (rLen c)) k (by omega) hk
  intro n
  induction n with
  | zero =>
    intro i x K hi hK
    obtain ⟨m, rfl⟩ : ∃ m, K = m + 1 := ⟨K - 1, by omega⟩
    refine ⟨x, ?_⟩
    show spec_l01New.s0 k (iter (lnF k) m) c x (i : Int) = _
    generalize iter (lnF k) m = rec
    simp only [spec_l01New.s0, iLt_eq, iLe_eq, iEq_eq, iNe_eq, bNot_eq, bEq_eq, bNe_eq, brB_nb, brB_dec, brB_true, brB_false, chk_idx, chk_len, chk_make, chk_sub, bnd_one, rLen_eq, rGet_nat, rSet_nat, rApp_eq, ↓reduceIte]
    by_cases h : (i : Int) < (c.length : Int)
    · rw [if_pos h, if_neg (by omega)]
    · rw [if_neg h]
  | succ n ih =>
    intro i x K hi hK
    obtain ⟨m, rfl⟩ : ∃ m, K = m + 1 := ⟨K - 1, by omega⟩
    by_cases h : (i : Int) < (c.length : Int)
    · obtain ⟨s, hs⟩ := ih (i + 1) (iBit .and .i64 (iAdd .i64 (iAdd .i64 (iMul .i64 x 131) (iCnv .i64 (c.getD i 0))) 7) 1073741823) m (by omega) (by omega)
      refine ⟨s, ?_⟩
      show spec_l01New.s0 k (iter (lnF k) m) c x (i : Int) = _
      generalize iter (lnF k) m = rec at hs ⊢
      simp only [spec_l01New.s0, iLt_eq, iLe_eq, iEq_eq, iNe_eq, bNot_eq, bEq_eq, bNe_eq, brB_nb, brB_dec, brB_true, brB_false, chk_idx, chk_len, chk_make, chk_sub, bnd_one, rLen_eq, rGet_nat, rSet_nat, rApp_eq, ↓reduceIte]
      rw [if_pos h, if_pos (by omega), if_pos (by omega), next_id (n := 4000) (by omega) (by omega), hs]
    · refine ⟨x, ?_⟩
      show spec_l01New.s0 k (iter (lnF k) m) c x (i : Int) = _
      generalize iter (lnF k) m = rec
      simp only [spec_l01New.s0, iLt_eq, iLe_eq, iEq_eq, iNe_eq, bNot_eq, bEq_eq, bNe_eq, brB_nb, brB_dec, brB_true, brB_false, chk_idx, chk_len, chk_make, chk_sub, bnd_one, rLen_eq, rGet_nat, rSet_nat, rApp_eq, ↓reduceIte]
      rw [if_neg h]
theorem l01Byte_some (k : Nat) (c : List Int) (hc : c.length ≤ 2000000) (p s : Int) (hp : 0 ≤ p) : ∃ b p' s', spec_l01Byte.f k c p s = some (b, c, p', s') ∧ 0 ≤ b ∧ b ≤ 255 ∧ 0 ≤ p' := by
  simp only [spec_l01Byte.f, chk_nn, iLt_eq, brB_dec, chk_idx, rLen_eq]
  rw [if_pos (by omega), if_pos (by omega)]
  by_cases h : p < (c.length : Int)
  · rw [if_pos h, if_pos (by omega)]
    exact ⟨_, _, _, rfl, (iBit_and255 _).1, (iBit_and255 _).2, by rw [iAdd_id (by omega) (by omega)]; omega⟩
  · rw [if_neg h]
    exact ⟨_, _, _, rfl, (iBit_and255 _).1, (iBit_and255 _).2, hp⟩
theorem l01Below_some (k : Nat) (c : List Int) (hc : c.length ≤ 2000000) (p s n : Int) (hp : 0 ≤ p) (hn : 0 < n) : ∃ v p' s', spec_l01Below.f k n c p s = some (v, c, p', s') ∧ 0 ≤ v ∧ v < n ∧ 0 ≤ p' := by
  obtain ⟨b1, p1, s1, e1, h1, g1, q1⟩ := l01Byte_some k c hc p s hp
  obtain ⟨b2, p2, s2, e2, h2, g2, q2⟩ := l01Byte_some k c hc p1 s1 q1
  obtain ⟨b3, p3, s3, e3, h3, g3, q3⟩ := l01Byte_some k c hc p2 s2 q2
  obtain ⟨b4, p4, s4, e4, h4, g4, q4⟩ := l01Byte_some k c hc p3 s3 q3
  simp only [spec_l01Below.f, iLe_eq, brB_dec, e1, e2, e3, e4, bnd_one, chk_nz]
  rw [if_neg (by omega)]
  by_cases h : n ≤ 256
  · rw [if_pos h, if_neg (by omega)]
    exact ⟨_, _, _, rfl, Int.tmod_nonneg _ h1, Int.tmod_lt_of_pos _ hn, q1⟩
  · rw [if_neg h, if_neg (by omega)]
    have e : iAdd .i64 (iAdd .i64 (iAdd .i64 (iMul .i64 b1 16777216) (iMul .i64 b2 65536)) (iMul .i64 b3 256)) b4 = b1 * 16777216 + b2 * 65536 + b3 * 256 + b4 := by
      simp only [iAdd_w, iMul_w, w64]; omega
    rw [e]
    exact ⟨_, _, _, rfl, Int.tmod_nonneg _ (by omega), Int.tmod_lt_of_pos _ hn, q4⟩
theorem l01PickInt_some (k : Nat) (l c : List Int) (hc : c.length ≤ 2000000) (p s : Int) (hp : 0 ≤ p) (hl : 0 < l.length) : ∃ v p' s', spec_l01PickInt.f k l c p s = some (v, c, p', s') ∧ v ∈ l ∧ 0 ≤ p' := by
  obtain ⟨v, p1, s1, e1, h1, g1, q1⟩ := l01Below_some k c hc p s (l.length : Int) hp (by omega)
  simp only [spec_l01PickInt.f, rLen_eq, e1, bnd_one, chk_idx]
  rw [if_pos ⟨h1, g1⟩, rGet_in _ _ h1, getD_lt 0 l (by omega)]
  exact ⟨_, _, _, rfl, List.getElem_mem _, q1⟩
theorem l01Once_some (k : Nat) (c : List Int) (hc : c.length ≤ 2000000) (p s n : Int) (hp : 0 ≤ p) (hn : 0 < n) : ∃ v p' s', spec_l01Once.f k n c p s = some (v, c, p', s') ∧ 0 ≤ p' := by
  obtain ⟨v, p1, s1, e1, h1, g1, q1⟩ := l01Below_some k c hc p s n hp hn
  simp only [spec_l01Once.f, e1, bnd_one]
  exact ⟨_, _, _, rfl, q1⟩
noncomputable def dpF (k : Nat) (rec : (List Int × Int × List Int × Int × Int) → Option (List Int)) (x : List Int × Int × List Int × Int × Int) : Option (List Int) := spec_DrawPlaces.s0 k rec x.1 x.2.1 x.2.2.1 x.2.2.2.1 x.2.2.2.2
/-- Twelve places. -/
theorem drawPlaces_ev (c : List Int) (hc : c.length ≤ 2000000) (k : Nat) (hk : 4000 < k) : ∃ l : List Int, spec_DrawPlaces.f k c = some l ∧ l.length = 12 ∧ ∀ x ∈ l, 0 ≤ x ∧ x < 10000 := by
  obtain ⟨s0, h0⟩ := l01New_ev c k hk
  suffices H : ∀ (n i : Nat) (x : List Int) (p s : Int) (K : Nat), i + n = 12 → n < K → x.length = i → 0 ≤ p → (∀ y ∈ x, 0 ≤ y ∧ y < 10000) → ∃ l : List Int, iter (dpF k) K (x, (i : Int), c, p, s) = some l ∧ l.length = 12 ∧ ∀ x ∈ l, 0 ≤ x ∧ x < 10000 by
    obtain ⟨l, h, hl⟩ := H 12 0 [] 0 s0 k (by omega) (by omega) rfl (by omega) (fun y hy => by cases hy)
    refine ⟨l, ?_, hl⟩
    simp only [spec_DrawPlaces.f, h0, bnd_one]
    exact h
  intro n
  induction n with
  | zero =>
    intro i x p s K hi hK hx hp hxs
    obtain ⟨m, rfl⟩ : ∃ m, K = m + 1 := ⟨K - 1, by omega⟩
    refine ⟨x, ?_, by omega, hxs⟩
    show spec_DrawPlaces.s0 k (iter (dpF k) m) x (i : Int) c p s = _
    generalize iter (dpF k) m = rec
    simp only [spec_DrawPlaces.s0, iLt_eq, brB_dec]
    rw [if_neg (by omega)]
  | succ n ih =>
    intro i x p s K hi hK hx hp hxs
    obtain ⟨m, rfl⟩ : ∃ m, K = m + 1 := ⟨K - 1, by omega⟩
    obtain ⟨v, p1, s1, e1, h1, g1, q1⟩ := l01Below_some k c hc p s 10000 hp (by omega)
    obtain ⟨l, h, hl⟩ := ih (i + 1) (x ++ [v]) p1 s1 m (by omega) (by omega) (by simp [hx]) q1 (fun y hy => by
      rcases List.mem_append.1 hy with hy | hy
      · exact hxs y hy
      · simp at hy; subst hy; exact ⟨h1, g1⟩)
    refine ⟨l, ?_, hl⟩
    show spec_DrawPlaces.s0 k (iter (dpF k) m) x (i : Int) c p s = _
    generalize iter (dpF k) m = rec at h ⊢
    simp only [spec_DrawPlaces.s0, iLt_eq, brB_dec, e1, bnd_one, chk_len, rLen_eq, rApp_eq]
    rw [if_pos (by omega), if_pos (by simp only [List.length_append, List.length_cons, List.length_nil]; omega), next_id (n := 12) (by omega) (by omega), h]
theorem pend_snoc {a b : List Bool} (hl : b.length = a.length) (m p : Bool) : pendB (a ++ [m]) (b ++ [p]) = (pendB a b && (!p || m)) := by
  simp only [pendB, List.length_append, List.length_cons, List.length_nil]
  rw [List.range_succ, List.all_append]
  congr 1
  · rw [Bool.eq_iff_iff]
    simp only [List.all_eq_true, List.mem_range]
    refine forall_congr' fun i => forall_congr' fun hi => ?_
    simp only [List.getD_eq_getElem?_getD]
    rw [List.getElem?_append_left (by omega), List.getElem?_append_left (by omega)]
  · simp only [List.all_cons, List.all_nil, Bool.and_true]
    simp only [List.getD_eq_getElem?_getD]
    rw [List.getElem?_append_right (by omega), List.getElem?_append_right (by omega), hl]
    simp
noncomputable def lvF (k : Nat) (rec : (Int × Int × List Int × Int × Int × Int × List Bool × List Bool × Int × List Bool × List Bool) → Option (Int × List Bool × List Bool × List Int × Int × Int)) (x : Int × Int × List Int × Int × Int × Int × List Bool × List Bool × Int × List Bool × List Bool) : Option (Int × List Bool × List Bool × List Int × Int × Int) := spec_l30Vectors.s0 k rec x.1 x.2.1 x.2.2.1 x.2.2.2.1 x.2.2.2.2.1 x.2.2.2.2.2.1 x.2.2.2.2.2.2.1 x.2.2.2.2.2.2.2.1 x.2.2.2.2.2.2.2.2.1 x.2.2.2.2.2.2.2.2.2.1 x.2.2.2.2.2.2.2.2.2.2
theorem l30Loop (k : Nat) (c : List Int) (hc : c.length ≤ 2000000) (N : Nat) (hN : N ≤ 8) (e : Int) : ∀ (n i : Nat) (a b : List Bool) (p s : Int) (K : Nat), i + n = N → n < K → a.length = i → b.length = i → 0 ≤ p → pendB a b = true →
    ∃ (a' b' : List Bool) (p' s' : Int), iter (lvF k) K ((N : Int), (i : Int), c, p, s, 0, [], [], e, a, b) = some (e, a', b', c, p', s') ∧ a'.length = N ∧ b'.length = N ∧ pendB a' b' = true ∧ 0 ≤ p' := by
  intro n
  induction n with
  | zero =>
    intro i a b p s K hi hK ha hb hp hpb
    obtain ⟨m, rfl⟩ : ∃ m, K = m + 1 := ⟨K - 1, by omega⟩
    refine ⟨a, b, p, s, ?_, by omega, by omega, hpb, hp⟩
    show spec_l30Vectors.s0 k (iter (lvF k) m) (N : Int) (i : Int) c p s 0 [] [] e a b = _
    generalize iter (lvF k) m = rec
    simp only [spec_l30Vectors.s0, iLt_eq, brB_dec]
    rw [if_neg (by omega)]
  | succ n ih =>
    intro i a b p s K hi hK ha hb hp hpb
    obtain ⟨m, rfl⟩ : ∃ m, K = m + 1 := ⟨K - 1, by omega⟩
    obtain ⟨v, p1, s1, e1, q1⟩ := l01Once_some k c hc p s 2 hp (by omega)
    obtain ⟨v2, p2, s2, e2, q2⟩ := l01Once_some k c hc p1 s1 2 q1 (by omega)
    cases v with
    | true =>
      obtain ⟨a', b', p', s', h, r⟩ := ih (i + 1) (a ++ [true]) (b ++ [v2]) p2 s2 m (by omega) (by omega) (by simp [ha]) (by simp [hb]) q2 (by rw [pend_snoc (by omega), hpb]; cases v2 <;> rfl)
      refine ⟨a', b', p', s', ?_, r⟩
      show spec_l30Vectors.s0 k (iter (lvF k) m) (N : Int) (i : Int) c p s 0 [] [] e a b = _
      generalize iter (lvF k) m = rec at h ⊢
      simp only [spec_l30Vectors.s0, iLt_eq, brB_dec, e1, e2, bnd_one, chk_len, rLen_eq, rApp_eq, brB_true]
      rw [if_pos (by omega), if_pos (by simp only [List.length_append, List.length_cons, List.length_nil]; omega), if_pos (by simp only [List.length_append, List.length_cons, List.length_nil]; omega), next_id (n := 8) (by omega) (by omega), h]
    | false =>
      obtain ⟨a', b', p', s', h, r⟩ := ih (i + 1) (a ++ [false]) (b ++ [false]) p1 s1 m (by omega) (by omega) (by simp [ha]) (by simp [hb]) q1 (by rw [pend_snoc (by omega), hpb]; rfl)
      refine ⟨a', b', p', s', ?_, r⟩
      show spec_l30Vectors.s0 k (iter (lvF k) m) (N : Int) (i : Int) c p s 0 [] [] e a b = _
      generalize iter (lvF k) m = rec at h ⊢
      simp only [spec_l30Vectors.s0, iLt_eq, brB_dec, e1, e2, bnd_one, chk_len, rLen_eq, rApp_eq, brB_false]
      rw [if_pos (by omega), if_pos (by simp only [List.length_append, List.length_cons, List.length_nil]; omega), if_pos (by simp only [List.length_append, List.length_cons, List.length_nil]; omega), next_id (n := 8) (by omega) (by omega), h]
/-- Vectors that are drawn are valid. -/
theorem drawVectors_ev (c : List Int) (hc : c.length ≤ 2000000) (k : Nat) (hk : 4000 < k) : ∃ (e : Int) (a b : List Bool), spec_DrawVectors.f k c = some (e, a, b) ∧ vecB e a b = true := by
  obtain ⟨s0, h0⟩ := l01New_ev c k hk
  obtain ⟨e, p1, s1, e1, m1, q1⟩ := l01PickInt_some k [0, 100, 65535] c hc 0 s0 (by omega) (by simp)
  obtain ⟨v, p2, s2, e2, v0, v1, q2⟩ := l01Below_some k c hc p1 s1 8 q1 (by omega)
  obtain ⟨a, b, p3, s3, h, la, lb, hp, _⟩ := l30Loop k c hc (v.toNat + 1) (by omega) e (v.toNat + 1) 0 [] [] p2 s2 k (by omega) (by omega) rfl rfl q2 rfl
  refine ⟨e, a, b, ?_, ?_⟩
  · have hv : iAdd .i64 1 v = ((v.toNat + 1 : Nat) : Int) := by rw [iAdd_id (by omega) (by omega)]; omega
    simp only [spec_DrawVectors.f, spec_l30Vectors.f, h0, e1, e2, bnd_one, hv]
    rw [show spec_l30Vectors.l0 k k ((v.toNat + 1 : Nat) : Int) 0 c p2 s2 0 [] [] e [] [] = some (e, a, b, c, p3, s3) from h]
    rfl
  · simp only [vecB, Bool.and_eq_true, decide_eq_true_eq]
    have he : 0 ≤ e ∧ e ≤ 65535 := by
      simp at m1
      omega
    exact ⟨by omega, by omega, he, hp⟩
/-- What the setting of a mask gives. -/
def maskB (ok : Bool) (e : Int) (a b : List Bool) (d v : Int) (m : Bool) : Int × List Bool × List Bool × Int × Int × Int × Int × Int × Int × Int × List Int × Bool :=
  if ok = true then (if b.getD v.toNat false = true ∧ m = false then (e, a.set v.toNat false, b.set v.toNat false, 1, d, 0, e, 0, 0, 0, [v], true) else (e, a.set v.toNat m, b, 0, 0, 0, 0, 0, 0, 0, [], true)) else (e, a, b, 0, 0, 0, 0, 0, 0, 0, [], false)
theorem maskB_len (ok : Bool) (e : Int) (a b : List Bool) (d v : Int) (m : Bool) : (maskB ok e a b d v m).2.1.length = a.length ∧ (maskB ok e a b d v m).2.2.1.length = b.length ∧ (maskB ok e a b d v m).2.2.2.2.2.2.2.2.2.2.1.length ≤ 1 := by
  unfold maskB; (repeat' split) <;> simp
theorem pend_set {a b : List Bool} (h : pendB a b = true) (v : Nat) : pendB (a.set v false) (b.set v false) = true := by
  simp only [pendB, List.all_eq_true, List.mem_range, List.length_set] at h ⊢
  intro i hi
  have := h i hi
  simp only [List.getD_eq_getElem?_getD, List.getElem?_set] at this ⊢
  by_cases e : v = i
  · subst e
    simp only [↓reduceIte]
    split <;> simp
  · rw [if_neg e, if_neg e]; exact this
theorem has_set {e : Int} {a b : List Bool} {d v : Int} (h : hasB e a b d v = true) : hasB e (a.set v.toNat false) (b.set v.toNat false) d v = true := by
  simp only [hasB, vecB, Bool.and_eq_true, decide_eq_true_eq, List.length_set] at h ⊢
  exact ⟨⟨h.1.1, h.1.2.1, h.1.2.2.1, pend_set h.1.2.2.2 _⟩, h.2⟩
theorem implMask_ev (e : Int) (a b : List Bool) (d v : Int) (m : Bool) (hb : b.length ≤ 1048576) (ha : a.length ≤ 1048576) (k : Nat) (hk : a.length + b.length < k) : impl_SetMask.f k e a b d v m = some (maskB (hasB e a b d v) e a b d v m) := by
  simp only [impl_SetMask.f, copyVectors_eq k e a b hb ha, hasVector_ev e a b d v hb ha k hk, impl_call.f, maskB, iLt_eq, iLe_eq, iEq_eq, iNe_eq, bNot_eq, bEq_eq, bNe_eq, brB_nb, brB_dec, brB_true, brB_false, chk_idx, chk_len, chk_make, chk_sub, bnd_one, rLen_eq, rGet_nat, rSet_nat, rApp_eq, ↓reduceIte]
  cases h : hasB e a b d v with
  | false => rfl
  | true =>
    have hlt := hasB_lt h
    simp only [iLt_eq, iLe_eq, iEq_eq, iNe_eq, bNot_eq, bEq_eq, bNe_eq, brB_nb, brB_dec, brB_true, brB_false, chk_idx, chk_len, chk_make, chk_sub, bnd_one, rLen_eq, rGet_nat, rSet_nat, rApp_eq, ↓reduceIte]
    rw [if_pos (by omega), if_pos (by omega), if_pos (by omega), rGet_in _ _ hlt.1, rSet_in _ _ hlt.1]
    cases m with
    | true => cases hp : b.getD v.toNat false <;> simp [brB]
    | false => cases hp : b.getD v.toNat false <;> simp [brB, rSet_in _ _ hlt.1]
/-- The vectors that are pending, of the first i. -/
def pendL (b : List Bool) (i : Nat) : List Int := ((List.range i).filter fun (j : Nat) => b.getD j false).map fun (j : Nat) => (j : Int)
theorem pendL_succ (b : List Bool) (i : Nat) : pendL b (i + 1) = if b.getD i false = true then pendL b i ++ [(i : Int)] else pendL b i := by
  simp only [pendL, List.range_succ, List.filter_append, List.map_append, List.filter_cons, List.filter_nil]
  by_cases h : b.getD i false = true
  · rw [if_pos h, if_pos h]; rfl
  · rw [if_neg h, if_neg h]; exact List.append_nil _
theorem pendL_len (b : List Bool) (i : Nat) : (pendL b i).length ≤ i := by
  have := List.length_filter_le (fun j : Nat => b.getD j false) (List.range i)
  simpa [pendL] using this
theorem pendL_mem (b : List Bool) (v : Nat) (hv : v < b.length) : (v : Int) ∈ pendL b b.length ↔ b.getD v false = true := by
  simp only [pendL, List.mem_map, List.mem_filter, List.mem_range]
  constructor
  · rintro ⟨j, ⟨_, h⟩, e⟩
    rw [show v = j by omega]; exact h
  · exact fun h => ⟨v, ⟨hv, h⟩, rfl⟩
theorem pendingOf_ev (e : Int) (a b : List Bool) (hb : b.length ≤ 1048576) (k : Nat) (hk : b.length < k) : impl_PendingOf.f k e a b = some (pendL b b.length) := by
  have h := iter_upto (f := fun (rec : (List Int × List Bool × Int × Int) → Option (List Int)) (x : List Int × List Bool × Int × Int) => impl_PendingOf.s0 k rec x.1 x.2.1 x.2.2.1 x.2.2.2) (fun i => (pendL b i, b, (b.length : Int), (i : Int))) b.length (r := pendL b b.length) (fun rec i hi => ?_) (fun rec => ?_) (n := k) hk
  · exact h
  · have hl := pendL_len b i
    simp only [impl_PendingOf.s0, iLt_eq, brB_dec, chk_idx, chk_len, rLen_eq, rApp_eq, rGet_nat, pendL_succ]
    rw [if_pos (by omega), if_idx hi, if_pos (by simp only [List.length_append, List.length_cons, List.length_nil]; omega), next_id hi (by omega), brB_if]
    split <;> rfl
  · simp only [impl_PendingOf.s0, iLt_eq, brB_dec]
    rw [if_neg (by omega)]
theorem has_ev (l : List Int) (x : Int) (hl : l.length ≤ 1048576) (k : Nat) (hk : l.length < k) : laws_has.f k l x = some (decide (x ∈ l)) := by
  have h := iter_all (f := fun (rec : (List Int × Int × Int) → Option Bool) (y : List Int × Int × Int) => laws_has.s0 k rec y.1 y.2.1 y.2.2) (fun i => (l, x, (i : Int))) l (fun y => !decide (y = x)) (some false) (some true) (fun rec i hi hp => ?_) (fun rec i hi hp => ?_) (fun rec => ?_) (n := k) hk
  · refine h.trans ?_
    by_cases hm : x ∈ l
    · rw [decide_eq_true hm, show (l.all fun y => !decide (y = x)) = false by
        rw [← Bool.not_eq_true, List.all_eq_true]
        intro hall
        have := hall x hm
        simp at this]
      rfl
    · rw [decide_eq_false hm, show (l.all fun y => !decide (y = x)) = true by
        rw [List.all_eq_true]
        intro y hy
        simp only [Bool.not_eq_true', decide_eq_false_iff_not]
        rintro rfl
        exact hm hy]
      rfl
  · simp only [laws_has.s0, iLt_eq, iLe_eq, iEq_eq, iNe_eq, bNot_eq, bEq_eq, bNe_eq, brB_nb, brB_dec, brB_true, brB_false, chk_idx, chk_len, chk_make, chk_sub, bnd_one, rLen_eq, rGet_nat, rSet_nat, rApp_eq, ↓reduceIte, getD_lt 0 l hi]
    rw [if_pos (by omega), if_idx hi, next_id hi (by omega), if_neg (by simpa using hp)]
  · simp only [laws_has.s0, iLt_eq, iLe_eq, iEq_eq, iNe_eq, bNot_eq, bEq_eq, bNe_eq, brB_nb, brB_dec, brB_true, brB_false, chk_idx, chk_len, chk_make, chk_sub, bnd_one, rLen_eq, rGet_nat, rSet_nat, rApp_eq, ↓reduceIte, getD_lt 0 l hi]
    rw [if_pos (by omega), if_idx hi, if_pos (by simpa using hp)]
  · simp only [laws_has.s0, iLt_eq, iLe_eq, iEq_eq, iNe_eq, bNot_eq, bEq_eq, bNe_eq, brB_nb, brB_dec, brB_true, brB_false, chk_idx, chk_len, chk_make, chk_sub, bnd_one, rLen_eq, rGet_nat, rSet_nat, rApp_eq, ↓reduceIte]
    rw [if_neg (by omega)]
theorem sameInts_refl (xs : List Int) (hn : xs.length ≤ 4611686018427387904) (k : Nat) (hk : xs.length < k) : laws_sameInts.f k xs xs = some true := by
  simp only [laws_sameInts.f, laws_sameInts.l0, iLt_eq, iLe_eq, iEq_eq, iNe_eq, bNot_eq, bEq_eq, bNe_eq, brB_nb, brB_dec, brB_true, brB_false, chk_idx, chk_len, chk_make, chk_sub, bnd_one, rLen_eq, rGet_nat, rSet_nat, rApp_eq, ↓reduceIte]
  refine iter_upto (f := fun (rec : (List Int × List Int × Int) → Option Bool) (x : List Int × List Int × Int) => laws_sameInts.s0 k rec x.1 x.2.1 x.2.2) (fun i => (xs, xs, (i : Int))) xs.length (fun rec i hi => ?_) (fun rec => ?_) hk
  · simp only [laws_sameInts.s0, iLt_eq, iLe_eq, iEq_eq, iNe_eq, bNot_eq, bEq_eq, bNe_eq, brB_nb, brB_dec, brB_true, brB_false, chk_idx, chk_len, chk_make, chk_sub, bnd_one, rLen_eq, rGet_nat, rSet_nat, rApp_eq, ↓reduceIte]
    rw [if_pos (by omega), if_idx hi, if_idx hi, next_id hi hn]
  · simp only [laws_sameInts.s0, iLt_eq, iLe_eq, iEq_eq, iNe_eq, bNot_eq, bEq_eq, bNe_eq, brB_nb, brB_dec, brB_true, brB_false, chk_idx, chk_len, chk_make, chk_sub, bnd_one, rLen_eq, rGet_nat, rSet_nat, rApp_eq, ↓reduceIte]
    rw [if_neg (by omega)]
theorem pend_more {a b : List Bool} (h : pendB a b = true) (v : Nat) : pendB (a.set v true) b = true := by
  simp only [pendB, List.all_eq_true, List.mem_range, List.length_set] at h ⊢
  intro i hi
  have := h i hi
  simp only [List.getD_eq_getElem?_getD, List.getElem?_set] at this ⊢
  by_cases e : v = i
  · subst e; simp only [↓reduceIte, hi]; simp
  · rw [if_neg e]; exact this
theorem pend_both {a b : List Bool} (h : pendB a b = true) (v : Nat) : pendB (a.set v true) (b.set v true) = true := by
  simp only [pendB, List.all_eq_true, List.mem_range, List.length_set] at h ⊢
  intro i hi
  have := h i hi
  simp only [List.getD_eq_getElem?_getD, List.getElem?_set] at this ⊢
  by_cases e : v = i
  · subst e; simp only [↓reduceIte, hi]; simp
  · rw [if_neg e, if_neg e]; exact this
theorem equalNil (k : Nat) (hk : 0 < k) : slices_Equal_int.f k [] [] = some true := by
  obtain ⟨m, rfl⟩ : ∃ m, k = m + 1 := ⟨k - 1, by omega⟩
  rfl
theorem same0 (k : Nat) (hk : 0 < k) : impl_SamePacket.f k 0 0 0 0 0 0 0 [] 0 0 0 0 0 0 0 [] = some true := by
  simp only [impl_SamePacket.f, equalNil k hk, iEq_eq, decide_true, brB_true, bnd_one]
theorem laws_FnVectors.main (c : List Int) : ∃ k, laws_FnVectors.f k c = some true := by
  refine ⟨5000, ?_⟩
  by_cases hc : (1048576 : Int) < (c.length : Int)
  · simp only [laws_FnVectors.f, laws_big.f, bnd_one, iLt_eq, rLen_eq, decide_eq_true hc, brB_true]
  · obtain ⟨e, a, b, hd, hv⟩ := drawVectors_ev c (by omega) 5000 (by omega)
    obtain ⟨l, hl, ll, lm⟩ := drawPlaces_ev c (by omega) 5000 (by omega)
    have hv' := hv
    simp only [vecB, Bool.and_eq_true, decide_eq_true_eq] at hv'
    obtain ⟨ha, hb, he, hp⟩ := hv'
    have hm : 0 ≤ l.getD 0 0 := by rw [getD_lt 0 l (by omega)]; exact (lm _ (List.getElem_mem _)).1
    have h0 : 0 ≤ (l.getD 0 0).tmod (a.length : Int) := Int.tmod_nonneg _ hm
    have h1 : (l.getD 0 0).tmod (a.length : Int) < (a.length : Int) := Int.tmod_lt_of_pos _ (by omega)
    have hrem : iRem (rGet 0 l 0) (rLen a) = (l.getD 0 0).tmod (a.length : Int) := rfl
    generalize (l.getD 0 0).tmod (a.length : Int) = t at h0 h1 hrem
    obtain ⟨v, ev, v1⟩ : ∃ v : Nat, iRem (rGet 0 l 0) (rLen a) = (v : Int) ∧ v < a.length := ⟨t.toNat, by rw [hrem]; omega, by omega⟩
    have has : ∀ (a' b' : List Bool), a'.length = a.length → b'.length = b.length → pendB a' b' = true → vecB e a' b' = true ∧ hasB e a' b' 33 (v : Int) = true := by
      intro a' b' h1 h2 h3
      have hv2 : vecB e a' b' = true := by simp only [vecB, Bool.and_eq_true, decide_eq_true_eq]; exact ⟨by omega, by omega, he, h3⟩
      refine ⟨hv2, ?_⟩
      simp only [hasB, hv2, Bool.true_and, Bool.and_eq_true, decide_eq_true_eq]
      omega
    have q0 := has a b rfl rfl hp
    have p1 := pend_more hp v
    have q1 := has (a.set v true) b (by simp) rfl p1
    have p2 := pend_both hp v
    have q2 := has (a.set v true) (b.set v true) (by simp) (by simp) p2
    have p3 := pend_set p2 v
    have q3 := has ((a.set v true).set v false) ((b.set v true).set v false) (by simp) (by simp) p3
    have tn : ((v : Int)).toNat = v := by simp
    have M1 := implMask_ev e a b 33 (v : Int) true (by omega) (by omega) 5000 (by omega)
    rw [q0.2] at M1
    simp only [maskB, tn, if_true, Bool.true_eq_false, and_false, if_false] at M1
    have M2 := implRaise_ev e (a.set v true) b 33 (v : Int) (by omega) (by simp; omega) 5000 (by simp; omega)
    rw [q1.2] at M2
    simp only [raiseB, tn, if_true, getD_set_self v1] at M2
    have M3 := implMask_ev e (a.set v true) (b.set v true) 33 (v : Int) false (by simp; omega) (by simp; omega) 5000 (by simp; omega)
    rw [q2.2] at M3
    simp only [maskB, tn, if_true, getD_set_self (show v < b.length by omega), and_self] at M3
    have M4 := implMask_ev e ((a.set v true).set v false) ((b.set v true).set v false) 33 (v : Int) false (by simp; omega) (by simp; omega) 5000 (by simp; omega)
    rw [q3.2] at M4
    simp only [maskB, tn, if_true, getD_set_self (show v < (b.set v true).length by simp; omega), Bool.false_eq_true, false_and, if_false] at M4
    have V0 := implVectorsOk_ev e a b (by omega) (by omega) 5000 (by omega)
    have V1 := implVectorsOk_ev e ((a.set v true).set v false) ((b.set v true).set v false) (by simp; omega) (by simp; omega) 5000 (by simp; omega)
    rw [q0.1] at V0
    rw [q3.1] at V1
    have P1 := pendingOf_ev e (a.set v true) (b.set v true) (by simp; omega) 5000 (by simp; omega)
    have P2 := pendingOf_ev e ((a.set v true).set v false) ((b.set v true).set v false) (by simp; omega) 5000 (by simp; omega)
    have H1 := has_ev (pendL (b.set v true) (b.set v true).length) (v : Int) (by have := pendL_len (b.set v true) (b.set v true).length; simp at this ⊢; omega) 5000 (by have := pendL_len (b.set v true) (b.set v true).length; simp at this ⊢; omega)
    have H2 := has_ev (pendL ((b.set v true).set v false) ((b.set v true).set v false).length) (v : Int) (by have := pendL_len ((b.set v true).set v false) ((b.set v true).set v false).length; simp at this ⊢; omega) 5000 (by have := pendL_len ((b.set v true).set v false) ((b.set v true).set v false).length; simp at this ⊢; omega)
    rw [decide_eq_true ((pendL_mem _ v (by simp; omega)).2 (getD_set_self (by omega)))] at H1
    rw [decide_eq_false (fun h => by
      have := (pendL_mem _ v (by simp; omega)).1 h
      rw [getD_set_self (by simp; omega)] at this
      cases this)] at H2
    have K1 := implIsPacket_ev 1 33 0 e 0 0 0 [(v : Int)] (by simp) (by rw [wf64]; omega) (by rw [wf64]; omega) 5000 (by simp)
    rw [show packB 1 33 0 e 0 0 0 [(v : Int)] = true by
      simp only [packB, wordsOk, List.all_cons, List.all_nil, Bool.and_true, Bool.and_eq_true, decide_eq_true_eq]
      refine ⟨by omega, ?_⟩
      unfold packP
      exact ⟨by omega, .inl ⟨rfl, by simp, by simp; omega, rfl, rfl, rfl, rfl⟩⟩] at K1
    have S1 := sameInts_refl [(v : Int)] (by simp) 5000 (by simp)
    have Z := same0 5000 (by omega)
    simp only [laws_FnVectors.f, laws_big.f, bnd_one, iLt_eq, rLen_eq, decide_eq_false hc, brB_false, hd, hl, chk_idx, chk_nz]
    rw [rLen_eq] at ev
    rw [if_pos (by omega), if_neg (by omega)]
    simp only [ev, M1, M2, M3, M4, V0, V1, P1, P2, H1, H2, K1, S1, Z, bnd_one, brB_true, brB_false, bNot_eq, Bool.not_false, iEq_eq, decide_true]
theorem laws_FnVectors.pure : ∀ x : laws_FnVectors.sig.inTy.T, Good laws_FnVectors.sig.inTy x → ∃ k, laws_FnVectors.spec.fn k x = some true :=
  fun x _ => laws_FnVectors.main x
end Go.Proofs.YtmilhndiocggkaaT

/- What the functions of FnProducers give, in plain terms. -/
import Derived.Test.YtmbmapbdbbnaeaaFFnProducers
import Derived.Test.YtmbmapbdbbnaeaaTiPL
set_option linter.unusedVariables false
set_option linter.unusedSimpArgs false
set_option maxRecDepth 100000
namespace Go.Proofs.YtmbmapbdbbnaeaaT
open Go
theorem bnd_to {A R : Type} {x : Option A} {a : A} {f : A → Option R} {r : Option R} (h : x = some a) (g : f a = r) : bnd x f = r := by rw [h]; exact g
theorem brF_to {R : Type} {b : Bool} {x y r : Option R} (h : b = false) (g : y = r) : brB b x y = r := by rw [h]; exact g
theorem brT_to {R : Type} {b : Bool} {x y r : Option R} (h : b = true) (g : x = r) : brB b x y = r := by rw [h]; exact g
theorem chk_to {R : Type} {b : Bool} {x r : Option R} (h : b = true) (g : x = r) : chk b x = r := by rw [h]; exact g
theorem iLt_no {a b : Int} (h : b ≤ a) : iLt a b = false := by simp [iLt, h]
theorem iLt_yes {a b : Int} (h : a < b) : iLt a b = true := by simp [iLt, h]
theorem iter_from {X R : Type} {f : (X → Option R) → X → Option R} {x0 : X} (s : Nat → X) (N : Nat) {r : R} (h0 : x0 = s 0) (step : ∀ rec i, i < N → f rec (s i) = rec (s (i + 1))) (done : ∀ rec, f rec (s N) = some r) {n : Nat} (hn : N < n) :
    iter f n x0 = some r := by rw [h0]; exact iter_upto s N step done hn
theorem cIdx_yes {i n : Int} (h : 0 ≤ i ∧ i < n) : cIdx i n = true := decide_eq_true h
theorem cLen_yes {n b : Int} (h : n * b ≤ 35184372088832) : cLen n b = true := @decide_eq_true _ (Classical.propDecidable _) h

theorem iLe_eq (a b : Int) : iLe a b = decide (a ≤ b) := rfl
theorem iLt_eq (a b : Int) : iLt a b = decide (a < b) := rfl
theorem iEq_eq (a b : Int) : iEq a b = decide (a = b) := by by_cases h : a = b <;> simp [iEq, h]
theorem iNe_eq (a b : Int) : iNe a b = !decide (a = b) := by by_cases h : a = b <;> simp [iNe, h]
theorem bNot_eq (a : Bool) : bNot a = !a := rfl
/-- A loop that looks for the first element with a quality. -/
theorem iter_find {R : Type} {α : Type} {X : Type} {f : (X → Option R) → X → Option R} (s : Nat → X) (xs : List α) (p : α → Bool) (r : R) (e : Nat → R)
    (go : ∀ rec (i : Nat) (h : i < xs.length), p xs[i] = true → f rec (s i) = rec (s (i + 1))) (stop : ∀ rec (i : Nat) (h : i < xs.length), p xs[i] = false → f rec (s i) = some (e i)) (done : ∀ rec, f rec (s xs.length) = some r) {n : Nat} (hn : xs.length < n) :
    iter f n (s 0) = some (match xs.findIdx? (fun x => !p x) with | some i => e i | none => r) := by
  suffices H : ∀ d i n, i + d = xs.length → d < n → (∀ j (h : j < xs.length), j < i → p xs[j] = true) → iter f n (s i) = some (match xs.findIdx? (fun x => !p x) with | some i => e i | none => r) from H xs.length 0 n (by omega) hn (fun j _ h => by omega)
  intro d
  induction d with
  | zero =>
    intro i n hi hn hp
    obtain ⟨m, rfl⟩ : ∃ m, n = m + 1 := ⟨n - 1, by omega⟩
    obtain rfl : i = xs.length := by omega
    have : xs.findIdx? (fun x => !p x) = none := by
      rw [List.findIdx?_eq_none_iff]
      intro x hx
      obtain ⟨j, hj, rfl⟩ := List.mem_iff_getElem.1 hx
      simp [hp j hj (by omega)]
    rw [this]
    exact done _
  | succ d ih =>
    intro i n hi hn hp
    obtain ⟨m, rfl⟩ : ∃ m, n = m + 1 := ⟨n - 1, by omega⟩
    show f (iter f m) (s i) = _
    have hlt : i < xs.length := by omega
    by_cases hq : p xs[i] = false
    · rw [stop _ i hlt hq]
      have : xs.findIdx? (fun x => !p x) = some i := by
        rw [List.findIdx?_eq_some_iff_getElem]
        exact ⟨hlt, by simp [hq], fun j hj => by simp [hp j (by omega) hj]⟩
      rw [this]
    · have hq : p xs[i] = true := by simpa using hq
      rw [go _ i hlt hq]
      refine ih (i + 1) m (by omega) (by omega) fun j h hj => ?_
      rcases Nat.lt_or_ge j i with h' | h'
      · exact hp j h h'
      · obtain rfl : j = i := by omega
        exact hq
theorem getD_lt {α : Type} (d : α) (xs : List α) {i : Nat} (h : i < xs.length) : xs.getD i d = xs[i] := by
  rw [List.getD_eq_getElem?_getD, List.getElem?_eq_getElem h]; rfl
theorem bEq_eq (a b : Bool) : bEq a b = decide (a = b) := by cases a <;> cases b <;> rfl
theorem bNe_eq (a b : Bool) : bNe a b = !decide (a = b) := by cases a <;> cases b <;> rfl
theorem brB_nb {R : Type} (b : Bool) (x y : Option R) : brB (!b) x y = brB b y x := by cases b <;> rfl
theorem brB_dec {R : Type} (p : Prop) [Decidable p] (x y : Option R) : brB (decide p) x y = if p then x else y := by by_cases h : p <;> simp [h, brB]
theorem if_idx {R : Type} {i n : Nat} {x : Option R} (h : i < n) : (if 0 ≤ (i : Int) ∧ (i : Int) < (n : Int) then x else none) = x := if_pos (by omega)
theorem within_eq (k : Nat) (x a b : Int) : impl_within.f k x a b = some (decide (a ≤ x ∧ x ≤ b)) := by
  simp only [impl_within.f, iLt_eq, iLe_eq, iEq_eq, iNe_eq, bNot_eq, bEq_eq, bNe_eq, brB_nb, brB_dec, brB_true, brB_false, chk_idx, chk_len, chk_make, chk_sub, bnd_one, rLen_eq, rGet_nat, rSet_nat, rApp_eq, ↓reduceIte]; split <;> rename_i h <;> simp [h]
theorem implIsId_eq (k : Nat) (a : Int) : impl_IsId.f k a = some (decide (0 ≤ a ∧ a ≤ 255)) := by simp only [impl_IsId.f, within_eq, bnd_one]
/-- All are words. -/
def wordsOk (l : List Int) : Bool := l.all fun x => decide (0 ≤ x ∧ x ≤ 65535)
theorem findIdx_all {α : Type} (l : List α) (p : α → Bool) : (match l.findIdx? (fun x => !p x) with | some _ => false | none => true) = l.all p := by
  cases h : l.findIdx? (fun x => !p x) with
  | none =>
    rw [List.findIdx?_eq_none_iff] at h
    symm
    rw [List.all_eq_true]
    intro x hx
    simpa using h x hx
  | some i =>
    rw [List.findIdx?_eq_some_iff_getElem] at h
    obtain ⟨hi, h1, _⟩ := h
    symm
    rw [← Bool.not_eq_true, List.all_eq_true]
    intro hall
    have := hall _ (List.getElem_mem hi)
    simp [this] at h1
theorem found_iff {α : Type} (l : List α) (p : α → Bool) : iLe 0 (match l.findIdx? (fun x => !p x) with | some i => (i : Int) | none => -1) = !l.all p := by
  rw [← findIdx_all]
  cases l.findIdx? (fun x => !p x) with
  | none => rfl
  | some i => simp [iLe]
theorem isWord_eq (k : Nat) (x : Int) : impl_isWord.f k x = some (decide (0 ≤ x ∧ x ≤ 65535)) := by simp only [impl_isWord.f, within_eq, bnd_one]
theorem indexNotWord1 (l : List Int) (hl : l.length ≤ 4611686018427387904) (k : Nat) (hk : l.length < k) : slices_IndexFunc_int_impl_areWords_1.f k l = some (match l.findIdx? (fun x => !decide (0 ≤ x ∧ x ≤ 65535)) with | some i => (i : Int) | none => -1) := by
  simp only [slices_IndexFunc_int_impl_areWords_1.f, slices_IndexFunc_int_impl_areWords_1.l0]
  refine iter_find (f := fun (rec : (List Int × Int × Int) → Option Int) (x : List Int × Int × Int) => slices_IndexFunc_int_impl_areWords_1.s0 k rec x.1 x.2.1 x.2.2) (fun i => (l, rLen l, (i : Int))) l (fun x => decide (0 ≤ x ∧ x ≤ 65535)) (-1) (fun i => (i : Int)) (fun rec i hi hp => ?_) (fun rec i hi hp => ?_) (fun rec => ?_) hk
  · simp only [slices_IndexFunc_int_impl_areWords_1.s0, impl_areWords_1.f, isWord_eq, getD_lt _ _ hi, iLt_eq, iLe_eq, iEq_eq, iNe_eq, bNot_eq, bEq_eq, bNe_eq, brB_nb, brB_dec, brB_true, brB_false, chk_idx, chk_len, chk_make, chk_sub, bnd_one, rLen_eq, rGet_nat, rSet_nat, rApp_eq, ↓reduceIte]
    rw [if_pos (by omega), if_idx hi, next_id hi hl]
    rw [if_pos (of_decide_eq_true hp)]
  · simp only [slices_IndexFunc_int_impl_areWords_1.s0, impl_areWords_1.f, isWord_eq, getD_lt _ _ hi, iLt_eq, iLe_eq, iEq_eq, iNe_eq, bNot_eq, bEq_eq, bNe_eq, brB_nb, brB_dec, brB_true, brB_false, chk_idx, chk_len, chk_make, chk_sub, bnd_one, rLen_eq, rGet_nat, rSet_nat, rApp_eq, ↓reduceIte]
    rw [if_pos (by omega), if_idx hi]
    rw [if_neg (of_decide_eq_false hp)]
  · simp only [slices_IndexFunc_int_impl_areWords_1.s0, iLt_eq, iLe_eq, iEq_eq, iNe_eq, bNot_eq, bEq_eq, bNe_eq, brB_nb, brB_dec, brB_true, brB_false, chk_idx, chk_len, chk_make, chk_sub, bnd_one, rLen_eq, rGet_nat, rSet_nat, rApp_eq, ↓reduceIte]
    rw [if_neg (by omega)]
theorem areWords_ev (l : List Int) (hl : l.length ≤ 4611686018427387904) (k : Nat) (hk : l.length < k) : impl_areWords.f k l = some (wordsOk l) := by
  simp only [impl_areWords.f, slices_ContainsFunc_int_impl_areWords_1.f, indexNotWord1 l hl k hk, bnd_one, found_iff l (fun x => decide (0 ≤ x ∧ x ≤ 65535)), bNot_eq, Bool.not_not]
  rfl
theorem indexNotWord2 (l : List Int) (hl : l.length ≤ 4611686018427387904) (k : Nat) (hk : l.length < k) : slices_IndexFunc_int_impl_Packet__dataOk_1.f k l = some (match l.findIdx? (fun x => !decide (0 ≤ x ∧ x ≤ 65535)) with | some i => (i : Int) | none => -1) := by
  simp only [slices_IndexFunc_int_impl_Packet__dataOk_1.f, slices_IndexFunc_int_impl_Packet__dataOk_1.l0]
  refine iter_find (f := fun (rec : (List Int × Int × Int) → Option Int) (x : List Int × Int × Int) => slices_IndexFunc_int_impl_Packet__dataOk_1.s0 k rec x.1 x.2.1 x.2.2) (fun i => (l, rLen l, (i : Int))) l (fun x => decide (0 ≤ x ∧ x ≤ 65535)) (-1) (fun i => (i : Int)) (fun rec i hi hp => ?_) (fun rec i hi hp => ?_) (fun rec => ?_) hk
  · simp only [slices_IndexFunc_int_impl_Packet__dataOk_1.s0, impl_Packet__dataOk_1.f, isWord_eq, getD_lt _ _ hi, iLt_eq, iLe_eq, iEq_eq, iNe_eq, bNot_eq, bEq_eq, bNe_eq, brB_nb, brB_dec, brB_true, brB_false, chk_idx, chk_len, chk_make, chk_sub, bnd_one, rLen_eq, rGet_nat, rSet_nat, rApp_eq, ↓reduceIte]
    rw [if_pos (by omega), if_idx hi, next_id hi hl]
    rw [if_pos (of_decide_eq_true hp)]
  · simp only [slices_IndexFunc_int_impl_Packet__dataOk_1.s0, impl_Packet__dataOk_1.f, isWord_eq, getD_lt _ _ hi, iLt_eq, iLe_eq, iEq_eq, iNe_eq, bNot_eq, bEq_eq, bNe_eq, brB_nb, brB_dec, brB_true, brB_false, chk_idx, chk_len, chk_make, chk_sub, bnd_one, rLen_eq, rGet_nat, rSet_nat, rApp_eq, ↓reduceIte]
    rw [if_pos (by omega), if_idx hi]
    rw [if_neg (of_decide_eq_false hp)]
  · simp only [slices_IndexFunc_int_impl_Packet__dataOk_1.s0, iLt_eq, iLe_eq, iEq_eq, iNe_eq, bNot_eq, bEq_eq, bNe_eq, brB_nb, brB_dec, brB_true, brB_false, chk_idx, chk_len, chk_make, chk_sub, bnd_one, rLen_eq, rGet_nat, rSet_nat, rApp_eq, ↓reduceIte]
    rw [if_neg (by omega)]
theorem brB_and {x : Option Bool} {b c : Bool} (h : x = some c) : brB b x (some false) = some (b && c) := by cases b <;> simp [brB, h]
theorem if_and {p : Prop} [Decidable p] {x : Option Bool} {c : Bool} (h : x = some c) : (if p then x else some false) = some (decide p && c) := by by_cases hp : p <;> simp [hp, h]
/-- A packet is valid: n is how many data it has, w says that they are words. -/
def packP (a0 a1 a2 a3 a4 a5 a6 n : Int) : Prop := (0 ≤ a1 ∧ a1 ≤ 255) ∧ (
  (a0 = 1 ∧ (1 ≤ n ∧ n ≤ 8) ∧ (0 ≤ a3 ∧ a3 ≤ 65536 - n) ∧ a6 = 0 ∧ a2 = 0 ∧ a4 = 0 ∧ a5 = 0) ∨
  (a0 = 2 ∧ (1 ≤ n ∧ n ≤ 8) ∧ a3 = 0 ∧ a6 = 0 ∧ a2 = 0 ∧ a4 = 0 ∧ a5 = 0) ∨
  (a0 = 3 ∧ n = 0 ∧ (1 ≤ a4 ∧ a4 ≤ 64) ∧ (0 ≤ a3 ∧ a3 ≤ 65536 - a4) ∧ (0 ≤ a5 ∧ a5 ≤ 7) ∧ a6 = 0 ∧ a2 = 0) ∨
  (a0 = 4 ∧ n = 0 ∧ (0 ≤ a3 ∧ a3 ≤ 63) ∧ (0 ≤ a2 ∧ a2 ≤ 255) ∧ (0 ≤ a5 ∧ a5 ≤ 7) ∧ a6 = 0 ∧ a4 = 0) ∨
  (a0 = 5 ∧ n = 1 ∧ (0 ≤ a3 ∧ a3 ≤ 63) ∧ (0 ≤ a2 ∧ a2 ≤ 255) ∧ (0 ≤ a5 ∧ a5 ≤ 7) ∧ a6 = 0 ∧ a4 = 0) ∨
  (a0 = 6 ∧ a3 = 0 ∧ (0 ≤ a2 ∧ a2 ≤ 255) ∧ (0 ≤ a5 ∧ a5 ≤ 7) ∧ (0 ≤ a6 ∧ a6 ≤ 2) ∧ (0 ≤ a4 ∧ a4 ≤ 64) ∧ (n = 0 ∨ (a6 = 0 ∧ n ≤ 8 ∧ n ≤ a4))))
instance (a0 a1 a2 a3 a4 a5 a6 n : Int) : Decidable (packP a0 a1 a2 a3 a4 a5 a6 n) := by unfold packP; infer_instance
def packB (a0 a1 a2 a3 a4 a5 a6 : Int) (l : List Int) : Bool := wordsOk l && decide (packP a0 a1 a2 a3 a4 a5 a6 (l.length : Int))
theorem some_iff {b c : Bool} (h : b = true ↔ c = true) : some b = some c := by rw [Bool.eq_iff_iff.2 h]
/-- How many data a packet may have. -/
def dataP (a0 a4 a6 n : Int) : Prop := if a0 = 1 ∨ a0 = 2 then 1 ≤ n ∧ n ≤ 8 else if a0 = 5 then n = 1 else if a0 = 6 ∧ a6 = 0 then n ≤ 8 ∧ n ≤ a4 else n = 0
instance (a0 a4 a6 n : Int) : Decidable (dataP a0 a4 a6 n) := by unfold dataP; infer_instance
theorem dataOk_ev (a0 a1 a2 a3 a4 a5 a6 : Int) (l : List Int) (hl : l.length ≤ 4611686018427387904) (k : Nat) (hk : l.length < k) : impl_Packet__dataOk.f k a0 a1 a2 a3 a4 a5 a6 l = some (wordsOk l && decide (dataP a0 a4 a6 (l.length : Int))) := by
  simp only [impl_Packet__dataOk.f, slices_ContainsFunc_int_impl_Packet__dataOk_1.f, indexNotWord2 l hl k hk, bnd_one, found_iff l (fun x => decide (0 ≤ x ∧ x ≤ 65535)), within_eq]
  rw [show (l.all fun x => decide (0 ≤ x ∧ x ≤ 65535)) = wordsOk l from rfl]
  simp only [iLt_eq, iLe_eq, iEq_eq, iNe_eq, bNot_eq, bEq_eq, bNe_eq, brB_nb, brB_dec, brB_true, brB_false, chk_idx, chk_len, chk_make, chk_sub, bnd_one, rLen_eq, rGet_nat, rSet_nat, rApp_eq, ↓reduceIte]
  cases wordsOk l with
  | false => rfl
  | true =>
    simp only [iLt_eq, iLe_eq, iEq_eq, iNe_eq, bNot_eq, bEq_eq, bNe_eq, brB_nb, brB_dec, brB_true, brB_false, chk_idx, chk_len, chk_make, chk_sub, bnd_one, rLen_eq, rGet_nat, rSet_nat, rApp_eq, ↓reduceIte, Bool.true_and]
    unfold dataP
    by_cases b1 : a0 = 1
    · subst b1; simp only [Int.reduceEq, or_false, false_or, or_true, true_or, iLt_eq, iLe_eq, iEq_eq, iNe_eq, bNot_eq, bEq_eq, bNe_eq, brB_nb, brB_dec, brB_true, brB_false, chk_idx, chk_len, chk_make, chk_sub, bnd_one, rLen_eq, rGet_nat, rSet_nat, rApp_eq, ↓reduceIte]; (try rfl)
    by_cases b2 : a0 = 2
    · subst b2; simp only [Int.reduceEq, or_false, false_or, or_true, true_or, iLt_eq, iLe_eq, iEq_eq, iNe_eq, bNot_eq, bEq_eq, bNe_eq, brB_nb, brB_dec, brB_true, brB_false, chk_idx, chk_len, chk_make, chk_sub, bnd_one, rLen_eq, rGet_nat, rSet_nat, rApp_eq, ↓reduceIte]; (try rfl)
    by_cases b5 : a0 = 5
    · subst b5; simp only [Int.reduceEq, or_false, false_or, or_true, true_or, or_self, iLt_eq, iLe_eq, iEq_eq, iNe_eq, bNot_eq, bEq_eq, bNe_eq, brB_nb, brB_dec, brB_true, brB_false, chk_idx, chk_len, chk_make, chk_sub, bnd_one, rLen_eq, rGet_nat, rSet_nat, rApp_eq, ↓reduceIte]
    by_cases b6 : a0 = 6
    · subst b6; simp only [Int.reduceEq, or_false, false_or, or_true, true_or, or_self, true_and, iLt_eq, iLe_eq, iEq_eq, iNe_eq, bNot_eq, bEq_eq, bNe_eq, brB_nb, brB_dec, brB_true, brB_false, chk_idx, chk_len, chk_make, chk_sub, bnd_one, rLen_eq, rGet_nat, rSet_nat, rApp_eq, ↓reduceIte]; (repeat' split) <;> (refine some_iff ?_ <;> (try simp only [decide_eq_true_eq, Bool.false_eq_true, false_iff, true_iff, Int.reduceEq, false_or, or_false, false_and, true_and, and_true, and_false, true_or, or_true, iff_self, iff_false, iff_true] at *) <;> first | omega | (intro h; omega) | (constructor <;> intro h <;> omega) | trivial)
    simp only [b1, b2, b5, b6, or_self, false_and, iLt_eq, iLe_eq, iEq_eq, iNe_eq, bNot_eq, bEq_eq, bNe_eq, brB_nb, brB_dec, brB_true, brB_false, chk_idx, chk_len, chk_make, chk_sub, bnd_one, rLen_eq, rGet_nat, rSet_nat, rApp_eq, ↓reduceIte]
def addrP (a0 a3 a4 n : Int) : Prop := if a0 = 1 then (0 ≤ a3 ∧ a3 ≤ 65535) ∧ n ≤ 65536 - a3 else if a0 = 3 then (0 ≤ a3 ∧ a3 ≤ 65535) ∧ a4 ≤ 65536 - a3 else if a0 = 4 ∨ a0 = 5 then 0 ≤ a3 ∧ a3 ≤ 63 else a3 = 0
instance (a0 a3 a4 n : Int) : Decidable (addrP a0 a3 a4 n) := by unfold addrP; infer_instance
theorem addressOk_eq (k : Nat) (a0 a1 a2 a3 a4 a5 a6 : Int) (l : List Int) (h3 : (Lit.int .i64 a3).wf = true) : impl_Packet__addressOk.f k a0 a1 a2 a3 a4 a5 a6 l = some (decide (addrP a0 a3 a4 (l.length : Int))) := by
  rw [wf64] at h3
  simp only [impl_Packet__addressOk.f, within_eq, impl_Packet__words.f, iSub_w, w64, iLt_eq, iLe_eq, iEq_eq, iNe_eq, bNot_eq, bEq_eq, bNe_eq, brB_nb, brB_dec, brB_true, brB_false, chk_idx, chk_len, chk_make, chk_sub, bnd_one, rLen_eq, rGet_nat, rSet_nat, rApp_eq, ↓reduceIte]
  generalize (l.length : Int) = n
  unfold addrP
  by_cases b1 : a0 = 1
  · subst b1; simp only [Int.reduceEq, iLt_eq, iLe_eq, iEq_eq, iNe_eq, bNot_eq, bEq_eq, bNe_eq, brB_nb, brB_dec, brB_true, brB_false, chk_idx, chk_len, chk_make, chk_sub, bnd_one, rLen_eq, rGet_nat, rSet_nat, rApp_eq, ↓reduceIte]; (repeat' split) <;> (refine some_iff ?_ <;> (try simp only [decide_eq_true_eq, Bool.false_eq_true, false_iff, true_iff, Int.reduceEq, false_or, or_false, false_and, true_and, and_true, and_false, true_or, or_true, iff_self, iff_false, iff_true] at *) <;> first | omega | (intro h; omega) | (constructor <;> intro h <;> omega) | trivial)
  by_cases b3 : a0 = 3
  · subst b3; simp only [Int.reduceEq, iLt_eq, iLe_eq, iEq_eq, iNe_eq, bNot_eq, bEq_eq, bNe_eq, brB_nb, brB_dec, brB_true, brB_false, chk_idx, chk_len, chk_make, chk_sub, bnd_one, rLen_eq, rGet_nat, rSet_nat, rApp_eq, ↓reduceIte]; (repeat' split) <;> (refine some_iff ?_ <;> (try simp only [decide_eq_true_eq, Bool.false_eq_true, false_iff, true_iff, Int.reduceEq, false_or, or_false, false_and, true_and, and_true, and_false, true_or, or_true, iff_self, iff_false, iff_true] at *) <;> first | omega | (intro h; omega) | (constructor <;> intro h <;> omega) | trivial)
  by_cases b4 : a0 = 4
  · subst b4; simp only [Int.reduceEq, or_false, false_or, or_true, true_or, iLt_eq, iLe_eq, iEq_eq, iNe_eq, bNot_eq, bEq_eq, bNe_eq, brB_nb, brB_dec, brB_true, brB_false, chk_idx, chk_len, chk_make, chk_sub, bnd_one, rLen_eq, rGet_nat, rSet_nat, rApp_eq, ↓reduceIte]
  by_cases b5 : a0 = 5
  · subst b5; simp only [Int.reduceEq, or_false, false_or, or_true, true_or, iLt_eq, iLe_eq, iEq_eq, iNe_eq, bNot_eq, bEq_eq, bNe_eq, brB_nb, brB_dec, brB_true, brB_false, chk_idx, chk_len, chk_make, chk_sub, bnd_one, rLen_eq, rGet_nat, rSet_nat, rApp_eq, ↓reduceIte]
  simp only [b1, b3, b4, b5, or_self, iLt_eq, iLe_eq, iEq_eq, iNe_eq, bNot_eq, bEq_eq, bNe_eq, brB_nb, brB_dec, brB_true, brB_false, chk_idx, chk_len, chk_make, chk_sub, bnd_one, rLen_eq, rGet_nat, rSet_nat, rApp_eq, ↓reduceIte]
def lenP (a0 a4 : Int) : Prop := if a0 = 3 then 1 ≤ a4 ∧ a4 ≤ 64 else if a0 = 6 then 0 ≤ a4 ∧ a4 ≤ 64 else a4 = 0
instance (a0 a4 : Int) : Decidable (lenP a0 a4) := by unfold lenP; infer_instance
theorem lengthOk_eq (k : Nat) (a0 a1 a2 a3 a4 a5 a6 : Int) (l : List Int) : impl_Packet__lengthOk.f k a0 a1 a2 a3 a4 a5 a6 l = some (decide (lenP a0 a4)) := by
  simp only [impl_Packet__lengthOk.f, within_eq, iLt_eq, iLe_eq, iEq_eq, iNe_eq, bNot_eq, bEq_eq, bNe_eq, brB_nb, brB_dec, brB_true, brB_false, chk_idx, chk_len, chk_make, chk_sub, bnd_one, rLen_eq, rGet_nat, rSet_nat, rApp_eq, ↓reduceIte]
  unfold lenP
  (repeat' split) <;> rfl
theorem implIsPacket_ev (a0 a1 a2 a3 a4 a5 a6 : Int) (l : List Int) (hl : l.length ≤ 1048576) (h3 : (Lit.int .i64 a3).wf = true) (h4 : (Lit.int .i64 a4).wf = true) (k : Nat) (hk : l.length < k) : impl_IsPacket.f k a0 a1 a2 a3 a4 a5 a6 l = some (packB a0 a1 a2 a3 a4 a5 a6 l) := by
  by_cases b0 : 1 ≤ a0 ∧ a0 ≤ 6
  · simp only [impl_IsPacket.f, implIsId_eq, within_eq, dataOk_ev a0 a1 a2 a3 a4 a5 a6 l (by omega) k hk, addressOk_eq k a0 a1 a2 a3 a4 a5 a6 l h3, lengthOk_eq, bnd_one, iEq_eq, iNe_eq, brB_nb, bNot_eq, packB]
    rw [decide_eq_true b0]
    generalize wordsOk l = w
    generalize (l.length : Int) = n at *
    have : a0 = 1 ∨ a0 = 2 ∨ a0 = 3 ∨ a0 = 4 ∨ a0 = 5 ∨ a0 = 6 := by omega
    cases w with
    | false =>
      rcases this with rfl | rfl | rfl | rfl | rfl | rfl <;> simp only [Int.reduceEq, Int.reduceLE, decide_true, decide_false, bnd_one, brB_true, brB_false, brB_dec, and_self, and_true, and_false, true_and, false_and, Bool.false_and, ↓reduceIte] <;> (repeat' split) <;> rfl
    | true =>
      rcases this with rfl | rfl | rfl | rfl | rfl | rfl <;> simp only [Int.reduceEq, Int.reduceLE, decide_true, decide_false, bnd_one, brB_true, brB_false, brB_dec, and_self, and_true, and_false, true_and, false_and, Bool.true_and, dataP, packP, addrP, lenP, or_true, true_or, or_false, false_or, ↓reduceIte] <;> (repeat' split) <;> (refine some_iff ?_ <;> (try simp only [decide_eq_true_eq, Bool.false_eq_true, false_iff, true_iff, Int.reduceEq, false_or, or_false, false_and, true_and, and_true, and_false, true_or, or_true, iff_self, iff_false, iff_true] at *) <;> first | omega | (intro h; omega) | (constructor <;> intro h <;> omega) | trivial)
  · simp only [impl_IsPacket.f, within_eq, packB, bnd_one, decide_eq_false b0, bNot_eq, Bool.not_false, brB_true]
    rw [show decide (packP a0 a1 a2 a3 a4 a5 a6 (l.length : Int)) = false from decide_eq_false (by unfold packP; omega), Bool.and_false]
/-- No vector is pending that is not masked. -/
def pendB (a b : List Bool) : Bool := (List.range a.length).all fun i => !b.getD i false || a.getD i false
/-- Vectors are valid. -/
def vecB (e : Int) (a b : List Bool) : Bool := decide (1 ≤ (a.length : Int) ∧ (a.length : Int) ≤ 8) && (decide ((b.length : Int) = (a.length : Int)) && (decide (0 ≤ e ∧ e ≤ 65535) && pendB a b))
theorem implVectorsOk_ev (e : Int) (a b : List Bool) (hb : b.length ≤ 1048576) (ha : a.length ≤ 1048576) (k : Nat) (hk : a.length + b.length < k) : impl_VectorsOk.f k e a b = some (vecB e a b) := by
  simp only [impl_VectorsOk.f, within_eq, impl_VectorsOk.l0, iLt_eq, iLe_eq, iEq_eq, iNe_eq, bNot_eq, bEq_eq, bNe_eq, brB_nb, brB_dec, brB_true, brB_false, chk_idx, chk_len, chk_make, chk_sub, bnd_one, rLen_eq, rGet_nat, rSet_nat, rApp_eq, ↓reduceIte]
  refine if_and ?_
  by_cases h : (b.length : Int) = (a.length : Int)
  · rw [if_pos h, decide_eq_true h, Bool.true_and]
    refine if_and ?_
    have h' := iter_find (f := fun (rec : (List Bool × Int × Int × Int × List Bool × List Bool) → Option (Bool)) (x : List Bool × Int × Int × Int × List Bool × List Bool) => impl_VectorsOk.s0 k rec x.1 x.2.1 x.2.2.1 x.2.2.2.1 x.2.2.2.2.1 x.2.2.2.2.2) (fun i => (b, (b.length : Int), (i : Int), e, a, b)) (List.range a.length) (fun i => !b.getD i false || a.getD i false) true (fun _ => false)
      (fun rec i hi hp => ?_) (fun rec i hi hp => ?_) (fun rec => ?_) (n := k) (by simp; omega)
    · exact h'.trans (congrArg some (findIdx_all _ _))
    · simp only [List.length_range] at hi
      simp only [List.getElem_range] at hp
      simp only [impl_VectorsOk.s0, iLt_eq, iLe_eq, iEq_eq, iNe_eq, bNot_eq, bEq_eq, bNe_eq, brB_nb, brB_dec, brB_true, brB_false, chk_idx, chk_len, chk_make, chk_sub, bnd_one, rLen_eq, rGet_nat, rSet_nat, rApp_eq, ↓reduceIte]
      rw [if_pos (by omega), if_idx (by omega), if_idx hi, next_id hi (by omega)]
      cases h1 : b.getD i false <;> cases h2 : a.getD i false <;> rw [h1, h2] at hp <;> first | rfl | cases hp
    · simp only [List.length_range] at hi
      simp only [List.getElem_range] at hp
      simp only [impl_VectorsOk.s0, iLt_eq, iLe_eq, iEq_eq, iNe_eq, bNot_eq, bEq_eq, bNe_eq, brB_nb, brB_dec, brB_true, brB_false, chk_idx, chk_len, chk_make, chk_sub, bnd_one, rLen_eq, rGet_nat, rSet_nat, rApp_eq, ↓reduceIte]
      rw [if_pos (by omega), if_idx (by omega), if_idx hi]
      cases h1 : b.getD i false <;> cases h2 : a.getD i false <;> rw [h1, h2] at hp <;> first | rfl | cases hp
    · simp only [impl_VectorsOk.s0, List.length_range, iLt_eq, iLe_eq, iEq_eq, iNe_eq, bNot_eq, bEq_eq, bNe_eq, brB_nb, brB_dec, brB_true, brB_false, chk_idx, chk_len, chk_make, chk_sub, bnd_one, rLen_eq, rGet_nat, rSet_nat, rApp_eq, ↓reduceIte]
      rw [if_neg (by omega)]
  · rw [if_neg h, decide_eq_false h, Bool.false_and]
/-- The vector is one of these, and the device may call. -/
def hasB (e : Int) (a b : List Bool) (d v : Int) : Bool := vecB e a b && (decide (0 ≤ d ∧ d ≤ 255) && decide (0 ≤ v ∧ v ≤ (a.length : Int) - 1))
/-- What the raising of a vector gives. -/
def raiseB (ok : Bool) (e : Int) (a b : List Bool) (d v : Int) : Int × List Bool × List Bool × Int × Int × Int × Int × Int × Int × Int × List Int × Bool :=
  if ok = true then (if a.getD v.toNat false = true then (e, a, b.set v.toNat true, 0, 0, 0, 0, 0, 0, 0, [], true) else (e, a, b, 1, d, 0, e, 0, 0, 0, [v], true)) else (e, a, b, 0, 0, 0, 0, 0, 0, 0, [], false)
theorem raiseB_len (ok : Bool) (e : Int) (a b : List Bool) (d v : Int) : (raiseB ok e a b d v).2.1.length = a.length ∧ (raiseB ok e a b d v).2.2.1.length = b.length ∧ (raiseB ok e a b d v).2.2.2.2.2.2.2.2.2.2.1.length ≤ 1 := by
  unfold raiseB; (repeat' split) <;> simp
theorem hasB_lt {e : Int} {a b : List Bool} {d v : Int} (h : hasB e a b d v = true) : 0 ≤ v ∧ v < a.length ∧ v < b.length := by
  simp only [hasB, vecB, Bool.and_eq_true, decide_eq_true_eq] at h
  omega
theorem hasVector_ev (e : Int) (a b : List Bool) (d v : Int) (hb : b.length ≤ 1048576) (ha : a.length ≤ 1048576) (k : Nat) (hk : a.length + b.length < k) : impl_hasVector.f k e a b d v = some (hasB e a b d v) := by
  simp only [impl_hasVector.f, implVectorsOk_ev e a b hb ha k hk, implIsId_eq, within_eq, bnd_one, rLen_eq]
  rw [iSub_id (by omega) (by omega)]
  exact brB_and (brB_and rfl)
theorem copyVectors_eq (k : Nat) (e : Int) (a b : List Bool) (hb : b.length ≤ 1048576) (ha : a.length ≤ 1048576) : impl_copyVectors.f k e a b = some (e, a, b) := by
  simp only [impl_copyVectors.f, slices_Clone_bool.f, iLt_eq, iLe_eq, iEq_eq, iNe_eq, bNot_eq, bEq_eq, bNe_eq, brB_nb, brB_dec, brB_true, brB_false, chk_idx, chk_len, chk_make, chk_sub, bnd_one, rLen_eq, rGet_nat, rSet_nat, rApp_eq, ↓reduceIte]
  rw [if_pos (by omega), if_pos (by omega)]
  rfl
theorem rGet_in {α : Type} (d : α) (l : List α) {v : Int} (h : 0 ≤ v) : rGet d l v = l.getD v.toNat d := rfl
theorem rSet_in {α : Type} (l : List α) {v : Int} (x : α) (h : 0 ≤ v) : rSet l v x = l.set v.toNat x := rfl
theorem implRaise_ev (e : Int) (a b : List Bool) (d v : Int) (hb : b.length ≤ 1048576) (ha : a.length ≤ 1048576) (k : Nat) (hk : a.length + b.length < k) : impl_RaiseVector.f k e a b d v = some (raiseB (hasB e a b d v) e a b d v) := by
  simp only [impl_RaiseVector.f, copyVectors_eq k e a b hb ha, hasVector_ev e a b d v hb ha k hk, impl_call.f, raiseB, iLt_eq, iLe_eq, iEq_eq, iNe_eq, bNot_eq, bEq_eq, bNe_eq, brB_nb, brB_dec, brB_true, brB_false, chk_idx, chk_len, chk_make, chk_sub, bnd_one, rLen_eq, rGet_nat, rSet_nat, rApp_eq, ↓reduceIte]
  cases h : hasB e a b d v with
  | false => rfl
  | true =>
    have := hasB_lt h
    simp only [iLt_eq, iLe_eq, iEq_eq, iNe_eq, bNot_eq, bEq_eq, bNe_eq, brB_nb, brB_dec, brB_true, brB_false, chk_idx, chk_len, chk_make, chk_sub, bnd_one, rLen_eq, rGet_nat, rSet_nat, rApp_eq, ↓reduceIte]
    rw [if_pos (by omega), if_pos (by omega), rGet_in _ _ this.1, rSet_in _ _ this.1]
    cases a.getD v.toNat false <;> rfl

/-- A loop that looks for an element without a quality. -/
theorem iter_all {R : Type} {α : Type} {X : Type} {f : (X → Option R) → X → Option R} (s : Nat → X) (xs : List α) (p : α → Bool) (r e : Option R)
    (go : ∀ rec (i : Nat) (h : i < xs.length), p xs[i] = true → f rec (s i) = rec (s (i + 1))) (stop : ∀ rec (i : Nat) (h : i < xs.length), p xs[i] = false → f rec (s i) = e) (done : ∀ rec, f rec (s xs.length) = r) {n : Nat} (hn : xs.length < n) :
    iter f n (s 0) = brB (xs.all p) r e := by
  suffices H : ∀ d i n, i + d = xs.length → d < n → iter f n (s i) = brB ((xs.drop i).all p) r e from by
    have := H xs.length 0 n (by omega) hn
    simpa using this
  intro d
  induction d with
  | zero =>
    intro i n hi hn
    obtain ⟨m, rfl⟩ : ∃ m, n = m + 1 := ⟨n - 1, by omega⟩
    obtain rfl : i = xs.length := by omega
    rw [List.drop_length]
    exact done _
  | succ d ih =>
    intro i n hi hn
    obtain ⟨m, rfl⟩ : ∃ m, n = m + 1 := ⟨n - 1, by omega⟩
    show f (iter f m) (s i) = _
    have hlt : i < xs.length := by omega
    rw [List.drop_eq_getElem_cons hlt, List.all_cons]
    cases hq : p xs[i] with
    | false => rw [stop _ i hlt hq]; rfl
    | true => rw [go _ i hlt hq, ih (i + 1) m (by omega) (by omega), Bool.true_and]
theorem iBit_and255 (x : Int) : 0 ≤ iBit .and .i64 x 255 ∧ iBit .and .i64 x 255 ≤ 255 := by
  have h : (BitVec.ofInt IntKind.i64.bits x &&& BitVec.ofInt IntKind.i64.bits 255).toNat ≤ 255 := by
    rw [BitVec.toNat_and]
    refine Nat.le_trans Nat.and_le_right ?_
    decide
  simp only [iBit]
  rw [wrap64, w64_id (by omega) (by omega)]
  omega
noncomputable def lnF (k : Nat) (rec : (List Int × Int × Int) → Option (List Int × Int × Int)) (x : List Int × Int × Int) : Option (List Int × Int × Int) := spec_l01New.s0 k rec x.1 x.2.1 x.2.2
theorem l01New_ev (c : List Int) (k : Nat) (hk : 4000 < k) : ∃ s, spec_l01New.f k c = some (c, 0, s) := by
  suffices H : ∀ (n i : Nat) (x : Int) (K : Nat), i + n = 4000 → n < K → ∃ s, iter (lnF k) K (c, x, (i : Int)) = some (c, 0, s) from H 4000 0 (iAdd .i64 98663 (rLen c)) k (by omega) hk
  intro n
  induction n with
  | zero =>
    intro i x K hi hK
    obtain ⟨m, rfl⟩ : ∃ m, K = m + 1 := ⟨K - 1, by omega⟩
    refine ⟨x, ?_⟩
    show spec_l01New.s0 k (iter (lnF k) m) c x (i : Int) = _
    generalize iter (lnF k) m = rec
    simp only [spec_l01New.s0, iLt_eq, iLe_eq, iEq_eq, iNe_eq, bNot_eq, bEq_eq, bNe_eq, brB_nb, brB_dec, brB_true, brB_false, chk_idx, chk_len, chk_make, chk_sub, bnd_one, rLen_eq, rGet_nat, rSet_nat, rApp_eq, ↓reduceIte]
    by_cases h : (i : Int) < (c.length : Int)
    · rw [if_pos h, if_neg (by omega)]
    · rw [if_neg h]
  | succ n ih =>
    intro i x K hi hK
    obtain ⟨m, rfl⟩ : ∃ m, K = m + 1 := ⟨K - 1, by omega⟩
    by_cases h : (i : Int) < (c.length : Int)
    · obtain ⟨s, hs⟩ := ih (i + 1) (iBit .and .i64 (iAdd .i64 (iAdd .i64 (iMul .i64 x 131) (iCnv .i64 (c.getD i 0))) 7) 1073741823) m (by omega) (by omega)
      refine ⟨s, ?_⟩
      show spec_l01New.s0 k (iter (lnF k) m) c x (i : Int) = _
      generalize iter (lnF k) m = rec at hs ⊢
      simp only [spec_l01New.s0, iLt_eq, iLe_eq, iEq_eq, iNe_eq, bNot_eq, bEq_eq, bNe_eq, brB_nb, brB_dec, brB_true, brB_false, chk_idx, chk_len, chk_make, chk_sub, bnd_one, rLen_eq, rGet_nat, rSet_nat, rApp_eq, ↓reduceIte]
      rw [if_pos h, if_pos (by omega), if_pos (by omega), next_id (n := 4000) (by omega) (by omega), hs]
    · refine ⟨x, ?_⟩
      show spec_l01New.s0 k (iter (lnF k) m) c x (i : Int) = _
      generalize iter (lnF k) m = rec
      simp only [spec_l01New.s0, iLt_eq, iLe_eq, iEq_eq, iNe_eq, bNot_eq, bEq_eq, bNe_eq, brB_nb, brB_dec, brB_true, brB_false, chk_idx, chk_len, chk_make, chk_sub, bnd_one, rLen_eq, rGet_nat, rSet_nat, rApp_eq, ↓reduceIte]
      rw [if_neg h]
theorem l01Byte_some (k : Nat) (c : List Int) (hc : c.length ≤ 2000000) (p s : Int) (hp : 0 ≤ p) : ∃ b p' s', spec_l01Byte.f k c p s = some (b, c, p', s') ∧ 0 ≤ b ∧ b ≤ 255 ∧ 0 ≤ p' := by
  simp only [spec_l01Byte.f, chk_nn, iLt_eq, brB_dec, chk_idx, rLen_eq]
  rw [if_pos (by omega), if_pos (by omega)]
  by_cases h : p < (c.length : Int)
  · rw [if_pos h, if_pos (by omega)]
    exact ⟨_, _, _, rfl, (iBit_and255 _).1, (iBit_and255 _).2, by rw [iAdd_id (by omega) (by omega)]; omega⟩
  · rw [if_neg h]
    exact ⟨_, _, _, rfl, (iBit_and255 _).1, (iBit_and255 _).2, hp⟩
theorem l01Below_some (k : Nat) (c : List Int) (hc : c.length ≤ 2000000) (p s n : Int) (hp : 0 ≤ p) (hn : 0 < n) : ∃ v p' s', spec_l01Below.f k n c p s = some (v, c, p', s') ∧ 0 ≤ v ∧ v < n ∧ 0 ≤ p' := by
  obtain ⟨b1, p1, s1, e1, h1, g1, q1⟩ := l01Byte_some k c hc p s hp
  obtain ⟨b2, p2, s2, e2, h2, g2, q2⟩ := l01Byte_some k c hc p1 s1 q1
  obtain ⟨b3, p3, s3, e3, h3, g3, q3⟩ := l01Byte_some k c hc p2 s2 q2
  obtain ⟨b4, p4, s4, e4, h4, g4, q4⟩ := l01Byte_some k c hc p3 s3 q3
  simp only [spec_l01Below.f, iLe_eq, brB_dec, e1, e2, e3, e4, bnd_one, chk_nz]
  rw [if_neg (by omega)]
  by_cases h : n ≤ 256
  · rw [if_pos h, if_neg (by omega)]
    exact ⟨_, _, _, rfl, Int.tmod_nonneg _ h1, Int.tmod_lt_of_pos _ hn, q1⟩
  · rw [if_neg h, if_neg (by omega)]
    have e : iAdd .i64 (iAdd .i64 (iAdd .i64 (iMul .i64 b1 16777216) (iMul .i64 b2 65536)) (iMul .i64 b3 256)) b4 = b1 * 16777216 + b2 * 65536 + b3 * 256 + b4 := by
      simp only [iAdd_w, iMul_w, w64]; omega
    rw [e]
    exact ⟨_, _, _, rfl, Int.tmod_nonneg _ (by omega), Int.tmod_lt_of_pos _ hn, q4⟩
theorem l01PickInt_some (k : Nat) (l c : List Int) (hc : c.length ≤ 2000000) (p s : Int) (hp : 0 ≤ p) (hl : 0 < l.length) : ∃ v p' s', spec_l01PickInt.f k l c p s = some (v, c, p', s') ∧ v ∈ l ∧ 0 ≤ p' := by
  obtain ⟨v, p1, s1, e1, h1, g1, q1⟩ := l01Below_some k c hc p s (l.length : Int) hp (by omega)
  simp only [spec_l01PickInt.f, rLen_eq, e1, bnd_one, chk_idx]
  rw [if_pos ⟨h1, g1⟩, rGet_in _ _ h1, getD_lt 0 l (by omega)]
  exact ⟨_, _, _, rfl, List.getElem_mem _, q1⟩
/-- It gives something that is so. -/
def Yd {R : Type} (x : Option R) (Q : R → Prop) : Prop := ∃ r, x = some r ∧ Q r
theorem Yd.one {R : Type} {r : R} {Q : R → Prop} (h : Q r) : Yd (some r) Q := ⟨r, rfl, h⟩
theorem Yd.bnd {A R : Type} {x : Option A} {f : A → Option R} {P : A → Prop} {Q : R → Prop} (h : Yd x P) (hf : ∀ a, P a → Yd (f a) Q) : Yd (bnd x f) Q := by
  obtain ⟨a, e, ha⟩ := h
  subst e
  exact hf a ha
theorem Yd.br {R : Type} {b : Bool} {x y : Option R} {Q : R → Prop} (hx : b = true → Yd x Q) (hy : b = false → Yd y Q) : Yd (brB b x y) Q := by
  cases b with
  | true => exact hx rfl
  | false => exact hy rfl
theorem Yd.eq {R : Type} {a b : Int} {x y : Option R} {Q : R → Prop} (hx : a = b → Yd x Q) (hy : ¬ a = b → Yd y Q) : Yd (brB (iEq a b) x y) Q := by
  rw [iEq_eq, brB_dec]; split
  · exact hx ‹_›
  · exact hy ‹_›
theorem Yd.lt {R : Type} {a b : Int} {x y : Option R} {Q : R → Prop} (hx : a < b → Yd x Q) (hy : ¬ a < b → Yd y Q) : Yd (brB (iLt a b) x y) Q := by
  rw [iLt_eq, brB_dec]; split
  · exact hx ‹_›
  · exact hy ‹_›
theorem Yd.imp {R : Type} {x : Option R} {P Q : R → Prop} (h : Yd x P) (hi : ∀ r, P r → Q r) : Yd x Q := by
  obtain ⟨r, e, hr⟩ := h
  exact ⟨r, e, hi r hr⟩
theorem Yd.len {R : Type} {n b : Int} {x : Option R} {Q : R → Prop} (h : n * b ≤ 35184372088832) (hx : Yd x Q) : Yd (chk (cLen n b) x) Q := by rw [chk_len, if_pos h]; exact hx
theorem Yd.idx {R : Type} {i n : Int} {x : Option R} {Q : R → Prop} (h : 0 ≤ i ∧ i < n) (hx : Yd x Q) : Yd (chk (cIdx i n) x) Q := by rw [chk_idx, if_pos h]; exact hx
theorem below_bnd {R : Type} {k : Nat} {c : List Int} {p s n : Int} {f : Int × List Int × Int × Int → Option R} {Q : R → Prop} (hc : c.length ≤ 2000000) (hp : 0 ≤ p) (hn : 0 < n)
    (h : ∀ v p' s', 0 ≤ v → v < n → 0 ≤ p' → Yd (f (v, c, p', s')) Q) : Yd (bnd (spec_l01Below.f k n c p s) f) Q := by
  obtain ⟨v, p1, s1, e1, h1, g1, q1⟩ := l01Below_some k c hc p s n hp hn
  rw [e1]
  exact h v p1 s1 h1 g1 q1
theorem pick_bnd {R : Type} {k : Nat} {l c : List Int} {p s : Int} {f : Int × List Int × Int × Int → Option R} {Q : R → Prop} (hc : c.length ≤ 2000000) (hp : 0 ≤ p) (hl : 0 < l.length)
    (h : ∀ v p' s', v ∈ l → 0 ≤ p' → Yd (f (v, c, p', s')) Q) : Yd (bnd (spec_l01PickInt.f k l c p s) f) Q := by
  obtain ⟨v, p1, s1, e1, m1, q1⟩ := l01PickInt_some k l c hc p s hp hl
  rw [e1]
  exact h v p1 s1 m1 q1
/-- A loop that makes something of its state in at most N rounds. -/
theorem iter_yd {X R : Type} {f : (X → Option R) → X → Option R} {I : Nat → X → Prop} {Q : R → Prop} (N : Nat)
    (step : ∀ rec i x, i ≤ N → I i x → (∀ x', i < N → I (i + 1) x' → ∃ r, rec x' = some r ∧ Q r) → ∃ r, f rec x = some r ∧ Q r) {n : Nat} (hn : N < n) {x : X} (hx : I 0 x) : ∃ r, iter f n x = some r ∧ Q r := by
  suffices H : ∀ d i n x, i + d = N → d < n → I i x → ∃ r, iter f n x = some r ∧ Q r from H N 0 n x (by omega) hn hx
  intro d
  induction d with
  | zero =>
    intro i n x hi hn hx
    obtain ⟨m, rfl⟩ : ∃ m, n = m + 1 := ⟨n - 1, by omega⟩
    exact step _ i x (by omega) hx fun x' h => by omega
  | succ d ih =>
    intro i n x hi hn hx
    obtain ⟨m, rfl⟩ : ∃ m, n = m + 1 := ⟨n - 1, by omega⟩
    exact step _ i x (by omega) hx fun x' _ hx' => ih (i + 1) m x' (by omega) (by omega) hx'
theorem l04Data_yd (k : Nat) (n : Nat) (hn : n ≤ 1000) (hk : 4000 < k) (c : List Int) (hc : c.length ≤ 2000000) (p s : Int) (hp : 0 ≤ p) : Yd (spec_l04Data.f k (n : Int) c p s) fun r => r.2.1 = c ∧ 0 ≤ r.2.2.1 ∧ r.1.length = n ∧ wordsOk r.1 = true := by
  refine iter_yd (f := fun (rec : (Int × List Int × Int × List Int × Int × Int) → Option (List Int × List Int × Int × Int)) (x : Int × List Int × Int × List Int × Int × Int) => spec_l04Data.s0 k rec x.1 x.2.1 x.2.2.1 x.2.2.2.1 x.2.2.2.2.1 x.2.2.2.2.2)
    (I := fun i x => x.1 = (n : Int) ∧ x.2.1.length = i ∧ wordsOk x.2.1 = true ∧ x.2.2.1 = (i : Int) ∧ x.2.2.2.1 = c ∧ 0 ≤ x.2.2.2.2.1) (Q := fun r : List Int × List Int × Int × Int => r.2.1 = c ∧ 0 ≤ r.2.2.1 ∧ r.1.length = n ∧ wordsOk r.1 = true) n (fun rec i x hi hx hr => ?_) (by omega) ⟨rfl, rfl, rfl, rfl, rfl, hp⟩
  obtain ⟨n', l, j, c', p', s'⟩ := x
  obtain ⟨hn', hl, hw, hj, hc', hp'⟩ := hx
  simp only at hn' hl hw hj hc' hp'
  subst hn' hj hc'
  show Yd (spec_l04Data.s0 k rec (n : Int) l (i : Int) c' p' s') _
  unfold spec_l04Data.s0
  refine Yd.lt (fun h => ?_) fun h => Yd.one ⟨rfl, hp', by show l.length = n; have := hr; omega, hw⟩
  refine below_bnd hc hp' (by omega) fun y0 p1 s1 g0 g1 q1 => ?_
  dsimp only
  refine below_bnd hc q1 (by omega) fun y1 p2 s2 g2 g3 q2 => ?_
  dsimp only
  refine pick_bnd hc q2 (by simp) fun v p3 s3 g4 q3 => ?_
  dsimp only
  simp only [rApp_eq, rLen_eq, List.length_append, List.length_cons, List.length_nil, hl]
  refine Yd.len (by omega) ?_
  rw [next_id (i := i) (n := n) (by omega) (by omega)]
  refine hr _ (by omega) ⟨rfl, by simp [hl], ?_, rfl, rfl, q3⟩
  simp only [wordsOk, List.all_append, List.all_cons, List.all_nil, Bool.and_true, Bool.and_eq_true, decide_eq_true_eq] at hw ⊢
  refine ⟨hw, ?_⟩
  simp only [List.mem_cons, List.not_mem_nil, or_false] at g4
  omega
theorem data_bnd {R : Type} {k : Nat} {c : List Int} {p s n : Int} {f : List Int × List Int × Int × Int → Option R} {Q : R → Prop} (hk : 4000 < k) (hc : c.length ≤ 2000000) (hp : 0 ≤ p) (h0 : 0 ≤ n) (hn : n ≤ 1000)
    (h : ∀ l p' s', (l.length : Int) = n → wordsOk l = true → 0 ≤ p' → Yd (f (l, c, p', s')) Q) : Yd (bnd (spec_l04Data.f k n c p s) f) Q := by
  obtain ⟨⟨l, c1, p1, s1⟩, e1, q1, q2, q3, q4⟩ := l04Data_yd k n.toNat (by omega) hk c hc p s hp
  simp only at q1 q2 q3 q4
  subst q1
  rw [show (n.toNat : Int) = n by omega] at e1
  rw [e1]
  exact h l p1 s1 (by omega) q4 q2
/-- A drawn packet is valid. -/
theorem l04Packet_yd (k : Nat) (hk : 4000 < k) (c : List Int) (hc : c.length ≤ 2000000) (p s : Int) (hp : 0 ≤ p) : Yd (spec_l04Packet.f k c p s) fun r => r.2.2.2.2.2.2.2.2.1 = c ∧ 0 ≤ r.2.2.2.2.2.2.2.2.2.1 ∧
    wordsOk r.2.2.2.2.2.2.2.1 = true ∧ packP r.1 r.2.1 r.2.2.1 r.2.2.2.1 r.2.2.2.2.1 r.2.2.2.2.2.1 r.2.2.2.2.2.2.1 (r.2.2.2.2.2.2.2.1.length : Int) := by
  unfold spec_l04Packet.f
  refine below_bnd hc hp (by omega) fun y0 p0 s0 g0 g1 q0 => ?_
  dsimp only
  rw [iAdd_id (by omega) (by omega)]
  refine below_bnd hc q0 (by omega) fun y1 p1 s1 g2 g3 q1 => ?_
  dsimp only
  generalize hK : (1 : Int) + y0 = K
  have hK6 : K = 1 ∨ K = 2 ∨ K = 3 ∨ K = 4 ∨ K = 5 ∨ K = 6 := by omega
  clear hK
  rcases hK6 with rfl | rfl | rfl | rfl | rfl | rfl
  all_goals repeat' first
    | (refine Yd.eq (fun _ => ?_) fun _ => ?_ <;> try (exfalso; omega))
    | (refine below_bnd hc (by assumption) (by omega) fun _ _ _ _ _ _ => ?_; dsimp only)
    | (refine pick_bnd hc (by assumption) (by simp) fun _ _ _ _ _ => ?_; dsimp only)
    | (rw [iAdd_id (by omega) (by omega)])
    | (refine data_bnd hk hc (by assumption) (by (try simp only [iMin, List.mem_cons, List.not_mem_nil, or_false] at *); (try split) <;> omega) (by (try simp only [iMin, List.mem_cons, List.not_mem_nil, or_false] at *); (try split) <;> omega) fun _ _ _ _ _ _ => ?_; dsimp only)
  all_goals
    refine Yd.one ⟨rfl, by assumption, (by first | assumption | rfl), ?_⟩
    simp only [List.mem_cons, List.not_mem_nil, or_false, iMin, packP, List.length_nil, Int.reduceEq, false_and, false_or, true_and, and_true, true_or, or_true] at *
    try split at *
    all_goals omega

def wfP (p : Int × Int × Int × Int × Int × Int × Int × List Int) : Prop := (Lit.int .i64 p.2.2.2.1).wf = true ∧ (Lit.int .i64 p.2.2.2.2.1).wf = true
theorem take_step {α : Type} (l : List α) {i : Nat} (h : i < l.length) : l.take i ++ [l[i]] = l.take (i + 1) := by rw [List.take_succ_eq_append_getElem h]
abbrev Pk : Type := Int × Int × Int × Int × Int × Int × Int × List Int
def pGot (p : Int × Int × Int × Int × Int × Int × Int × List Int) : Nat := p.2.2.2.2.2.2.2.length
theorem iter_to {X R : Type} {f : (X → Option R) → X → Option R} (s : Nat → X) (N : Nat) {r : Option R} (step : ∀ rec i, i < N → f rec (s i) = rec (s (i + 1))) (done : ∀ rec, f rec (s N) = r) {n : Nat} (hn : N < n) :
    iter f n (s 0) = r := by
  suffices H : ∀ d i n, i + d = N → d < n → iter f n (s i) = r from H N 0 n (by omega) hn
  intro d
  induction d with
  | zero =>
    intro i n hi hn
    obtain ⟨m, rfl⟩ : ∃ m, n = m + 1 := ⟨n - 1, by omega⟩
    obtain rfl : i = N := by omega
    exact done _
  | succ d ih =>
    intro i n hi hn
    obtain ⟨m, rfl⟩ : ∃ m, n = m + 1 := ⟨n - 1, by omega⟩
    show f (iter f m) (s i) = _
    rw [step _ i (by omega)]
    exact ih (i + 1) m (by omega) (by omega)
/-- Two rows, element by element. -/
theorem eq_until {f : (List Int × List Int × Int → Option Bool) → List Int × List Int × Int → Option Bool} (a b : List Int)
    (hl : a.length = b.length) (hf : ∀ rec (i : Nat), i < a.length → f rec (a, b, (i : Int)) = if a.getD i 0 = b.getD i 0 then rec (a, b, ((i + 1 : Nat) : Int)) else some false) (hd : ∀ rec, f rec (a, b, (a.length : Int)) = some true) {n : Nat} (hn : a.length < n) :
    iter f n (a, b, 0) = some (decide (a = b)) := by
  suffices H : ∀ d i n, i + d = a.length → d < n → (a.take i = b.take i) → iter f n (a, b, (i : Int)) = some (decide (a = b)) from H a.length 0 n (by omega) hn rfl
  intro d
  induction d with
  | zero =>
    intro i n hi hn ht
    obtain ⟨m, rfl⟩ : ∃ m, n = m + 1 := ⟨n - 1, by omega⟩
    obtain rfl : i = a.length := by omega
    rw [List.take_length, hl, List.take_length] at ht
    rw [decide_eq_true ht]
    exact hd _
  | succ d ih =>
    intro i n hi hn ht
    obtain ⟨m, rfl⟩ : ∃ m, n = m + 1 := ⟨n - 1, by omega⟩
    show f (iter f m) (a, b, (i : Int)) = _
    have hia : i < a.length := by omega
    have hib : i < b.length := by omega
    rw [hf _ i hia, getD_lt 0 a hia, getD_lt 0 b hib]
    by_cases e : a[i] = b[i]
    · rw [if_pos e]
      refine ih (i + 1) m (by omega) (by omega) ?_
      rw [List.take_succ_eq_append_getElem hia, List.take_succ_eq_append_getElem hib, ht, e]
    · rw [if_neg e, decide_eq_false]
      intro h
      subst h
      exact e rfl
theorem specInts_ev (a b : List Int) (ha : a.length ≤ 1048576) (k : Nat) (hk : a.length < k) : spec_l04Ints.f k a b = some (decide (a = b)) := by
  simp only [spec_l04Ints.f, iNe_eq, brB_nb, brB_dec, rLen_eq]
  by_cases hl : a.length = b.length
  · rw [if_pos (by omega)]
    simp only [spec_l04Ints.l0]
    refine eq_until (f := fun (rec : (List Int × List Int × Int) → Option (Bool)) (x : List Int × List Int × Int) => spec_l04Ints.s0 k rec x.1 x.2.1 x.2.2) a b hl (fun rec i hi => ?_) (fun rec => ?_) hk
    · simp only [spec_l04Ints.s0, iLt_eq, iNe_eq, brB_nb, brB_dec, chk_idx, rLen_eq, rGet_nat]
      rw [if_pos (by omega), if_idx hi, if_idx (by omega), next_id hi (by omega)]
    · simp only [spec_l04Ints.s0, iLt_eq, brB_dec, rLen_eq]
      rw [if_neg (by omega)]
  · rw [if_neg (by omega), decide_eq_false (fun e => hl (by rw [e]))]
/-- Two packets are the same. -/
def pkSame (a b : Int × Int × Int × Int × Int × Int × Int × List Int) : Bool := decide (a.1 = b.1 ∧ a.2.1 = b.2.1 ∧ a.2.2.1 = b.2.2.1 ∧ a.2.2.2.1 = b.2.2.2.1 ∧ a.2.2.2.2.1 = b.2.2.2.2.1 ∧ a.2.2.2.2.2.1 = b.2.2.2.2.2.1 ∧ a.2.2.2.2.2.2.1 = b.2.2.2.2.2.2.1 ∧ a.2.2.2.2.2.2.2 = b.2.2.2.2.2.2.2)
theorem pkSame_eq (a0 a1 a2 a3 a4 a5 a6 : Int) (l : List Int) (b0 b1 b2 b3 b4 b5 b6 : Int) (m : List Int) :
    pkSame (a0, a1, a2, a3, a4, a5, a6, l) (b0, b1, b2, b3, b4, b5, b6, m) = decide (a0 = b0 ∧ a1 = b1 ∧ a2 = b2 ∧ a3 = b3 ∧ a4 = b4 ∧ a5 = b5 ∧ a6 = b6 ∧ l = m) := rfl
theorem specSame_ev (a0 a1 a2 a3 a4 a5 a6 : Int) (l : List Int) (b0 b1 b2 b3 b4 b5 b6 : Int) (m : List Int) (hl : l.length ≤ 1048576) (k : Nat) (hk : l.length < k) :
    spec_SamePacket.f k a0 a1 a2 a3 a4 a5 a6 l b0 b1 b2 b3 b4 b5 b6 m = some (pkSame (a0, a1, a2, a3, a4, a5, a6, l) (b0, b1, b2, b3, b4, b5, b6, m)) := by
  rw [pkSame_eq]
  simp only [spec_SamePacket.f, specInts_ev l m hl k hk, bnd_one, iEq_eq, brB_dec]
  (repeat' split) <;> simp_all
theorem equalInt_ev (a b : List Int) (ha : a.length ≤ 1048576) (k : Nat) (hk : a.length < k) : slices_Equal_int.f k a b = some (decide (a = b)) := by
  simp only [slices_Equal_int.f, iNe_eq, brB_nb, brB_dec, rLen_eq]
  by_cases hl : a.length = b.length
  · rw [if_pos (by omega)]
    have h := iter_all (f := fun (rec : (List Int × List Int × Int × Int) → Option (Bool)) (x : List Int × List Int × Int × Int) => slices_Equal_int.s0 k rec x.1 x.2.1 x.2.2.1 x.2.2.2) (fun i => (a, b, (a.length : Int), (i : Int))) (List.range a.length) (fun i => decide (a.getD i 0 = b.getD i 0)) (some true) (some false)
      (fun rec i hi hp => ?_) (fun rec i hi hp => ?_) (fun rec => ?_) (n := k) (by simpa using hk)
    · refine Eq.trans h ?_
      have e : (List.range a.length).all (fun i => decide (a.getD i 0 = b.getD i 0)) = decide (a = b) := by
        rw [Bool.eq_iff_iff, List.all_eq_true, decide_eq_true_eq]
        constructor
        · intro h
          apply List.ext_getElem hl
          intro i h1 h2
          have := h i (List.mem_range.2 h1)
          rw [decide_eq_true_eq, getD_lt 0 a h1, getD_lt 0 b h2] at this
          exact this
        · rintro rfl i _
          simp
      rw [e]
      cases decide (a = b) <;> rfl
    · simp only [List.length_range] at hi
      simp only [List.getElem_range, decide_eq_true_eq] at hp
      simp only [slices_Equal_int.s0, iLt_eq, iNe_eq, brB_nb, brB_dec, chk_idx, rLen_eq, rGet_nat, hp]
      rw [if_pos (by omega), if_idx hi, if_idx (by omega), if_pos trivial, next_id hi (by omega)]
    · simp only [List.length_range] at hi
      simp only [List.getElem_range, decide_eq_false_iff_not] at hp
      simp only [slices_Equal_int.s0, iLt_eq, iNe_eq, brB_nb, brB_dec, chk_idx, rLen_eq, rGet_nat]
      rw [if_pos (by omega), if_idx hi, if_idx (by omega), if_neg hp]
    · simp only [List.length_range, slices_Equal_int.s0, iLt_eq, brB_dec]
      rw [if_neg (by omega)]
  · rw [if_neg (by omega), decide_eq_false (fun e => hl (by rw [e]))]
theorem implSame_ev (a0 a1 a2 a3 a4 a5 a6 : Int) (l : List Int) (b0 b1 b2 b3 b4 b5 b6 : Int) (m : List Int) (hl : l.length ≤ 1048576) (k : Nat) (hk : l.length < k) :
    impl_SamePacket.f k a0 a1 a2 a3 a4 a5 a6 l b0 b1 b2 b3 b4 b5 b6 m = some (pkSame (a0, a1, a2, a3, a4, a5, a6, l) (b0, b1, b2, b3, b4, b5, b6, m)) := by
  rw [pkSame_eq]
  simp only [impl_SamePacket.f, equalInt_ev l m hl k hk, bnd_one, iEq_eq, brB_dec]
  (repeat' split) <;> simp_all
/-- What stands in front of a packet. -/
def upTo (c : Int × Int × Int × Int × Int × Int × Int × List Int) : List (Int × Int × Int × Int × Int × Int × Int × List Int) → List (Int × Int × Int × Int × Int × Int × Int × List Int)
  | [] => []
  | p :: l => if pkSame p c = true then [] else p :: upTo c l
theorem upTo_len (c : Int × Int × Int × Int × Int × Int × Int × List Int) : ∀ l, (upTo c l).length ≤ l.length
  | [] => Nat.le_refl _
  | p :: l => by
    simp only [upTo]
    split
    · simp
    · have := upTo_len c l; simp only [List.length_cons]; omega
theorem upTo_get (c : Int × Int × Int × Int × Int × Int × Int × List Int) : ∀ (l : List (Int × Int × Int × Int × Int × Int × Int × List Int)) (i : Nat) (h : i < l.length), i < (upTo c l).length → pkSame l[i] c = false
  | p :: l, i, h, hi => by
    simp only [upTo] at hi
    split at hi
    · simp at hi
    · rename_i hp
      cases i with
      | zero => simpa using hp
      | succ i => exact upTo_get c l i (by simpa using h) (by simpa using hi)
theorem upTo_at (c : Int × Int × Int × Int × Int × Int × Int × List Int) : ∀ (l : List (Int × Int × Int × Int × Int × Int × Int × List Int)) (h : (upTo c l).length < l.length), pkSame l[(upTo c l).length] c = true
  | p :: l, h => by
    by_cases hp : pkSame p c = true
    · have e : upTo c (p :: l) = [] := by simp only [upTo, if_pos hp]
      simp only [e, List.length_nil, List.getElem_cons_zero]
      exact hp
    · have e : upTo c (p :: l) = p :: upTo c l := by simp only [upTo, if_neg hp]
      simp only [e, List.length_cons, List.getElem_cons_succ]
      exact upTo_at c l (by rw [e] at h; simpa using h)
theorem upTo_take (c : Int × Int × Int × Int × Int × Int × Int × List Int) : ∀ l, l.take (upTo c l).length = upTo c l
  | [] => rfl
  | p :: l => by
    by_cases hp : pkSame p c = true
    · simp only [upTo, if_pos hp]; rfl
    · simp only [upTo, if_neg hp, List.length_cons, List.take_succ_cons, upTo_take c l]
theorem copyPackets_ev (xs : List (Int × Int × Int × Int × Int × Int × Int × List Int)) (hn : xs.length ≤ 1048576) (hz : ∀ x ∈ xs, pGot x ≤ 1048576) (k : Nat) (hk : 3000000 < k) : impl_copyPackets.f k xs = some xs := by
  simp only [impl_copyPackets.f, impl_copyPackets.l0, rLen_eq]
  refine iter_upto (f := fun (rec : ((List (Int × Int × Int × Int × Int × Int × Int × List Int)) × (List (Int × Int × Int × Int × Int × Int × Int × List Int)) × Int × Int) → Option (List (Int × Int × Int × Int × Int × Int × Int × List Int))) (x : (List (Int × Int × Int × Int × Int × Int × Int × List Int)) × (List (Int × Int × Int × Int × Int × Int × Int × List Int)) × Int × Int) => impl_copyPackets.s0 k rec x.1 x.2.1 x.2.2.1 x.2.2.2)
    (fun i => (xs.take i, xs, (xs.length : Int), (i : Int))) xs.length (fun rec i hi => ?_) (fun rec => ?_) (by omega)
  · have e : rGet (0, 0, 0, 0, 0, 0, 0, []) xs (i : Int) = xs[i] := getD_lt _ _ hi
    have hq := hz _ (List.getElem_mem hi)
    have htl : (xs.take i ++ [xs[i]]).length = i + 1 := by simp; omega
    have hts := take_step xs hi
    simp only [impl_copyPackets.s0, impl_copyPacket.f, slices_Clone_int.f, e, iLt_eq, brB_dec, chk_idx, chk_len, rLen_eq, rApp_eq]
    generalize xs[i] = q at hq htl hts ⊢
    obtain ⟨q0, q1, q2, q3, q4, q5, q6, ql⟩ := q
    have hql : ql.length ≤ 1048576 := hq
    rw [if_pos (by omega), if_idx hi, if_pos (by simp only; omega)]
    simp only [bnd_one, htl]
    rw [if_pos (by omega), next_id hi (by omega), hts]
  · simp only [impl_copyPackets.s0, iLt_eq, brB_dec, List.take_length]
    rw [if_neg (by omega)]
theorem implSeen_ev (xs : List (Int × Int × Int × Int × Int × Int × Int × List Int)) (b0 b1 b2 b3 b4 b5 b6 : Int) (m : List Int) (hn : xs.length ≤ 1048576) (hz : ∀ x ∈ xs, pGot x ≤ 1048576) (k : Nat) (hk : 3000000 < k) :
    impl_SeenBefore.f k xs b0 b1 b2 b3 b4 b5 b6 m = some (upTo (b0, b1, b2, b3, b4, b5, b6, m) xs) := by
  have hl := upTo_len (b0, b1, b2, b3, b4, b5, b6, m) xs
  have ht := upTo_take (b0, b1, b2, b3, b4, b5, b6, m) xs
  have hg := upTo_get (b0, b1, b2, b3, b4, b5, b6, m) xs
  have ha := upTo_at (b0, b1, b2, b3, b4, b5, b6, m) xs
  generalize upTo (b0, b1, b2, b3, b4, b5, b6, m) xs = U at hl ht hg ha ⊢
  have hUz : ∀ x ∈ U, pGot x ≤ 1048576 := fun x hx => hz x (List.mem_of_mem_take (ht ▸ hx))
  have hix : slices_IndexFunc_Packet_impl_SeenBefore_1.f k xs b0 b1 b2 b3 b4 b5 b6 m = some (if U.length < xs.length then (U.length : Int) else -1, b0, b1, b2, b3, b4, b5, b6, m) := by
    simp only [slices_IndexFunc_Packet_impl_SeenBefore_1.f, slices_IndexFunc_Packet_impl_SeenBefore_1.l0, rLen_eq]
    refine iter_upto (f := fun (rec : ((List (Int × Int × Int × Int × Int × Int × Int × List Int)) × Int × Int × Int × Int × Int × Int × Int × Int × Int × List Int) → Option (Int × Int × Int × Int × Int × Int × Int × Int × List Int)) (x : (List (Int × Int × Int × Int × Int × Int × Int × List Int)) × Int × Int × Int × Int × Int × Int × Int × Int × Int × List Int) => slices_IndexFunc_Packet_impl_SeenBefore_1.s0 k rec x.1 x.2.1 x.2.2.1 x.2.2.2.1 x.2.2.2.2.1 x.2.2.2.2.2.1 x.2.2.2.2.2.2.1 x.2.2.2.2.2.2.2.1 x.2.2.2.2.2.2.2.2.1 x.2.2.2.2.2.2.2.2.2.1 x.2.2.2.2.2.2.2.2.2.2)
      (fun i => (xs, (xs.length : Int), (i : Int), b0, b1, b2, b3, b4, b5, b6, m)) U.length (fun rec i hi => ?_) (fun rec => ?_) (by omega)
    · have hix : i < xs.length := by omega
      have e : rGet (0, 0, 0, 0, 0, 0, 0, []) xs (i : Int) = xs[i] := getD_lt _ _ hix
      have hq := hz _ (List.getElem_mem hix)
      have hs := hg i hix hi
      simp only [slices_IndexFunc_Packet_impl_SeenBefore_1.s0, impl_SeenBefore_1.f, e, iLt_eq, brB_dec, chk_idx, rLen_eq]
      generalize xs[i] = q at hq hs ⊢
      obtain ⟨q0, q1, q2, q3, q4, q5, q6, ql⟩ := q
      have hql : ql.length ≤ 1048576 := hq
      simp only [implSame_ev q0 q1 q2 q3 q4 q5 q6 ql b0 b1 b2 b3 b4 b5 b6 m hql k (by omega), hs, bnd_one, brB_false]
      rw [if_pos (by omega), if_idx hix, next_id hix (by omega)]
    · simp only [slices_IndexFunc_Packet_impl_SeenBefore_1.s0, impl_SeenBefore_1.f, iLt_eq, brB_dec, chk_idx, rLen_eq]
      by_cases hlt : U.length < xs.length
      · have hs := ha hlt
        have e : rGet (0, 0, 0, 0, 0, 0, 0, []) xs (U.length : Int) = xs[U.length] := getD_lt _ _ hlt
        have hq := hz _ (List.getElem_mem hlt)
        rw [if_pos (by omega), if_idx hlt, e, if_pos hlt]
        generalize xs[U.length] = q at hq hs ⊢
        obtain ⟨q0, q1, q2, q3, q4, q5, q6, ql⟩ := q
        have hql : ql.length ≤ 1048576 := hq
        simp only [implSame_ev q0 q1 q2 q3 q4 q5 q6 ql b0 b1 b2 b3 b4 b5 b6 m hql k (by omega), hs, bnd_one, brB_true]
      · rw [if_neg (by omega), if_neg hlt]
  have hsub : ∀ n : Nat, rSub xs 0 (n : Int) = xs.take n := fun n => by simp [rSub]
  simp only [impl_SeenBefore.f, hix, bnd_one, iLt_eq, brB_dec, chk_sub, rLen_eq, hsub]
  by_cases hlt : U.length < xs.length
  · rw [if_pos hlt, if_neg (by omega), if_pos (by omega), hsub, ht, copyPackets_ev U (by omega) hUz k hk, bnd_one]
  · have e : U.length = xs.length := by omega
    rw [if_neg hlt, if_pos (by omega), if_pos (by omega), ← e, ht, copyPackets_ev U (by omega) hUz k hk, bnd_one]
/-- Words written into cells. -/
def wUp (c : List Int) (a : Nat) (d : List Int) : Nat → List Int
  | 0 => c
  | i + 1 => if a + i < 64 then (wUp c a d i).set (a + i) (d.getD i 0) else wUp c a d i
theorem wUp_len (c : List Int) (a : Nat) (d : List Int) : ∀ i, (wUp c a d i).length = c.length
  | 0 => rfl
  | i + 1 => by
    simp only [wUp]
    split
    · rw [List.length_set, wUp_len c a d i]
    · exact wUp_len c a d i
/-- A packet that writes. -/
def wStep (c : List Int) (p : Int × Int × Int × Int × Int × Int × Int × List Int) : List Int :=
  if p.1 = 1 ∧ packB p.1 p.2.1 p.2.2.1 p.2.2.2.1 p.2.2.2.2.1 p.2.2.2.2.2.1 p.2.2.2.2.2.2.1 p.2.2.2.2.2.2.2 = true then wUp c p.2.2.2.1.toNat p.2.2.2.2.2.2.2 p.2.2.2.2.2.2.2.length else c
theorem wStep_len (c : List Int) (p : Int × Int × Int × Int × Int × Int × Int × List Int) : (wStep c p).length = c.length := by
  unfold wStep; split
  · exact wUp_len _ _ _ _
  · rfl
theorem wFold_len : ∀ (l : List (Int × Int × Int × Int × Int × Int × Int × List Int)) (c : List Int), (l.foldl wStep c).length = c.length
  | [], c => rfl
  | p :: l, c => by rw [List.foldl_cons, wFold_len l, wStep_len]
theorem write_facts {a1 a2 a3 a4 a5 a6 : Int} {l : List Int} (h : packB 1 a1 a2 a3 a4 a5 a6 l = true) : l.length ≤ 8 ∧ (0 ≤ a3 ∧ a3 ≤ 65536) := by
  simp only [packB, Bool.and_eq_true, decide_eq_true_eq] at h
  replace h := h.2
  unfold packP at h
  omega
/-- What the writes make of the cells. -/
def writesB (cells : List Int) (l : List (Int × Int × Int × Int × Int × Int × Int × List Int)) : List Int := if (cells.length : Int) = 64 ∧ wordsOk cells = true then l.foldl wStep cells else []
theorem implWrite_one (k : Nat) (hk : 3000000 < k) (rec0 : ((List Int) × (List (Int × Int × Int × Int × Int × Int × Int × List Int)) × Int × Int) → Option (List Int)) (xs : List (Int × Int × Int × Int × Int × Int × Int × List Int)) (c : List Int) (hc : c.length = 64) (n i : Int) (p0 p1 p2 p3 p4 p5 p6 : Int) (d : List Int) (hd : d.length ≤ 8) (h3 : 0 ≤ p3 ∧ p3 ≤ 65536) :
    impl_ApplyWrites.l1 k k rec0 c xs n i d (d.length : Int) 0 p0 p1 p2 p3 p4 p5 p6 d = rec0 (wUp c p3.toNat d d.length, xs, n, iAdd .i64 i 1) := by
  unfold impl_ApplyWrites.l1
  refine iter_to (f := fun (rec : (List Int × (List (Int × Int × Int × Int × Int × Int × Int × List Int)) × Int × Int × List Int × Int × Int × Int × Int × Int × Int × Int × Int × Int × List Int) → Option (List Int)) (x : List Int × (List (Int × Int × Int × Int × Int × Int × Int × List Int)) × Int × Int × List Int × Int × Int × Int × Int × Int × Int × Int × Int × Int × List Int) => impl_ApplyWrites.s1 k rec0 rec x.1 x.2.1 x.2.2.1 x.2.2.2.1 x.2.2.2.2.1 x.2.2.2.2.2.1 x.2.2.2.2.2.2.1 x.2.2.2.2.2.2.2.1 x.2.2.2.2.2.2.2.2.1 x.2.2.2.2.2.2.2.2.2.1 x.2.2.2.2.2.2.2.2.2.2.1 x.2.2.2.2.2.2.2.2.2.2.2.1 x.2.2.2.2.2.2.2.2.2.2.2.2.1 x.2.2.2.2.2.2.2.2.2.2.2.2.2.1 x.2.2.2.2.2.2.2.2.2.2.2.2.2.2)
    (fun j => (wUp c p3.toNat d j, xs, n, i, d, (d.length : Int), (j : Int), p0, p1, p2, p3, p4, p5, p6, d)) d.length (fun rec j hj => ?_) (fun rec => ?_) (by omega)
  · have hl := wUp_len c p3.toNat d j
    simp only [impl_ApplyWrites.s1, iLt_eq, brB_dec, chk_idx, rLen_eq, wUp]
    rw [if_pos (by omega), iAdd_id (a := p3) (by omega) (by omega), if_idx hj, next_id hj (by omega)]
    by_cases h64 : p3.toNat + j < 64
    · rw [if_pos (by omega), if_pos (by omega), if_pos h64, rGet_nat, show p3 + (j : Int) = ((p3.toNat + j : Nat) : Int) by omega, rSet_nat]
    · rw [if_neg (by omega), if_neg h64]
  · simp only [impl_ApplyWrites.s1, iLt_eq, brB_dec]
    rw [if_neg (by omega)]
theorem implWrites_ev (cells : List Int) (xs : List (Int × Int × Int × Int × Int × Int × Int × List Int)) (hcl : cells.length ≤ 1048576) (hn : xs.length ≤ 1048576) (hz : ∀ x ∈ xs, pGot x ≤ 1048576) (hwf : ∀ p ∈ xs, wfP p) (k : Nat) (hk : 3000000 < k) :
    impl_ApplyWrites.f k cells xs = some (writesB cells xs) := by
  simp only [impl_ApplyWrites.f, impl_areCells.f, slices_Clone_int.f, iEq_eq, brB_dec, rLen_eq, chk_len, areWords_ev cells (by omega) k (by omega), bnd_one, bNot_eq, writesB]
  by_cases h64 : (cells.length : Int) = 64
  · rw [if_pos h64, bnd_one]
    cases hw : wordsOk cells with
    | false =>
      rw [show (!false) = true from rfl, brB_true, if_neg (fun h => by cases h.2)]
    | true =>
      rw [Bool.not_true, brB_false, if_pos (by omega), if_pos ⟨h64, rfl⟩]
      simp only [impl_ApplyWrites.l0, bnd_one]
      refine iter_upto (f := fun (rec : (List Int × (List (Int × Int × Int × Int × Int × Int × Int × List Int)) × Int × Int) → Option (List Int)) (x : List Int × (List (Int × Int × Int × Int × Int × Int × Int × List Int)) × Int × Int) => impl_ApplyWrites.s0 k rec x.1 x.2.1 x.2.2.1 x.2.2.2)
        (fun i => ((xs.take i).foldl wStep cells, xs, (xs.length : Int), (i : Int))) xs.length (fun rec i hi => ?_) (fun rec => ?_) (by omega)
      · have e : rGet (0, 0, 0, 0, 0, 0, 0, []) xs (i : Int) = xs[i] := getD_lt _ _ hi
        have hq := hz _ (List.getElem_mem hi)
        have hw := hwf _ (List.getElem_mem hi)
        have hs : (xs.take (i + 1)).foldl wStep cells = wStep ((xs.take i).foldl wStep cells) xs[i] := by
          rw [List.take_succ_eq_append_getElem hi, List.foldl_append]; rfl
        have hcl := wFold_len (xs.take i) cells
        simp only [impl_ApplyWrites.s0, e, iLt_eq, iNe_eq, brB_nb, brB_dec, chk_idx, rLen_eq, hs]
        generalize (xs.take i).foldl wStep cells = c at hcl ⊢
        generalize xs[i] = q at hq hw ⊢
        obtain ⟨q0, q1, q2, q3, q4, q5, q6, ql⟩ := q
        have hql : ql.length ≤ 1048576 := hq
        rw [if_pos (by omega), if_idx hi]
        simp only [implIsPacket_ev q0 q1 q2 q3 q4 q5 q6 ql hql hw.1 hw.2 k (by omega), bnd_one, bNot_eq, brB_nb, wStep]
        by_cases h1 : q0 = 1
        · subst h1
          rw [if_pos rfl]
          cases hp : packB 1 q1 q2 q3 q4 q5 q6 ql with
          | false => rw [brB_false, next_id hi (by omega), if_neg (by simp)]
          | true =>
            obtain ⟨w1, w2⟩ := write_facts hp
            rw [brB_true, implWrite_one k hk rec xs c (by omega) (xs.length : Int) (i : Int) 1 q1 q2 q3 q4 q5 q6 ql w1 w2, next_id hi (by omega), if_pos ⟨rfl, rfl⟩]
        · rw [if_neg h1, next_id hi (by omega), if_neg (fun h => h1 h.1)]
      · simp only [impl_ApplyWrites.s0, iLt_eq, brB_dec, List.take_length]
        rw [if_neg (by omega)]
  · rw [if_neg h64, bnd_one, show (!false) = true from rfl, brB_true, if_neg (fun h => h64 h.1)]
/-- The i-th part of the data, its packet. -/
def chunkN (l : List Int) (i : Nat) : List Int := (l.drop (8 * i)).take 8
def wrP (id a : Int) (l : List Int) (i : Nat) : Pk := (1, id, 0, a + (8 * i : Nat), 0, 0, 0, chunkN l i)
def wrOk (id a : Int) (l : List Int) (i : Nat) : Bool := packB 1 id 0 (a + (8 * i : Nat)) 0 0 0 (chunkN l i)
def prodN (l : List Int) : Nat := (l.length + 7) / 8
def sendB (out : List Pk) (r : Int × List Bool × List Bool × Int × Int × Int × Int × Int × Int × Int × List Int × Bool) : List Pk × Bool :=
  if r.2.2.2.2.2.2.2.2.2.2.2 = true ∧ packB r.2.2.2.1 r.2.2.2.2.1 r.2.2.2.2.2.1 r.2.2.2.2.2.2.1 r.2.2.2.2.2.2.2.1 r.2.2.2.2.2.2.2.2.1 r.2.2.2.2.2.2.2.2.2.1 r.2.2.2.2.2.2.2.2.2.2.1 = true then
    (out ++ [(r.2.2.2.1, r.2.2.2.2.1, r.2.2.2.2.2.1, r.2.2.2.2.2.2.1, r.2.2.2.2.2.2.2.1, r.2.2.2.2.2.2.2.2.1, r.2.2.2.2.2.2.2.2.2.1, r.2.2.2.2.2.2.2.2.2.2.1)], true) else ([], false)
def prodB (id a : Int) (l : List Int) (v e : Int) (m p : List Bool) : List Pk × Bool :=
  if (0 < l.length → 0 ≤ a ∧ a ≤ 65535) ∧ (List.range (prodN l)).all (wrOk id a l) = true then sendB ((List.range (prodN l)).map (wrP id a l)) (raiseB (hasB e m p id v) e m p id v) else ([], false)
theorem first_bad (ok : Nat → Bool) : ∀ n, ∃ N, N ≤ n ∧ (∀ i, i < N → ok i = true) ∧ (N = n ∨ (N < n ∧ ok N = false))
  | 0 => ⟨0, Nat.le_refl _, fun i hi => by omega, .inl rfl⟩
  | n + 1 => by
    obtain ⟨N, h1, h2, h3⟩ := first_bad ok n
    rcases h3 with rfl | ⟨h3, h4⟩
    · cases h : ok N with
      | true => exact ⟨N + 1, Nat.le_refl _, fun i hi => by rcases Nat.lt_succ_iff_lt_or_eq.1 hi with h' | rfl; exact h2 i h'; exact h, .inl rfl⟩
      | false => exact ⟨N, by omega, h2, .inr ⟨by omega, h⟩⟩
    · exact ⟨N, by omega, h2, .inr ⟨by omega, h4⟩⟩
theorem all_range {ok : Nat → Bool} {n N : Nat} (h2 : ∀ i, i < N → ok i = true) (h3 : N = n ∨ (N < n ∧ ok N = false)) : (List.range n).all ok = decide (N = n) := by
  rcases h3 with rfl | ⟨h3, h4⟩
  · rw [decide_eq_true rfl]
    exact List.all_eq_true.2 fun i hi => h2 i (List.mem_range.1 hi)
  · rw [decide_eq_false (by omega), Bool.eq_false_iff]
    intro h
    have := List.all_eq_true.1 h N (List.mem_range.2 h3)
    rw [h4] at this; cases this
theorem chunkN_len (l : List Int) (i : Nat) : (chunkN l i).length = min 8 (l.length - 8 * i) := by simp [chunkN]
theorem cut_eq (l : List Int) (i : Nat) (hi : 8 * i < l.length) (hl : l.length ≤ 1048576) : rSub l ((8 * i : Nat) : Int) (iMin (iAdd .i64 ((8 * i : Nat) : Int) 8) (rLen l)) = chunkN l i := by
  unfold rSub iMin chunkN
  rw [iAdd_id (by omega) (by omega), rLen_eq, List.drop_take]
  have e : ((if (l.length : Int) < ((8 * i : Nat) : Int) + 8 then (l.length : Int) else ((8 * i : Nat) : Int) + 8)).toNat - ((8 * i : Nat) : Int).toNat = min 8 (l.length - 8 * i) := by split <;> omega
  rw [e, show ((8 * i : Nat) : Int).toNat = 8 * i by omega]
  rcases Nat.le_total 8 (l.length - 8 * i) with h | h
  · rw [Nat.min_eq_left h]
  · rw [Nat.min_eq_right h, List.take_of_length_le (by simp), List.take_of_length_le (by simp; omega)]
theorem raiseB_wf {e : Int} (he : (Lit.int .i64 e).wf = true) (ok : Bool) (m p : List Bool) (d v : Int) : (Lit.int .i64 (raiseB ok e m p d v).2.2.2.2.2.2.1).wf = true ∧ (Lit.int .i64 (raiseB ok e m p d v).2.2.2.2.2.2.2.1).wf = true := by
  unfold raiseB
  (repeat' split) <;> exact ⟨by first | exact he | rfl, rfl⟩
theorem prodN_le (l : List Int) (hl : l.length ≤ 1048576) : prodN l ≤ 131072 := by unfold prodN; omega
theorem implProdLoop (id a : Int) (l : List Int) (v e : Int) (m p : List Bool) (ha : 0 < l.length → 0 ≤ a ∧ a ≤ 65535) (hl : l.length ≤ 1048576) (hm : m.length ≤ 1048576) (hp : p.length ≤ 1048576) (he : (Lit.int .i64 e).wf = true) (k : Nat) (hk : 3000000 < k) :
    impl_Produce.l1 k k l v 0 id a e m p [] false [] = some (if (List.range (prodN l)).all (wrOk id a l) = true then sendB ((List.range (prodN l)).map (wrP id a l)) (raiseB (hasB e m p id v) e m p id v) else ([], false)) := by
  obtain ⟨N, hN, hg, hend⟩ := first_bad (wrOk id a l) (prodN l)
  have hn := prodN_le l hl
  rw [all_range hg hend]
  unfold impl_Produce.l1
  refine iter_from (fun i => (((8 * i : Nat) : Int), id, a + ((min (8 * i) l.length : Nat) : Int), e, m, p, [], false, (List.range i).map (wrP id a l))) N (by simp) (fun rec i hi => ?_) (fun rec => ?_) (n := k) (by omega)
  · have hlt : 8 * i < l.length := by unfold prodN at hN; omega
    have hmin : min (8 * i) l.length = 8 * i := Nat.min_eq_left (by omega)
    have hc : chunkAt l ((8 * i : Nat) : Int) 8 = chunkN l i := cut_eq l i hlt hl
    have hcl := chunkN_len l i
    have ha' := ha (by omega)
    have hpk := hg i hi
    show impl_Produce.s1 k l v rec ((8 * i : Nat) : Int) id (a + ((min (8 * i) l.length : Nat) : Int)) e m p [] false ((List.range i).map (wrP id a l)) = _
    unfold impl_Produce.s1
    rw [hc, hmin]
    refine brT_to (iLt_yes (by rw [rLen_eq]; omega)) (bnd_to (a := chunkN l i) (chk_to (cLen_yes (by rw [rLen_eq]; omega)) rfl) (bnd_to (implIsPacket_ev 1 id 0 _ 0 0 0 (chunkN l i) (by omega) (by rw [wf64]; omega) rfl k (by omega)) ?_))
    refine brF_to (by rw [show packB 1 id 0 (a + ((8 * i : Nat) : Int)) 0 0 0 (chunkN l i) = true from hpk]; rfl) (chk_to (cLen_yes (by rw [rLen_eq, rApp_eq]; simp only [List.length_append, List.length_map, List.length_range, List.length_cons, List.length_nil]; omega)) ?_)
    have h1 : iAdd .i64 ((8 * i : Nat) : Int) 8 = ((8 * (i + 1) : Nat) : Int) := by rw [iAdd_id (by omega) (by omega)]; omega
    have h2 : iAdd .i64 (a + ((8 * i : Nat) : Int)) (rLen (chunkN l i)) = a + ((min (8 * (i + 1)) l.length : Nat) : Int) := by
      rw [rLen_eq, hcl, iAdd_id (by omega) (by omega)]; omega
    rw [h1, h2, rApp_eq, List.range_succ, List.map_append]
    rfl
  · have hNl : (8 * N < l.length ↔ N < prodN l) := by unfold prodN at *; omega
    show impl_Produce.s1 k l v rec ((8 * N : Nat) : Int) id (a + ((min (8 * N) l.length : Nat) : Int)) e m p [] false ((List.range N).map (wrP id a l)) = _
    unfold impl_Produce.s1
    rcases hend with rfl | ⟨hlt, hbad⟩
    · rw [decide_eq_true rfl, if_pos rfl]
      refine brF_to (iLt_no (by rw [rLen_eq]; omega)) (bnd_to (implRaise_ev e m p id v hp hm k (by omega)) ?_)
      obtain ⟨w1, w2⟩ := raiseB_wf he (hasB e m p id v) m p id v
      have wl := (raiseB_len (hasB e m p id v) e m p id v).2.2
      generalize raiseB (hasB e m p id v) e m p id v = r at *
      obtain ⟨r0, r1, r2, q0, q1, q2, q3, q4, q5, q6, ql, ok⟩ := r
      dsimp only at w1 w2 wl ⊢
      unfold sendB
      dsimp only
      cases ok with
      | false => exact brT_to rfl (by rw [if_neg (by simp)])
      | true =>
        refine brF_to rfl (bnd_to (implIsPacket_ev q0 q1 q2 q3 q4 q5 q6 ql (by omega) w1 w2 k (by omega)) ?_)
        cases hq : packB q0 q1 q2 q3 q4 q5 q6 ql with
        | false => exact brT_to rfl (by rw [if_neg (by simp)])
        | true => exact brF_to rfl (chk_to (cLen_yes (by rw [rLen_eq, rApp_eq]; simp only [List.length_append, List.length_map, List.length_range, List.length_cons, List.length_nil]; omega)) (by rw [if_pos ⟨rfl, rfl⟩]; rfl))
    · have h8 : 8 * N < l.length := hNl.2 hlt
      have hmin : min (8 * N) l.length = 8 * N := Nat.min_eq_left (by omega)
      have hc : chunkAt l ((8 * N : Nat) : Int) 8 = chunkN l N := cut_eq l N h8 hl
      have hcl := chunkN_len l N
      have ha' := ha (by omega)
      rw [decide_eq_false (by omega), if_neg (by simp), hc, hmin]
      refine brT_to (iLt_yes (by rw [rLen_eq]; omega)) (bnd_to (a := chunkN l N) (chk_to (cLen_yes (by rw [rLen_eq]; omega)) rfl) (bnd_to (implIsPacket_ev 1 id 0 _ 0 0 0 (chunkN l N) (by omega) (by rw [wf64]; omega) rfl k (by omega)) ?_))
      exact brT_to (by rw [show packB 1 id 0 (a + ((8 * N : Nat) : Int)) 0 0 0 (chunkN l N) = false from hbad]; rfl) rfl
theorem implProd_ev (id a : Int) (l : List Int) (v e : Int) (m p : List Bool) (hl : l.length ≤ 1048576) (hm : m.length ≤ 1048576) (hp : p.length ≤ 1048576) (he : (Lit.int .i64 e).wf = true) (k : Nat) (hk : 3000000 < k) :
    impl_Produce.f k id a l v e m p = some (prodB id a l v e m p) := by
  unfold impl_Produce.f
  refine bnd_to (within_eq k a 0 65535) ?_
  have h8 : cSub 1 8 65536 = true := decide_eq_true (by omega)
  have hx : bAnd (cSub 1 8 65536) (cLen (rLen l) 8) = true := by rw [h8, cLen_yes (by rw [rLen_eq]; omega)]; rfl
  by_cases ha : 0 ≤ a ∧ a ≤ 65535
  · refine brF_to (by rw [decide_eq_true ha]; rfl) (chk_to h8 (chk_to hx ?_))
    rw [implProdLoop id a l v e m p (fun _ => ha) hl hm hp he k hk]
    unfold prodB
    by_cases c : (List.range (prodN l)).all (wrOk id a l) = true
    · rw [if_pos c, if_pos ⟨fun _ => ha, c⟩]
    · rw [if_neg c, if_neg (fun h => c h.2)]
  · refine brT_to (by rw [decide_eq_false ha]; rfl) ?_
    by_cases h0 : 0 < l.length
    · refine brT_to (iLt_yes (by rw [rLen_eq]; omega)) ?_
      unfold prodB
      rw [if_neg (fun h => ha (h.1 h0))]
    · refine brF_to (iLt_no (by rw [rLen_eq]; omega)) (chk_to h8 (chk_to hx ?_))
      have e1 : impl_Produce.l0 k k l v 0 id a e m p [] false [] = impl_Produce.l1 k k l v 0 id a e m p [] false [] := rfl
      rw [e1, implProdLoop id a l v e m p (fun h => absurd h h0) hl hm hp he k hk]
      unfold prodB
      by_cases c : (List.range (prodN l)).all (wrOk id a l) = true
      · rw [if_pos c, if_pos ⟨fun h => absurd h h0, c⟩]
      · rw [if_neg c, if_neg (fun h => c h.2)]
/-- A packet that is valid. -/
def okP (p : Pk) : Bool := packB p.1 p.2.1 p.2.2.1 p.2.2.2.1 p.2.2.2.2.1 p.2.2.2.2.2.1 p.2.2.2.2.2.2.1 p.2.2.2.2.2.2.2
theorem okP_iff {q0 q1 q2 q3 q4 q5 q6 : Int} {ql : List Int} : okP (q0, q1, q2, q3, q4, q5, q6, ql) = true ↔ wordsOk ql = true ∧ packP q0 q1 q2 q3 q4 q5 q6 (ql.length : Int) := by
  show (wordsOk ql && decide _) = true ↔ _
  rw [Bool.and_eq_true, decide_eq_true_eq]
theorem okP_len {p : Pk} (h : okP p = true) : p.2.2.2.2.2.2.2.length ≤ 8 := by
  obtain ⟨q0, q1, q2, q3, q4, q5, q6, ql⟩ := p
  have h := (okP_iff.1 h).2
  show ql.length ≤ 8
  unfold packP at h
  omega
theorem okP_wf {p : Pk} (h : okP p = true) : (0 ≤ p.2.2.2.1 ∧ p.2.2.2.1 ≤ 65536) ∧ (0 ≤ p.2.2.2.2.1 ∧ p.2.2.2.2.1 ≤ 64) ∧ 1 ≤ p.1 ∧ p.1 ≤ 6 := by
  obtain ⟨q0, q1, q2, q3, q4, q5, q6, ql⟩ := p
  have h := (okP_iff.1 h).2
  show (0 ≤ q3 ∧ q3 ≤ 65536) ∧ (0 ≤ q4 ∧ q4 ≤ 64) ∧ 1 ≤ q0 ∧ q0 ≤ 6
  unfold packP at h
  omega
theorem packet_bnd {R : Type} {k : Nat} {c : List Int} {p s : Int} {f : Int × Int × Int × Int × Int × Int × Int × List Int × List Int × Int × Int → Option R} {Q : R → Prop} (hk : 4000 < k) (hc : c.length ≤ 2000000) (hp : 0 ≤ p)
    (h : ∀ q0 q1 q2 q3 q4 q5 q6 ql p' s', okP (q0, q1, q2, q3, q4, q5, q6, ql) = true → 0 ≤ p' → Yd (f (q0, q1, q2, q3, q4, q5, q6, ql, c, p', s')) Q) : Yd (bnd (spec_l04Packet.f k c p s) f) Q := by
  obtain ⟨⟨q0, q1, q2, q3, q4, q5, q6, ql, c', p', s'⟩, e1, g1, g2, g3, g4⟩ := l04Packet_yd k hk c hc p s hp
  simp only at g1 g2 g3 g4
  subst g1
  rw [e1]
  exact h q0 q1 q2 q3 q4 q5 q6 ql p' s' (okP_iff.2 ⟨g3, g4⟩) g2
theorem l16Queue_yd (k : Nat) (hk : 4000 < k) (c : List Int) (hc : c.length ≤ 2000000) (p s : Int) (hp : 0 ≤ p) : Yd (spec_l16Queue.f k c p s) fun r => r.2.1 = c ∧ 0 ≤ r.2.2.1 ∧ r.1.length ≤ 6 ∧ r.1.all okP = true := by
  refine iter_yd (f := fun (rec : ((List (Int × Int × Int × Int × Int × Int × Int × List Int)) × Int × List Int × Int × Int) → Option (List (Int × Int × Int × Int × Int × Int × Int × List Int) × List Int × Int × Int)) (x : (List (Int × Int × Int × Int × Int × Int × Int × List Int)) × Int × List Int × Int × Int) => spec_l16Queue.s0 k rec x.1 x.2.1 x.2.2.1 x.2.2.2.1 x.2.2.2.2)
    (I := fun i x => x.1.length = i ∧ x.1.all okP = true ∧ x.2.1 = (i : Int) ∧ x.2.2.1 = c ∧ 0 ≤ x.2.2.2.1) (Q := fun r : List (Int × Int × Int × Int × Int × Int × Int × List Int) × List Int × Int × Int => r.2.1 = c ∧ 0 ≤ r.2.2.1 ∧ r.1.length ≤ 6 ∧ r.1.all okP = true) 6 (fun rec i x hi hx hr => ?_) (by omega) ⟨rfl, rfl, rfl, rfl, hp⟩
  obtain ⟨t, j, c', p', s'⟩ := x
  obtain ⟨hl, ht, hj, hc', hp'⟩ := hx
  simp only at hl ht hj hc' hp'
  subst hj hc'
  show Yd (spec_l16Queue.s0 k rec t (i : Int) c' p' s') _
  unfold spec_l16Queue.s0
  refine below_bnd hc hp' (by omega) fun y0 p1 s1 g0 g1 q1 => ?_
  dsimp only
  refine Yd.lt (fun h => ?_) fun h => Yd.one ⟨rfl, q1, by show t.length ≤ 6; omega, ht⟩
  refine packet_bnd hk hc q1 fun q0 q1 q2 q3 q4 q5 q6 ql p2 s2 hq hp2 => ?_
  dsimp only
  refine Yd.eq (fun e => ?_) fun e => ?_
  · refine below_bnd hc hp2 (by omega) fun v p3 s3 g2 g3 hp3 => ?_
    dsimp only
    simp only [rApp_eq, rLen_eq, List.length_append, List.length_cons, List.length_nil, hl]
    refine Yd.len (by omega) ?_
    rw [next_id (i := i) (n := 7) (by omega) (by omega)]
    refine hr _ (by omega) ⟨by simp [hl], ?_, rfl, rfl, hp3⟩
    simp only [List.all_append, ht, Bool.true_and, List.all_cons, List.all_nil, Bool.and_true]
    have hq := okP_iff.1 hq
    refine okP_iff.2 ⟨hq.1, hq.2.1, ?_⟩
    rcases hq.2.2 with h | h | h | h | h | ⟨h1, h2, h3, h4, h5⟩
    · exact absurd (h.1.symm.trans e) (by decide)
    · exact absurd (h.1.symm.trans e) (by decide)
    · exact absurd (h.1.symm.trans e) (by decide)
    · exact absurd (h.1.symm.trans e) (by decide)
    · exact absurd (h.1.symm.trans e) (by decide)
    · exact .inr (.inr (.inr (.inr (.inr ⟨h1, h2, ⟨by decide, by decide⟩, ⟨by omega, by omega⟩, h5⟩))))
  · simp only [rApp_eq, rLen_eq, List.length_append, List.length_cons, List.length_nil, hl]
    refine Yd.len (by omega) ?_
    rw [next_id (i := i) (n := 7) (by omega) (by omega)]
    refine hr _ (by omega) ⟨by simp [hl], ?_, rfl, rfl, hp2⟩
    simp only [List.all_append, ht, Bool.true_and, List.all_cons, List.all_nil, Bool.and_true]
    exact hq
/-- Credits of all classes. -/
def credB (l : List Int) : Bool := decide ((l.length : Int) = 3) && l.all fun n => decide (0 ≤ n ∧ n ≤ 30)
theorem l14Credits_yd (k : Nat) (hk : 4000 < k) (c : List Int) (hc : c.length ≤ 2000000) (p s : Int) (hp : 0 ≤ p) : Yd (spec_l14Credits.f k c p s) fun r => r.2.2.1 = c ∧ 0 ≤ r.2.2.2.1 ∧ credB r.1 = true ∧ credB r.2.1 = true := by
  refine iter_yd (f := fun (rec : (Int × List Int × Int × Int × List Int × List Int × List Int × List Int) → Option (List Int × List Int × List Int × Int × Int)) (x : Int × List Int × Int × Int × List Int × List Int × List Int × List Int) => spec_l14Credits.s0 k rec x.1 x.2.1 x.2.2.1 x.2.2.2.1 x.2.2.2.2.1 x.2.2.2.2.2.1 x.2.2.2.2.2.2.1 x.2.2.2.2.2.2.2)
    (I := fun i x => x.1 = (i : Int) ∧ x.2.1 = c ∧ 0 ≤ x.2.2.1 ∧ x.2.2.2.2.2.2.1.length = i ∧ x.2.2.2.2.2.2.2.length = i ∧ (x.2.2.2.2.2.2.1.all fun n => decide (0 ≤ n ∧ n ≤ 30)) = true ∧ (x.2.2.2.2.2.2.2.all fun n => decide (0 ≤ n ∧ n ≤ 30)) = true)
    (Q := fun r : List Int × List Int × List Int × Int × Int => r.2.2.1 = c ∧ 0 ≤ r.2.2.2.1 ∧ credB r.1 = true ∧ credB r.2.1 = true) 3 (fun rec i x hi hx hr => ?_) (by omega) ⟨rfl, rfl, hp, rfl, rfl, rfl, rfl⟩
  obtain ⟨j, c', p', s', z0, z1, h, u⟩ := x
  obtain ⟨hj, hc', hp', hl, ul, hh, hu⟩ := hx
  simp only at hj hc' hp' hl ul hh hu
  subst hj hc'
  show Yd (spec_l14Credits.s0 k rec (i : Int) c' p' s' z0 z1 h u) _
  unfold spec_l14Credits.s0
  refine Yd.lt (fun hlt => ?_) fun hlt => Yd.one ⟨rfl, hp', ?_, ?_⟩
  · refine pick_bnd hc hp' (by simp) fun v p1 s1 g1 q1 => ?_
    dsimp only
    simp only [rApp_eq, rLen_eq, List.length_append, List.length_cons, List.length_nil, hl]
    refine Yd.len (by omega) ?_
    refine pick_bnd hc q1 (by simp) fun v2 p2 s2 g2 q2 => ?_
    dsimp only
    simp only [List.length_append, List.length_cons, List.length_nil, ul]
    refine Yd.len (by omega) ?_
    rw [next_id (i := i) (n := 7) (by omega) (by omega)]
    simp only [List.mem_cons, List.not_mem_nil, or_false] at g1 g2
    refine hr _ (by omega) ⟨rfl, rfl, q2, by simp [hl], by simp [ul], ?_, ?_⟩
    · simp only [List.all_append, hh, Bool.true_and, List.all_cons, List.all_nil, Bool.and_true, decide_eq_true_eq]; omega
    · simp only [List.all_append, hu, Bool.true_and, List.all_cons, List.all_nil, Bool.and_true, decide_eq_true_eq]; omega
  · unfold credB; rw [hh, decide_eq_true (by show (h.length : Int) = 3; omega)]; rfl
  · unfold credB; rw [hu, decide_eq_true (by show (u.length : Int) = 3; omega)]; rfl
theorem drawWaiting_ev (k : Nat) (hk : 4000 < k) (c : List Int) (hc : c.length ≤ 2000000) : ∃ (W : List Pk) (h u : List Int), spec_DrawWaiting.f k c = some (W, h, u, []) ∧ W.length ≤ 6 ∧ W.all okP = true ∧ credB h = true ∧ credB u = true := by
  obtain ⟨s0, h0⟩ := l01New_ev c k hk
  obtain ⟨⟨W, c1, p1, s1⟩, e1, q1, q2, q3, q4⟩ := l16Queue_yd k hk c hc 0 s0 (by omega)
  simp only at q1 q2 q3 q4
  subst q1
  obtain ⟨⟨h, u, c2, p2, s2⟩, e2, r1, r2, r3, r4⟩ := l14Credits_yd k hk c1 hc p1 s1 q2
  simp only at r1 r2 r3 r4
  subst r1
  refine ⟨W, h, u, ?_, q3, q4, r3, r4⟩
  simp only [spec_DrawWaiting.f, spec_l17Queue.f, h0, e1, e2, bnd_one]
theorem drawProduct_ev (k : Nat) (hk : 4000 < k) (c : List Int) (hc : c.length ≤ 2000000) : ∃ (x : Int) (d : List Int) (v : Int), spec_DrawProduct.f k c = some (x, d, v) ∧ 1 ≤ d.length ∧ d.length ≤ 20 ∧ wordsOk d = true ∧ 0 ≤ x ∧ x + d.length ≤ 64 ∧ 0 ≤ v ∧ v < 4 := by
  obtain ⟨s0, h0⟩ := l01New_ev c k hk
  have H : Yd (spec_DrawProduct.f k c) fun r => 1 ≤ r.2.1.length ∧ r.2.1.length ≤ 20 ∧ wordsOk r.2.1 = true ∧ 0 ≤ r.1 ∧ r.1 + r.2.1.length ≤ 64 ∧ 0 ≤ r.2.2 ∧ r.2.2 < 4 := by
    unfold spec_DrawProduct.f
    rw [h0, bnd_one]
    dsimp only
    refine below_bnd hc (by omega) (by omega) fun y0 p1 s1 g0 g1 q1 => ?_
    dsimp only
    rw [iAdd_id (by omega) (by omega)]
    refine data_bnd hk hc q1 (by omega) (by omega) fun l p2 s2 hl hw q2 => ?_
    dsimp only
    rw [rLen_eq, iSub_id (by omega) (by omega), iAdd_id (by omega) (by omega)]
    refine below_bnd hc q2 (by omega) fun x p3 s3 g2 g3 q3 => ?_
    dsimp only
    refine below_bnd hc q3 (by omega) fun v p4 s4 g4 g5 q4 => ?_
    dsimp only
    exact Yd.one ⟨by show 1 ≤ l.length; omega, by show l.length ≤ 20; omega, hw, g2, by show x + (l.length : Int) ≤ 64; omega, g4, g5⟩
  obtain ⟨⟨x, d, v⟩, e, h⟩ := H
  exact ⟨x, d, v, e, h⟩

theorem areCred_ev (l : List Int) (hl : l.length ≤ 1000000) (k : Nat) (hk : 3000000 < k) : impl_areCredits.f k l = some (credB l) := by
  unfold impl_areCredits.f credB
  by_cases h3 : (l.length : Int) = 3
  · refine brT_to (by rw [iEq_eq, rLen_eq]; exact decide_eq_true h3) ?_
    obtain ⟨N, hN, hg, hend⟩ := first_bad (fun i => decide (0 ≤ l.getD i 0 ∧ l.getD i 0 ≤ 30)) l.length
    have hall : (l.all fun n => decide (0 ≤ n ∧ n ≤ 30)) = decide (N = l.length) := by
      rw [← all_range hg hend, Bool.eq_iff_iff, List.all_eq_true, List.all_eq_true]
      refine ⟨fun h i hi => ?_, fun h x hx => ?_⟩
      · have hi := List.mem_range.1 hi
        rw [getD_lt 0 l hi]; exact h _ (List.getElem_mem hi)
      · obtain ⟨i, hi, rfl⟩ := List.getElem_of_mem hx
        have := h i (List.mem_range.2 hi)
        rwa [getD_lt 0 l hi] at this
    have hix : slices_IndexFunc_int_impl_areCredits_1.f k l = some (if N = l.length then -1 else (N : Int)) := by
      unfold slices_IndexFunc_int_impl_areCredits_1.f slices_IndexFunc_int_impl_areCredits_1.l0
      refine iter_from (fun i => (l, rLen l, (i : Int))) N rfl (fun rec i hi => ?_) (fun rec => ?_) (n := k) (by omega)
      · show slices_IndexFunc_int_impl_areCredits_1.s0 k rec l (rLen l) (i : Int) = _
        unfold slices_IndexFunc_int_impl_areCredits_1.s0 impl_areCredits_1.f
        refine brT_to (iLt_yes (by rw [rLen_eq]; omega)) (chk_to (cIdx_yes (by rw [rLen_eq]; omega)) (bnd_to (bnd_to (within_eq k _ 0 30) rfl) (brF_to ?_ ?_)))
        · have := hg i hi; rw [rGet_nat, this]; rfl
        · rw [next_id (i := i) (n := l.length) (by omega) (by omega)]
      · show slices_IndexFunc_int_impl_areCredits_1.s0 k rec l (rLen l) (N : Int) = _
        unfold slices_IndexFunc_int_impl_areCredits_1.s0 impl_areCredits_1.f
        rcases hend with e | ⟨hlt, hb⟩
        · rw [if_pos e]; exact brF_to (iLt_no (by rw [rLen_eq]; omega)) rfl
        · rw [if_neg (by omega)]
          refine brT_to (iLt_yes (by rw [rLen_eq]; omega)) (chk_to (cIdx_yes (by rw [rLen_eq]; omega)) (bnd_to (bnd_to (within_eq k _ 0 30) rfl) (brT_to ?_ rfl)))
          rw [rGet_nat, hb]; rfl
    refine bnd_to (bnd_to hix rfl) ?_
    rw [hall, decide_eq_true h3, Bool.true_and]
    by_cases e : N = l.length
    · rw [if_pos e, decide_eq_true e]; rfl
    · rw [if_neg e, decide_eq_false e]
      have : iLe 0 (N : Int) = true := decide_eq_true (by omega)
      rw [this]; rfl
  · refine brF_to (by rw [iEq_eq, rLen_eq]; exact decide_eq_false h3) ?_
    rw [decide_eq_false h3]; rfl
theorem credOk_ev (h u : List Int) (hh : h.length ≤ 1000000) (hu : u.length ≤ 1000000) (k : Nat) (hk : 3000000 < k) : impl_CreditsOk.f k h u = some (credB h && credB u) := by
  unfold impl_CreditsOk.f
  refine bnd_to (areCred_ev h hh k hk) ?_
  cases credB h with
  | false => exact brF_to rfl rfl
  | true => exact brT_to rfl (bnd_to (areCred_ev u hu k hk) rfl)
theorem isPk (q0 q1 q2 q3 q4 q5 q6 : Int) (ql : List Int) (h : okP (q0, q1, q2, q3, q4, q5, q6, ql) = true) (k : Nat) (hk : 3000000 < k) : impl_IsPacket.f k q0 q1 q2 q3 q4 q5 q6 ql = some true := by
  have h1 := okP_len h
  have h2 := okP_wf h
  dsimp only at h1 h2
  rw [implIsPacket_ev q0 q1 q2 q3 q4 q5 q6 ql (by omega) (by rw [wf64]; omega) (by rw [wf64]; omega) k (by omega)]
  exact congrArg some h
theorem arePk_ev (W : List Pk) (hW : W.all okP = true) (hl : W.length ≤ 1000000) (k : Nat) (hk : 3000000 < k) : impl_arePackets.f k W = some true := by
  have hix : slices_IndexFunc_Packet_impl_arePackets_1.f k W = some (-1) := by
    unfold slices_IndexFunc_Packet_impl_arePackets_1.f slices_IndexFunc_Packet_impl_arePackets_1.l0
    refine iter_from (fun i => (W, rLen W, (i : Int))) W.length rfl (fun rec i hi => ?_) (fun rec => ?_) (n := k) (by omega)
    · show slices_IndexFunc_Packet_impl_arePackets_1.s0 k rec W (rLen W) (i : Int) = _
      unfold slices_IndexFunc_Packet_impl_arePackets_1.s0 impl_arePackets_1.f
      have e : rGet (0, 0, 0, 0, 0, 0, 0, []) W (i : Int) = W[i] := getD_lt _ _ hi
      have hq := List.all_eq_true.1 hW _ (List.getElem_mem hi)
      rw [e]
      refine brT_to (iLt_yes (by rw [rLen_eq]; omega)) (chk_to (cIdx_yes (by rw [rLen_eq]; omega)) (bnd_to (bnd_to (isPk _ _ _ _ _ _ _ _ hq k hk) rfl) (brF_to rfl ?_)))
      rw [next_id (i := i) (n := W.length) hi (by omega)]
    · show slices_IndexFunc_Packet_impl_arePackets_1.s0 k rec W (rLen W) (W.length : Int) = _
      unfold slices_IndexFunc_Packet_impl_arePackets_1.s0
      exact brF_to (iLt_no (by rw [rLen_eq]; omega)) rfl
  unfold impl_arePackets.f
  exact bnd_to (bnd_to hix rfl) rfl
theorem queueOk_ev (W S : List Pk) (h u : List Int) (hW : W.all okP = true) (hS : S.all okP = true) (hwl : W.length ≤ 12) (hsl : S.length ≤ 1000) (hh : credB h = true) (hu : credB u = true) (k : Nat) (hk : 3000000 < k) : impl_QueueOk.f k W h u S = some true := by
  have l3 : ∀ l, credB l = true → l.length ≤ 1000000 := fun l hl => by
    unfold credB at hl
    simp only [Bool.and_eq_true, decide_eq_true_eq] at hl
    omega
  unfold impl_QueueOk.f
  refine brT_to (decide_eq_true (by rw [rLen_eq]; omega)) (brT_to (decide_eq_true (by rw [rLen_eq]; omega)) (bnd_to (arePk_ev W hW (by omega) k hk) (brT_to rfl (bnd_to (arePk_ev S hS (by omega) k hk) (brT_to rfl (bnd_to (credOk_ev h u (l3 h hh) (l3 u hu) k hk) ?_))))))
  rw [hh, hu]; rfl
theorem copyQueue_ev (W S : List Pk) (h u : List Int) (hW : W.all okP = true) (hS : S.all okP = true) (hwl : W.length ≤ 12) (hsl : S.length ≤ 1000) (hh : h.length ≤ 1000000) (hu : u.length ≤ 1000000) (k : Nat) (hk : 3000000 < k) : impl_copyQueue.f k W h u S = some (W, h, u, S) := by
  have hz : ∀ L : List Pk, L.all okP = true → ∀ x ∈ L, pGot x ≤ 1048576 := fun L hL x hx => Nat.le_trans (okP_len (List.all_eq_true.1 hL x hx)) (by omega)
  unfold impl_copyQueue.f impl_copyCredits.f
  refine bnd_to (copyPackets_ev W (by omega) (hz W hW) k hk) (bnd_to (a := (h, u)) (bnd_to (a := h) (chk_to (cLen_yes (by rw [rLen_eq]; omega)) rfl) (bnd_to (a := u) (chk_to (cLen_yes (by rw [rLen_eq]; omega)) rfl) rfl)) (bnd_to (copyPackets_ev S (by omega) (hz S hS) k hk) rfl))
theorem enter_ev (W S : List Pk) (h u : List Int) (p : Pk) (hW : W.all okP = true) (hS : S.all okP = true) (hp : okP p = true) (hwl : W.length < 12) (hsl : S.length ≤ 1000) (hh : credB h = true) (hu : credB u = true) (k : Nat) (hk : 3000000 < k) :
    impl_EnterQueue.f k W h u S p.1 p.2.1 p.2.2.1 p.2.2.2.1 p.2.2.2.2.1 p.2.2.2.2.2.1 p.2.2.2.2.2.2.1 p.2.2.2.2.2.2.2 = some (W ++ [p], h, u, S, true) := by
  have l3 : ∀ l, credB l = true → l.length ≤ 1000000 := fun l hl => by
    unfold credB at hl
    simp only [Bool.and_eq_true, decide_eq_true_eq] at hl
    omega
  obtain ⟨q0, q1, q2, q3, q4, q5, q6, ql⟩ := p
  have hql := okP_len hp
  dsimp only at hql ⊢
  unfold impl_EnterQueue.f
  refine bnd_to (copyQueue_ev W S h u hW hS (by omega) hsl (l3 h hh) (l3 u hu) k hk) (bnd_to (queueOk_ev W S h u hW hS (by omega) hsl hh hu k hk) (brF_to rfl (bnd_to (isPk q0 q1 q2 q3 q4 q5 q6 ql hp k hk) (brF_to rfl (brF_to (by rw [iEq_eq, rLen_eq]; exact decide_eq_false (by omega)) ?_)))))
  unfold impl_copyPacket.f
  refine bnd_to (a := (q0, q1, q2, q3, q4, q5, q6, ql)) (bnd_to (a := ql) (chk_to (cLen_yes (by rw [rLen_eq]; omega)) rfl) rfl) (chk_to (cLen_yes (by rw [rLen_eq, rApp_eq]; simp only [List.length_append, List.length_cons, List.length_nil]; omega)) rfl)

/-- A packet's class. -/
def clsN (q : Int) : Int := if q = 1 ∨ q = 2 then 0 else if q = 6 then 2 else 1
def mayB (p q : Pk) : Bool := if clsN q.1 = 0 then false else if clsN p.1 = 2 then (if clsN q.1 = 2 then (if p.2.2.1 = q.2.2.1 then decide (p.2.2.2.2.2.1 ≠ q.2.2.2.2.2.1) else true) else true) else true
theorem mayB_post {p q : Pk} (h : mayB p q = true) : clsN q.1 ≠ 0 := by
  intro e
  unfold mayB at h
  rw [if_pos e] at h; cases h
def nilPk : Pk := (0, 0, 0, 0, 0, 0, 0, [])
def passB2 (W : List Pk) (i : Nat) : Bool := (List.range i).all fun j => mayB (W.getD i nilPk) (W.getD j nilPk)
/-- The posted packets. -/
def post (l : List Pk) : List Pk := l.filter fun p => decide (clsN p.1 = 0)
theorem post_app (a b : List Pk) : post (a ++ b) = post a ++ post b := by simp [post]
theorem post_step {W S : List Pk} {i : Nat} (hi : i < W.length) (hp : passB2 W i = true) : post (S ++ [W.getD i nilPk]) ++ post (W.eraseIdx i) = post S ++ post W := by
  have hW : W = W.take i ++ W.getD i nilPk :: W.drop (i + 1) := by
    rw [getD_lt nilPk W hi, ← List.drop_eq_getElem_cons hi, List.take_append_drop]
  have e1 : post W = post (W.take i) ++ (post [W.getD i nilPk] ++ post (W.drop (i + 1))) := by
    conv => lhs; rw [hW]
    rw [show (W.getD i nilPk :: W.drop (i + 1)) = [W.getD i nilPk] ++ W.drop (i + 1) from rfl, post_app, post_app]
  have e2 : post (W.eraseIdx i) = post (W.take i) ++ post (W.drop (i + 1)) := by rw [List.eraseIdx_eq_take_drop_succ, post_app]
  rw [post_app, e1, e2]
  by_cases h : clsN (W.getD i nilPk).1 = 0
  · have : post (W.take i) = [] := by
      unfold post
      rw [List.filter_eq_nil_iff]
      intro x hx
      obtain ⟨j, hj, rfl⟩ := List.getElem_of_mem hx
      rw [List.length_take] at hj
      have hm := mayB_post (List.all_eq_true.1 hp j (List.mem_range.2 (by omega)))
      rw [getD_lt nilPk W (by omega)] at hm
      rw [List.getElem_take]
      simpa using hm
    rw [this, List.nil_append, List.nil_append, List.append_assoc]
  · have : post [W.getD i nilPk] = [] := by
      unfold post
      rw [List.filter_eq_nil_iff]
      intro x hx
      simp only [List.mem_singleton] at hx
      subst hx
      simpa using h
    rw [this, List.append_nil, List.nil_append]
theorem clsOf_ev (q0 q1 q2 q3 q4 q5 q6 : Int) (ql : List Int) (h : okP (q0, q1, q2, q3, q4, q5, q6, ql) = true) (k : Nat) (hk : 3000000 < k) : impl_ClassOf.f k q0 q1 q2 q3 q4 q5 q6 ql = some (clsN q0) := by
  unfold impl_ClassOf.f
  refine bnd_to (isPk q0 q1 q2 q3 q4 q5 q6 ql h k hk) (brF_to rfl ?_)
  refine bnd_to (a := clsN q0) ?_ rfl
  unfold impl_classOf.f clsN
  by_cases h1 : q0 = 1
  · subst h1; exact brT_to rfl (brT_to rfl rfl)
  · refine brF_to (by rw [iEq_eq]; exact decide_eq_false h1) ?_
    by_cases h2 : q0 = 2
    · subst h2; exact brT_to rfl rfl
    · refine brF_to (by rw [iEq_eq]; exact decide_eq_false h2) ?_
      rw [if_neg (fun h => h.elim h1 h2)]
      by_cases h6 : q0 = 6
      · rw [if_pos h6]; exact brT_to (by rw [iEq_eq]; exact decide_eq_true h6) rfl
      · rw [if_neg h6]; exact brF_to (by rw [iEq_eq]; exact decide_eq_false h6) rfl
theorem mayPass_ev (p q : Pk) (hp : okP p = true) (hq : okP q = true) (k : Nat) (hk : 3000000 < k) :
    impl_MayPass.f k p.1 p.2.1 p.2.2.1 p.2.2.2.1 p.2.2.2.2.1 p.2.2.2.2.2.1 p.2.2.2.2.2.2.1 p.2.2.2.2.2.2.2 q.1 q.2.1 q.2.2.1 q.2.2.2.1 q.2.2.2.2.1 q.2.2.2.2.2.1 q.2.2.2.2.2.2.1 q.2.2.2.2.2.2.2 = some (mayB p q) := by
  obtain ⟨p0, p1, p2, p3, p4, p5, p6, pl⟩ := p
  obtain ⟨q0, q1, q2, q3, q4, q5, q6, ql⟩ := q
  dsimp only
  unfold impl_MayPass.f mayB
  dsimp only
  refine bnd_to (isPk _ _ _ _ _ _ _ _ hp k hk) (brF_to rfl (bnd_to (isPk _ _ _ _ _ _ _ _ hq k hk) (brF_to rfl (bnd_to (clsOf_ev _ _ _ _ _ _ _ _ hq k hk) ?_))))
  by_cases h0 : clsN q0 = 0
  · rw [if_pos h0]; exact brT_to (by rw [iEq_eq]; exact decide_eq_true h0) rfl
  · rw [if_neg h0]
    refine brF_to (by rw [iEq_eq]; exact decide_eq_false h0) (bnd_to (clsOf_ev _ _ _ _ _ _ _ _ hp k hk) ?_)
    by_cases h2 : clsN p0 = 2
    · rw [if_pos h2]
      refine brT_to (by rw [iEq_eq]; exact decide_eq_true h2) (bnd_to (clsOf_ev _ _ _ _ _ _ _ _ hq k hk) ?_)
      by_cases h3 : clsN q0 = 2
      · rw [if_pos h3]
        refine brT_to (by rw [iEq_eq]; exact decide_eq_true h3) ?_
        by_cases h4 : p2 = q2
        · rw [if_pos h4]
          refine brF_to (by rw [iNe_eq, decide_eq_true h4]; rfl) ?_
          rw [iNe_eq]; by_cases h5 : p5 = q5 <;> simp [h5]
        · rw [if_neg h4]; exact brT_to (by rw [iNe_eq, decide_eq_false h4]; rfl) rfl
      · rw [if_neg h3]; exact brF_to (by rw [iEq_eq]; exact decide_eq_false h3) rfl
    · rw [if_neg h2]; exact brF_to (by rw [iEq_eq]; exact decide_eq_false h2) rfl
theorem passes_ev (W : List Pk) (hW : W.all okP = true) (hl : W.length ≤ 1000000) (i : Nat) (hi : i < W.length) (k : Nat) (hk : 3000000 < k) : impl_passes.f k W (i : Int) = some (passB2 W i) := by
  have hok : ∀ j, j < W.length → okP (W.getD j nilPk) = true := fun j hj => by rw [getD_lt nilPk W hj]; exact List.all_eq_true.1 hW _ (List.getElem_mem hj)
  obtain ⟨N, hN, hg, hend⟩ := first_bad (fun j => mayB (W.getD i nilPk) (W.getD j nilPk)) i
  have hall : passB2 W i = decide (N = i) := all_range hg hend
  have hsub : rSub W 0 (i : Int) = W.take i := by simp [rSub]
  have htl : (W.take i).length = i := by rw [List.length_take]; omega
  have hget : ∀ j, j < i → rGet (0, 0, 0, 0, 0, 0, 0, []) (W.take i) (j : Int) = W.getD j nilPk := fun j hj => by
    rw [rGet_nat, getD_lt _ _ (by omega), getD_lt _ _ (by omega), List.getElem_take]
  have hgi : rGet (0, 0, 0, 0, 0, 0, 0, []) W (i : Int) = W.getD i nilPk := rfl
  have one : ∀ j, j < i → impl_passes_1.f k (W.getD j nilPk).1 (W.getD j nilPk).2.1 (W.getD j nilPk).2.2.1 (W.getD j nilPk).2.2.2.1 (W.getD j nilPk).2.2.2.2.1 (W.getD j nilPk).2.2.2.2.2.1 (W.getD j nilPk).2.2.2.2.2.2.1 (W.getD j nilPk).2.2.2.2.2.2.2 W (i : Int) = some (!mayB (W.getD i nilPk) (W.getD j nilPk), W, (i : Int)) := fun j hj => by
    unfold impl_passes_1.f
    refine bnd_to (isPk _ _ _ _ _ _ _ _ (hok j (by omega)) k hk) (brT_to rfl (chk_to (cIdx_yes (by rw [rLen_eq]; omega)) ?_))
    rw [hgi]
    exact bnd_to (mayPass_ev _ _ (hok i hi) (hok j (by omega)) k hk) rfl
  have hix : slices_IndexFunc_Packet_impl_passes_1.f k (W.take i) W (i : Int) = some (if N = i then -1 else (N : Int), W, (i : Int)) := by
    unfold slices_IndexFunc_Packet_impl_passes_1.f slices_IndexFunc_Packet_impl_passes_1.l0
    refine iter_from (fun j => (W.take i, rLen (W.take i), (j : Int), W, (i : Int))) N rfl (fun rec j hj => ?_) (fun rec => ?_) (n := k) (by omega)
    · show slices_IndexFunc_Packet_impl_passes_1.s0 k rec (W.take i) (rLen (W.take i)) (j : Int) W (i : Int) = _
      unfold slices_IndexFunc_Packet_impl_passes_1.s0
      rw [hget j (by omega)]
      refine brT_to (iLt_yes (by rw [rLen_eq, htl]; omega)) (chk_to (cIdx_yes (by rw [rLen_eq, htl]; omega)) (bnd_to (one j (by omega)) (brF_to (by rw [hg j hj]; rfl) ?_)))
      rw [next_id (i := j) (n := i) (by omega) (by omega)]
    · show slices_IndexFunc_Packet_impl_passes_1.s0 k rec (W.take i) (rLen (W.take i)) (N : Int) W (i : Int) = _
      unfold slices_IndexFunc_Packet_impl_passes_1.s0
      rcases hend with e | ⟨hlt, hb⟩
      · rw [if_pos e]; exact brF_to (iLt_no (by rw [rLen_eq, htl]; omega)) rfl
      · rw [if_neg (by omega), hget N hlt]
        exact brT_to (iLt_yes (by rw [rLen_eq, htl]; omega)) (chk_to (cIdx_yes (by rw [rLen_eq, htl]; omega)) (bnd_to (one N hlt) (brT_to (by rw [hb]; rfl) rfl)))
  unfold impl_passes.f
  rw [hgi, hsub, hall]
  refine chk_to (cIdx_yes (by rw [rLen_eq]; omega)) (bnd_to (isPk _ _ _ _ _ _ _ _ (hok i hi) k hk) (brT_to rfl (chk_to (decide_eq_true (by rw [rLen_eq]; omega)) ?_)))
  refine bnd_to (bnd_to hix rfl) ?_
  by_cases e : N = i
  · rw [if_pos e, decide_eq_true e]; rfl
  · rw [if_neg e, decide_eq_false e]
    have : iLe 0 (N : Int) = true := decide_eq_true (by omega)
    rw [this]; rfl
theorem passersOf_ev (W : List Pk) (hW : W.all okP = true) (hl : W.length ≤ 1000000) (k : Nat) (hk : 3000000 < k) : impl_PassersOf.f k W = some (((List.range W.length).filter (passB2 W)).map fun (j : Nat) => (j : Int)) := by
  unfold impl_PassersOf.f impl_PassersOf.l0
  refine iter_from (fun i => (W, ((List.range i).filter (passB2 W)).map (fun (j : Nat) => (j : Int)), rLen W, (i : Int))) W.length rfl (fun rec i hi => ?_) (fun rec => ?_) (n := k) (by omega)
  · show impl_PassersOf.s0 k rec W (((List.range i).filter (passB2 W)).map (fun (j : Nat) => (j : Int))) (rLen W) (i : Int) = _
    unfold impl_PassersOf.s0
    refine brT_to (iLt_yes (by rw [rLen_eq]; omega)) (bnd_to (passes_ev W hW hl i hi k hk) ?_)
    have hfl : ((List.range i).filter (passB2 W)).length ≤ i := by have := List.length_filter_le (passB2 W) (List.range i); simpa using this
    rw [next_id (i := i) (n := W.length) hi (by omega), List.range_succ, List.filter_append, List.map_append]
    cases h : passB2 W i with
    | true =>
      refine brT_to rfl (chk_to (cLen_yes (by rw [rLen_eq, rApp_eq]; simp only [List.length_append, List.length_map, List.length_cons, List.length_nil]; omega)) ?_)
      rw [rApp_eq]
      simp [h]
    | false =>
      refine brF_to rfl ?_
      simp [h]
  · show impl_PassersOf.s0 k rec W (((List.range W.length).filter (passB2 W)).map (fun (j : Nat) => (j : Int))) (rLen W) (W.length : Int) = _
    unfold impl_PassersOf.s0
    exact brF_to (iLt_no (by rw [rLen_eq]; omega)) rfl

theorem units_some (q0 q1 q2 q3 q4 q5 q6 : Int) (ql : List Int) (h : okP (q0, q1, q2, q3, q4, q5, q6, ql) = true) (k : Nat) (hk : 3000000 < k) : ∃ n, impl_PacketUnits.f k q0 q1 q2 q3 q4 q5 q6 ql = some n := by
  refine ⟨iQuo .i64 (iAdd .i64 (rLen ql) 3) 4, ?_⟩
  unfold impl_PacketUnits.f
  exact bnd_to (isPk _ _ _ _ _ _ _ _ h k hk) (brF_to rfl (chk_to rfl rfl))
theorem cls_idx (q : Int) (l : List Int) (hl : l.length = 3) : cIdx (clsN q) (rLen l) = true := by
  refine cIdx_yes ?_
  rw [rLen_eq, hl]
  unfold clsN
  split
  · omega
  · split <;> omega
theorem canSend_some (h u : List Int) (p : Pk) (hp : okP p = true) (hh : h.length = 3) (hu : u.length = 3) (k : Nat) (hk : 3000000 < k) :
    ∃ b, impl_CanSend.f k h u p.1 p.2.1 p.2.2.1 p.2.2.2.1 p.2.2.2.2.1 p.2.2.2.2.2.1 p.2.2.2.2.2.2.1 p.2.2.2.2.2.2.2 = some b := by
  obtain ⟨q0, q1, q2, q3, q4, q5, q6, ql⟩ := p
  dsimp only
  unfold impl_CanSend.f
  cases hc : credB h && credB u with
  | false => exact ⟨false, bnd_to (credOk_ev h u (by omega) (by omega) k hk) (by rw [hc]; exact brT_to rfl rfl)⟩
  | true =>
    obtain ⟨n, hn⟩ := units_some q0 q1 q2 q3 q4 q5 q6 ql hp k hk
    cases hl : iLe 1 (rGet 0 h (clsN q0)) with
    | false =>
      refine ⟨false, bnd_to (credOk_ev h u (by omega) (by omega) k hk) ?_⟩
      rw [hc]
      exact brF_to rfl (bnd_to (isPk _ _ _ _ _ _ _ _ hp k hk) (brF_to rfl (bnd_to (clsOf_ev _ _ _ _ _ _ _ _ hp k hk) (chk_to (cls_idx q0 h hh) (brF_to hl rfl)))))
    | true =>
      refine ⟨iLe n (rGet 0 u (clsN q0)), bnd_to (credOk_ev h u (by omega) (by omega) k hk) ?_⟩
      rw [hc]
      exact brF_to rfl (bnd_to (isPk _ _ _ _ _ _ _ _ hp k hk) (brF_to rfl (bnd_to (clsOf_ev _ _ _ _ _ _ _ _ hp k hk) (chk_to (cls_idx q0 h hh) (brT_to hl (chk_to (cls_idx q0 u hu) (bnd_to hn rfl)))))))
theorem spend_some (h u : List Int) (p : Pk) (hp : okP p = true) (hh : h.length = 3) (hu : u.length = 3) (k : Nat) (hk : 3000000 < k) :
    ∃ h' u' b, impl_SpendCredits.f k h u p.1 p.2.1 p.2.2.1 p.2.2.2.1 p.2.2.2.2.1 p.2.2.2.2.2.1 p.2.2.2.2.2.2.1 p.2.2.2.2.2.2.2 = some (h', u', b) ∧ h'.length = 3 ∧ u'.length = 3 := by
  obtain ⟨b, hb⟩ := canSend_some h u p hp hh hu k hk
  obtain ⟨q0, q1, q2, q3, q4, q5, q6, ql⟩ := p
  dsimp only at hb ⊢
  obtain ⟨n, hn⟩ := units_some q0 q1 q2 q3 q4 q5 q6 ql hp k hk
  unfold impl_SpendCredits.f impl_copyCredits.f
  have hcp : (bnd (slices_Clone_int.f k h) fun y0 => bnd (slices_Clone_int.f k u) fun y1 => some (y0, y1)) = some (h, u) :=
    bnd_to (a := h) (chk_to (cLen_yes (by rw [rLen_eq]; omega)) rfl) (bnd_to (a := u) (chk_to (cLen_yes (by rw [rLen_eq]; omega)) rfl) rfl)
  cases b with
  | false => exact ⟨h, u, false, bnd_to hcp (bnd_to hb (brT_to rfl rfl)), hh, hu⟩
  | true =>
    refine ⟨_, _, true, bnd_to hcp (bnd_to hb (brF_to rfl (bnd_to (clsOf_ev _ _ _ _ _ _ _ _ hp k hk) (chk_to (cls_idx q0 h hh) (chk_to (cls_idx q0 h hh) (chk_to (cls_idx q0 u hu) (bnd_to hn (chk_to (cls_idx q0 u hu) rfl)))))))), ?_, ?_⟩
    · simp [rSet, hh]
    · simp [rSet, hu]
theorem next_some (W S : List Pk) (h u : List Int) (hW : W.all okP = true) (hl : W.length ≤ 12) (hh : h.length = 3) (hu : u.length = 3) (k : Nat) (hk : 3000000 < k) :
    ∃ r, impl_Queue__next.f k W h u S = some r ∧ (r = -1 ∨ ∃ i : Nat, i < W.length ∧ r = (i : Int) ∧ passB2 W i = true) := by
  have hp := passersOf_ev W hW (by omega) k hk
  generalize hL : ((List.range W.length).filter (passB2 W)).map (fun (j : Nat) => (j : Int)) = L at hp
  have hmem : ∀ x ∈ L, ∃ i : Nat, i < W.length ∧ x = (i : Int) ∧ passB2 W i = true := fun x hx => by
    rw [← hL] at hx
    obtain ⟨i, hi, rfl⟩ := List.mem_map.1 hx
    obtain ⟨h1, h2⟩ := List.mem_filter.1 hi
    exact ⟨i, List.mem_range.1 h1, rfl, h2⟩
  have hLl : L.length ≤ 12 := by
    rw [← hL, List.length_map]
    have := List.length_filter_le (passB2 W) (List.range W.length)
    simp at this; omega
  unfold impl_Queue__next.f
  rw [hp, bnd_one]
  unfold impl_Queue__next.l0
  refine iter_yd (f := _) (I := fun j x => x = (L, rLen L, (j : Int), W, h, u, S)) (Q := fun r : Int => r = -1 ∨ ∃ i : Nat, i < W.length ∧ r = (i : Int) ∧ passB2 W i = true) L.length (fun rec j x hj hx hr => ?_) (by omega) rfl
  subst hx
  show Yd (impl_Queue__next.s0 k rec L (rLen L) (j : Int) W h u S) _
  unfold impl_Queue__next.s0
  refine Yd.lt (fun hlt => ?_) fun hlt => Yd.one (.inl rfl)
  rw [rLen_eq] at hlt
  have hjl : j < L.length := by omega
  have e1 : rGet 0 L (j : Int) = L[j] := getD_lt _ _ hjl
  obtain ⟨i, hi, e2, hpi⟩ := hmem _ (List.getElem_mem hjl)
  rw [e1, e2]
  have hok : okP (W.getD i nilPk) = true := by rw [getD_lt nilPk W hi]; exact List.all_eq_true.1 hW _ (List.getElem_mem hi)
  obtain ⟨b, hb⟩ := canSend_some h u (W.getD i nilPk) hok hh hu k hk
  have hgi : rGet (0, 0, 0, 0, 0, 0, 0, []) W (i : Int) = W.getD i nilPk := rfl
  rw [hgi, hb, bnd_one]
  refine Yd.idx ⟨by omega, by rw [rLen_eq]; omega⟩ (Yd.idx ⟨by omega, by rw [rLen_eq]; omega⟩ ?_)
  cases b with
  | true => exact Yd.one (.inr ⟨i, hi, rfl, hpi⟩)
  | false =>
    rw [next_id (i := j) (n := 13) (by omega) (by omega)]
    exact hr _ hjl rfl
theorem delPk_ev (W : List Pk) (i : Nat) (hi : i < W.length) (hl : W.length ≤ 12) (k : Nat) : slices_Delete_Packet.f k W (i : Int) (iAdd .i64 (i : Int) 1) = some (W.eraseIdx i) := by
  have e1 : iAdd .i64 (i : Int) 1 = ((i + 1 : Nat) : Int) := next_id (n := W.length) hi (by omega)
  have e2 : rApp (rSub W 0 (i : Int)) (rSub W ((i + 1 : Nat) : Int) (rLen W)) = W.eraseIdx i := by
    rw [List.eraseIdx_eq_take_drop_succ]
    unfold rApp rSub
    rw [rLen_eq, show ((W.length : Nat) : Int).toNat = W.length by omega, List.take_length, show ((i : Nat) : Int).toNat = i by omega, show ((i + 1 : Nat) : Int).toNat = i + 1 by omega]
    rfl
  have hle : (W.eraseIdx i).length = W.length - 1 := List.length_eraseIdx_of_lt hi
  unfold slices_Delete_Packet.f
  rw [e1, e2]
  have c1 : ∀ a b : Int, 0 ≤ a ∧ a ≤ b ∧ b ≤ rLen W → cSub a b (rLen W) = true := fun a b h => decide_eq_true h
  refine chk_to (by rw [c1 _ _ (by rw [rLen_eq]; omega), c1 _ _ (by rw [rLen_eq]; omega)]; rfl) (brF_to (by rw [iEq_eq]; exact decide_eq_false (by omega)) (chk_to (c1 _ _ (by rw [rLen_eq]; omega)) (chk_to (c1 _ _ (by rw [rLen_eq]; omega)) (chk_to ?_ (chk_to (c1 _ _ (by rw [rLen_eq, rLen_eq]; omega)) (chk_to (decide_eq_true (Int.le_refl _)) rfl))))))
  have d1 : iLe (i : Int) ((i + 1 : Nat) : Int) = true := decide_eq_true (by omega)
  have d2 : iLe (rLen W) (rLen W) = true := decide_eq_true (Int.le_refl _)
  rw [d1, d2, cLen_yes (by rw [rLen_eq]; omega)]
  rfl
theorem forward_some (W S : List Pk) (h u : List Int) (hW : W.all okP = true) (hl : W.length ≤ 12) (hs : S.length ≤ 1000) (hh : h.length = 3) (hu : u.length = 3) (k : Nat) (hk : 3000000 < k) :
    ∃ r, impl_Queue__forward.f k W h u S = some r ∧ (r = (false, W, h, u, S) ∨ ∃ (i : Nat) (h' u' : List Int), i < W.length ∧ passB2 W i = true ∧ h'.length = 3 ∧ u'.length = 3 ∧ r = (true, W.eraseIdx i, h', u', S ++ [W.getD i nilPk])) := by
  obtain ⟨r, hr, hc⟩ := next_some W S h u hW hl hh hu k hk
  unfold impl_Queue__forward.f
  rcases hc with rfl | ⟨i, hi, rfl, hpi⟩
  · exact ⟨_, bnd_to hr (brT_to rfl rfl), .inl rfl⟩
  · by_cases h1000 : (S.length : Int) = 1000
    · exact ⟨_, bnd_to hr (brF_to (iLt_no (by omega)) (brT_to (by rw [iEq_eq, rLen_eq]; exact decide_eq_true h1000) rfl)), .inl rfl⟩
    · have hok : okP (W.getD i nilPk) = true := by rw [getD_lt nilPk W hi]; exact List.all_eq_true.1 hW _ (List.getElem_mem hi)
      obtain ⟨h', u', b, hsp, l1, l2⟩ := spend_some h u (W.getD i nilPk) hok hh hu k hk
      have hgi : rGet (0, 0, 0, 0, 0, 0, 0, []) W (i : Int) = W.getD i nilPk := rfl
      have hix : cIdx (i : Int) (rLen W) = true := cIdx_yes (by rw [rLen_eq]; omega)
      refine ⟨(true, W.eraseIdx i, h', u', S ++ [W.getD i nilPk]), bnd_to hr ?_, .inr ⟨i, h', u', hi, hpi, l1, l2, rfl⟩⟩
      rw [hgi]
      refine brF_to (iLt_no (by omega)) (brF_to (by rw [iEq_eq, rLen_eq]; exact decide_eq_false h1000) (chk_to hix (bnd_to hsp (chk_to hix (chk_to (cLen_yes ?_) (bnd_to (delPk_ev W i hi hl k) rfl))))))
      rw [rLen_eq, rApp_eq]
      simp only [List.length_append, List.length_cons, List.length_nil]
      omega
theorem forwardAll_some (W S : List Pk) (h u : List Int) (hW : W.all okP = true) (hS : S.all okP = true) (hl : W.length ≤ 12) (hs : S.length ≤ 900) (hh : credB h = true) (hu : credB u = true) (k : Nat) (hk : 3000000 < k) :
    ∃ (W' : List Pk) (h' u' : List Int) (S' : List Pk), impl_ForwardAll.f k W h u S = some (W', h', u', S') ∧ post S' ++ post W' = post S ++ post W ∧ S'.all okP = true ∧ S'.length ≤ S.length + W.length := by
  have l3 : ∀ l, credB l = true → l.length = 3 := fun l hl => by
    unfold credB at hl
    simp only [Bool.and_eq_true, decide_eq_true_eq] at hl
    omega
  have H : Yd (impl_ForwardAll.l0 k k [] [] [] [] W h u S) fun r => post r.2.2.2 ++ post r.1 = post S ++ post W ∧ r.2.2.2.all okP = true ∧ r.2.2.2.length ≤ S.length + W.length := by
    unfold impl_ForwardAll.l0
    refine iter_yd (f := _) (I := fun j x => x.1 = [] ∧ x.2.1 = [] ∧ x.2.2.1 = [] ∧ x.2.2.2.1 = [] ∧ x.2.2.2.2.1.all okP = true ∧ x.2.2.2.2.1.length + j = W.length ∧ x.2.2.2.2.2.1.length = 3 ∧ x.2.2.2.2.2.2.1.length = 3 ∧ x.2.2.2.2.2.2.2.all okP = true ∧ x.2.2.2.2.2.2.2.length = S.length + j ∧ post x.2.2.2.2.2.2.2 ++ post x.2.2.2.2.1 = post S ++ post W)
      (Q := fun r : List Pk × List Int × List Int × List Pk => post r.2.2.2 ++ post r.1 = post S ++ post W ∧ r.2.2.2.all okP = true ∧ r.2.2.2.length ≤ S.length + W.length) W.length (fun rec j x hj hx hr => ?_) (by omega) ⟨rfl, rfl, rfl, rfl, hW, rfl, l3 h hh, l3 u hu, hS, rfl, rfl⟩
    obtain ⟨x0, x1, x2, x3, V, h1, u1, T⟩ := x
    obtain ⟨e0, e1, e2, e3, hV, hVl, hh1, hu1, hT, hTl, hpo⟩ := hx
    simp only at e0 e1 e2 e3 hV hVl hh1 hu1 hT hTl hpo
    subst e0 e1 e2 e3
    show Yd (impl_ForwardAll.s0 k rec [] [] [] [] V h1 u1 T) _
    unfold impl_ForwardAll.s0
    obtain ⟨r, hf, hc⟩ := forward_some V T h1 u1 hV (by omega) (by omega) hh1 hu1 k hk
    rw [hf, bnd_one]
    rcases hc with rfl | ⟨i, h', u', hi, hpi, l1, l2, rfl⟩
    · dsimp only
      exact Yd.one ⟨hpo, hT, by show T.length ≤ _; omega⟩
    · dsimp only
      have hok : okP (V.getD i nilPk) = true := by rw [getD_lt nilPk V hi]; exact List.all_eq_true.1 hV _ (List.getElem_mem hi)
      have hle : (V.eraseIdx i).length = V.length - 1 := List.length_eraseIdx_of_lt hi
      refine hr _ (by omega) ⟨rfl, rfl, rfl, rfl, ?_, ?_, l1, l2, ?_, ?_, ?_⟩
      · exact List.all_eq_true.2 fun x hx => List.all_eq_true.1 hV x (List.mem_of_mem_eraseIdx hx)
      · show (V.eraseIdx i).length + (j + 1) = W.length
        omega
      · show (T ++ [V.getD i nilPk]).all okP = true
        rw [List.all_append, hT, List.all_cons, hok]; rfl
      · show (T ++ [V.getD i nilPk]).length = S.length + (j + 1)
        simp only [List.length_append, List.length_cons, List.length_nil]; omega
      · show post (T ++ [V.getD i nilPk]) ++ post (V.eraseIdx i) = _
        rw [post_step hi hpi]; exact hpo
  obtain ⟨⟨W', h', u', S'⟩, e, g1, g2, g3⟩ := H
  refine ⟨W', h', u', S', ?_, g1, g2, g3⟩
  unfold impl_ForwardAll.f
  exact bnd_to (copyQueue_ev W S h u hW hS hl (by omega) (by have := l3 h hh; omega) (by have := l3 u hu; omega) k hk) (bnd_to (queueOk_ev W S h u hW hS hl (by omega) hh hu k hk) (brT_to rfl e))
theorem isDelivered_ev (cells : List Int) (x : Int) (d : List Int) (hc : cells.length = 64) (h0 : 0 ≤ x) (h1 : x + d.length ≤ 64) (k : Nat) (hk : 3000000 < k) : impl_IsDelivered.f k cells x d = some (decide ((cells.drop x.toNat).take d.length = d)) := by
  have e1 : iSub .i64 64 (rLen d) = 64 - (d.length : Int) := by rw [rLen_eq]; exact iSub_id (by omega) (by omega)
  have e2 : iAdd .i64 x (rLen d) = x + (d.length : Int) := by rw [rLen_eq]; exact iAdd_id (by omega) (by omega)
  have e3 : rSub cells x (x + (d.length : Int)) = (cells.drop x.toNat).take d.length := by
    unfold rSub
    rw [List.drop_take, show (x + (d.length : Int)).toNat - x.toNat = d.length by omega]
  unfold impl_IsDelivered.f
  rw [e1, e2, e3]
  refine brT_to (by rw [iEq_eq, rLen_eq]; exact decide_eq_true (by omega)) (bnd_to (within_eq k x 0 _) (brT_to (decide_eq_true (by omega)) (chk_to (decide_eq_true (by rw [rLen_eq]; omega)) (bnd_to (equalInt_ev _ d (by rw [List.length_take]; omega) k (by rw [List.length_take]; omega)) rfl))))

def callP (v : Int) : Pk := (1, 33, 0, 65535, 0, 0, 0, [v])
theorem raise_call {v : Int} (h0 : 0 ≤ v) (h1 : v < 4) : raiseB (hasB 65535 (rRep false 4) (rRep false 4) 33 v) 65535 (rRep false 4) (rRep false 4) 33 v = (65535, rRep false 4, rRep false 4, 1, 33, 0, 65535, 0, 0, 0, [v], true) := by
  have : v = 0 ∨ v = 1 ∨ v = 2 ∨ v = 3 := by omega
  rcases this with rfl | rfl | rfl | rfl <;> rfl
theorem callP_ok {v : Int} (h0 : 0 ≤ v) (h1 : v < 4) : okP (callP v) = true := by
  have : v = 0 ∨ v = 1 ∨ v = 2 ∨ v = 3 := by omega
  rcases this with rfl | rfl | rfl | rfl <;> decide
theorem wr_ok {x : Int} {d : List Int} (hw : wordsOk d = true) (h0 : 0 ≤ x) (h1 : x + d.length ≤ 64) {i : Nat} (hi : i < prodN d) : wrOk 33 x d i = true := by
  have hl := chunkN_len d i
  have h8 : 8 * i < d.length := by unfold prodN at hi; omega
  show okP (1, 33, 0, x + ((8 * i : Nat) : Int), 0, 0, 0, chunkN d i) = true
  refine okP_iff.2 ⟨?_, ?_⟩
  · unfold wordsOk at hw ⊢
    exact List.all_eq_true.2 fun y hy => List.all_eq_true.1 hw y (List.mem_of_mem_drop (List.mem_of_mem_take hy))
  · refine ⟨by decide, .inl ⟨rfl, by omega, by omega, rfl, rfl, rfl, rfl⟩⟩
theorem prod_law {x : Int} {d : List Int} {v : Int} (hw : wordsOk d = true) (h0 : 0 ≤ x) (h1 : x + d.length ≤ 64) (v0 : 0 ≤ v) (v1 : v < 4) :
    prodB 33 x d v 65535 (rRep false 4) (rRep false 4) = ((List.range (prodN d)).map (wrP 33 x d) ++ [callP v], true) := by
  unfold prodB
  rw [if_pos ⟨fun _ => by omega, List.all_eq_true.2 fun i hi => wr_ok hw h0 h1 (List.mem_range.1 hi)⟩, raise_call v0 v1]
  unfold sendB
  rw [if_pos ⟨rfl, callP_ok v0 v1⟩]
  rfl
/-- The first of two equal ends. -/
theorem ends_eq {α : Type} {c : α} : ∀ {A X R : List α}, A ++ c :: R = X ++ [c] → c ∉ A → c ∉ X → A = X
  | [], [], R, _, _, _ => rfl
  | [], x :: X, R, h, _, hx => by
    simp only [List.nil_append, List.cons_append, List.cons.injEq] at h
    exact absurd (by rw [h.1]; simp) hx
  | a :: A, [], R, h, ha, _ => by
    simp only [List.nil_append, List.cons_append, List.cons.injEq] at h
    exact absurd (by rw [h.1]; simp) ha
  | a :: A, x :: X, R, h, ha, hx => by
    simp only [List.cons_append, List.cons.injEq] at h
    simp only [List.mem_cons, not_or] at ha hx
    rw [h.1, ends_eq h.2 ha.2 hx.2]
theorem pkSame_iff {p q : Pk} : pkSame p q = true ↔ p = q := by
  obtain ⟨p0, p1, p2, p3, p4, p5, p6, pl⟩ := p
  obtain ⟨q0, q1, q2, q3, q4, q5, q6, ql⟩ := q
  unfold pkSame
  rw [decide_eq_true_eq]
  simp only [Prod.mk.injEq]
theorem fold_post : ∀ (l : List Pk) (c : List Int), l.foldl wStep c = (post l).foldl wStep c
  | [], c => rfl
  | p :: l, c => by
    have e : post (p :: l) = post [p] ++ post l := post_app [p] l
    rw [e, List.foldl_append, List.foldl_cons, fold_post l]
    congr 1
    by_cases h : clsN p.1 = 0
    · have : post [p] = [p] := by simp [post, h]
      rw [this]; rfl
    · have : post [p] = [] := by simp [post, h]
      rw [this]
      unfold wStep
      rw [if_neg]
      · rfl
      · rintro ⟨e1, _⟩
        exact h (by rw [e1]; rfl)
theorem wUp_get (c : List Int) (a : Nat) (e : List Int) (hc : c.length = 64) : ∀ (i t : Nat), a + i ≤ 64 → t < 64 → (wUp c a e i).getD t 0 = if a ≤ t ∧ t < a + i then e.getD (t - a) 0 else c.getD t 0
  | 0, t, _, _ => by rw [if_neg (by omega)]; rfl
  | i + 1, t, h, ht => by
    have ih := wUp_get c a e hc i t (by omega) ht
    have hl := wUp_len c a e i
    simp only [wUp]
    rw [if_pos (by omega), List.getD_eq_getElem?_getD, List.getElem?_set]
    by_cases e1 : a + i = t
    · rw [if_pos e1, if_pos (by omega), if_pos (by omega), show t - a = i by omega]; rfl
    · rw [if_neg e1, ← List.getD_eq_getElem?_getD, ih]
      by_cases e2 : a ≤ t ∧ t < a + i
      · rw [if_pos e2, if_pos (by omega)]
      · rw [if_neg e2, if_neg (by omega)]
/-- The writes put the data into the cells. -/
theorem writes_put {x : Int} {d : List Int} (hw : wordsOk d = true) (h0 : 0 ≤ x) (h1 : x + d.length ≤ 64) (C : List Int) (hC : C.length = 64) : ∀ j, j ≤ prodN d →
    ∀ t, t < 8 * j → t < d.length → (((List.range j).map (wrP 33 x d)).foldl wStep C).getD (x.toNat + t) 0 = d.getD t 0
  | 0, _, t, ht, _ => by omega
  | j + 1, hj, t, ht, htd => by
    have ih := writes_put hw h0 h1 C hC j (by omega)
    have hl := chunkN_len d j
    have h8 : 8 * j < d.length := by unfold prodN at hj; omega
    have hL : (((List.range j).map (wrP 33 x d)).foldl wStep C).length = 64 := by rw [wFold_len, hC]
    rw [List.range_succ, List.map_append, List.foldl_append]
    generalize ((List.range j).map (wrP 33 x d)).foldl wStep C = c at ih hL
    show (wStep c (wrP 33 x d j)).getD _ _ = _
    unfold wStep
    rw [if_pos ⟨rfl, wr_ok hw h0 h1 (by omega)⟩]
    show (wUp c (x + ((8 * j : Nat) : Int)).toNat (chunkN d j) (chunkN d j).length).getD (x.toNat + t) 0 = _
    rw [wUp_get c _ _ hL _ _ (by omega) (by omega)]
    by_cases e : 8 * j ≤ t
    · rw [if_pos (by omega), show x.toNat + t - (x + ((8 * j : Nat) : Int)).toNat = t - 8 * j by omega]
      unfold chunkN
      rw [List.getD_eq_getElem?_getD, List.getElem?_take, if_pos (by omega), List.getElem?_drop, show 8 * j + (t - 8 * j) = t by omega, List.getD_eq_getElem?_getD]
    · rw [if_neg (by omega)]
      exact ih t (by omega) htd
theorem writes_done {x : Int} {d : List Int} (hw : wordsOk d = true) (h0 : 0 ≤ x) (h1 : x + d.length ≤ 64) (C : List Int) (hC : C.length = 64) :
    ((((List.range (prodN d)).map (wrP 33 x d)).foldl wStep C).drop x.toNat).take d.length = d := by
  have h := writes_put hw h0 h1 C hC (prodN d) (Nat.le_refl _)
  have hL : (((List.range (prodN d)).map (wrP 33 x d)).foldl wStep C).length = 64 := by rw [wFold_len, hC]
  generalize ((List.range (prodN d)).map (wrP 33 x d)).foldl wStep C = c at h hL
  apply List.ext_getElem?
  intro t
  rw [List.getElem?_take]
  by_cases ht : t < d.length
  · rw [if_pos ht, List.getElem?_drop]
    have := h t (by unfold prodN; omega) ht
    rw [getD_lt 0 c (by omega), getD_lt 0 d ht] at this
    rw [List.getElem?_eq_getElem (by omega), List.getElem?_eq_getElem ht, this]
  · rw [if_neg ht, List.getElem?_eq_none (by omega)]
/-- What is in front of the call. -/
theorem before_post {W U S V R ws : List Pk} {c : Pk} (hc : clsN c.1 = 0) (hS : S = U ++ c :: R) (hp : post S ++ post V = post W ++ (ws ++ [c])) (hU : c ∉ U) (hW : c ∉ W) (hs : c ∉ ws) : post U = post W ++ ws := by
  have hsub : ∀ l : List Pk, c ∉ l → c ∉ post l := fun l hl h => hl ((List.mem_filter.1 h).1)
  refine ends_eq (c := c) (R := post R ++ post V) ?_ (hsub U hU) (fun h => (List.mem_append.1 h).elim (hsub W hW) hs)
  rw [hS, post_app] at hp
  have e : post (c :: R) = c :: post R := by simp [post, hc]
  rw [e] at hp
  simpa [List.append_assoc] using hp
theorem laws_FnProducers.final (k : Nat) (hk : 3000000 < k) (x : Int) (d : List Int) (v : Int) (W : List Pk) (h u : List Int) (hd : d.length ≤ 20) (hw : wordsOk d = true) (h0 : 0 ≤ x) (h1 : x + d.length ≤ 64) (v0 : 0 ≤ v) (v1 : v < 4)
    (hWl : W.length ≤ 6) (hW : W.all okP = true) (hh : credB h = true) (hu : credB u = true) (hno : ∀ p ∈ W, pkSame p (callP v) = false) (l : List Pk) (hl : l = (List.range (prodN d)).map (wrP 33 x d) ++ [callP v]) :
    laws_FnProducers.l1 k k x d l 0 W h u [] 1 33 0 65535 0 0 0 [v] = some true := by
  have hn : prodN d ≤ 3 := by unfold prodN; omega
  have hlen : l.length = prodN d + 1 := by rw [hl]; simp
  have hlok : l.all okP = true := by
    rw [hl]
    refine List.all_eq_true.2 fun p hp => ?_
    rcases List.mem_append.1 hp with hp | hp
    · obtain ⟨i, hi, rfl⟩ := List.mem_map.1 hp
      exact wr_ok hw h0 h1 (List.mem_range.1 hi)
    · simp only [List.mem_singleton] at hp
      subst hp
      exact callP_ok v0 v1
  unfold laws_FnProducers.l1
  refine iter_from (fun j => (x, d, l, (j : Int), W ++ l.take j, h, u, [], 1, 33, 0, 65535, 0, 0, 0, [v])) l.length (by simp) (fun rec j hj => ?_) (fun rec => ?_) (n := k) (by omega)
  · show laws_FnProducers.s1 k rec x d l (j : Int) (W ++ l.take j) h u [] 1 33 0 65535 0 0 0 [v] = _
    unfold laws_FnProducers.s1
    have e : rGet (0, 0, 0, 0, 0, 0, 0, []) l (j : Int) = l[j] := getD_lt _ _ hj
    have hok := List.all_eq_true.1 hlok _ (List.getElem_mem hj)
    have htl : (l.take j).length = j := by rw [List.length_take]; omega
    have hWt : (W ++ l.take j).all okP = true := by
      rw [List.all_append, hW, Bool.true_and]
      exact List.all_eq_true.2 fun p hp => List.all_eq_true.1 hlok p (List.mem_of_mem_take hp)
    rw [e]
    refine brT_to (iLt_yes (by rw [rLen_eq]; omega)) (chk_to (cIdx_yes (by rw [rLen_eq]; omega)) (bnd_to (enter_ev (W ++ l.take j) [] h u l[j] hWt rfl hok (by rw [List.length_append, htl]; omega) (by simp) hh hu k hk) (brF_to rfl ?_)))
    rw [next_id hj (by omega), List.append_assoc, ← List.take_succ_eq_append_getElem hj]
  · show laws_FnProducers.s1 k rec x d l (l.length : Int) (W ++ l.take l.length) h u [] 1 33 0 65535 0 0 0 [v] = _
    unfold laws_FnProducers.s1
    rw [List.take_length]
    have hWt : (W ++ l).all okP = true := by rw [List.all_append, hW, hlok]; rfl
    obtain ⟨V, h', u', S, hf, hpo, hSok, hSl⟩ := forwardAll_some (W ++ l) [] h u hWt rfl (by rw [List.length_append]; omega) (by simp) hh hu k hk
    have hSl : S.length ≤ 12 := by rw [List.length_append] at hSl; simp only [List.length_nil] at hSl; omega
    have hz : ∀ p ∈ S, pGot p ≤ 1048576 := fun p hp => Nat.le_trans (okP_len (List.all_eq_true.1 hSok p hp)) (by omega)
    have hU := implSeen_ev S 1 33 0 65535 0 0 0 [v] (by omega) hz k hk
    have hUl := upTo_len (callP v) S
    have hUt := upTo_take (callP v) S
    have hUg := upTo_get (callP v) S
    have hUa := upTo_at (callP v) S
    have hU : impl_SeenBefore.f k S 1 33 0 65535 0 0 0 [v] = some (upTo (callP v) S) := hU
    generalize upTo (callP v) S = U at hU hUl hUt hUg hUa
    refine brF_to (iLt_no (by rw [rLen_eq]; omega)) (bnd_to hf (bnd_to hU ?_))
    dsimp only
    by_cases hall : U.length = S.length
    · exact brT_to (by rw [iEq_eq, rLen_eq, rLen_eq]; exact decide_eq_true (by omega)) rfl
    · refine brF_to (by rw [iEq_eq, rLen_eq, rLen_eq]; exact decide_eq_false (by omega)) ?_
      have hlt : U.length < S.length := by omega
      have hcall := pkSame_iff.1 (hUa hlt)
      have hS : S = U ++ callP v :: S.drop (U.length + 1) := by
        conv => lhs; rw [← List.take_append_drop U.length S]
        rw [hUt, List.drop_eq_getElem_cons hlt, hcall]
      have hUn : callP v ∉ U := fun hm => by
        obtain ⟨i, hi, e⟩ := List.getElem_of_mem hm
        have h2 := hUg i (by omega) hi
        have h3 : S[i]'(by omega) = U[i] := by
          have : U[i] = (S.take U.length)[i]'(by rw [List.length_take]; omega) := by simp only [hUt]
          rw [this, List.getElem_take]
        rw [h3, e] at h2
        have := pkSame_iff.2 (rfl : callP v = callP v)
        rw [h2] at this; cases this
      have hWn : callP v ∉ W := fun hm => by
        have h2 := hno _ hm
        have := pkSame_iff.2 (rfl : callP v = callP v)
        rw [h2] at this; cases this
      have hsn : callP v ∉ (List.range (prodN d)).map (wrP 33 x d) := fun hm => by
        obtain ⟨i, hi, e⟩ := List.mem_map.1 hm
        have hi := List.mem_range.1 hi
        have e2 : x + ((8 * i : Nat) : Int) = 65535 := congrArg (fun p : Pk => p.2.2.2.1) e
        unfold prodN at hi
        omega
      have hpl : post l = l := by
        unfold post
        rw [List.filter_eq_self, hl]
        intro p hp
        rcases List.mem_append.1 hp with hp | hp
        · obtain ⟨i, _, rfl⟩ := List.mem_map.1 hp; rfl
        · simp only [List.mem_singleton] at hp; subst hp; rfl
      have hpo : post S ++ post V = post W ++ ((List.range (prodN d)).map (wrP 33 x d) ++ [callP v]) := by
        rw [hpo, post_app, hpl, hl]; rfl
      have hb := before_post (by rfl) hS hpo hUn hWn hsn
      have hUok : ∀ p ∈ U, okP p = true := fun p hp => List.all_eq_true.1 hSok p (by rw [hS]; simp [hp])
      have hcells : writesB (rRep 0 64) U = ((List.range (prodN d)).map (wrP 33 x d)).foldl wStep ((post W).foldl wStep (rRep 0 64)) := by
        unfold writesB
        rw [if_pos ⟨by decide, by decide⟩, fold_post, hb, List.foldl_append]
      have hC : ((post W).foldl wStep (rRep 0 64)).length = 64 := by rw [wFold_len]; rfl
      refine chk_to ?_ (bnd_to (implWrites_ev (rRep 0 64) U (by decide) (by omega) (fun p hp => Nat.le_trans (okP_len (hUok p hp)) (by omega)) (fun p hp => ?_) k hk) (bnd_to (isDelivered_ev _ x d ?_ h0 h1 k hk) ?_))
      · exact @decide_eq_true _ (Classical.propDecidable _) (by unfold maxBytes; omega)
      · have := okP_wf (hUok p hp)
        exact ⟨by rw [wf64]; omega, by rw [wf64]; omega⟩
      · rw [hcells, wFold_len, hC]
      · rw [hcells, writes_done hw h0 h1 _ hC, decide_eq_true rfl]
theorem laws_FnProducers.main (c : List Int) : ∃ k, laws_FnProducers.f k c = some true := by
  refine ⟨3000001, ?_⟩
  generalize hk : 3000001 = k
  unfold laws_FnProducers.f
  by_cases hc : 1048576 < (c.length : Int)
  · refine bnd_to (a := true) ?_ (brT_to rfl rfl)
    simp only [laws_big.f, rLen_eq]; rw [iLt_yes (by omega)]
  · refine bnd_to (a := false) (by simp only [laws_big.f, rLen_eq]; rw [iLt_no (by omega)]) (brF_to rfl ?_)
    obtain ⟨x, d, v, hdp, d1, d2, hw, x0, x1, v0, v1⟩ := drawProduct_ev k (by omega) c (by omega)
    obtain ⟨W, h, u, hdw, hWl, hW, hh, hu⟩ := drawWaiting_ev k (by omega) c (by omega)
    have c4 : cMake 4 4 1 = true := @decide_eq_true _ (Classical.propDecidable _) (by unfold maxBytes; omega)
    have hpr := implProd_ev 33 x d v 65535 (rRep false 4) (rRep false 4) (by omega) (by decide) (by decide) (by decide) k (by omega)
    rw [prod_law hw x0 x1 v0 v1] at hpr
    refine bnd_to hdp (bnd_to hdw (chk_to c4 (chk_to c4 (bnd_to hpr (brF_to rfl ?_)))))
    dsimp only
    generalize hl : (List.range (prodN d)).map (wrP 33 x d) ++ [callP v] = l
    have hn : 1 ≤ prodN d ∧ prodN d ≤ 3 := by unfold prodN; omega
    have hlen : l.length = prodN d + 1 := by rw [← hl]; simp
    have hsub : iSub .i64 (rLen l) 1 = ((prodN d : Nat) : Int) := by rw [rLen_eq, iSub_id (by omega) (by omega)]; omega
    have hlast : rGet (0, 0, 0, 0, 0, 0, 0, []) l ((prodN d : Nat) : Int) = callP v := by
      rw [rGet_nat, getD_lt _ _ (by omega)]
      simp only [← hl]
      rw [List.getElem_append_right (by simp)]
      simp
    rw [hsub, hlast]
    refine brF_to (iLt_no (by rw [rLen_eq]; omega)) (chk_to (cIdx_yes (by rw [rLen_eq]; omega)) ?_)
    show laws_FnProducers.l0 k k x d l 0 W h u [] 1 33 0 65535 0 0 0 [v] = some true
    obtain ⟨N, hN, hg, hend⟩ := first_bad (fun i => !pkSame (W.getD i nilPk) (callP v)) W.length
    have same : ∀ i, i < W.length → spec_SamePacket.f k (W.getD i nilPk).1 (W.getD i nilPk).2.1 (W.getD i nilPk).2.2.1 (W.getD i nilPk).2.2.2.1 (W.getD i nilPk).2.2.2.2.1 (W.getD i nilPk).2.2.2.2.2.1 (W.getD i nilPk).2.2.2.2.2.2.1 (W.getD i nilPk).2.2.2.2.2.2.2 1 33 0 65535 0 0 0 [v] = some (pkSame (W.getD i nilPk) (callP v)) := fun i hi => by
      have hok : okP (W.getD i nilPk) = true := by rw [getD_lt nilPk W hi]; exact List.all_eq_true.1 hW _ (List.getElem_mem hi)
      have hq := okP_len hok
      generalize W.getD i nilPk = q at hq
      obtain ⟨q0, q1, q2, q3, q4, q5, q6, ql⟩ := q
      dsimp only at hq ⊢
      exact specSame_ev q0 q1 q2 q3 q4 q5 q6 ql 1 33 0 65535 0 0 0 [v] (by omega) k (by omega)
    unfold laws_FnProducers.l0
    refine iter_from (fun i => (x, d, l, (i : Int), W, h, u, [], 1, 33, 0, 65535, 0, 0, 0, [v])) N rfl (fun rec i hi => ?_) (fun rec => ?_) (n := k) (by omega)
    · show laws_FnProducers.s0 k rec x d l (i : Int) W h u [] 1 33 0 65535 0 0 0 [v] = _
      unfold laws_FnProducers.s0
      have hgi : rGet (0, 0, 0, 0, 0, 0, 0, []) W (i : Int) = W.getD i nilPk := rfl
      have hb := hg i hi
      rw [hgi]
      refine brT_to (iLt_yes (by rw [rLen_eq]; omega)) (chk_to (cIdx_yes (by rw [rLen_eq]; omega)) (bnd_to (same i (by omega)) (brF_to (by simpa using hb) ?_)))
      rw [next_id (i := i) (n := W.length) (by omega) (by omega)]
    · show laws_FnProducers.s0 k rec x d l (N : Int) W h u [] 1 33 0 65535 0 0 0 [v] = _
      unfold laws_FnProducers.s0
      rcases hend with rfl | ⟨hlt, hb⟩
      · refine brF_to (iLt_no (by rw [rLen_eq]; omega)) ?_
        refine laws_FnProducers.final k (by omega) x d v W h u d2 hw x0 x1 v0 v1 hWl hW hh hu (fun p hp => ?_) l hl.symm
        obtain ⟨i, hi, rfl⟩ := List.getElem_of_mem hp
        have := hg i hi
        rw [getD_lt nilPk W hi] at this
        simpa using this
      · have hgi : rGet (0, 0, 0, 0, 0, 0, 0, []) W (N : Int) = W.getD N nilPk := rfl
        rw [hgi]
        exact brT_to (iLt_yes (by rw [rLen_eq]; omega)) (chk_to (cIdx_yes (by rw [rLen_eq]; omega)) (bnd_to (same N hlt) (brT_to (by simpa using hb) rfl)))
theorem laws_FnProducers.pure : ∀ x : laws_FnProducers.sig.inTy.T, Good laws_FnProducers.sig.inTy x → ∃ k, laws_FnProducers.spec.fn k x = some true := fun x _ => laws_FnProducers.main x
end Go.Proofs.YtmbmapbdbbnaeaaT

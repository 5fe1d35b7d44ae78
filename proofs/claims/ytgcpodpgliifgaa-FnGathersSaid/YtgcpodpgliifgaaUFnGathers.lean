/- What the functions of FnGathers give, in plain terms. -/
import Derived.Test.YtgcpodpgliifgaaFFnGathers
import Derived.Test.YtgcpodpgliifgaaTiPL
set_option linter.unusedVariables false
set_option linter.unusedSimpArgs false
set_option maxRecDepth 100000
namespace Go.Proofs.YtgcpodpgliifgaaT
open Go
theorem iLe_eq (a b : Int) : iLe a b = decide (a ≤ b) := rfl
theorem iLt_eq (a b : Int) : iLt a b = decide (a < b) := rfl
theorem iEq_eq (a b : Int) : iEq a b = decide (a = b) := by by_cases h : a = b <;> simp [iEq, h]
theorem iNe_eq (a b : Int) : iNe a b = !decide (a = b) := by by_cases h : a = b <;> simp [iNe, h]
theorem bNot_eq (a : Bool) : bNot a = !a := rfl
/-- A loop that looks for the first element with a quality. -/
theorem iter_find {R : Type} {α : Type} {X : Type} {f : (X → Option R) → X → Option R} (s : Nat → X) (xs : List α) (p : α → Bool) (r : R) (e : Nat → R)
    (go : ∀ rec (i : Nat) (h : i < xs.length), p xs[i] = true → f rec (s i) = rec (s (i + 1))) (stop : ∀ rec (i : Nat) (h : i < xs.length), p xs[i] = false → f rec (s i) = some (e i)) (done : ∀ rec, f rec (s xs.length) = some r) {n : Nat} (hn : xs.length < n) :
    iter f n (s 0) = some (match xs.findIdx? (fun x => !p x) with | some i => e i | none => r) := by
  suffices H : ∀ d i n, i + d = xs.length → d < n → (∀ j (h : j < xs.length), j < i → p xs[j] = true) → iter f n (s i) = some (match xs.findIdx? (fun x => !p x) with | some i => e i | none => r) from H xs.length 0 n (by omega) hn (fun j _ h => by omega)
  intro d
  induction d with
  | zero =>
    intro i n hi hn hp
    obtain ⟨m, rfl⟩ : ∃ m, n = m + 1 := ⟨n - 1, by omega⟩
    obtain rfl : i = xs.length := by omega
    have : xs.findIdx? (fun x => !p x) = none := by
      rw [List.findIdx?_eq_none_iff]
      intro x hx
      obtain ⟨j, hj, rfl⟩ := List.mem_iff_getElem.1 hx
      simp [hp j hj (by omega)]
    rw [this]
    exact done _
  | succ d ih =>
    intro i n hi hn hp
    obtain ⟨m, rfl⟩ : ∃ m, n = m + 1 := ⟨n - 1, by omega⟩
    show f (iter f m) (s i) = _
    have hlt : i < xs.length := by omega
    by_cases hq : p xs[i] = false
    · rw [stop _ i hlt hq]
      have : xs.findIdx? (fun x => !p x) = some i := by
        rw [List.findIdx?_eq_some_iff_getElem]
        exact ⟨hlt, by simp [hq], fun j hj => by simp [hp j (by omega) hj]⟩
      rw [this]
    · have hq : p xs[i] = true := by simpa using hq
      rw [go _ i hlt hq]
      refine ih (i + 1) m (by omega) (by omega) fun j h hj => ?_
      rcases Nat.lt_or_ge j i with h' | h'
      · exact hp j h h'
      · obtain rfl : j = i := by omega
        exact hq
theorem getD_lt {α : Type} (d : α) (xs : List α) {i : Nat} (h : i < xs.length) : xs.getD i d = xs[i] := by
  rw [List.getD_eq_getElem?_getD, List.getElem?_eq_getElem h]; rfl
theorem bEq_eq (a b : Bool) : bEq a b = decide (a = b) := by cases a <;> cases b <;> rfl
theorem bNe_eq (a b : Bool) : bNe a b = !decide (a = b) := by cases a <;> cases b <;> rfl
theorem brB_nb {R : Type} (b : Bool) (x y : Option R) : brB (!b) x y = brB b y x := by cases b <;> rfl
theorem brB_dec {R : Type} (p : Prop) [Decidable p] (x y : Option R) : brB (decide p) x y = if p then x else y := by by_cases h : p <;> simp [h, brB]
theorem if_idx {R : Type} {i n : Nat} {x : Option R} (h : i < n) : (if 0 ≤ (i : Int) ∧ (i : Int) < (n : Int) then x else none) = x := if_pos (by omega)
theorem within_eq (k : Nat) (x a b : Int) : impl_within.f k x a b = some (decide (a ≤ x ∧ x ≤ b)) := by
  simp only [impl_within.f, iLt_eq, iLe_eq, iEq_eq, iNe_eq, bNot_eq, bEq_eq, bNe_eq, brB_nb, brB_dec, brB_true, brB_false, chk_idx, chk_len, chk_make, chk_sub, bnd_one, rLen_eq, rGet_nat, rSet_nat, rApp_eq, ↓reduceIte]; split <;> rename_i h <;> simp [h]
theorem implIsId_eq (k : Nat) (a : Int) : impl_IsId.f k a = some (decide (0 ≤ a ∧ a ≤ 255)) := by simp only [impl_IsId.f, within_eq, bnd_one]
/-- All are words. -/
def wordsOk (l : List Int) : Bool := l.all fun x => decide (0 ≤ x ∧ x ≤ 65535)
theorem findIdx_all {α : Type} (l : List α) (p : α → Bool) : (match l.findIdx? (fun x => !p x) with | some _ => false | none => true) = l.all p := by
  cases h : l.findIdx? (fun x => !p x) with
  | none =>
    rw [List.findIdx?_eq_none_iff] at h
    symm
    rw [List.all_eq_true]
    intro x hx
    simpa using h x hx
  | some i =>
    rw [List.findIdx?_eq_some_iff_getElem] at h
    obtain ⟨hi, h1, _⟩ := h
    symm
    rw [← Bool.not_eq_true, List.all_eq_true]
    intro hall
    have := hall _ (List.getElem_mem hi)
    simp [this] at h1
theorem found_iff {α : Type} (l : List α) (p : α → Bool) : iLe 0 (match l.findIdx? (fun x => !p x) with | some i => (i : Int) | none => -1) = !l.all p := by
  rw [← findIdx_all]
  cases l.findIdx? (fun x => !p x) with
  | none => rfl
  | some i => simp [iLe]
theorem isWord_eq (k : Nat) (x : Int) : impl_isWord.f k x = some (decide (0 ≤ x ∧ x ≤ 65535)) := by simp only [impl_isWord.f, within_eq, bnd_one]
theorem indexNotWord1 (l : List Int) (hl : l.length ≤ 4611686018427387904) (k : Nat) (hk : l.length < k) : slices_IndexFunc_int_impl_areWords_1.f k l = some (match l.findIdx? (fun x => !decide (0 ≤ x ∧ x ≤ 65535)) with | some i => (i : Int) | none => -1) := by
  simp only [slices_IndexFunc_int_impl_areWords_1.f, slices_IndexFunc_int_impl_areWords_1.l0]
  refine iter_find (f := fun (rec : (List Int × Int × Int) → Option Int) (x : List Int × Int × Int) => slices_IndexFunc_int_impl_areWords_1.s0 k rec x.1 x.2.1 x.2.2) (fun i => (l, rLen l, (i : Int))) l (fun x => decide (0 ≤ x ∧ x ≤ 65535)) (-1) (fun i => (i : Int)) (fun rec i hi hp => ?_) (fun rec i hi hp => ?_) (fun rec => ?_) hk
  · simp only [slices_IndexFunc_int_impl_areWords_1.s0, impl_areWords_1.f, isWord_eq, getD_lt _ _ hi, iLt_eq, iLe_eq, iEq_eq, iNe_eq, bNot_eq, bEq_eq, bNe_eq, brB_nb, brB_dec, brB_true, brB_false, chk_idx, chk_len, chk_make, chk_sub, bnd_one, rLen_eq, rGet_nat, rSet_nat, rApp_eq, ↓reduceIte]
    rw [if_pos (by omega), if_idx hi, next_id hi hl]
    rw [if_pos (of_decide_eq_true hp)]
  · simp only [slices_IndexFunc_int_impl_areWords_1.s0, impl_areWords_1.f, isWord_eq, getD_lt _ _ hi, iLt_eq, iLe_eq, iEq_eq, iNe_eq, bNot_eq, bEq_eq, bNe_eq, brB_nb, brB_dec, brB_true, brB_false, chk_idx, chk_len, chk_make, chk_sub, bnd_one, rLen_eq, rGet_nat, rSet_nat, rApp_eq, ↓reduceIte]
    rw [if_pos (by omega), if_idx hi]
    rw [if_neg (of_decide_eq_false hp)]
  · simp only [slices_IndexFunc_int_impl_areWords_1.s0, iLt_eq, iLe_eq, iEq_eq, iNe_eq, bNot_eq, bEq_eq, bNe_eq, brB_nb, brB_dec, brB_true, brB_false, chk_idx, chk_len, chk_make, chk_sub, bnd_one, rLen_eq, rGet_nat, rSet_nat, rApp_eq, ↓reduceIte]
    rw [if_neg (by omega)]
theorem areWords_ev (l : List Int) (hl : l.length ≤ 4611686018427387904) (k : Nat) (hk : l.length < k) : impl_areWords.f k l = some (wordsOk l) := by
  simp only [impl_areWords.f, slices_ContainsFunc_int_impl_areWords_1.f, indexNotWord1 l hl k hk, bnd_one, found_iff l (fun x => decide (0 ≤ x ∧ x ≤ 65535)), bNot_eq, Bool.not_not]
  rfl
theorem indexNotWord2 (l : List Int) (hl : l.length ≤ 4611686018427387904) (k : Nat) (hk : l.length < k) : slices_IndexFunc_int_impl_Packet__dataOk_1.f k l = some (match l.findIdx? (fun x => !decide (0 ≤ x ∧ x ≤ 65535)) with | some i => (i : Int) | none => -1) := by
  simp only [slices_IndexFunc_int_impl_Packet__dataOk_1.f, slices_IndexFunc_int_impl_Packet__dataOk_1.l0]
  refine iter_find (f := fun (rec : (List Int × Int × Int) → Option Int) (x : List Int × Int × Int) => slices_IndexFunc_int_impl_Packet__dataOk_1.s0 k rec x.1 x.2.1 x.2.2) (fun i => (l, rLen l, (i : Int))) l (fun x => decide (0 ≤ x ∧ x ≤ 65535)) (-1) (fun i => (i : Int)) (fun rec i hi hp => ?_) (fun rec i hi hp => ?_) (fun rec => ?_) hk
  · simp only [slices_IndexFunc_int_impl_Packet__dataOk_1.s0, impl_Packet__dataOk_1.f, isWord_eq, getD_lt _ _ hi, iLt_eq, iLe_eq, iEq_eq, iNe_eq, bNot_eq, bEq_eq, bNe_eq, brB_nb, brB_dec, brB_true, brB_false, chk_idx, chk_len, chk_make, chk_sub, bnd_one, rLen_eq, rGet_nat, rSet_nat, rApp_eq, ↓reduceIte]
    rw [if_pos (by omega), if_idx hi, next_id hi hl]
    rw [if_pos (of_decide_eq_true hp)]
  · simp only [slices_IndexFunc_int_impl_Packet__dataOk_1.s0, impl_Packet__dataOk_1.f, isWord_eq, getD_lt _ _ hi, iLt_eq, iLe_eq, iEq_eq, iNe_eq, bNot_eq, bEq_eq, bNe_eq, brB_nb, brB_dec, brB_true, brB_false, chk_idx, chk_len, chk_make, chk_sub, bnd_one, rLen_eq, rGet_nat, rSet_nat, rApp_eq, ↓reduceIte]
    rw [if_pos (by omega), if_idx hi]
    rw [if_neg (of_decide_eq_false hp)]
  · simp only [slices_IndexFunc_int_impl_Packet__dataOk_1.s0, iLt_eq, iLe_eq, iEq_eq, iNe_eq, bNot_eq, bEq_eq, bNe_eq, brB_nb, brB_dec, brB_true, brB_false, chk_idx, chk_len, chk_make, chk_sub, bnd_one, rLen_eq, rGet_nat, rSet_nat, rApp_eq, ↓reduceIte]
    rw [if_neg (by omega)]
/-- A gathering is valid. -/
def gatherB (a b c : Int) (l : List Int) (e : Int) : Bool := decide (0 ≤ a ∧ a ≤ 255) && (decide (0 ≤ b ∧ b ≤ 7) && (decide (0 ≤ c ∧ c ≤ 64) && (decide ((l.length : Int) ≤ c) && (wordsOk l && (decide (0 ≤ e ∧ e ≤ 2) && (if e = 1 then decide ((l.length : Int) = c) else true))))))
theorem brB_and {x : Option Bool} {b c : Bool} (h : x = some c) : brB b x (some false) = some (b && c) := by cases b <;> simp [brB, h]
theorem if_and {p : Prop} [Decidable p] {x : Option Bool} {c : Bool} (h : x = some c) : (if p then x else some false) = some (decide p && c) := by by_cases hp : p <;> simp [hp, h]
theorem implGatherOk_ev (a b c : Int) (l : List Int) (e : Int) (hl : l.length ≤ 4611686018427387904) (k : Nat) (hk : l.length < k) : impl_GatherOk.f k a b c l e = some (gatherB a b c l e) := by
  simp only [impl_GatherOk.f, implIsId_eq, within_eq, areWords_ev l hl k hk, iLt_eq, iLe_eq, iEq_eq, iNe_eq, bNot_eq, bEq_eq, bNe_eq, brB_nb, brB_dec, brB_true, brB_false, chk_idx, chk_len, chk_make, chk_sub, bnd_one, rLen_eq, rGet_nat, rSet_nat, rApp_eq, ↓reduceIte]
  refine if_and (if_and (if_and (if_and (brB_and (if_and ?_)))))
  split <;> rfl

/-- A packet is valid: n is how many data it has, w says that they are words. -/
def packP (a0 a1 a2 a3 a4 a5 a6 n : Int) : Prop := (0 ≤ a1 ∧ a1 ≤ 255) ∧ (
  (a0 = 1 ∧ (1 ≤ n ∧ n ≤ 8) ∧ (0 ≤ a3 ∧ a3 ≤ 65536 - n) ∧ a6 = 0 ∧ a2 = 0 ∧ a4 = 0 ∧ a5 = 0) ∨
  (a0 = 2 ∧ (1 ≤ n ∧ n ≤ 8) ∧ a3 = 0 ∧ a6 = 0 ∧ a2 = 0 ∧ a4 = 0 ∧ a5 = 0) ∨
  (a0 = 3 ∧ n = 0 ∧ (1 ≤ a4 ∧ a4 ≤ 64) ∧ (0 ≤ a3 ∧ a3 ≤ 65536 - a4) ∧ (0 ≤ a5 ∧ a5 ≤ 7) ∧ a6 = 0 ∧ a2 = 0) ∨
  (a0 = 4 ∧ n = 0 ∧ (0 ≤ a3 ∧ a3 ≤ 63) ∧ (0 ≤ a2 ∧ a2 ≤ 255) ∧ (0 ≤ a5 ∧ a5 ≤ 7) ∧ a6 = 0 ∧ a4 = 0) ∨
  (a0 = 5 ∧ n = 1 ∧ (0 ≤ a3 ∧ a3 ≤ 63) ∧ (0 ≤ a2 ∧ a2 ≤ 255) ∧ (0 ≤ a5 ∧ a5 ≤ 7) ∧ a6 = 0 ∧ a4 = 0) ∨
  (a0 = 6 ∧ a3 = 0 ∧ (0 ≤ a2 ∧ a2 ≤ 255) ∧ (0 ≤ a5 ∧ a5 ≤ 7) ∧ (0 ≤ a6 ∧ a6 ≤ 2) ∧ (0 ≤ a4 ∧ a4 ≤ 64) ∧ (n = 0 ∨ (a6 = 0 ∧ n ≤ 8 ∧ n ≤ a4))))
instance (a0 a1 a2 a3 a4 a5 a6 n : Int) : Decidable (packP a0 a1 a2 a3 a4 a5 a6 n) := by unfold packP; infer_instance
def packB (a0 a1 a2 a3 a4 a5 a6 : Int) (l : List Int) : Bool := wordsOk l && decide (packP a0 a1 a2 a3 a4 a5 a6 (l.length : Int))
theorem some_iff {b c : Bool} (h : b = true ↔ c = true) : some b = some c := by rw [Bool.eq_iff_iff.2 h]
/-- How many data a packet may have. -/
def dataP (a0 a4 a6 n : Int) : Prop := if a0 = 1 ∨ a0 = 2 then 1 ≤ n ∧ n ≤ 8 else if a0 = 5 then n = 1 else if a0 = 6 ∧ a6 = 0 then n ≤ 8 ∧ n ≤ a4 else n = 0
instance (a0 a4 a6 n : Int) : Decidable (dataP a0 a4 a6 n) := by unfold dataP; infer_instance
theorem dataOk_ev (a0 a1 a2 a3 a4 a5 a6 : Int) (l : List Int) (hl : l.length ≤ 4611686018427387904) (k : Nat) (hk : l.length < k) : impl_Packet__dataOk.f k a0 a1 a2 a3 a4 a5 a6 l = some (wordsOk l && decide (dataP a0 a4 a6 (l.length : Int))) := by
  simp only [impl_Packet__dataOk.f, slices_ContainsFunc_int_impl_Packet__dataOk_1.f, indexNotWord2 l hl k hk, bnd_one, found_iff l (fun x => decide (0 ≤ x ∧ x ≤ 65535)), within_eq]
  rw [show (l.all fun x => decide (0 ≤ x ∧ x ≤ 65535)) = wordsOk l from rfl]
  simp only [iLt_eq, iLe_eq, iEq_eq, iNe_eq, bNot_eq, bEq_eq, bNe_eq, brB_nb, brB_dec, brB_true, brB_false, chk_idx, chk_len, chk_make, chk_sub, bnd_one, rLen_eq, rGet_nat, rSet_nat, rApp_eq, ↓reduceIte]
  cases wordsOk l with
  | false => rfl
  | true =>
    simp only [iLt_eq, iLe_eq, iEq_eq, iNe_eq, bNot_eq, bEq_eq, bNe_eq, brB_nb, brB_dec, brB_true, brB_false, chk_idx, chk_len, chk_make, chk_sub, bnd_one, rLen_eq, rGet_nat, rSet_nat, rApp_eq, ↓reduceIte, Bool.true_and]
    unfold dataP
    by_cases b1 : a0 = 1
    · subst b1; simp only [Int.reduceEq, or_false, false_or, or_true, true_or, iLt_eq, iLe_eq, iEq_eq, iNe_eq, bNot_eq, bEq_eq, bNe_eq, brB_nb, brB_dec, brB_true, brB_false, chk_idx, chk_len, chk_make, chk_sub, bnd_one, rLen_eq, rGet_nat, rSet_nat, rApp_eq, ↓reduceIte]; (try rfl)
    by_cases b2 : a0 = 2
    · subst b2; simp only [Int.reduceEq, or_false, false_or, or_true, true_or, iLt_eq, iLe_eq, iEq_eq, iNe_eq, bNot_eq, bEq_eq, bNe_eq, brB_nb, brB_dec, brB_true, brB_false, chk_idx, chk_len, chk_make, chk_sub, bnd_one, rLen_eq, rGet_nat, rSet_nat, rApp_eq, ↓reduceIte]; (try rfl)
    by_cases b5 : a0 = 5
    · subst b5; simp only [Int.reduceEq, or_false, false_or, or_true, true_or, or_self, iLt_eq, iLe_eq, iEq_eq, iNe_eq, bNot_eq, bEq_eq, bNe_eq, brB_nb, brB_dec, brB_true, brB_false, chk_idx, chk_len, chk_make, chk_sub, bnd_one, rLen_eq, rGet_nat, rSet_nat, rApp_eq, ↓reduceIte]
    by_cases b6 : a0 = 6
    · subst b6; simp only [Int.reduceEq, or_false, false_or, or_true, true_or, or_self, true_and, iLt_eq, iLe_eq, iEq_eq, iNe_eq, bNot_eq, bEq_eq, bNe_eq, brB_nb, brB_dec, brB_true, brB_false, chk_idx, chk_len, chk_make, chk_sub, bnd_one, rLen_eq, rGet_nat, rSet_nat, rApp_eq, ↓reduceIte]; (repeat' split) <;> (refine some_iff ?_ <;> (try simp only [decide_eq_true_eq, Bool.false_eq_true, false_iff, true_iff, Int.reduceEq, false_or, or_false, false_and, true_and, and_true, and_false, true_or, or_true, iff_self, iff_false, iff_true] at *) <;> first | omega | (intro h; omega) | (constructor <;> intro h <;> omega) | trivial)
    simp only [b1, b2, b5, b6, or_self, false_and, iLt_eq, iLe_eq, iEq_eq, iNe_eq, bNot_eq, bEq_eq, bNe_eq, brB_nb, brB_dec, brB_true, brB_false, chk_idx, chk_len, chk_make, chk_sub, bnd_one, rLen_eq, rGet_nat, rSet_nat, rApp_eq, ↓reduceIte]
def addrP (a0 a3 a4 n : Int) : Prop := if a0 = 1 then (0 ≤ a3 ∧ a3 ≤ 65535) ∧ n ≤ 65536 - a3 else if a0 = 3 then (0 ≤ a3 ∧ a3 ≤ 65535) ∧ a4 ≤ 65536 - a3 else if a0 = 4 ∨ a0 = 5 then 0 ≤ a3 ∧ a3 ≤ 63 else a3 = 0
instance (a0 a3 a4 n : Int) : Decidable (addrP a0 a3 a4 n) := by unfold addrP; infer_instance
theorem addressOk_eq (k : Nat) (a0 a1 a2 a3 a4 a5 a6 : Int) (l : List Int) (h3 : (Lit.int .i64 a3).wf = true) : impl_Packet__addressOk.f k a0 a1 a2 a3 a4 a5 a6 l = some (decide (addrP a0 a3 a4 (l.length : Int))) := by
  rw [wf64] at h3
  simp only [impl_Packet__addressOk.f, within_eq, impl_Packet__words.f, iSub_w, w64, iLt_eq, iLe_eq, iEq_eq, iNe_eq, bNot_eq, bEq_eq, bNe_eq, brB_nb, brB_dec, brB_true, brB_false, chk_idx, chk_len, chk_make, chk_sub, bnd_one, rLen_eq, rGet_nat, rSet_nat, rApp_eq, ↓reduceIte]
  generalize (l.length : Int) = n
  unfold addrP
  by_cases b1 : a0 = 1
  · subst b1; simp only [Int.reduceEq, iLt_eq, iLe_eq, iEq_eq, iNe_eq, bNot_eq, bEq_eq, bNe_eq, brB_nb, brB_dec, brB_true, brB_false, chk_idx, chk_len, chk_make, chk_sub, bnd_one, rLen_eq, rGet_nat, rSet_nat, rApp_eq, ↓reduceIte]; (repeat' split) <;> (refine some_iff ?_ <;> (try simp only [decide_eq_true_eq, Bool.false_eq_true, false_iff, true_iff, Int.reduceEq, false_or, or_false, false_and, true_and, and_true, and_false, true_or, or_true, iff_self, iff_false, iff_true] at *) <;> first | omega | (intro h; omega) | (constructor <;> intro h <;> omega) | trivial)
  by_cases b3 : a0 = 3
  · subst b3; simp only [Int.reduceEq, iLt_eq, iLe_eq, iEq_eq, iNe_eq, bNot_eq, bEq_eq, bNe_eq, brB_nb, brB_dec, brB_true, brB_false, chk_idx, chk_len, chk_make, chk_sub, bnd_one, rLen_eq, rGet_nat, rSet_nat, rApp_eq, ↓reduceIte]; (repeat' split) <;> (refine some_iff ?_ <;> (try simp only [decide_eq_true_eq, Bool.false_eq_true, false_iff, true_iff, Int.reduceEq, false_or, or_false, false_and, true_and, and_true, and_false, true_or, or_true, iff_self, iff_false, iff_true] at *) <;> first | omega | (intro h; omega) | (constructor <;> intro h <;> omega) | trivial)
  by_cases b4 : a0 = 4
  · subst b4; simp only [Int.reduceEq, or_false, false_or, or_true, true_or, iLt_eq, iLe_eq, iEq_eq, iNe_eq, bNot_eq, bEq_eq, bNe_eq, brB_nb, brB_dec, brB_true, brB_false, chk_idx, chk_len, chk_make, chk_sub, bnd_one, rLen_eq, rGet_nat, rSet_nat, rApp_eq, ↓reduceIte]
  by_cases b5 : a0 = 5
  · subst b5; simp only [Int.reduceEq, or_false, false_or, or_true, true_or, iLt_eq, iLe_eq, iEq_eq, iNe_eq, bNot_eq, bEq_eq, bNe_eq, brB_nb, brB_dec, brB_true, brB_false, chk_idx, chk_len, chk_make, chk_sub, bnd_one, rLen_eq, rGet_nat, rSet_nat, rApp_eq, ↓reduceIte]
  simp only [b1, b3, b4, b5, or_self, iLt_eq, iLe_eq, iEq_eq, iNe_eq, bNot_eq, bEq_eq, bNe_eq, brB_nb, brB_dec, brB_true, brB_false, chk_idx, chk_len, chk_make, chk_sub, bnd_one, rLen_eq, rGet_nat, rSet_nat, rApp_eq, ↓reduceIte]
def lenP (a0 a4 : Int) : Prop := if a0 = 3 then 1 ≤ a4 ∧ a4 ≤ 64 else if a0 = 6 then 0 ≤ a4 ∧ a4 ≤ 64 else a4 = 0
instance (a0 a4 : Int) : Decidable (lenP a0 a4) := by unfold lenP; infer_instance
theorem lengthOk_eq (k : Nat) (a0 a1 a2 a3 a4 a5 a6 : Int) (l : List Int) : impl_Packet__lengthOk.f k a0 a1 a2 a3 a4 a5 a6 l = some (decide (lenP a0 a4)) := by
  simp only [impl_Packet__lengthOk.f, within_eq, iLt_eq, iLe_eq, iEq_eq, iNe_eq, bNot_eq, bEq_eq, bNe_eq, brB_nb, brB_dec, brB_true, brB_false, chk_idx, chk_len, chk_make, chk_sub, bnd_one, rLen_eq, rGet_nat, rSet_nat, rApp_eq, ↓reduceIte]
  unfold lenP
  (repeat' split) <;> rfl
theorem implIsPacket_ev (a0 a1 a2 a3 a4 a5 a6 : Int) (l : List Int) (hl : l.length ≤ 1048576) (h3 : (Lit.int .i64 a3).wf = true) (h4 : (Lit.int .i64 a4).wf = true) (k : Nat) (hk : l.length < k) : impl_IsPacket.f k a0 a1 a2 a3 a4 a5 a6 l = some (packB a0 a1 a2 a3 a4 a5 a6 l) := by
  by_cases b0 : 1 ≤ a0 ∧ a0 ≤ 6
  · simp only [impl_IsPacket.f, implIsId_eq, within_eq, dataOk_ev a0 a1 a2 a3 a4 a5 a6 l (by omega) k hk, addressOk_eq k a0 a1 a2 a3 a4 a5 a6 l h3, lengthOk_eq, bnd_one, iEq_eq, iNe_eq, brB_nb, bNot_eq, packB]
    rw [decide_eq_true b0]
    generalize wordsOk l = w
    generalize (l.length : Int) = n at *
    have : a0 = 1 ∨ a0 = 2 ∨ a0 = 3 ∨ a0 = 4 ∨ a0 = 5 ∨ a0 = 6 := by omega
    cases w with
    | false =>
      rcases this with rfl | rfl | rfl | rfl | rfl | rfl <;> simp only [Int.reduceEq, Int.reduceLE, decide_true, decide_false, bnd_one, brB_true, brB_false, brB_dec, and_self, and_true, and_false, true_and, false_and, Bool.false_and, ↓reduceIte] <;> (repeat' split) <;> rfl
    | true =>
      rcases this with rfl | rfl | rfl | rfl | rfl | rfl <;> simp only [Int.reduceEq, Int.reduceLE, decide_true, decide_false, bnd_one, brB_true, brB_false, brB_dec, and_self, and_true, and_false, true_and, false_and, Bool.true_and, dataP, packP, addrP, lenP, or_true, true_or, or_false, false_or, ↓reduceIte] <;> (repeat' split) <;> (refine some_iff ?_ <;> (try simp only [decide_eq_true_eq, Bool.false_eq_true, false_iff, true_iff, Int.reduceEq, false_or, or_false, false_and, true_and, and_true, and_false, true_or, or_true, iff_self, iff_false, iff_true] at *) <;> first | omega | (intro h; omega) | (constructor <;> intro h <;> omega) | trivial)
  · simp only [impl_IsPacket.f, within_eq, packB, bnd_one, decide_eq_false b0, bNot_eq, Bool.not_false, brB_true]
    rw [show decide (packP a0 a1 a2 a3 a4 a5 a6 (l.length : Int)) = false from decide_eq_false (by unfold packP; omega), Bool.and_false]
/-- The class of a packet. -/
def classB (p : Bool) (a0 : Int) : Int := if p = true then (if a0 = 1 ∨ a0 = 2 then 0 else if a0 = 6 then 2 else 1) else -1
theorem implClassOf_ev (a0 a1 a2 a3 a4 a5 a6 : Int) (l : List Int) (hl : l.length ≤ 1048576) (h3 : (Lit.int .i64 a3).wf = true) (h4 : (Lit.int .i64 a4).wf = true) (k : Nat) (hk : l.length < k) : impl_ClassOf.f k a0 a1 a2 a3 a4 a5 a6 l = some (classB (packB a0 a1 a2 a3 a4 a5 a6 l) a0) := by
  simp only [impl_ClassOf.f, impl_classOf.f, implIsPacket_ev a0 a1 a2 a3 a4 a5 a6 l hl h3 h4 k hk, classB, iLt_eq, iLe_eq, iEq_eq, iNe_eq, bNot_eq, bEq_eq, bNe_eq, brB_nb, brB_dec, brB_true, brB_false, chk_idx, chk_len, chk_make, chk_sub, bnd_one, rLen_eq, rGet_nat, rSet_nat, rApp_eq, ↓reduceIte]
  cases packB a0 a1 a2 a3 a4 a5 a6 l with
  | false => rfl
  | true =>
    simp only [iLt_eq, iLe_eq, iEq_eq, iNe_eq, bNot_eq, bEq_eq, bNe_eq, brB_nb, brB_dec, brB_true, brB_false, chk_idx, chk_len, chk_make, chk_sub, bnd_one, rLen_eq, rGet_nat, rSet_nat, rApp_eq, ↓reduceIte]
    by_cases b1 : a0 = 1
    · subst b1; rfl
    by_cases b2 : a0 = 2
    · subst b2; rfl
    by_cases b6 : a0 = 6
    · subst b6; rfl
    simp only [b1, b2, b6, or_self, iLt_eq, iLe_eq, iEq_eq, iNe_eq, bNot_eq, bEq_eq, bNe_eq, brB_nb, brB_dec, brB_true, brB_false, chk_idx, chk_len, chk_make, chk_sub, bnd_one, rLen_eq, rGet_nat, rSet_nat, rApp_eq, ↓reduceIte]

theorem rGet_in {α : Type} (d : α) (l : List α) {v : Int} (h : 0 ≤ v) : rGet d l v = l.getD v.toNat d := rfl
def noP : Int × Int × Int × Int × Int × Int × Int × List Int × Bool := (0, 0, 0, 0, 0, 0, 0, [], false)
/-- What the refusal of a packet gives. -/
def refB (c p1 p5 d s : Int) : Int × Int × Int × Int × Int × Int × Int × List Int × Bool := if c = 1 ∧ (0 ≤ d ∧ d ≤ 255) ∧ (1 ≤ s ∧ s ≤ 2) then (6, d, p1, 0, 0, p5, s, [], true) else noP
theorem implRefusal_ev (a0 a1 a2 a3 a4 a5 a6 : Int) (l : List Int) (d s : Int) (hl : l.length ≤ 1048576) (h3 : (Lit.int .i64 a3).wf = true) (h4 : (Lit.int .i64 a4).wf = true) (k : Nat) (hk : l.length < k) : impl_RefusalOf.f k a0 a1 a2 a3 a4 a5 a6 l d s = some (refB (classB (packB a0 a1 a2 a3 a4 a5 a6 l) a0) a1 a5 d s) := by
  simp only [impl_RefusalOf.f, implClassOf_ev a0 a1 a2 a3 a4 a5 a6 l hl h3 h4 k hk, implIsId_eq, iLt_eq, iLe_eq, iEq_eq, iNe_eq, bNot_eq, bEq_eq, bNe_eq, brB_nb, brB_dec, brB_true, brB_false, chk_idx, chk_len, chk_make, chk_sub, bnd_one, rLen_eq, rGet_nat, rSet_nat, rApp_eq, ↓reduceIte]
  generalize classB (packB a0 a1 a2 a3 a4 a5 a6 l) a0 = c
  unfold refB noP
  by_cases c1 : c = 1
  · by_cases c2 : 0 ≤ d ∧ d ≤ 255
    · by_cases c3 : s = 1
      · subst c3; simp [c1, c2]
      · by_cases c4 : s = 2
        · subst c4; simp [c1, c2]
        · rw [if_pos c1, if_pos c2, if_neg c3, if_neg c4, if_neg (by omega)]
    · rw [if_pos c1, if_neg c2, if_neg (fun h => c2 h.2.1)]
  · rw [if_neg c1, if_neg (fun h => c1 h.1)]
theorem iBit_and255 (x : Int) : 0 ≤ iBit .and .i64 x 255 ∧ iBit .and .i64 x 255 ≤ 255 := by
  have h : (BitVec.ofInt IntKind.i64.bits x &&& BitVec.ofInt IntKind.i64.bits 255).toNat ≤ 255 := by
    rw [BitVec.toNat_and]
    refine Nat.le_trans Nat.and_le_right ?_
    decide
  simp only [iBit]
  rw [wrap64, w64_id (by omega) (by omega)]
  omega
noncomputable def lnF (k : Nat) (rec : (List Int × Int × Int) → Option (List Int × Int × Int)) (x : List Int × Int × Int) : Option (List Int × Int × Int) := spec_l01New.s0 k rec x.1 x.2.1 x.2.2
theorem l01New_ev (c : List Int) (k : Nat) (hk : 4000 < k) : ∃ s, spec_l01New.f k c = some (c, 0, s) := by
  suffices H : ∀ (n i : Nat) (x : Int) (K : Nat), i + n = 4000 → n < K → ∃ s, iter (lnF k) K (c, x, (i : Int)) = some (c, 0, s) from H 4000 0 (iAdd .i64 98663 (rLen c)) k (by omega) hk
  intro n
  induction n with
  | zero =>
    intro i x K hi hK
    obtain ⟨m, rfl⟩ : ∃ m, K = m + 1 := ⟨K - 1, by omega⟩
    refine ⟨x, ?_⟩
    show spec_l01New.s0 k (iter (lnF k) m) c x (i : Int) = _
    generalize iter (lnF k) m = rec
    simp only [spec_l01New.s0, iLt_eq, iLe_eq, iEq_eq, iNe_eq, bNot_eq, bEq_eq, bNe_eq, brB_nb, brB_dec, brB_true, brB_false, chk_idx, chk_len, chk_make, chk_sub, bnd_one, rLen_eq, rGet_nat, rSet_nat, rApp_eq, ↓reduceIte]
    by_cases h : (i : Int) < (c.length : Int)
    · rw [if_pos h, if_neg (by omega)]
    · rw [if_neg h]
  | succ n ih =>
    intro i x K hi hK
    obtain ⟨m, rfl⟩ : ∃ m, K = m + 1 := ⟨K - 1, by omega⟩
    by_cases h : (i : Int) < (c.length : Int)
    · obtain ⟨s, hs⟩ := ih (i + 1) (iBit .and .i64 (iAdd .i64 (iAdd .i64 (iMul .i64 x 131) (iCnv .i64 (c.getD i 0))) 7) 1073741823) m (by omega) (by omega)
      refine ⟨s, ?_⟩
      show spec_l01New.s0 k (iter (lnF k) m) c x (i : Int) = _
      generalize iter (lnF k) m = rec at hs ⊢
      simp only [spec_l01New.s0, iLt_eq, iLe_eq, iEq_eq, iNe_eq, bNot_eq, bEq_eq, bNe_eq, brB_nb, brB_dec, brB_true, brB_false, chk_idx, chk_len, chk_make, chk_sub, bnd_one, rLen_eq, rGet_nat, rSet_nat, rApp_eq, ↓reduceIte]
      rw [if_pos h, if_pos (by omega), if_pos (by omega), next_id (n := 4000) (by omega) (by omega), hs]
    · refine ⟨x, ?_⟩
      show spec_l01New.s0 k (iter (lnF k) m) c x (i : Int) = _
      generalize iter (lnF k) m = rec
      simp only [spec_l01New.s0, iLt_eq, iLe_eq, iEq_eq, iNe_eq, bNot_eq, bEq_eq, bNe_eq, brB_nb, brB_dec, brB_true, brB_false, chk_idx, chk_len, chk_make, chk_sub, bnd_one, rLen_eq, rGet_nat, rSet_nat, rApp_eq, ↓reduceIte]
      rw [if_neg h]
theorem l01Byte_some (k : Nat) (c : List Int) (hc : c.length ≤ 2000000) (p s : Int) (hp : 0 ≤ p) : ∃ b p' s', spec_l01Byte.f k c p s = some (b, c, p', s') ∧ 0 ≤ b ∧ b ≤ 255 ∧ 0 ≤ p' := by
  simp only [spec_l01Byte.f, chk_nn, iLt_eq, brB_dec, chk_idx, rLen_eq]
  rw [if_pos (by omega), if_pos (by omega)]
  by_cases h : p < (c.length : Int)
  · rw [if_pos h, if_pos (by omega)]
    exact ⟨_, _, _, rfl, (iBit_and255 _).1, (iBit_and255 _).2, by rw [iAdd_id (by omega) (by omega)]; omega⟩
  · rw [if_neg h]
    exact ⟨_, _, _, rfl, (iBit_and255 _).1, (iBit_and255 _).2, hp⟩
theorem l01Below_some (k : Nat) (c : List Int) (hc : c.length ≤ 2000000) (p s n : Int) (hp : 0 ≤ p) (hn : 0 < n) : ∃ v p' s', spec_l01Below.f k n c p s = some (v, c, p', s') ∧ 0 ≤ v ∧ v < n ∧ 0 ≤ p' := by
  obtain ⟨b1, p1, s1, e1, h1, g1, q1⟩ := l01Byte_some k c hc p s hp
  obtain ⟨b2, p2, s2, e2, h2, g2, q2⟩ := l01Byte_some k c hc p1 s1 q1
  obtain ⟨b3, p3, s3, e3, h3, g3, q3⟩ := l01Byte_some k c hc p2 s2 q2
  obtain ⟨b4, p4, s4, e4, h4, g4, q4⟩ := l01Byte_some k c hc p3 s3 q3
  simp only [spec_l01Below.f, iLe_eq, brB_dec, e1, e2, e3, e4, bnd_one, chk_nz]
  rw [if_neg (by omega)]
  by_cases h : n ≤ 256
  · rw [if_pos h, if_neg (by omega)]
    exact ⟨_, _, _, rfl, Int.tmod_nonneg _ h1, Int.tmod_lt_of_pos _ hn, q1⟩
  · rw [if_neg h, if_neg (by omega)]
    have e : iAdd .i64 (iAdd .i64 (iAdd .i64 (iMul .i64 b1 16777216) (iMul .i64 b2 65536)) (iMul .i64 b3 256)) b4 = b1 * 16777216 + b2 * 65536 + b3 * 256 + b4 := by
      simp only [iAdd_w, iMul_w, w64]; omega
    rw [e]
    exact ⟨_, _, _, rfl, Int.tmod_nonneg _ (by omega), Int.tmod_lt_of_pos _ hn, q4⟩
theorem l01PickInt_some (k : Nat) (l c : List Int) (hc : c.length ≤ 2000000) (p s : Int) (hp : 0 ≤ p) (hl : 0 < l.length) : ∃ v p' s', spec_l01PickInt.f k l c p s = some (v, c, p', s') ∧ v ∈ l ∧ 0 ≤ p' := by
  obtain ⟨v, p1, s1, e1, h1, g1, q1⟩ := l01Below_some k c hc p s (l.length : Int) hp (by omega)
  simp only [spec_l01PickInt.f, rLen_eq, e1, bnd_one, chk_idx]
  rw [if_pos ⟨h1, g1⟩, rGet_in _ _ h1, getD_lt 0 l (by omega)]
  exact ⟨_, _, _, rfl, List.getElem_mem _, q1⟩
noncomputable def dpF (k : Nat) (rec : (List Int × Int × List Int × Int × Int) → Option (List Int)) (x : List Int × Int × List Int × Int × Int) : Option (List Int) := spec_DrawPlaces.s0 k rec x.1 x.2.1 x.2.2.1 x.2.2.2.1 x.2.2.2.2
/-- Twelve places. -/
theorem drawPlaces_ev (c : List Int) (hc : c.length ≤ 2000000) (k : Nat) (hk : 4000 < k) : ∃ l : List Int, spec_DrawPlaces.f k c = some l ∧ l.length = 12 ∧ ∀ x ∈ l, 0 ≤ x ∧ x < 10000 := by
  obtain ⟨s0, h0⟩ := l01New_ev c k hk
  suffices H : ∀ (n i : Nat) (x : List Int) (p s : Int) (K : Nat), i + n = 12 → n < K → x.length = i → 0 ≤ p → (∀ y ∈ x, 0 ≤ y ∧ y < 10000) → ∃ l : List Int, iter (dpF k) K (x, (i : Int), c, p, s) = some l ∧ l.length = 12 ∧ ∀ x ∈ l, 0 ≤ x ∧ x < 10000 by
    obtain ⟨l, h, hl⟩ := H 12 0 [] 0 s0 k (by omega) (by omega) rfl (by omega) (fun y hy => by cases hy)
    refine ⟨l, ?_, hl⟩
    simp only [spec_DrawPlaces.f, h0, bnd_one]
    exact h
  intro n
  induction n with
  | zero =>
    intro i x p s K hi hK hx hp hxs
    obtain ⟨m, rfl⟩ : ∃ m, K = m + 1 := ⟨K - 1, by omega⟩
    refine ⟨x, ?_, by omega, hxs⟩
    show spec_DrawPlaces.s0 k (iter (dpF k) m) x (i : Int) c p s = _
    generalize iter (dpF k) m = rec
    simp only [spec_DrawPlaces.s0, iLt_eq, brB_dec]
    rw [if_neg (by omega)]
  | succ n ih =>
    intro i x p s K hi hK hx hp hxs
    obtain ⟨m, rfl⟩ : ∃ m, K = m + 1 := ⟨K - 1, by omega⟩
    obtain ⟨v, p1, s1, e1, h1, g1, q1⟩ := l01Below_some k c hc p s 10000 hp (by omega)
    obtain ⟨l, h, hl⟩ := ih (i + 1) (x ++ [v]) p1 s1 m (by omega) (by omega) (by simp [hx]) q1 (fun y hy => by
      rcases List.mem_append.1 hy with hy | hy
      · exact hxs y hy
      · simp at hy; subst hy; exact ⟨h1, g1⟩)
    refine ⟨l, ?_, hl⟩
    show spec_DrawPlaces.s0 k (iter (dpF k) m) x (i : Int) c p s = _
    generalize iter (dpF k) m = rec at h ⊢
    simp only [spec_DrawPlaces.s0, iLt_eq, brB_dec, e1, bnd_one, chk_len, rLen_eq, rApp_eq]
    rw [if_pos (by omega), if_pos (by simp only [List.length_append, List.length_cons, List.length_nil]; omega), next_id (n := 12) (by omega) (by omega), h]
theorem sameInts_refl (xs : List Int) (hn : xs.length ≤ 4611686018427387904) (k : Nat) (hk : xs.length < k) : laws_sameInts.f k xs xs = some true := by
  simp only [laws_sameInts.f, laws_sameInts.l0, iLt_eq, iLe_eq, iEq_eq, iNe_eq, bNot_eq, bEq_eq, bNe_eq, brB_nb, brB_dec, brB_true, brB_false, chk_idx, chk_len, chk_make, chk_sub, bnd_one, rLen_eq, rGet_nat, rSet_nat, rApp_eq, ↓reduceIte]
  refine iter_upto (f := fun (rec : (List Int × List Int × Int) → Option Bool) (x : List Int × List Int × Int) => laws_sameInts.s0 k rec x.1 x.2.1 x.2.2) (fun i => (xs, xs, (i : Int))) xs.length (fun rec i hi => ?_) (fun rec => ?_) hk
  · simp only [laws_sameInts.s0, iLt_eq, iLe_eq, iEq_eq, iNe_eq, bNot_eq, bEq_eq, bNe_eq, brB_nb, brB_dec, brB_true, brB_false, chk_idx, chk_len, chk_make, chk_sub, bnd_one, rLen_eq, rGet_nat, rSet_nat, rApp_eq, ↓reduceIte]
    rw [if_pos (by omega), if_idx hi, if_idx hi, next_id hi hn]
  · simp only [laws_sameInts.s0, iLt_eq, iLe_eq, iEq_eq, iNe_eq, bNot_eq, bEq_eq, bNe_eq, brB_nb, brB_dec, brB_true, brB_false, chk_idx, chk_len, chk_make, chk_sub, bnd_one, rLen_eq, rGet_nat, rSet_nat, rApp_eq, ↓reduceIte]
    rw [if_neg (by omega)]

/-- It gives something that is so. -/
def Yd {R : Type} (x : Option R) (Q : R → Prop) : Prop := ∃ r, x = some r ∧ Q r
theorem Yd.one {R : Type} {r : R} {Q : R → Prop} (h : Q r) : Yd (some r) Q := ⟨r, rfl, h⟩
theorem Yd.bnd {A R : Type} {x : Option A} {f : A → Option R} {P : A → Prop} {Q : R → Prop} (h : Yd x P) (hf : ∀ a, P a → Yd (f a) Q) : Yd (bnd x f) Q := by
  obtain ⟨a, e, ha⟩ := h
  subst e
  exact hf a ha
theorem Yd.br {R : Type} {b : Bool} {x y : Option R} {Q : R → Prop} (hx : b = true → Yd x Q) (hy : b = false → Yd y Q) : Yd (brB b x y) Q := by
  cases b with
  | true => exact hx rfl
  | false => exact hy rfl
theorem Yd.eq {R : Type} {a b : Int} {x y : Option R} {Q : R → Prop} (hx : a = b → Yd x Q) (hy : ¬ a = b → Yd y Q) : Yd (brB (iEq a b) x y) Q := by
  rw [iEq_eq, brB_dec]; split
  · exact hx ‹_›
  · exact hy ‹_›
theorem Yd.lt {R : Type} {a b : Int} {x y : Option R} {Q : R → Prop} (hx : a < b → Yd x Q) (hy : ¬ a < b → Yd y Q) : Yd (brB (iLt a b) x y) Q := by
  rw [iLt_eq, brB_dec]; split
  · exact hx ‹_›
  · exact hy ‹_›
theorem Yd.imp {R : Type} {x : Option R} {P Q : R → Prop} (h : Yd x P) (hi : ∀ r, P r → Q r) : Yd x Q := by
  obtain ⟨r, e, hr⟩ := h
  exact ⟨r, e, hi r hr⟩
theorem Yd.len {R : Type} {n b : Int} {x : Option R} {Q : R → Prop} (h : n * b ≤ 35184372088832) (hx : Yd x Q) : Yd (chk (cLen n b) x) Q := by rw [chk_len, if_pos h]; exact hx
theorem Yd.idx {R : Type} {i n : Int} {x : Option R} {Q : R → Prop} (h : 0 ≤ i ∧ i < n) (hx : Yd x Q) : Yd (chk (cIdx i n) x) Q := by rw [chk_idx, if_pos h]; exact hx
theorem below_bnd {R : Type} {k : Nat} {c : List Int} {p s n : Int} {f : Int × List Int × Int × Int → Option R} {Q : R → Prop} (hc : c.length ≤ 2000000) (hp : 0 ≤ p) (hn : 0 < n)
    (h : ∀ v p' s', 0 ≤ v → v < n → 0 ≤ p' → Yd (f (v, c, p', s')) Q) : Yd (bnd (spec_l01Below.f k n c p s) f) Q := by
  obtain ⟨v, p1, s1, e1, h1, g1, q1⟩ := l01Below_some k c hc p s n hp hn
  rw [e1]
  exact h v p1 s1 h1 g1 q1
theorem pick_bnd {R : Type} {k : Nat} {l c : List Int} {p s : Int} {f : Int × List Int × Int × Int → Option R} {Q : R → Prop} (hc : c.length ≤ 2000000) (hp : 0 ≤ p) (hl : 0 < l.length)
    (h : ∀ v p' s', v ∈ l → 0 ≤ p' → Yd (f (v, c, p', s')) Q) : Yd (bnd (spec_l01PickInt.f k l c p s) f) Q := by
  obtain ⟨v, p1, s1, e1, m1, q1⟩ := l01PickInt_some k l c hc p s hp hl
  rw [e1]
  exact h v p1 s1 m1 q1
/-- A loop that makes something of its state in at most N rounds. -/
theorem iter_yd {X R : Type} {f : (X → Option R) → X → Option R} {I : Nat → X → Prop} {Q : R → Prop} (N : Nat)
    (step : ∀ rec i x, i ≤ N → I i x → (∀ x', i < N → I (i + 1) x' → ∃ r, rec x' = some r ∧ Q r) → ∃ r, f rec x = some r ∧ Q r) {n : Nat} (hn : N < n) {x : X} (hx : I 0 x) : ∃ r, iter f n x = some r ∧ Q r := by
  suffices H : ∀ d i n x, i + d = N → d < n → I i x → ∃ r, iter f n x = some r ∧ Q r from H N 0 n x (by omega) hn hx
  intro d
  induction d with
  | zero =>
    intro i n x hi hn hx
    obtain ⟨m, rfl⟩ : ∃ m, n = m + 1 := ⟨n - 1, by omega⟩
    exact step _ i x (by omega) hx fun x' h => by omega
  | succ d ih =>
    intro i n x hi hn hx
    obtain ⟨m, rfl⟩ : ∃ m, n = m + 1 := ⟨n - 1, by omega⟩
    exact step _ i x (by omega) hx fun x' _ hx' => ih (i + 1) m x' (by omega) (by omega) hx'
theorem l04Data_yd (k : Nat) (n : Nat) (hn : n ≤ 1000) (hk : 4000 < k) (c : List Int) (hc : c.length ≤ 2000000) (p s : Int) (hp : 0 ≤ p) : Yd (spec_l04Data.f k (n : Int) c p s) fun r => r.2.1 = c ∧ 0 ≤ r.2.2.1 ∧ r.1.length = n ∧ wordsOk r.1 = true := by
  refine iter_yd (f := fun (rec : (Int × List Int × Int × List Int × Int × Int) → Option (List Int × List Int × Int × Int)) (x : Int × List Int × Int × List Int × Int × Int) => spec_l04Data.s0 k rec x.1 x.2.1 x.2.2.1 x.2.2.2.1 x.2.2.2.2.1 x.2.2.2.2.2)
    (I := fun i x => x.1 = (n : Int) ∧ x.2.1.length = i ∧ wordsOk x.2.1 = true ∧ x.2.2.1 = (i : Int) ∧ x.2.2.2.1 = c ∧ 0 ≤ x.2.2.2.2.1) (Q := fun r : List Int × List Int × Int × Int => r.2.1 = c ∧ 0 ≤ r.2.2.1 ∧ r.1.length = n ∧ wordsOk r.1 = true) n (fun rec i x hi hx hr => ?_) (by omega) ⟨rfl, rfl, rfl, rfl, rfl, hp⟩
  obtain ⟨n', l, j, c', p', s'⟩ := x
  obtain ⟨hn', hl, hw, hj, hc', hp'⟩ := hx
  simp only at hn' hl hw hj hc' hp'
  subst hn' hj hc'
  show Yd (spec_l04Data.s0 k rec (n : Int) l (i : Int) c' p' s') _
  unfold spec_l04Data.s0
  refine Yd.lt (fun h => ?_) fun h => Yd.one ⟨rfl, hp', by show l.length = n; have := hr; omega, hw⟩
  refine below_bnd hc hp' (by omega) fun y0 p1 s1 g0 g1 q1 => ?_
  dsimp only
  refine below_bnd hc q1 (by omega) fun y1 p2 s2 g2 g3 q2 => ?_
  dsimp only
  refine pick_bnd hc q2 (by simp) fun v p3 s3 g4 q3 => ?_
  dsimp only
  simp only [rApp_eq, rLen_eq, List.length_append, List.length_cons, List.length_nil, hl]
  refine Yd.len (by omega) ?_
  rw [next_id (i := i) (n := n) (by omega) (by omega)]
  refine hr _ (by omega) ⟨rfl, by simp [hl], ?_, rfl, rfl, q3⟩
  simp only [wordsOk, List.all_append, List.all_cons, List.all_nil, Bool.and_true, Bool.and_eq_true, decide_eq_true_eq] at hw ⊢
  refine ⟨hw, ?_⟩
  simp only [List.mem_cons, List.not_mem_nil, or_false] at g4
  omega
/-- What the taking of an answer gives. -/
def takeB (bad : Bool) (g0 g1 g2 : Int) (gl : List Int) (g4 p4 p6 : Int) (pl : List Int) : Int × Int × Int × List Int × Int × Bool :=
  if bad = true then (g0, g1, g2, gl, g4, false) else if p6 = 0 then (if p4 = w64 (g2 - (gl.length : Int)) then (if ((gl ++ pl).length : Int) = g2 then (g0, g1, g2, gl ++ pl, 1, true) else (g0, g1, g2, gl ++ pl, g4, true)) else (g0, g1, g2, gl, g4, false)) else (g0, g1, g2, gl, 2, true)
theorem takeB_len (bad : Bool) (g0 g1 g2 : Int) (gl : List Int) (g4 p4 p6 : Int) (pl : List Int) : (takeB bad g0 g1 g2 gl g4 p4 p6 pl).2.2.2.1.length ≤ gl.length + pl.length := by
  unfold takeB; (repeat' split) <;> simp
/-- An answer that is not for this gathering. -/
def badB (g0 g1 g2 : Int) (gl : List Int) (g4 p0 p1 p2 p3 p4 p5 p6 : Int) (pl : List Int) : Bool := !(gatherB g0 g1 g2 gl g4 && (packB p0 p1 p2 p3 p4 p5 p6 pl && decide (g4 = 0 ∧ p0 = 6 ∧ p2 = g0 ∧ p5 = g1)))
theorem implTake_ev (g0 g1 g2 : Int) (gl : List Int) (g4 p0 p1 p2 p3 p4 p5 p6 : Int) (pl : List Int) (hg : gl.length ≤ 1048576) (hp : pl.length ≤ 1048576) (h3 : (Lit.int .i64 p3).wf = true) (h4 : (Lit.int .i64 p4).wf = true) (k : Nat) (hk : gl.length + pl.length < k) :
    impl_TakeAnswer.f k g0 g1 g2 gl g4 p0 p1 p2 p3 p4 p5 p6 pl = some (takeB (badB g0 g1 g2 gl g4 p0 p1 p2 p3 p4 p5 p6 pl) g0 g1 g2 gl g4 p4 p6 pl) := by
  simp only [impl_TakeAnswer.f, impl_copyGather.f, slices_Clone_int.f, implGatherOk_ev _ _ _ gl _ (by omega) k (by omega), implIsPacket_ev _ _ _ _ _ _ _ pl hp h3 h4 k (by omega), badB, iSub_w, iLt_eq, iLe_eq, iEq_eq, iNe_eq, bNot_eq, bEq_eq, bNe_eq, brB_nb, brB_dec, brB_true, brB_false, chk_idx, chk_len, chk_make, chk_sub, bnd_one, rLen_eq, rGet_nat, rSet_nat, rApp_eq, ↓reduceIte]
  rw [if_pos (by omega)]
  have hlen : ((gl ++ pl).length : Int) * 8 ≤ 35184372088832 := by rw [List.length_append]; omega
  simp only [bnd_one, hlen, if_true]
  cases gatherB g0 g1 g2 gl g4 with
  | false => rfl
  | true =>
    cases packB p0 p1 p2 p3 p4 p5 p6 pl with
    | false => rfl
    | true =>
      simp only [takeB, brB_true, Bool.true_and, Bool.not_eq_true', decide_eq_false_iff_not]
      by_cases c1 : g4 = 0 <;> by_cases c2 : p0 = 6 <;> by_cases c3 : p2 = g0 <;> by_cases c4 : p5 = g1 <;> simp only [c1, c2, c3, c4, and_self, and_true, true_and, and_false, false_and, not_true_eq_false, not_false_eq_true, ↓reduceIte] <;> (repeat' split) <;> rfl
/-- What a gathering begins as. -/
def newB (c a0 a1 a4 a5 : Int) : Int × Int × Int × List Int × Int × Bool := if c = 1 then (a1, a5, if a0 = 4 then 1 else a4, ([] : List Int), 0, true) else (0, 0, 0, ([] : List Int), 0, false)
theorem class_one (a0 a1 a2 a3 a4 a5 a6 : Int) (l : List Int) (h : classB (packB a0 a1 a2 a3 a4 a5 a6 l) a0 = 1) : a0 = 3 ∨ a0 = 4 ∨ (a0 = 5 ∧ a4 = 0) := by
  have hp : packB a0 a1 a2 a3 a4 a5 a6 l = true := by
    cases hq : packB a0 a1 a2 a3 a4 a5 a6 l with
    | true => rfl
    | false => rw [hq] at h; simp [classB] at h
  rw [hp] at h
  simp only [packB, Bool.and_eq_true, decide_eq_true_eq] at hp
  replace hp := hp.2
  unfold packP at hp
  simp only [classB, if_pos] at h
  split at h
  · omega
  · split at h <;> omega
theorem implNew_ev (a0 a1 a2 a3 a4 a5 a6 : Int) (l : List Int) (hl : l.length ≤ 1048576) (h3 : (Lit.int .i64 a3).wf = true) (h4 : (Lit.int .i64 a4).wf = true) (k : Nat) (hk : l.length < k) : impl_NewGather.f k a0 a1 a2 a3 a4 a5 a6 l = some (newB (classB (packB a0 a1 a2 a3 a4 a5 a6 l) a0) a0 a1 a4 a5) := by
  have h1 := class_one a0 a1 a2 a3 a4 a5 a6 l
  simp only [impl_NewGather.f, implClassOf_ev a0 a1 a2 a3 a4 a5 a6 l hl h3 h4 k hk, impl_wanted.f, newB, iLt_eq, iLe_eq, iEq_eq, iNe_eq, bNot_eq, bEq_eq, bNe_eq, brB_nb, brB_dec, brB_true, brB_false, chk_idx, chk_len, chk_make, chk_sub, bnd_one, rLen_eq, rGet_nat, rSet_nat, rApp_eq, ↓reduceIte]
  by_cases c : classB (packB a0 a1 a2 a3 a4 a5 a6 l) a0 = 1
  · rw [if_pos c, if_pos c]
    rcases h1 c with h | h | ⟨h, h'⟩
    · subst h; rfl
    · subst h; rfl
    · subst h h'; rfl
  · rw [if_neg c, if_neg c]

/-- How long the next piece is. -/
def mOf (pay a : Int) (n : Nat) : Nat := (iMin (pay - a.tmod pay) (n : Int)).toNat
theorem mOf_ok {pay a : Int} {n : Nat} (hp : 1 ≤ pay ∧ pay ≤ 8) (ha : 0 ≤ a) (hn : 0 < n) : 1 ≤ mOf pay a n ∧ mOf pay a n ≤ n ∧ mOf pay a n ≤ 8 ∧ iMin (pay - a.tmod pay) (n : Int) = (mOf pay a n : Int) := by
  have h0 := Int.tmod_nonneg pay ha
  have h1 := Int.tmod_lt_of_pos a (show 0 < pay by omega)
  unfold mOf iMin
  split <;> omega
/-- The pieces of a range. -/
def pcsL (pay : Int) : Nat → Int → Nat → List (Int × Int)
  | 0, _, _ => []
  | f + 1, a, n => if n = 0 then [] else (a, (mOf pay a n : Int)) :: pcsL pay f (a + mOf pay a n) (n - mOf pay a n)
theorem pcsL_len (pay : Int) : ∀ (f : Nat) (a : Int) (n : Nat), (pcsL pay f a n).length ≤ f
  | 0, _, _ => Nat.le_refl _
  | f + 1, a, n => by
    simp only [pcsL]
    split
    · simp
    · have := pcsL_len pay f (a + mOf pay a n) (n - mOf pay a n)
      simp only [List.length_cons]; omega
noncomputable def srF (k : Nat) (rec : (Int × Int × Int × (List (Int × Int))) → Option (List (Int × Int))) (x : Int × Int × Int × (List (Int × Int))) : Option (List (Int × Int)) := impl_SplitRange.s0 k rec x.1 x.2.1 x.2.2.1 x.2.2.2
theorem splitLoop (k : Nat) (pay : Int) (hp : 1 ≤ pay ∧ pay ≤ 8) : ∀ (f : Nat) (a : Int) (n : Nat) (out : List (Int × Int)) (K : Nat), n ≤ f → f < K → 0 ≤ a → a + n ≤ 65536 → out.length + n ≤ 100 → iter (srF k) K (a, (n : Int), pay, out) = some (out ++ pcsL pay f a n)
  | f, a, n, out, 0, _, hK, _, _, _ => by omega
  | 0, a, n, out, K + 1, hn, hK, h0, h1, h2 => by
    obtain rfl : n = 0 := by omega
    show impl_SplitRange.s0 k (iter (srF k) K) a ((0 : Nat) : Int) pay out = _
    generalize iter (srF k) K = rec
    simp only [impl_SplitRange.s0, iLt_eq, brB_dec, pcsL, List.append_nil]
    rw [if_neg (by omega)]
  | f + 1, a, n, out, K + 1, hn, hK, h0, h1, h2 => by
    show impl_SplitRange.s0 k (iter (srF k) K) a (n : Int) pay out = _
    by_cases hz : n = 0
    · subst hz
      generalize iter (srF k) K = rec
      simp only [impl_SplitRange.s0, iLt_eq, brB_dec, pcsL, ↓reduceIte, List.append_nil]
      rw [if_neg (by omega)]
    · obtain ⟨m1, m2, m3, m4⟩ := mOf_ok (a := a) hp h0 (Nat.pos_of_ne_zero hz)
      have t0 := Int.tmod_nonneg pay h0
      have t1 := Int.tmod_lt_of_pos a (show 0 < pay by omega)
      have ih := splitLoop k pay hp f (a + mOf pay a n) (n - mOf pay a n) (out ++ [(a, (mOf pay a n : Int))]) K (by omega) (by omega) (by omega) (by omega) (by simp only [List.length_append, List.length_cons, List.length_nil]; omega)
      simp only [impl_SplitRange.s0, iLt_eq, brB_dec, chk_nz, chk_len, rLen_eq, rApp_eq, pcsL, if_neg hz]
      rw [if_pos (by omega), if_neg (by omega), show iRem a pay = a.tmod pay from rfl, iSub_id (a := pay) (by omega) (by omega), m4, if_pos (by simp only [List.length_append, List.length_cons, List.length_nil]; omega), iAdd_id (by omega) (by omega), iSub_id (by omega) (by omega),
        show (n : Int) - (mOf pay a n : Int) = ((n - mOf pay a n : Nat) : Int) by omega, ih]
      simp
theorem isPayload_eq (k : Nat) (n : Int) : impl_IsPayload.f k n = some (decide (n = 1 ∨ n = 2 ∨ n = 4 ∨ n = 8)) := by
  simp only [impl_IsPayload.f, iLt_eq, iLe_eq, iEq_eq, iNe_eq, bNot_eq, bEq_eq, bNe_eq, brB_nb, brB_dec, brB_true, brB_false, chk_idx, chk_len, chk_make, chk_sub, bnd_one, rLen_eq, rGet_nat, rSet_nat, rApp_eq, ↓reduceIte]
  by_cases h1 : n = 1
  · subst h1; rfl
  by_cases h2 : n = 2
  · subst h2; rfl
  by_cases h3 : n = 4
  · subst h3; rfl
  simp [h1, h2, h3]
theorem splitRange_ev (a : Int) (n : Nat) (pay : Int) (hp : pay = 1 ∨ pay = 2 ∨ pay = 4 ∨ pay = 8) (h0 : 0 ≤ a) (h1 : a + n ≤ 65536) (hn : 1 ≤ n ∧ n ≤ 64) (k : Nat) (hk : 100 < k) : impl_SplitRange.f k a (n : Int) pay = some (pcsL pay n a n) := by
  have h := splitLoop k pay (by omega) n a n [] k (by omega) (by omega) h0 h1 (by simp; omega)
  simp only [impl_SplitRange.f, isPayload_eq, within_eq, bnd_one, decide_eq_true hp, bNot_eq, brB_nb, brB_true]
  rw [iSub_id (by omega) (by omega), decide_eq_true (show 1 ≤ (n : Int) ∧ (n : Int) ≤ 64 by omega), decide_eq_true (show 0 ≤ a ∧ a ≤ 65536 - (n : Int) by omega)]
  exact h
/-- The answer of one piece. -/
def ansP (from_ by_ tag a0 : Int) (d : List Int) (p : Int × Int) : Int × Int × Int × Int × Int × Int × Int × List Int :=
  (6, by_, from_, 0, (d.length : Int) - (p.1 - a0), tag, 0, (d.take (p.1 - a0 + p.2).toNat).drop (p.1 - a0).toNat)
/-- The answers to a read, as their rest is worked off. -/
def ansL (pay from_ by_ tag : Int) : Nat → Int → List Int → List (Int × Int × Int × Int × Int × Int × Int × List Int)
  | 0, _, _ => []
  | f + 1, a, d => if d.length = 0 then [] else (6, by_, from_, 0, (d.length : Int), tag, 0, d.take (mOf pay a d.length)) :: ansL pay from_ by_ tag f (a + mOf pay a d.length) (d.drop (mOf pay a d.length))
theorem ans_map (pay from_ by_ tag a0 : Int) (hp : 1 ≤ pay ∧ pay ≤ 8) (h0 : 0 ≤ a0) (d : List Int) : ∀ (f o : Nat), o ≤ d.length → (pcsL pay f (a0 + o) (d.length - o)).map (ansP from_ by_ tag a0 d) = ansL pay from_ by_ tag f (a0 + o) (d.drop o)
  | 0, o, _ => rfl
  | f + 1, o, ho => by
    simp only [pcsL, ansL, List.length_drop]
    by_cases hz : d.length - o = 0
    · rw [if_pos hz, if_pos hz]; rfl
    · rw [if_neg hz, if_neg hz]
      obtain ⟨m1, m2, m3, m4⟩ := mOf_ok (a := a0 + o) hp (by omega) (Nat.pos_of_ne_zero hz)
      generalize mOf pay (a0 + o) (d.length - o) = m at *
      have ih := ans_map pay from_ by_ tag a0 hp h0 d f (o + m) (by omega)
      rw [show a0 + (o : Int) + (m : Int) = a0 + ((o + m : Nat) : Int) by omega, show d.length - o - m = d.length - (o + m) by omega, List.map_cons, ih, List.drop_drop]
      congr 1
      simp only [ansP]
      rw [show a0 + (o : Int) - a0 = (o : Int) by omega, show ((o : Int) + (m : Int)).toNat = o + m by omega, Int.toNat_natCast, show (d.length : Int) - (o : Int) = ((d.length - o : Nat) : Int) by omega]
      congr 7
      rw [List.drop_take, show o + m - o = m by omega]
theorem pcs_in (pay a0 : Int) (hp : 1 ≤ pay ∧ pay ≤ 8) (h0 : 0 ≤ a0) (n : Nat) : ∀ (f o : Nat), o ≤ n → ∀ p ∈ pcsL pay f (a0 + o) (n - o), 0 ≤ p.1 - a0 ∧ 0 ≤ p.2 ∧ p.1 - a0 + p.2 ≤ n
  | 0, o, _, p, hm => by simp [pcsL] at hm
  | f + 1, o, ho, p, hm => by
    simp only [pcsL] at hm
    split at hm
    · simp at hm
    · rename_i hz
      obtain ⟨m1, m2, m3, m4⟩ := mOf_ok (a := a0 + o) hp (by omega) (Nat.pos_of_ne_zero hz)
      generalize mOf pay (a0 + o) (n - o) = m at *
      rcases List.mem_cons.1 hm with rfl | hm
      · exact ⟨by show 0 ≤ a0 + (o : Int) - a0; omega, by show (0 : Int) ≤ m; omega, by show a0 + (o : Int) - a0 + (m : Int) ≤ n; omega⟩
      · rw [show a0 + (o : Int) + (m : Int) = a0 + ((o + m : Nat) : Int) by omega, show n - o - m = n - (o + m) by omega] at hm
        exact pcs_in pay a0 hp h0 n f (o + m) (by omega) p hm
/-- The answers to a valid read. -/
theorem answersTo_ev (p1 p3 p5 by_ pay : Int) (d : List Int) (hd : 1 ≤ d.length ∧ d.length ≤ 64) (hw : wordsOk d = true) (h1 : 0 ≤ p1 ∧ p1 ≤ 255) (h3 : 0 ≤ p3) (h4 : p3 + d.length ≤ 65536) (h5 : 0 ≤ p5 ∧ p5 ≤ 7) (hb : 0 ≤ by_ ∧ by_ ≤ 255) (hp : pay = 1 ∨ pay = 2 ∨ pay = 4 ∨ pay = 8) (k : Nat) (hk : 200 < k) :
    impl_AnswersTo.f k 3 p1 0 p3 (d.length : Int) p5 0 [] by_ d pay = some (ansL pay p1 by_ p5 d.length p3 d) := by
  have hpk : packB 3 p1 0 p3 (d.length : Int) p5 0 [] = true := by
    simp only [packB, wordsOk, List.all_nil, Bool.true_and, decide_eq_true_eq]
    exact ⟨h1, .inr (.inr (.inl ⟨rfl, rfl, by omega, by omega, h5, rfl, rfl⟩))⟩
  have hm := ans_map pay p1 by_ p5 p3 (by omega) h3 d d.length 0 (by omega)
  have hi := pcs_in pay p3 (by omega) h3 d.length d.length 0 (by omega)
  simp only [Nat.sub_zero, List.drop_zero, show p3 + ((0 : Nat) : Int) = p3 by omega] at hm hi
  simp only [impl_AnswersTo.f, implIsPacket_ev 3 p1 0 p3 (d.length : Int) p5 0 [] (by simp) (by rw [wf64]; omega) (by rw [wf64]; omega) k (by simp; omega), hpk, implIsId_eq, areWords_ev d (by omega) k (by omega), hw, isPayload_eq, decide_eq_true hp, decide_eq_true hb, splitRange_ev p3 d.length pay hp h3 h4 hd k (by omega),
    bnd_one, bNot_eq, brB_nb, brB_true, rLen_eq, iNe_eq, decide_true, brB_true]
  have hl := pcsL_len pay d.length p3 d.length
  generalize pcsL pay d.length p3 d.length = pl at *
  rw [← hm]
  have h := iter_upto (f := fun (rec : (Int × List Int × (List (Int × Int × Int × Int × Int × Int × Int × List Int)) × (List (Int × Int)) × Int × Int × Int × Int × Int × Int × Int × Int × Int × List Int) → Option (List (Int × Int × Int × Int × Int × Int × Int × List Int))) (x : Int × List Int × (List (Int × Int × Int × Int × Int × Int × Int × List Int)) × (List (Int × Int)) × Int × Int × Int × Int × Int × Int × Int × Int × Int × List Int) => impl_AnswersTo.s0 k rec x.1 x.2.1 x.2.2.1 x.2.2.2.1 x.2.2.2.2.1 x.2.2.2.2.2.1 x.2.2.2.2.2.2.1 x.2.2.2.2.2.2.2.1 x.2.2.2.2.2.2.2.2.1 x.2.2.2.2.2.2.2.2.2.1 x.2.2.2.2.2.2.2.2.2.2.1 x.2.2.2.2.2.2.2.2.2.2.2.1 x.2.2.2.2.2.2.2.2.2.2.2.2.1 x.2.2.2.2.2.2.2.2.2.2.2.2.2)
    (fun i => (by_, d, (pl.take i).map (ansP p1 by_ p5 p3 d), pl, (pl.length : Int), (i : Int), 3, p1, 0, p3, (d.length : Int), p5, 0, [])) pl.length (r := pl.map (ansP p1 by_ p5 p3 d)) (fun rec i hj => ?_) (fun rec => ?_) (n := k) (by omega)
  · exact h
  · obtain ⟨q1, q2, q3⟩ := hi pl[i] (List.getElem_mem hj)
    have e : rGet (0, 0) pl (i : Int) = pl[i] := getD_lt _ _ hj
    have et : (pl.take (i + 1)).map (ansP p1 by_ p5 p3 d) = (pl.take i).map (ansP p1 by_ p5 p3 d) ++ [ansP p1 by_ p5 p3 d pl[i]] := by rw [List.take_succ_eq_append_getElem hj, List.map_append]; rfl
    have lt : ((pl.take i).map (ansP p1 by_ p5 p3 d)).length = i := by simp; omega
    rw [et]
    simp only [impl_AnswersTo.s0, slices_Clone_int.f, e, iLt_eq, brB_dec, chk_idx, chk_sub, chk_len, rLen_eq, rApp_eq]
    generalize pl[i] = pc at *
    obtain ⟨b, m⟩ := pc
    simp only at q1 q2 q3
    dsimp only
    have hs : (rSub d (b - p3) (b - p3 + m)).length ≤ d.length := by simp only [rSub, List.length_drop, List.length_take]; omega
    rw [if_pos (by omega), if_idx hj, iSub_id (a := b) (by omega) (by omega), iAdd_id (a := b - p3) (by omega) (by omega), if_pos (by omega), iSub_id (a := (d.length : Int)) (by omega) (by omega), next_id hj (by omega), if_pos (by omega)]
    rw [bnd_one, if_pos (by simp only [List.length_append, List.length_cons, List.length_nil, lt]; omega)]
    simp only [ansP, rSub]
  · simp only [impl_AnswersTo.s0, iLt_eq, brB_dec, List.take_length]
    rw [if_neg (by omega)]
theorem ansL_len (pay from_ by_ tag : Int) : ∀ (f : Nat) (a : Int) (d : List Int), (ansL pay from_ by_ tag f a d).length ≤ f
  | 0, _, _ => Nat.le_refl _
  | f + 1, a, d => by
    simp only [ansL]
    split
    · simp
    · have := ansL_len pay from_ by_ tag f (a + mOf pay a d.length) (d.drop (mOf pay a d.length))
      simp only [List.length_cons]; omega
theorem words_take {d : List Int} (h : wordsOk d = true) (m : Nat) : wordsOk (d.take m) = true := by
  simp only [wordsOk, List.all_eq_true] at h ⊢
  exact fun x hx => h x (List.mem_of_mem_take hx)
theorem words_drop {d : List Int} (h : wordsOk d = true) (m : Nat) : wordsOk (d.drop m) = true := by
  simp only [wordsOk, List.all_eq_true] at h ⊢
  exact fun x hx => h x (List.mem_of_mem_drop hx)
theorem words_app {d e : List Int} (h : wordsOk d = true) (h' : wordsOk e = true) : wordsOk (d ++ e) = true := by
  simp only [wordsOk, List.all_append, Bool.and_eq_true] at h h' ⊢
  exact ⟨h, h'⟩
theorem drop_cons_get {α : Type} {l t : List α} {i : Nat} {x : α} (h : l.drop i = x :: t) (d : α) : i < l.length ∧ rGet d l (i : Int) = x ∧ l.drop (i + 1) = t := by
  have hi : i < l.length := by
    rcases Nat.lt_or_ge i l.length with h' | h'
    · exact h'
    · rw [List.drop_eq_nil_of_le h'] at h; cases h
  rw [List.drop_eq_getElem_cons hi] at h
  injection h with h1 h2
  exact ⟨hi, (getD_lt d l hi).trans h1, h2⟩
theorem ans_pack {from_ by_ tag : Int} (hf : 0 ≤ from_ ∧ from_ ≤ 255) (hb : 0 ≤ by_ ∧ by_ ≤ 255) (ht : 0 ≤ tag ∧ tag ≤ 7) {d : List Int} {n m : Nat} (hw : wordsOk d = true) (hn : d.length ≤ n) (hn2 : n ≤ 64) (hm : d.length ≤ 8) : packB 6 by_ from_ 0 (n : Int) tag 0 d = true := by
  simp only [packB, hw, Bool.true_and, decide_eq_true_eq]
  exact ⟨hb, .inr (.inr (.inr (.inr (.inr ⟨rfl, rfl, hf, ht, by omega, by omega, by omega⟩))))⟩
theorem l26Read_yd (k : Nat) (c : List Int) (hc : c.length ≤ 2000000) (p s : Int) (hp : 0 ≤ p) : Yd (spec_l26Read.f k c p s) fun r => r.2.2.2.2.2.2.2.2.1 = c ∧ 0 ≤ r.2.2.2.2.2.2.2.2.2.1 ∧
    r.1 = 3 ∧ (0 ≤ r.2.1 ∧ r.2.1 ≤ 255) ∧ r.2.2.1 = 0 ∧ (0 ≤ r.2.2.2.1 ∧ r.2.2.2.1 ≤ 9000) ∧ (1 ≤ r.2.2.2.2.1 ∧ r.2.2.2.2.1 ≤ 20) ∧ (0 ≤ r.2.2.2.2.2.1 ∧ r.2.2.2.2.2.1 ≤ 7) ∧ r.2.2.2.2.2.2.1 = 0 ∧ r.2.2.2.2.2.2.2.1 = [] := by
  unfold spec_l26Read.f
  refine below_bnd hc hp (by omega) fun y0 p0 s0 g0 g1 q0 => ?_
  dsimp only
  refine below_bnd hc q0 (by omega) fun y1 p1 s1 g2 g3 q1 => ?_
  dsimp only
  refine below_bnd hc q1 (by omega) fun y2 p2 s2 g4 g5 q2 => ?_
  dsimp only
  refine below_bnd hc q2 (by omega) fun y3 p3 s3 g6 g7 q3 => ?_
  dsimp only
  refine pick_bnd hc q3 (by simp) fun y4 p4 s4 g8 q4 => ?_
  dsimp only
  rw [iAdd_id (by omega) (by omega)]
  refine Yd.one ⟨rfl, q4, rfl, by constructor <;> dsimp only <;> omega, rfl, ?_, by constructor <;> dsimp only <;> omega, by constructor <;> dsimp only <;> omega, rfl, rfl⟩
  simp only [List.mem_cons, List.not_mem_nil, or_false] at g8
  dsimp only
  omega
/-- A drawn read and its data. -/
theorem drawRead_ev (k : Nat) (hk : 4000 < k) (c : List Int) (hc : c.length ≤ 2000000) : ∃ (p1 p3 p5 : Int) (d : List Int), spec_DrawRead.f k c = some (3, p1, 0, p3, (d.length : Int), p5, 0, [], d) ∧ (0 ≤ p1 ∧ p1 ≤ 255) ∧ (0 ≤ p3 ∧ p3 ≤ 9000) ∧ (1 ≤ d.length ∧ d.length ≤ 20) ∧ (0 ≤ p5 ∧ p5 ≤ 7) ∧ wordsOk d = true := by
  obtain ⟨s0, h0⟩ := l01New_ev c k hk
  obtain ⟨⟨r0, r1, r2, r3, r4, r5, r6, rl, c1, p1, s1⟩, e1, q1, q2, rfl, q4, q5, q6, q7, q8, q9, q10⟩ := l26Read_yd k c hc 0 s0 (by omega)
  simp only at q1 q2 q4 q5 q6 q7 q8 q9 q10
  subst q1 q5 q9 q10
  obtain ⟨⟨d, c2, p2, s2⟩, e2, g1, g2, g3, g4⟩ := l04Data_yd k r4.toNat (by omega) hk c1 hc p1 s1 q2
  simp only at g1 g2 g3 g4
  rw [show (r4.toNat : Int) = r4 by omega] at e2
  refine ⟨r1, r3, r5, d, ?_, q4, q6, by omega, q8, g4⟩
  simp only [spec_DrawRead.f, h0, e1, e2, bnd_one]
  rw [g3, show (r4.toNat : Int) = r4 by omega]
/-- One of four payloads. -/
theorem pay_four (x : Int) (h : 0 ≤ x) : (0 ≤ iRem x 4 ∧ iRem x 4 < 4) ∧ (rGet (0 : Int) [1, 2, 4, 8] (iRem x 4) = 1 ∨ rGet (0 : Int) [1, 2, 4, 8] (iRem x 4) = 2 ∨ rGet (0 : Int) [1, 2, 4, 8] (iRem x 4) = 4 ∨ rGet (0 : Int) [1, 2, 4, 8] (iRem x 4) = 8) := by
  have m0 : 0 ≤ iRem x 4 := Int.tmod_nonneg _ h
  have m1 : iRem x 4 < 4 := Int.tmod_lt_of_pos _ (by omega)
  generalize iRem x 4 = r at m0 m1
  refine ⟨⟨m0, m1⟩, ?_⟩
  have : r = 0 ∨ r = 1 ∨ r = 2 ∨ r = 3 := by omega
  rcases this with rfl | rfl | rfl | rfl <;> decide

/-- A gathering after an answer. -/
def gStep (g : Int × Int × Int × List Int × Int) (p : Int × Int × Int × Int × Int × Int × Int × List Int) : Int × Int × Int × List Int × Int :=
  let r := takeB (badB g.1 g.2.1 g.2.2.1 g.2.2.2.1 g.2.2.2.2 p.1 p.2.1 p.2.2.1 p.2.2.2.1 p.2.2.2.2.1 p.2.2.2.2.2.1 p.2.2.2.2.2.2.1 p.2.2.2.2.2.2.2) g.1 g.2.1 g.2.2.1 g.2.2.2.1 g.2.2.2.2 p.2.2.2.2.1 p.2.2.2.2.2.2.1 p.2.2.2.2.2.2.2
  (r.1, r.2.1, r.2.2.1, r.2.2.2.1, r.2.2.2.2.1)
/-- How many data packets have. -/
def dSum (l : List (Int × Int × Int × Int × Int × Int × Int × List Int)) : Nat := (l.map fun p => p.2.2.2.2.2.2.2.length).sum
def wfP (p : Int × Int × Int × Int × Int × Int × Int × List Int) : Prop := (Lit.int .i64 p.2.2.2.1).wf = true ∧ (Lit.int .i64 p.2.2.2.2.1).wf = true
theorem gStep_len (g : Int × Int × Int × List Int × Int) (p : Int × Int × Int × Int × Int × Int × Int × List Int) : (gStep g p).2.2.2.1.length ≤ g.2.2.2.1.length + p.2.2.2.2.2.2.2.length := takeB_len _ _ _ _ _ _ _ _ _
theorem dSum_cons (p : Int × Int × Int × Int × Int × Int × Int × List Int) (l : List (Int × Int × Int × Int × Int × Int × Int × List Int)) : dSum (p :: l) = p.2.2.2.2.2.2.2.length + dSum l := by simp [dSum]
theorem dSum_app (l m : List (Int × Int × Int × Int × Int × Int × Int × List Int)) : dSum (l ++ m) = dSum l + dSum m := by simp [dSum]
theorem dSum_drop : ∀ (l : List (Int × Int × Int × Int × Int × Int × Int × List Int)) (i : Nat), dSum (l.drop i) ≤ dSum l
  | [], i => by simp [dSum]
  | p :: l, 0 => Nat.le_refl _
  | p :: l, i + 1 => by have := dSum_drop l i; rw [dSum_cons]; simp only [List.drop_succ_cons]; omega
noncomputable def gaF (k : Nat) (rec : ((List (Int × Int × Int × Int × Int × Int × Int × List Int)) × Int × Int × Int × Int × Int × List Int × Int × Int × Int × Int × List Int × Int) → Option (Int × Int × Int × List Int × Int)) (x : (List (Int × Int × Int × Int × Int × Int × Int × List Int)) × Int × Int × Int × Int × Int × List Int × Int × Int × Int × Int × List Int × Int) : Option (Int × Int × Int × List Int × Int) := impl_GatherAll.s0 k rec x.1 x.2.1 x.2.2.1 x.2.2.2.1 x.2.2.2.2.1 x.2.2.2.2.2.1 x.2.2.2.2.2.2.1 x.2.2.2.2.2.2.2.1 x.2.2.2.2.2.2.2.2.1 x.2.2.2.2.2.2.2.2.2.1 x.2.2.2.2.2.2.2.2.2.2.1 x.2.2.2.2.2.2.2.2.2.2.2.1 x.2.2.2.2.2.2.2.2.2.2.2.2
theorem gatherLoop (k : Nat) (l : List (Int × Int × Int × Int × Int × Int × Int × List Int)) (hl : l.length ≤ 1048576) (hwf : ∀ p ∈ l, wfP p) : ∀ (t : List (Int × Int × Int × Int × Int × Int × Int × List Int)) (i : Nat) (g : Int × Int × Int × List Int × Int) (K : Nat),
    l.drop i = t → i ≤ l.length → t.length < K → g.2.2.2.1.length + dSum t ≤ 1048576 → g.2.2.2.1.length + dSum t < k → iter (gaF k) K (l, (l.length : Int), (i : Int), 0, 0, 0, [], 0, g) = some (t.foldl gStep g)
  | t, i, g, 0, _, _, hK, _, _ => by omega
  | [], i, (g0, g1, g2, gl, g4), K + 1, ht, hi, hK, hs, hk => by
    have hil : l.length ≤ i := by
      rcases Nat.lt_or_ge i l.length with h' | h'
      · rw [List.drop_eq_getElem_cons h'] at ht; cases ht
      · exact h'
    show impl_GatherAll.s0 k (iter (gaF k) K) l (l.length : Int) (i : Int) 0 0 0 [] 0 g0 g1 g2 gl g4 = _
    generalize iter (gaF k) K = rec
    simp only [impl_GatherAll.s0, iLt_eq, brB_dec]
    rw [if_neg (by omega)]; rfl
  | p :: t, i, (g0, g1, g2, gl, g4), K + 1, ht, hi, hK, hs, hk => by
    obtain ⟨q1, q2, q3⟩ := drop_cons_get ht (0, 0, 0, 0, 0, 0, 0, [])
    have hm : p ∈ l := by
      have : p ∈ l.drop i := by rw [ht]; simp
      exact List.mem_of_mem_drop this
    have hw := hwf p hm
    obtain ⟨p0, p1, p2, p3, p4, p5, p6, pl⟩ := p
    rw [dSum_cons] at hs hk
    simp only [List.length_cons] at hK
    simp only at hs hk
    have hg := gStep_len (g0, g1, g2, gl, g4) (p0, p1, p2, p3, p4, p5, p6, pl)
    simp only at hg
    have ih := gatherLoop k l hl hwf t (i + 1) (gStep (g0, g1, g2, gl, g4) (p0, p1, p2, p3, p4, p5, p6, pl)) K q3 (by omega) (by omega) (by omega) (by omega)
    show impl_GatherAll.s0 k (iter (gaF k) K) l (l.length : Int) (i : Int) 0 0 0 [] 0 g0 g1 g2 gl g4 = _
    generalize iter (gaF k) K = rec at ih ⊢
    simp only [impl_GatherAll.s0, q2, implTake_ev g0 g1 g2 gl g4 p0 p1 p2 p3 p4 p5 p6 pl (by omega) (by omega) hw.1 hw.2 k (by omega), bnd_one, iLt_eq, brB_dec, chk_idx, rLen_eq]
    rw [if_pos (by omega), if_idx q1, next_id q1 (by omega)]
    exact ih
theorem gatherAll_ev (g0 g1 g2 : Int) (gl : List Int) (g4 : Int) (l : List (Int × Int × Int × Int × Int × Int × Int × List Int)) (hl : l.length ≤ 1048576) (hwf : ∀ p ∈ l, wfP p) (hs : gl.length + dSum l ≤ 1048576) (k : Nat) (hk : l.length + gl.length + dSum l < k) :
    impl_GatherAll.f k g0 g1 g2 gl g4 l = some (l.foldl gStep (g0, g1, g2, gl, g4)) := by
  have h := gatherLoop k l hl hwf l 0 (g0, g1, g2, gl, g4) k rfl (by omega) (by omega) hs (by show gl.length + dSum l < k; omega)
  simp only [impl_GatherAll.f, impl_copyGather.f, slices_Clone_int.f, chk_len, rLen_eq]
  rw [if_pos (by omega)]
  simp only [bnd_one]
  exact h
/-- One piece is taken. -/
theorem gStep_good {from_ by_ tag want : Int} (hf : 0 ≤ from_ ∧ from_ ≤ 255) (hb : 0 ≤ by_ ∧ by_ ≤ 255) (ht : 0 ≤ tag ∧ tag ≤ 7) {got d : List Int} {m : Nat} (hw : wordsOk got = true) (hd : wordsOk d = true) (hwant : want = got.length + d.length) (hw64 : want ≤ 64) (hm : 1 ≤ m ∧ m ≤ d.length ∧ m ≤ 8) :
    gStep (from_, tag, want, got, 0) (6, by_, from_, 0, (d.length : Int), tag, 0, d.take m) = (from_, tag, want, got ++ d.take m, if m = d.length then 1 else 0) := by
  have hl : (d.take m).length = m := by rw [List.length_take]; omega
  have hbad : badB from_ tag want got 0 6 by_ from_ 0 (d.length : Int) tag 0 (d.take m) = false := by
    have h1 : gatherB from_ tag want got 0 = true := by
      simp only [gatherB, hw, Bool.and_eq_true, decide_eq_true_eq]
      refine ⟨hf, ht, by omega, by omega, trivial, by omega, ?_⟩
      rw [if_neg (by omega)]
    have h2 : packB 6 by_ from_ 0 (d.length : Int) tag 0 (d.take m) = true := ans_pack (m := 0) hf hb ht (words_take hd m) (by omega) (by omega) (by omega)
    simp only [badB, h1, h2, Bool.true_and, Bool.not_eq_false', decide_eq_true_eq]
    exact ⟨by trivial, by trivial, by trivial, by trivial⟩
  simp only [gStep, hbad, takeB, Bool.false_eq_true, ↓reduceIte]
  rw [w64_id (by omega) (by omega), if_pos (by omega)]
  by_cases e : m = d.length
  · rw [if_pos (by rw [List.length_append, hl]; omega), if_pos e]
  · rw [if_neg (by rw [List.length_append, hl]; omega), if_neg e]
/-- An answer of another length is not taken. -/
theorem gStep_skip {from_ tag want : Int} {got : List Int} (p : Int × Int × Int × Int × Int × Int × Int × List Int) (h6 : p.2.2.2.2.2.2.1 = 0) (hwant : 0 ≤ want ∧ want ≤ 64) (hg : got.length ≤ 64) (h : p.2.2.2.2.1 ≠ want - got.length) :
    gStep (from_, tag, want, got, 0) p = (from_, tag, want, got, 0) := by
  simp only [gStep]
  generalize badB _ _ _ _ _ _ _ _ _ _ _ _ _ = b
  cases b with
  | true => rfl
  | false =>
    simp only [takeB, h6, Bool.false_eq_true, ↓reduceIte]
    rw [w64_id (by omega) (by omega), if_neg h]
theorem ans_fold {pay from_ by_ tag want : Int} (hp : 1 ≤ pay ∧ pay ≤ 8) (hf : 0 ≤ from_ ∧ from_ ≤ 255) (hb : 0 ≤ by_ ∧ by_ ≤ 255) (ht : 0 ≤ tag ∧ tag ≤ 7) (hw64 : want ≤ 64) : ∀ (f : Nat) (a : Int) (got d : List Int), wordsOk got = true → wordsOk d = true → want = got.length + d.length → d.length ≤ f → 0 < d.length → 0 ≤ a →
    (ansL pay from_ by_ tag f a d).foldl gStep (from_, tag, want, got, 0) = (from_, tag, want, got ++ d, 1)
  | 0, a, got, d, _, _, _, hl, h0, _ => by omega
  | f + 1, a, got, d, hw, hd, hwant, hl, h0, ha => by
    obtain ⟨m1, m2, m3, m4⟩ := mOf_ok (a := a) hp ha h0
    simp only [ansL]
    rw [if_neg (by omega)]
    generalize mOf pay a d.length = m at *
    rw [List.foldl_cons, gStep_good hf hb ht hw hd hwant hw64 ⟨m1, m2, m3⟩]
    by_cases e : m = d.length
    · rw [if_pos e]
      have hn : d.drop m = [] := List.drop_eq_nil_of_le (by omega)
      have ht2 : d.take m = d := List.take_of_length_le (by omega)
      rw [hn, ht2]
      have : ansL pay from_ by_ tag f (a + m) [] = [] := by cases f <;> rfl
      rw [this]; rfl
    · rw [if_neg e, ans_fold hp hf hb ht hw64 f (a + m) (got ++ d.take m) (d.drop m) (words_app hw (words_take hd m)) (words_drop hd m) (by simp only [List.length_append, List.length_take, List.length_drop]; omega) (by rw [List.length_drop]; omega) (by rw [List.length_drop]; omega) (by omega), List.append_assoc, List.take_append_drop]
theorem ansL_lens {pay from_ by_ tag : Int} : ∀ (f : Nat) (a : Int) (d : List Int), ∀ p ∈ ansL pay from_ by_ tag f a d, p.2.2.2.2.1 ≤ d.length ∧ 0 < p.2.2.2.2.1 ∧ p.2.2.2.2.2.2.1 = 0 ∧ p.2.2.2.1 = 0 ∧ p.2.2.2.2.2.2.2.length ≤ d.length
  | 0, a, d, p, hm => by simp [ansL] at hm
  | f + 1, a, d, p, hm => by
    simp only [ansL] at hm
    split at hm
    · simp at hm
    · rename_i hz
      rcases List.mem_cons.1 hm with rfl | hm
      · refine ⟨Int.le_refl _, by show (0 : Int) < (d.length : Int); omega, rfl, rfl, by simp; omega⟩
      · obtain ⟨h1, h2, h3, h4, h5⟩ := ansL_lens f _ _ p hm
        rw [List.length_drop] at h1 h5
        exact ⟨by omega, h2, h3, h4, by omega⟩
theorem fold_skip {from_ tag want : Int} {got : List Int} (hwant : 0 ≤ want ∧ want ≤ 64) (hg : got.length ≤ 64) : ∀ (l : List (Int × Int × Int × Int × Int × Int × Int × List Int)), (∀ p ∈ l, p.2.2.2.2.2.2.1 = 0 ∧ p.2.2.2.2.1 ≠ want - got.length) → l.foldl gStep (from_, tag, want, got, 0) = (from_, tag, want, got, 0)
  | [], _ => rfl
  | p :: l, h => by
    rw [List.foldl_cons, gStep_skip p (h p (by simp)).1 hwant hg (h p (by simp)).2]
    exact fold_skip hwant hg l fun q hq => h q (by simp [hq])
/-- Without one answer the gathering stays open. -/
theorem ans_without {pay from_ by_ tag want : Int} (hp : 1 ≤ pay ∧ pay ≤ 8) (hf : 0 ≤ from_ ∧ from_ ≤ 255) (hb : 0 ≤ by_ ∧ by_ ≤ 255) (ht : 0 ≤ tag ∧ tag ≤ 7) (hw64 : want ≤ 64) : ∀ (f : Nat) (r : Nat) (a : Int) (got d : List Int), wordsOk got = true → wordsOk d = true → want = got.length + d.length → d.length ≤ f → 0 ≤ a → r < (ansL pay from_ by_ tag f a d).length →
    ∃ got' : List Int, ((ansL pay from_ by_ tag f a d).take r ++ (ansL pay from_ by_ tag f a d).drop (r + 1)).foldl gStep (from_, tag, want, got, 0) = (from_, tag, want, got', 0) ∧ (got'.length : Int) < want
  | 0, r, a, got, d, _, _, _, _, _, hr => by simp [ansL] at hr
  | f + 1, r, a, got, d, hw, hd, hwant, hl, ha, hr => by
    have h0 : 0 < d.length := by
      rcases Nat.eq_zero_or_pos d.length with e | e
      · simp [ansL, e] at hr
      · exact e
    obtain ⟨m1, m2, m3, m4⟩ := mOf_ok (a := a) hp ha h0
    have e : ansL pay from_ by_ tag (f + 1) a d = (6, by_, from_, 0, (d.length : Int), tag, 0, d.take (mOf pay a d.length)) :: ansL pay from_ by_ tag f (a + mOf pay a d.length) (d.drop (mOf pay a d.length)) := by
      simp only [ansL]; rw [if_neg (by omega)]
    rw [e] at hr ⊢
    generalize mOf pay a d.length = m at *
    cases r with
    | zero =>
      refine ⟨got, ?_, by omega⟩
      simp only [List.take_zero, List.nil_append, List.drop_succ_cons, List.drop_zero]
      refine fold_skip (by omega) (by omega) _ fun p hpm => ?_
      obtain ⟨q1, q2, q3, q4, q5⟩ := ansL_lens _ _ _ p hpm
      rw [List.length_drop] at q1
      exact ⟨q3, by omega⟩
    | succ r =>
      simp only [List.length_cons] at hr
      have hne : m ≠ d.length := fun e => by
        have hn : d.drop m = [] := List.drop_eq_nil_of_le (by omega)
        rw [hn] at hr
        have : ansL pay from_ by_ tag f (a + m) [] = [] := by cases f <;> rfl
        rw [this] at hr
        simp at hr
      simp only [List.take_succ_cons, List.drop_succ_cons, List.cons_append, List.foldl_cons]
      rw [gStep_good hf hb ht hw hd hwant hw64 ⟨m1, m2, m3⟩, if_neg hne]
      exact ans_without hp hf hb ht hw64 f r (a + m) (got ++ d.take m) (d.drop m) (words_app hw (words_take hd m)) (words_drop hd m) (by simp only [List.length_append, List.length_take, List.length_drop]; omega) (by rw [List.length_drop]; omega) (by omega) (by omega)
theorem ansL_sum {pay from_ by_ tag : Int} : ∀ (f : Nat) (a : Int) (d : List Int), dSum (ansL pay from_ by_ tag f a d) ≤ d.length
  | 0, a, d => by simp [ansL, dSum]
  | f + 1, a, d => by
    simp only [ansL]
    split
    · simp [dSum]
    · rw [dSum_cons]
      have := ansL_sum (pay := pay) (from_ := from_) (by_ := by_) (tag := tag) f (a + mOf pay a d.length) (d.drop (mOf pay a d.length))
      simp only [List.length_take, List.length_drop] at this ⊢
      omega
theorem ansL_wf {pay from_ by_ tag : Int} (f : Nat) (a : Int) (d : List Int) (hd : d.length ≤ 1000) : ∀ p ∈ ansL pay from_ by_ tag f a d, wfP p := fun p hp => by
  obtain ⟨q1, q2, q3, q4, q5⟩ := ansL_lens f a d p hp
  exact ⟨by rw [wf64, q4]; omega, by rw [wf64]; omega⟩

theorem laws_FnGathers.main (c : List Int) : ∃ k, laws_FnGathers.f k c = some true := by
  refine ⟨5000, ?_⟩
  by_cases hc : 1048576 < (c.length : Int)
  · simp only [laws_FnGathers.f, laws_big.f, bnd_one, iLt_eq, rLen_eq, decide_eq_true hc, brB_true]
  · obtain ⟨p1, p3, p5, d, hd, h1, h3, hl, h5, hw⟩ := drawRead_ev 5000 (by omega) c (by omega)
    obtain ⟨p, hp, lp, bp⟩ := drawPlaces_ev c (by omega) 5000 (by omega)
    have b0 : 0 ≤ rGet 0 p 0 := by
      show 0 ≤ p.getD 0 0
      rw [getD_lt 0 p (by omega)]; exact (bp _ (List.getElem_mem _)).1
    have b1 : 0 ≤ rGet 0 p 1 := by
      show 0 ≤ p.getD 1 0
      rw [getD_lt 0 p (by omega)]; exact (bp _ (List.getElem_mem _)).1
    obtain ⟨r0, r1⟩ := pay_four (rGet 0 p 0) b0
    simp only [laws_FnGathers.f, laws_big.f, bnd_one, iLt_eq, rLen_eq, decide_eq_false hc, brB_false, hd, hp, chk_idx, chk_nz]
    rw [if_pos (by omega), if_neg (by omega), if_pos (by simp only [List.length_cons, List.length_nil]; omega)]
    generalize rGet (0 : Int) [1, 2, 4, 8] (iRem (rGet 0 p 0) 4) = pay at r1
    have hpk : packB 3 p1 0 p3 (d.length : Int) p5 0 [] = true := by
      simp only [packB, wordsOk, List.all_nil, Bool.true_and, decide_eq_true_eq]
      exact ⟨h1, .inr (.inr (.inl ⟨rfl, rfl, by omega, by omega, h5, rfl, rfl⟩))⟩
    have hcl : classB (packB 3 p1 0 p3 (d.length : Int) p5 0 []) 3 = 1 := by rw [hpk]; rfl
    have hng := implNew_ev 3 p1 0 p3 (d.length : Int) p5 0 [] (by simp) (by rw [wf64]; omega) (by rw [wf64]; omega) 5000 (by simp)
    rw [hcl, newB, if_pos rfl, if_neg (show ¬ (3 : Int) = 4 by omega)] at hng
    have hrf := implRefusal_ev 3 p1 0 p3 (d.length : Int) p5 0 [] 7 2 (by simp) (by rw [wf64]; omega) (by rw [wf64]; omega) 5000 (by simp)
    rw [hcl, refB, if_pos ⟨rfl, by omega, by omega⟩] at hrf
    have hll := ansL_len pay p1 7 p5 d.length p3 d
    have hsum := ansL_sum (pay := pay) (from_ := p1) (by_ := 7) (tag := p5) d.length p3 d
    have hwf := ansL_wf (pay := pay) (from_ := p1) (by_ := 7) (tag := p5) d.length p3 d (by omega)
    have hfold := ans_fold (pay := pay) (by omega) h1 (show 0 ≤ (7 : Int) ∧ (7 : Int) ≤ 255 by omega) h5 (want := (d.length : Int)) (by omega) d.length p3 [] d rfl hw (by simp) (by omega) (by omega) (by omega)
    have hg1 := gatherAll_ev p1 p5 (d.length : Int) [] 0 (ansL pay p1 7 p5 d.length p3 d) (by omega) hwf (by simp only [List.length_nil]; omega) 5000 (by simp only [List.length_nil]; omega)
    rw [hfold, List.nil_append] at hg1
    have hgok : gatherB p1 p5 (d.length : Int) d 1 = true := by
      simp only [gatherB, hw, Bool.and_eq_true, decide_eq_true_eq]
      refine ⟨h1, h5, by omega, by omega, trivial, by omega, ?_⟩
      simp
    have hne : 0 < (ansL pay p1 7 p5 d.length p3 d).length := by
      obtain ⟨f, hf⟩ : ∃ f, d.length = f + 1 := ⟨d.length - 1, by omega⟩
      rw [hf]
      simp only [ansL]
      rw [if_neg (by omega)]
      simp
    have hwo := ans_without (pay := pay) (by omega) h1 (show 0 ≤ (7 : Int) ∧ (7 : Int) ≤ 255 by omega) h5 (want := (d.length : Int)) (by omega) d.length (iRem (rGet 0 p 1) ((ansL pay p1 7 p5 d.length p3 d).length : Int)).toNat p3 [] d rfl hw (by simp) (by omega) (by omega)
    have m0 : 0 ≤ iRem (rGet 0 p 1) ((ansL pay p1 7 p5 d.length p3 d).length : Int) := Int.tmod_nonneg _ b1
    have m1 : iRem (rGet 0 p 1) ((ansL pay p1 7 p5 d.length p3 d).length : Int) < ((ansL pay p1 7 p5 d.length p3 d).length : Int) := Int.tmod_lt_of_pos _ (by omega)
    rw [answersTo_ev p1 p3 p5 7 pay d (by omega) hw h1 (by omega) (by omega) h5 (by omega) r1 5000 (by omega), bnd_one]
    generalize ansL pay p1 7 p5 d.length p3 d = L at *
    generalize iRem (rGet 0 p 1) (L.length : Int) = r at *
    obtain ⟨got, hfw, hgl⟩ := hwo (by omega)
    have hgl' : got.length ≤ 20 := by omega
    have es : rApp (rApp [] (rSub L 0 r)) (rSub L (iAdd .i64 r 1) (L.length : Int)) = L.take r.toNat ++ L.drop (r.toNat + 1) := by
      rw [iAdd_id (by omega) (by omega)]
      simp only [rApp_eq, List.nil_append, rSub, show (Int.toNat 0) = 0 from rfl, List.drop_zero, Int.toNat_natCast, List.take_length, show (r + 1).toNat = r.toNat + 1 by omega]
    have hwf2 : ∀ q ∈ L.take r.toNat ++ L.drop (r.toNat + 1), wfP q := fun q hq => by
      rcases List.mem_append.1 hq with hq | hq
      · exact hwf q (List.mem_of_mem_take hq)
      · exact hwf q (List.mem_of_mem_drop hq)
    have hsum2 : dSum (L.take r.toNat ++ L.drop (r.toNat + 1)) ≤ d.length := by
      have e1 := dSum_app (L.take r.toNat) (L.drop (r.toNat + 1))
      have e2 : dSum L = dSum (L.take r.toNat) + dSum (L.drop r.toNat) := by rw [← dSum_app, List.take_append_drop]
      have e3 : dSum (L.drop (r.toNat + 1)) ≤ dSum (L.drop r.toNat) := by
        have := dSum_drop (L.drop r.toNat) 1
        rw [List.drop_drop] at this
        exact this
      omega
    have hl2 : (L.take r.toNat ++ L.drop (r.toNat + 1)).length ≤ 20 := by simp only [List.length_append, List.length_take, List.length_drop]; omega
    have hg2 := gatherAll_ev p1 p5 (d.length : Int) [] 0 (L.take r.toNat ++ L.drop (r.toNat + 1)) (by omega) hwf2 (by simp only [List.length_nil]; omega) 5000 (by simp only [List.length_nil]; omega)
    rw [hfw] at hg2
    have ht1 := implTake_ev p1 p5 (d.length : Int) [] 0 6 7 p1 0 0 p5 2 [] (by simp) (by simp) (by rw [wf64]; omega) (by rw [wf64]; omega) 5000 (by simp)
    have hbad : badB p1 p5 (d.length : Int) [] 0 6 7 p1 0 0 p5 2 [] = false := by
      have h1' : gatherB p1 p5 (d.length : Int) [] 0 = true := by
        simp only [gatherB, wordsOk, List.all_nil, Bool.and_eq_true, decide_eq_true_eq, List.length_nil]
        refine ⟨h1, h5, by omega, by omega, trivial, by omega, ?_⟩
        rw [if_neg (by omega)]
      have h2' : packB 6 7 p1 0 0 p5 2 [] = true := by
        simp only [packB, wordsOk, List.all_nil, Bool.true_and, decide_eq_true_eq]
        exact ⟨by omega, .inr (.inr (.inr (.inr (.inr ⟨rfl, rfl, h1, h5, by omega, by omega, .inl rfl⟩))))⟩
      simp only [badB, h1', h2', Bool.true_and, Bool.not_eq_false', decide_eq_true_eq]
      exact ⟨by trivial, by trivial, by trivial, by trivial⟩
    rw [hbad, takeB, if_neg (by decide), if_neg (by omega)] at ht1
    obtain ⟨q, t, hL⟩ : ∃ q t, L = q :: t := by
      cases L with
      | nil => simp at hne
      | cons q t => exact ⟨q, t, rfl⟩
    have hq := hwf q (by rw [hL]; simp)
    have hqs : q.2.2.2.2.2.2.2.length ≤ d.length := by rw [hL, dSum_cons] at hsum; omega
    have ht2 := implTake_ev p1 p5 (d.length : Int) d 1 q.1 q.2.1 q.2.2.1 q.2.2.2.1 q.2.2.2.2.1 q.2.2.2.2.2.1 q.2.2.2.2.2.2.1 q.2.2.2.2.2.2.2 (by omega) (by omega) hq.1 hq.2 5000 (by omega)
    have hbad2 : ∀ a b c e f g h i, badB p1 p5 (d.length : Int) d 1 a b c e f g h i = true := by
      intro a b c e f g h i
      simp only [badB, Bool.not_eq_true', Bool.and_eq_false_iff, decide_eq_false_iff_not]
      exact .inr (.inr (by omega))
    rw [hbad2, takeB, if_pos rfl] at ht2
    have e0 : rGet (0, 0, 0, 0, 0, 0, 0, []) L 0 = q := by rw [hL]; rfl
    rw [es, hng, bnd_one, hg1, bnd_one]
    simp only [hg2, hrf, ht1, e0, ht2, implGatherOk_ev p1 p5 (d.length : Int) d 1 (by omega) 5000 (by omega), hgok, sameInts_refl d (by omega) 5000 (by omega), bnd_one, iEq_eq, iNe_eq, bNot_eq, Bool.not_true, brB_false, brB_true, brB_nb, decide_true, brB_dec, chk_sub, chk_len, rLen_eq]
    have c1 : (rApp [] (rSub L 0 r)).length ≤ L.length := by simp only [rApp_eq, List.nil_append, rSub, List.length_drop, List.length_take]; omega
    rw [if_neg (by omega), if_pos (by omega), if_neg (by omega), if_pos (by omega), if_pos (by omega), iAdd_id (by omega) (by omega)]
    repeat rw [if_pos (by omega)]
    simp; omega
theorem laws_FnGathers.pure : ∀ x : laws_FnGathers.sig.inTy.T, Good laws_FnGathers.sig.inTy x → ∃ k, laws_FnGathers.spec.fn k x = some true :=
  fun x _ => laws_FnGathers.main x
end Go.Proofs.YtgcpodpgliifgaaT

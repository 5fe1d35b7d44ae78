/- What the functions of FnRequesters give, in plain terms. -/
import Derived.Test.YtbmfjpflhbhhdaaFFnRequesters
import Derived.Test.YtbmfjpflhbhhdaaTiPL
set_option linter.unusedVariables false
set_option linter.unusedSimpArgs false
set_option maxRecDepth 100000
namespace Go.Proofs.YtbmfjpflhbhhdaaT
open Go
theorem bnd_to {A R : Type} {x : Option A} {a : A} {f : A → Option R} {r : Option R} (h : x = some a) (g : f a = r) : bnd x f = r := by rw [h]; exact g
theorem brF_to {R : Type} {b : Bool} {x y r : Option R} (h : b = false) (g : y = r) : brB b x y = r := by rw [h]; exact g
theorem brT_to {R : Type} {b : Bool} {x y r : Option R} (h : b = true) (g : x = r) : brB b x y = r := by rw [h]; exact g
theorem chk_to {R : Type} {b : Bool} {x r : Option R} (h : b = true) (g : x = r) : chk b x = r := by rw [h]; exact g
theorem bNot_t : bNot true = false := rfl
theorem bNot_f : bNot false = true := rfl
theorem iLt_no {a b : Int} (h : b ≤ a) : iLt a b = false := by simp [iLt, h]
theorem iLt_yes {a b : Int} (h : a < b) : iLt a b = true := by simp [iLt, h]
theorem iter_from {X R : Type} {f : (X → Option R) → X → Option R} {x0 : X} (s : Nat → X) (N : Nat) {r : R} (h0 : x0 = s 0) (step : ∀ rec i, i < N → f rec (s i) = rec (s (i + 1))) (done : ∀ rec, f rec (s N) = some r) {n : Nat} (hn : N < n) :
    iter f n x0 = some r := by rw [h0]; exact iter_upto s N step done hn
theorem cIdx_yes {i n : Int} (h : 0 ≤ i ∧ i < n) : cIdx i n = true := decide_eq_true h
theorem cLen_yes {n b : Int} (h : n * b ≤ 35184372088832) : cLen n b = true := @decide_eq_true _ (Classical.propDecidable _) h

theorem iLe_eq (a b : Int) : iLe a b = decide (a ≤ b) := rfl
theorem iLt_eq (a b : Int) : iLt a b = decide (a < b) := rfl
theorem iEq_eq (a b : Int) : iEq a b = decide (a = b) := by by_cases h : a = b <;> simp [iEq, h]
theorem iNe_eq (a b : Int) : iNe a b = !decide (a = b) := by by_cases h : a = b <;> simp [iNe, h]
theorem bNot_eq (a : Bool) : bNot a = !a := rfl
/-- A loop that looks for the first element with a quality. -/
theorem iter_find {R : Type} {α : Type} {X : Type} {f : (X → Option R) → X → Option R} (s : Nat → X) (xs : List α) (p : α → Bool) (r : R) (e : Nat → R)
    (go : ∀ rec (i : Nat) (h : i < xs.length), p xs[i] = true → f rec (s i) = rec (s (i + 1))) (stop : ∀ rec (i : Nat) (h : i < xs.length), p xs[i] = false → f rec (s i) = some (e i)) (done : ∀ rec, f rec (s xs.length) = some r) {n : Nat} (hn : xs.length < n) :
    iter f n (s 0) = some (match xs.findIdx? (fun x => !p x) with | some i => e i | none => r) := by
  suffices H : ∀ d i n, i + d = xs.length → d < n → (∀ j (h : j < xs.length), j < i → p xs[j] = true) → iter f n (s i) = some (match xs.findIdx? (fun x => !p x) with | some i => e i | none => r) from H xs.length 0 n (by omega) hn (fun j _ h => by omega)
  intro d
  induction d with
  | zero =>
    intro i n hi hn hp
    obtain ⟨m, rfl⟩ : ∃ m, n = m + 1 := ⟨n - 1, by omega⟩
    obtain rfl : i = xs.length := by omega
    have : xs.findIdx? (fun x => !p x) = none := by
      rw [List.findIdx?_eq_none_iff]
      intro x hx
      obtain ⟨j, hj, rfl⟩ := List.mem_iff_getElem.1 hx
      simp [hp j hj (by omega)]
    rw [this]
    exact done _
  | succ d ih =>
    intro i n hi hn hp
    obtain ⟨m, rfl⟩ : ∃ m, n = m + 1 := ⟨n - 1, by omega⟩
    show f (iter f m) (s i) = _
    have hlt : i < xs.length := by omega
    by_cases hq : p xs[i] = false
    · rw [stop _ i hlt hq]
      have : xs.findIdx? (fun x => !p x) = some i := by
        rw [List.findIdx?_eq_some_iff_getElem]
        exact ⟨hlt, by simp [hq], fun j hj => by simp [hp j (by omega) hj]⟩
      rw [this]
    · have hq : p xs[i] = true := by simpa using hq
      rw [go _ i hlt hq]
      refine ih (i + 1) m (by omega) (by omega) fun j h hj => ?_
      rcases Nat.lt_or_ge j i with h' | h'
      · exact hp j h h'
      · obtain rfl : j = i := by omega
        exact hq
theorem getD_lt {α : Type} (d : α) (xs : List α) {i : Nat} (h : i < xs.length) : xs.getD i d = xs[i] := by
  rw [List.getD_eq_getElem?_getD, List.getElem?_eq_getElem h]; rfl
theorem bEq_eq (a b : Bool) : bEq a b = decide (a = b) := by cases a <;> cases b <;> rfl
theorem bNe_eq (a b : Bool) : bNe a b = !decide (a = b) := by cases a <;> cases b <;> rfl
theorem brB_nb {R : Type} (b : Bool) (x y : Option R) : brB (!b) x y = brB b y x := by cases b <;> rfl
theorem brB_dec {R : Type} (p : Prop) [Decidable p] (x y : Option R) : brB (decide p) x y = if p then x else y := by by_cases h : p <;> simp [h, brB]
theorem if_idx {R : Type} {i n : Nat} {x : Option R} (h : i < n) : (if 0 ≤ (i : Int) ∧ (i : Int) < (n : Int) then x else none) = x := if_pos (by omega)
theorem l01In_eq (k : Nat) (x a b : Int) : spec_l01In.f k x a b = some (decide (a ≤ x ∧ x ≤ b)) := by
  simp only [spec_l01In.f, iLt_eq, iLe_eq, iEq_eq, iNe_eq, bNot_eq, bEq_eq, bNe_eq, brB_nb, brB_dec, brB_true, brB_false, chk_idx, chk_len, chk_make, chk_sub, bnd_one, rLen_eq, rGet_nat, rSet_nat, rApp_eq, ↓reduceIte]; split <;> rename_i h <;> simp [h]
theorem within_eq (k : Nat) (x a b : Int) : impl_within.f k x a b = some (decide (a ≤ x ∧ x ≤ b)) := by
  simp only [impl_within.f, iLt_eq, iLe_eq, iEq_eq, iNe_eq, bNot_eq, bEq_eq, bNe_eq, brB_nb, brB_dec, brB_true, brB_false, chk_idx, chk_len, chk_make, chk_sub, bnd_one, rLen_eq, rGet_nat, rSet_nat, rApp_eq, ↓reduceIte]; split <;> rename_i h <;> simp [h]
theorem specIsId_eq (k : Nat) (a : Int) : spec_IsId.f k a = some (decide (0 ≤ a ∧ a ≤ 255)) := by simp only [spec_IsId.f, l01In_eq, bnd_one]
theorem implIsId_eq (k : Nat) (a : Int) : impl_IsId.f k a = some (decide (0 ≤ a ∧ a ≤ 255)) := by simp only [impl_IsId.f, within_eq, bnd_one]
/-- All are words. -/
def wordsOk (l : List Int) : Bool := l.all fun x => decide (0 ≤ x ∧ x ≤ 65535)
theorem findIdx_all {α : Type} (l : List α) (p : α → Bool) : (match l.findIdx? (fun x => !p x) with | some _ => false | none => true) = l.all p := by
  cases h : l.findIdx? (fun x => !p x) with
  | none =>
    rw [List.findIdx?_eq_none_iff] at h
    symm
    rw [List.all_eq_true]
    intro x hx
    simpa using h x hx
  | some i =>
    rw [List.findIdx?_eq_some_iff_getElem] at h
    obtain ⟨hi, h1, _⟩ := h
    symm
    rw [← Bool.not_eq_true, List.all_eq_true]
    intro hall
    have := hall _ (List.getElem_mem hi)
    simp [this] at h1
theorem found_iff {α : Type} (l : List α) (p : α → Bool) : iLe 0 (match l.findIdx? (fun x => !p x) with | some i => (i : Int) | none => -1) = !l.all p := by
  rw [← findIdx_all]
  cases l.findIdx? (fun x => !p x) with
  | none => rfl
  | some i => simp [iLe]
theorem l04Words_ev (l : List Int) (hl : l.length ≤ 4611686018427387904) (k : Nat) (hk : l.length < k) : spec_l04Words.f k l = some (wordsOk l) := by
  simp only [spec_l04Words.f, spec_l04Words.l0]
  have h := iter_find (f := fun (rec : (List Int × Int) → Option Bool) (x : List Int × Int) => spec_l04Words.s0 k rec x.1 x.2) (fun i => (l, (i : Int))) l (fun x => decide (0 ≤ x ∧ x ≤ 65535)) true (fun _ => false)
    (fun rec i hi hp => ?_) (fun rec i hi hp => ?_) (fun rec => ?_) hk
  · exact h.trans (congrArg some (findIdx_all l _))
  · simp only [spec_l04Words.s0, l01In_eq, getD_lt _ _ hi, iLt_eq, iLe_eq, iEq_eq, iNe_eq, bNot_eq, bEq_eq, bNe_eq, brB_nb, brB_dec, brB_true, brB_false, chk_idx, chk_len, chk_make, chk_sub, bnd_one, rLen_eq, rGet_nat, rSet_nat, rApp_eq, ↓reduceIte]
    rw [if_pos (by omega), if_idx hi, next_id hi hl]
    rw [if_pos (of_decide_eq_true hp)]
  · simp only [spec_l04Words.s0, l01In_eq, getD_lt _ _ hi, iLt_eq, iLe_eq, iEq_eq, iNe_eq, bNot_eq, bEq_eq, bNe_eq, brB_nb, brB_dec, brB_true, brB_false, chk_idx, chk_len, chk_make, chk_sub, bnd_one, rLen_eq, rGet_nat, rSet_nat, rApp_eq, ↓reduceIte]
    rw [if_pos (by omega), if_idx hi]
    rw [if_neg (of_decide_eq_false hp)]
  · simp only [spec_l04Words.s0, iLt_eq, iLe_eq, iEq_eq, iNe_eq, bNot_eq, bEq_eq, bNe_eq, brB_nb, brB_dec, brB_true, brB_false, chk_idx, chk_len, chk_make, chk_sub, bnd_one, rLen_eq, rGet_nat, rSet_nat, rApp_eq, ↓reduceIte]
    rw [if_neg (by omega)]
theorem isWord_eq (k : Nat) (x : Int) : impl_isWord.f k x = some (decide (0 ≤ x ∧ x ≤ 65535)) := by simp only [impl_isWord.f, within_eq, bnd_one]
theorem indexNotWord1 (l : List Int) (hl : l.length ≤ 4611686018427387904) (k : Nat) (hk : l.length < k) : slices_IndexFunc_int_impl_areWords_1.f k l = some (match l.findIdx? (fun x => !decide (0 ≤ x ∧ x ≤ 65535)) with | some i => (i : Int) | none => -1) := by
  simp only [slices_IndexFunc_int_impl_areWords_1.f, slices_IndexFunc_int_impl_areWords_1.l0]
  refine iter_find (f := fun (rec : (List Int × Int × Int) → Option Int) (x : List Int × Int × Int) => slices_IndexFunc_int_impl_areWords_1.s0 k rec x.1 x.2.1 x.2.2) (fun i => (l, rLen l, (i : Int))) l (fun x => decide (0 ≤ x ∧ x ≤ 65535)) (-1) (fun i => (i : Int)) (fun rec i hi hp => ?_) (fun rec i hi hp => ?_) (fun rec => ?_) hk
  · simp only [slices_IndexFunc_int_impl_areWords_1.s0, impl_areWords_1.f, isWord_eq, getD_lt _ _ hi, iLt_eq, iLe_eq, iEq_eq, iNe_eq, bNot_eq, bEq_eq, bNe_eq, brB_nb, brB_dec, brB_true, brB_false, chk_idx, chk_len, chk_make, chk_sub, bnd_one, rLen_eq, rGet_nat, rSet_nat, rApp_eq, ↓reduceIte]
    rw [if_pos (by omega), if_idx hi, next_id hi hl]
    rw [if_pos (of_decide_eq_true hp)]
  · simp only [slices_IndexFunc_int_impl_areWords_1.s0, impl_areWords_1.f, isWord_eq, getD_lt _ _ hi, iLt_eq, iLe_eq, iEq_eq, iNe_eq, bNot_eq, bEq_eq, bNe_eq, brB_nb, brB_dec, brB_true, brB_false, chk_idx, chk_len, chk_make, chk_sub, bnd_one, rLen_eq, rGet_nat, rSet_nat, rApp_eq, ↓reduceIte]
    rw [if_pos (by omega), if_idx hi]
    rw [if_neg (of_decide_eq_false hp)]
  · simp only [slices_IndexFunc_int_impl_areWords_1.s0, iLt_eq, iLe_eq, iEq_eq, iNe_eq, bNot_eq, bEq_eq, bNe_eq, brB_nb, brB_dec, brB_true, brB_false, chk_idx, chk_len, chk_make, chk_sub, bnd_one, rLen_eq, rGet_nat, rSet_nat, rApp_eq, ↓reduceIte]
    rw [if_neg (by omega)]
theorem areWords_ev (l : List Int) (hl : l.length ≤ 4611686018427387904) (k : Nat) (hk : l.length < k) : impl_areWords.f k l = some (wordsOk l) := by
  simp only [impl_areWords.f, slices_ContainsFunc_int_impl_areWords_1.f, indexNotWord1 l hl k hk, bnd_one, found_iff l (fun x => decide (0 ≤ x ∧ x ≤ 65535)), bNot_eq, Bool.not_not]
  rfl
theorem indexNotWord2 (l : List Int) (hl : l.length ≤ 4611686018427387904) (k : Nat) (hk : l.length < k) : slices_IndexFunc_int_impl_Packet__dataOk_1.f k l = some (match l.findIdx? (fun x => !decide (0 ≤ x ∧ x ≤ 65535)) with | some i => (i : Int) | none => -1) := by
  simp only [slices_IndexFunc_int_impl_Packet__dataOk_1.f, slices_IndexFunc_int_impl_Packet__dataOk_1.l0]
  refine iter_find (f := fun (rec : (List Int × Int × Int) → Option Int) (x : List Int × Int × Int) => slices_IndexFunc_int_impl_Packet__dataOk_1.s0 k rec x.1 x.2.1 x.2.2) (fun i => (l, rLen l, (i : Int))) l (fun x => decide (0 ≤ x ∧ x ≤ 65535)) (-1) (fun i => (i : Int)) (fun rec i hi hp => ?_) (fun rec i hi hp => ?_) (fun rec => ?_) hk
  · simp only [slices_IndexFunc_int_impl_Packet__dataOk_1.s0, impl_Packet__dataOk_1.f, isWord_eq, getD_lt _ _ hi, iLt_eq, iLe_eq, iEq_eq, iNe_eq, bNot_eq, bEq_eq, bNe_eq, brB_nb, brB_dec, brB_true, brB_false, chk_idx, chk_len, chk_make, chk_sub, bnd_one, rLen_eq, rGet_nat, rSet_nat, rApp_eq, ↓reduceIte]
    rw [if_pos (by omega), if_idx hi, next_id hi hl]
    rw [if_pos (of_decide_eq_true hp)]
  · simp only [slices_IndexFunc_int_impl_Packet__dataOk_1.s0, impl_Packet__dataOk_1.f, isWord_eq, getD_lt _ _ hi, iLt_eq, iLe_eq, iEq_eq, iNe_eq, bNot_eq, bEq_eq, bNe_eq, brB_nb, brB_dec, brB_true, brB_false, chk_idx, chk_len, chk_make, chk_sub, bnd_one, rLen_eq, rGet_nat, rSet_nat, rApp_eq, ↓reduceIte]
    rw [if_pos (by omega), if_idx hi]
    rw [if_neg (of_decide_eq_false hp)]
  · simp only [slices_IndexFunc_int_impl_Packet__dataOk_1.s0, iLt_eq, iLe_eq, iEq_eq, iNe_eq, bNot_eq, bEq_eq, bNe_eq, brB_nb, brB_dec, brB_true, brB_false, chk_idx, chk_len, chk_make, chk_sub, bnd_one, rLen_eq, rGet_nat, rSet_nat, rApp_eq, ↓reduceIte]
    rw [if_neg (by omega)]
/-- A gathering is valid. -/
def gatherB (a b c : Int) (l : List Int) (e : Int) : Bool := decide (0 ≤ a ∧ a ≤ 255) && (decide (0 ≤ b ∧ b ≤ 7) && (decide (0 ≤ c ∧ c ≤ 64) && (decide ((l.length : Int) ≤ c) && (wordsOk l && (decide (0 ≤ e ∧ e ≤ 2) && (if e = 1 then decide ((l.length : Int) = c) else true))))))
theorem brB_and {x : Option Bool} {b c : Bool} (h : x = some c) : brB b x (some false) = some (b && c) := by cases b <;> simp [brB, h]
theorem if_and {p : Prop} [Decidable p] {x : Option Bool} {c : Bool} (h : x = some c) : (if p then x else some false) = some (decide p && c) := by by_cases hp : p <;> simp [hp, h]
theorem specGatherOk_ev (a b c : Int) (l : List Int) (e : Int) (hl : l.length ≤ 4611686018427387904) (k : Nat) (hk : l.length < k) : spec_GatherOk.f k a b c l e = some (gatherB a b c l e) := by
  simp only [spec_GatherOk.f, specIsId_eq, l01In_eq, l04Words_ev l hl k hk, iLt_eq, iLe_eq, iEq_eq, iNe_eq, bNot_eq, bEq_eq, bNe_eq, brB_nb, brB_dec, brB_true, brB_false, chk_idx, chk_len, chk_make, chk_sub, bnd_one, rLen_eq, rGet_nat, rSet_nat, rApp_eq, ↓reduceIte]
  refine if_and (if_and (if_and (if_and (brB_and (if_and ?_)))))
  split <;> rfl
theorem implGatherOk_ev (a b c : Int) (l : List Int) (e : Int) (hl : l.length ≤ 4611686018427387904) (k : Nat) (hk : l.length < k) : impl_GatherOk.f k a b c l e = some (gatherB a b c l e) := by
  simp only [impl_GatherOk.f, implIsId_eq, within_eq, areWords_ev l hl k hk, iLt_eq, iLe_eq, iEq_eq, iNe_eq, bNot_eq, bEq_eq, bNe_eq, brB_nb, brB_dec, brB_true, brB_false, chk_idx, chk_len, chk_make, chk_sub, bnd_one, rLen_eq, rGet_nat, rSet_nat, rApp_eq, ↓reduceIte]
  refine if_and (if_and (if_and (if_and (brB_and (if_and ?_)))))
  split <;> rfl

/-- A packet is valid: n is how many data it has, w says that they are words. -/
def packP (a0 a1 a2 a3 a4 a5 a6 n : Int) : Prop := (0 ≤ a1 ∧ a1 ≤ 255) ∧ (
  (a0 = 1 ∧ (1 ≤ n ∧ n ≤ 8) ∧ (0 ≤ a3 ∧ a3 ≤ 65536 - n) ∧ a6 = 0 ∧ a2 = 0 ∧ a4 = 0 ∧ a5 = 0) ∨
  (a0 = 2 ∧ (1 ≤ n ∧ n ≤ 8) ∧ a3 = 0 ∧ a6 = 0 ∧ a2 = 0 ∧ a4 = 0 ∧ a5 = 0) ∨
  (a0 = 3 ∧ n = 0 ∧ (1 ≤ a4 ∧ a4 ≤ 64) ∧ (0 ≤ a3 ∧ a3 ≤ 65536 - a4) ∧ (0 ≤ a5 ∧ a5 ≤ 7) ∧ a6 = 0 ∧ a2 = 0) ∨
  (a0 = 4 ∧ n = 0 ∧ (0 ≤ a3 ∧ a3 ≤ 63) ∧ (0 ≤ a2 ∧ a2 ≤ 255) ∧ (0 ≤ a5 ∧ a5 ≤ 7) ∧ a6 = 0 ∧ a4 = 0) ∨
  (a0 = 5 ∧ n = 1 ∧ (0 ≤ a3 ∧ a3 ≤ 63) ∧ (0 ≤ a2 ∧ a2 ≤ 255) ∧ (0 ≤ a5 ∧ a5 ≤ 7) ∧ a6 = 0 ∧ a4 = 0) ∨
  (a0 = 6 ∧ a3 = 0 ∧ (0 ≤ a2 ∧ a2 ≤ 255) ∧ (0 ≤ a5 ∧ a5 ≤ 7) ∧ (0 ≤ a6 ∧ a6 ≤ 2) ∧ (0 ≤ a4 ∧ a4 ≤ 64) ∧ (n = 0 ∨ (a6 = 0 ∧ n ≤ 8 ∧ n ≤ a4))))
instance (a0 a1 a2 a3 a4 a5 a6 n : Int) : Decidable (packP a0 a1 a2 a3 a4 a5 a6 n) := by unfold packP; infer_instance
def packB (a0 a1 a2 a3 a4 a5 a6 : Int) (l : List Int) : Bool := wordsOk l && decide (packP a0 a1 a2 a3 a4 a5 a6 (l.length : Int))
theorem some_iff {b c : Bool} (h : b = true ↔ c = true) : some b = some c := by rw [Bool.eq_iff_iff.2 h]
theorem l04Zero_eq (k : Nat) (a0 a1 a2 a3 a4 a5 a6 : Int) (l : List Int) (x y z : Bool) : spec_l04Zero.f k a0 a1 a2 a3 a4 a5 a6 l x y z = some (decide ((x = true ∨ a2 = 0) ∧ (y = true ∨ a4 = 0) ∧ (z = true ∨ a5 = 0))) := by
  simp only [spec_l04Zero.f, iLt_eq, iLe_eq, iEq_eq, iNe_eq, bNot_eq, bEq_eq, bNe_eq, brB_nb, brB_dec, brB_true, brB_false, chk_idx, chk_len, chk_make, chk_sub, bnd_one, rLen_eq, rGet_nat, rSet_nat, rApp_eq, ↓reduceIte]
  cases x <;> cases y <;> cases z <;> simp only [iLt_eq, iLe_eq, iEq_eq, iNe_eq, bNot_eq, bEq_eq, bNe_eq, brB_nb, brB_dec, brB_true, brB_false, chk_idx, chk_len, chk_make, chk_sub, bnd_one, rLen_eq, rGet_nat, rSet_nat, rApp_eq, ↓reduceIte] <;> (repeat' split) <;> simp_all
theorem specIsPacket_ev (a0 a1 a2 a3 a4 a5 a6 : Int) (l : List Int) (hl : l.length ≤ 1048576) (h3 : (Lit.int .i64 a3).wf = true) (h4 : (Lit.int .i64 a4).wf = true) (k : Nat) (hk : l.length < k) : spec_IsPacket.f k a0 a1 a2 a3 a4 a5 a6 l = some (packB a0 a1 a2 a3 a4 a5 a6 l) := by
  rw [wf64] at h3 h4
  simp only [spec_IsPacket.f, specIsId_eq, l01In_eq, l04Words_ev l (by omega) k hk, l04Zero_eq, iLt_eq, iLe_eq, iEq_eq, iNe_eq, bNot_eq, bEq_eq, bNe_eq, brB_nb, brB_dec, brB_true, brB_false, chk_idx, chk_len, chk_make, chk_sub, bnd_one, rLen_eq, rGet_nat, rSet_nat, rApp_eq, ↓reduceIte]
  rw [iSub_id (a := 65536) (b := (l.length : Int)) (by omega) (by omega)]
  simp only [packB, iSub_w, w64, iMin]
  generalize wordsOk l = w
  generalize (l.length : Int) = n at *
  cases w with
  | false => simp only [iLt_eq, iLe_eq, iEq_eq, iNe_eq, bNot_eq, bEq_eq, bNe_eq, brB_nb, brB_dec, brB_true, brB_false, chk_idx, chk_len, chk_make, chk_sub, bnd_one, rLen_eq, rGet_nat, rSet_nat, rApp_eq, ↓reduceIte, Bool.false_and]; split <;> rfl
  | true =>
    simp only [iLt_eq, iLe_eq, iEq_eq, iNe_eq, bNot_eq, bEq_eq, bNe_eq, brB_nb, brB_dec, brB_true, brB_false, chk_idx, chk_len, chk_make, chk_sub, bnd_one, rLen_eq, rGet_nat, rSet_nat, rApp_eq, ↓reduceIte, Bool.true_and]
    by_cases b0 : 0 ≤ a1 ∧ a1 ≤ 255
    · rw [if_pos b0]
      by_cases b1 : a0 = 1
      · subst b1; simp only [↓reduceIte]; (repeat' split) <;> (refine some_iff ?_ <;> (try simp only [packP, decide_eq_true_eq, Bool.false_eq_true, false_iff, true_iff, Int.reduceEq, false_or, or_false, false_and, true_and, and_true, and_false, true_or, or_true, iff_self, iff_false, iff_true] at *) <;> first | omega | (intro h; omega) | (constructor <;> intro h <;> omega) | trivial)
      by_cases b2 : a0 = 2
      · subst b2; simp only [Int.reduceEq, ↓reduceIte]; (repeat' split) <;> (refine some_iff ?_ <;> (try simp only [packP, decide_eq_true_eq, Bool.false_eq_true, false_iff, true_iff, Int.reduceEq, false_or, or_false, false_and, true_and, and_true, and_false, true_or, or_true, iff_self, iff_false, iff_true] at *) <;> first | omega | (intro h; omega) | (constructor <;> intro h <;> omega) | trivial)
      by_cases b3 : a0 = 3
      · subst b3; simp only [Int.reduceEq, ↓reduceIte]; (repeat' split) <;> (refine some_iff ?_ <;> (try simp only [packP, decide_eq_true_eq, Bool.false_eq_true, false_iff, true_iff, Int.reduceEq, false_or, or_false, false_and, true_and, and_true, and_false, true_or, or_true, iff_self, iff_false, iff_true] at *) <;> first | omega | (intro h; omega) | (constructor <;> intro h <;> omega) | trivial)
      by_cases b4 : a0 = 4
      · subst b4; simp only [Int.reduceEq, ↓reduceIte]; (repeat' split) <;> (refine some_iff ?_ <;> (try simp only [packP, decide_eq_true_eq, Bool.false_eq_true, false_iff, true_iff, Int.reduceEq, false_or, or_false, false_and, true_and, and_true, and_false, true_or, or_true, iff_self, iff_false, iff_true] at *) <;> first | omega | (intro h; omega) | (constructor <;> intro h <;> omega) | trivial)
      by_cases b5 : a0 = 5
      · subst b5; simp only [Int.reduceEq, ↓reduceIte]; (repeat' split) <;> (refine some_iff ?_ <;> (try simp only [packP, decide_eq_true_eq, Bool.false_eq_true, false_iff, true_iff, Int.reduceEq, false_or, or_false, false_and, true_and, and_true, and_false, true_or, or_true, iff_self, iff_false, iff_true] at *) <;> first | omega | (intro h; omega) | (constructor <;> intro h <;> omega) | trivial)
      by_cases b6 : a0 = 6
      · subst b6; simp only [Int.reduceEq, ↓reduceIte]; (repeat' split) <;> (refine some_iff ?_ <;> (try simp only [packP, decide_eq_true_eq, Bool.false_eq_true, false_iff, true_iff, Int.reduceEq, false_or, or_false, false_and, true_and, and_true, and_false, true_or, or_true, iff_self, iff_false, iff_true] at *) <;> first | omega | (intro h; omega) | (constructor <;> intro h <;> omega) | trivial)
      rw [if_neg b1, if_neg b2, if_neg b3, if_neg b4, if_neg b5, if_neg b6]
      exact congrArg some (decide_eq_false (by unfold packP; omega)).symm
    · rw [if_neg b0]
      exact congrArg some (decide_eq_false (by unfold packP; omega)).symm
/-- How many data a packet may have. -/
def dataP (a0 a4 a6 n : Int) : Prop := if a0 = 1 ∨ a0 = 2 then 1 ≤ n ∧ n ≤ 8 else if a0 = 5 then n = 1 else if a0 = 6 ∧ a6 = 0 then n ≤ 8 ∧ n ≤ a4 else n = 0
instance (a0 a4 a6 n : Int) : Decidable (dataP a0 a4 a6 n) := by unfold dataP; infer_instance
theorem dataOk_ev (a0 a1 a2 a3 a4 a5 a6 : Int) (l : List Int) (hl : l.length ≤ 4611686018427387904) (k : Nat) (hk : l.length < k) : impl_Packet__dataOk.f k a0 a1 a2 a3 a4 a5 a6 l = some (wordsOk l && decide (dataP a0 a4 a6 (l.length : Int))) := by
  simp only [impl_Packet__dataOk.f, slices_ContainsFunc_int_impl_Packet__dataOk_1.f, indexNotWord2 l hl k hk, bnd_one, found_iff l (fun x => decide (0 ≤ x ∧ x ≤ 65535)), within_eq]
  rw [show (l.all fun x => decide (0 ≤ x ∧ x ≤ 65535)) = wordsOk l from rfl]
  simp only [iLt_eq, iLe_eq, iEq_eq, iNe_eq, bNot_eq, bEq_eq, bNe_eq, brB_nb, brB_dec, brB_true, brB_false, chk_idx, chk_len, chk_make, chk_sub, bnd_one, rLen_eq, rGet_nat, rSet_nat, rApp_eq, ↓reduceIte]
  cases wordsOk l with
  | false => rfl
  | true =>
    simp only [iLt_eq, iLe_eq, iEq_eq, iNe_eq, bNot_eq, bEq_eq, bNe_eq, brB_nb, brB_dec, brB_true, brB_false, chk_idx, chk_len, chk_make, chk_sub, bnd_one, rLen_eq, rGet_nat, rSet_nat, rApp_eq, ↓reduceIte, Bool.true_and]
    unfold dataP
    by_cases b1 : a0 = 1
    · subst b1; simp only [Int.reduceEq, or_false, false_or, or_true, true_or, iLt_eq, iLe_eq, iEq_eq, iNe_eq, bNot_eq, bEq_eq, bNe_eq, brB_nb, brB_dec, brB_true, brB_false, chk_idx, chk_len, chk_make, chk_sub, bnd_one, rLen_eq, rGet_nat, rSet_nat, rApp_eq, ↓reduceIte]; (try rfl)
    by_cases b2 : a0 = 2
    · subst b2; simp only [Int.reduceEq, or_false, false_or, or_true, true_or, iLt_eq, iLe_eq, iEq_eq, iNe_eq, bNot_eq, bEq_eq, bNe_eq, brB_nb, brB_dec, brB_true, brB_false, chk_idx, chk_len, chk_make, chk_sub, bnd_one, rLen_eq, rGet_nat, rSet_nat, rApp_eq, ↓reduceIte]; (try rfl)
    by_cases b5 : a0 = 5
    · subst b5; simp only [Int.reduceEq, or_false, false_or, or_true, true_or, or_self, iLt_eq, iLe_eq, iEq_eq, iNe_eq, bNot_eq, bEq_eq, bNe_eq, brB_nb, brB_dec, brB_true, brB_false, chk_idx, chk_len, chk_make, chk_sub, bnd_one, rLen_eq, rGet_nat, rSet_nat, rApp_eq, ↓reduceIte]
    by_cases b6 : a0 = 6
    · subst b6; simp only [Int.reduceEq, or_false, false_or, or_true, true_or, or_self, true_and, iLt_eq, iLe_eq, iEq_eq, iNe_eq, bNot_eq, bEq_eq, bNe_eq, brB_nb, brB_dec, brB_true, brB_false, chk_idx, chk_len, chk_make, chk_sub, bnd_one, rLen_eq, rGet_nat, rSet_nat, rApp_eq, ↓reduceIte]; (repeat' split) <;> (refine some_iff ?_ <;> (try simp only [decide_eq_true_eq, Bool.false_eq_true, false_iff, true_iff, Int.reduceEq, false_or, or_false, false_and, true_and, and_true, and_false, true_or, or_true, iff_self, iff_false, iff_true] at *) <;> first | omega | (intro h; omega) | (constructor <;> intro h <;> omega) | trivial)
    simp only [b1, b2, b5, b6, or_self, false_and, iLt_eq, iLe_eq, iEq_eq, iNe_eq, bNot_eq, bEq_eq, bNe_eq, brB_nb, brB_dec, brB_true, brB_false, chk_idx, chk_len, chk_make, chk_sub, bnd_one, rLen_eq, rGet_nat, rSet_nat, rApp_eq, ↓reduceIte]
def addrP (a0 a3 a4 n : Int) : Prop := if a0 = 1 then (0 ≤ a3 ∧ a3 ≤ 65535) ∧ n ≤ 65536 - a3 else if a0 = 3 then (0 ≤ a3 ∧ a3 ≤ 65535) ∧ a4 ≤ 65536 - a3 else if a0 = 4 ∨ a0 = 5 then 0 ≤ a3 ∧ a3 ≤ 63 else a3 = 0
instance (a0 a3 a4 n : Int) : Decidable (addrP a0 a3 a4 n) := by unfold addrP; infer_instance
theorem addressOk_eq (k : Nat) (a0 a1 a2 a3 a4 a5 a6 : Int) (l : List Int) (h3 : (Lit.int .i64 a3).wf = true) : impl_Packet__addressOk.f k a0 a1 a2 a3 a4 a5 a6 l = some (decide (addrP a0 a3 a4 (l.length : Int))) := by
  rw [wf64] at h3
  simp only [impl_Packet__addressOk.f, within_eq, impl_Packet__words.f, iSub_w, w64, iLt_eq, iLe_eq, iEq_eq, iNe_eq, bNot_eq, bEq_eq, bNe_eq, brB_nb, brB_dec, brB_true, brB_false, chk_idx, chk_len, chk_make, chk_sub, bnd_one, rLen_eq, rGet_nat, rSet_nat, rApp_eq, ↓reduceIte]
  generalize (l.length : Int) = n
  unfold addrP
  by_cases b1 : a0 = 1
  · subst b1; simp only [Int.reduceEq, iLt_eq, iLe_eq, iEq_eq, iNe_eq, bNot_eq, bEq_eq, bNe_eq, brB_nb, brB_dec, brB_true, brB_false, chk_idx, chk_len, chk_make, chk_sub, bnd_one, rLen_eq, rGet_nat, rSet_nat, rApp_eq, ↓reduceIte]; (repeat' split) <;> (refine some_iff ?_ <;> (try simp only [decide_eq_true_eq, Bool.false_eq_true, false_iff, true_iff, Int.reduceEq, false_or, or_false, false_and, true_and, and_true, and_false, true_or, or_true, iff_self, iff_false, iff_true] at *) <;> first | omega | (intro h; omega) | (constructor <;> intro h <;> omega) | trivial)
  by_cases b3 : a0 = 3
  · subst b3; simp only [Int.reduceEq, iLt_eq, iLe_eq, iEq_eq, iNe_eq, bNot_eq, bEq_eq, bNe_eq, brB_nb, brB_dec, brB_true, brB_false, chk_idx, chk_len, chk_make, chk_sub, bnd_one, rLen_eq, rGet_nat, rSet_nat, rApp_eq, ↓reduceIte]; (repeat' split) <;> (refine some_iff ?_ <;> (try simp only [decide_eq_true_eq, Bool.false_eq_true, false_iff, true_iff, Int.reduceEq, false_or, or_false, false_and, true_and, and_true, and_false, true_or, or_true, iff_self, iff_false, iff_true] at *) <;> first | omega | (intro h; omega) | (constructor <;> intro h <;> omega) | trivial)
  by_cases b4 : a0 = 4
  · subst b4; simp only [Int.reduceEq, or_false, false_or, or_true, true_or, iLt_eq, iLe_eq, iEq_eq, iNe_eq, bNot_eq, bEq_eq, bNe_eq, brB_nb, brB_dec, brB_true, brB_false, chk_idx, chk_len, chk_make, chk_sub, bnd_one, rLen_eq, rGet_nat, rSet_nat, rApp_eq, ↓reduceIte]
  by_cases b5 : a0 = 5
  · subst b5; simp only [Int.reduceEq, or_false, false_or, or_true, true_or, iLt_eq, iLe_eq, iEq_eq, iNe_eq, bNot_eq, bEq_eq, bNe_eq, brB_nb, brB_dec, brB_true, brB_false, chk_idx, chk_len, chk_make, chk_sub, bnd_one, rLen_eq, rGet_nat, rSet_nat, rApp_eq, ↓reduceIte]
  simp only [b1, b3, b4, b5, or_self, iLt_eq, iLe_eq, iEq_eq, iNe_eq, bNot_eq, bEq_eq, bNe_eq, brB_nb, brB_dec, brB_true, brB_false, chk_idx, chk_len, chk_make, chk_sub, bnd_one, rLen_eq, rGet_nat, rSet_nat, rApp_eq, ↓reduceIte]
def lenP (a0 a4 : Int) : Prop := if a0 = 3 then 1 ≤ a4 ∧ a4 ≤ 64 else if a0 = 6 then 0 ≤ a4 ∧ a4 ≤ 64 else a4 = 0
instance (a0 a4 : Int) : Decidable (lenP a0 a4) := by unfold lenP; infer_instance
theorem lengthOk_eq (k : Nat) (a0 a1 a2 a3 a4 a5 a6 : Int) (l : List Int) : impl_Packet__lengthOk.f k a0 a1 a2 a3 a4 a5 a6 l = some (decide (lenP a0 a4)) := by
  simp only [impl_Packet__lengthOk.f, within_eq, iLt_eq, iLe_eq, iEq_eq, iNe_eq, bNot_eq, bEq_eq, bNe_eq, brB_nb, brB_dec, brB_true, brB_false, chk_idx, chk_len, chk_make, chk_sub, bnd_one, rLen_eq, rGet_nat, rSet_nat, rApp_eq, ↓reduceIte]
  unfold lenP
  (repeat' split) <;> rfl
theorem implIsPacket_ev (a0 a1 a2 a3 a4 a5 a6 : Int) (l : List Int) (hl : l.length ≤ 1048576) (h3 : (Lit.int .i64 a3).wf = true) (h4 : (Lit.int .i64 a4).wf = true) (k : Nat) (hk : l.length < k) : impl_IsPacket.f k a0 a1 a2 a3 a4 a5 a6 l = some (packB a0 a1 a2 a3 a4 a5 a6 l) := by
  by_cases b0 : 1 ≤ a0 ∧ a0 ≤ 6
  · simp only [impl_IsPacket.f, implIsId_eq, within_eq, dataOk_ev a0 a1 a2 a3 a4 a5 a6 l (by omega) k hk, addressOk_eq k a0 a1 a2 a3 a4 a5 a6 l h3, lengthOk_eq, bnd_one, iEq_eq, iNe_eq, brB_nb, bNot_eq, packB]
    rw [decide_eq_true b0]
    generalize wordsOk l = w
    generalize (l.length : Int) = n at *
    have : a0 = 1 ∨ a0 = 2 ∨ a0 = 3 ∨ a0 = 4 ∨ a0 = 5 ∨ a0 = 6 := by omega
    cases w with
    | false =>
      rcases this with rfl | rfl | rfl | rfl | rfl | rfl <;> simp only [Int.reduceEq, Int.reduceLE, decide_true, decide_false, bnd_one, brB_true, brB_false, brB_dec, and_self, and_true, and_false, true_and, false_and, Bool.false_and, ↓reduceIte] <;> (repeat' split) <;> rfl
    | true =>
      rcases this with rfl | rfl | rfl | rfl | rfl | rfl <;> simp only [Int.reduceEq, Int.reduceLE, decide_true, decide_false, bnd_one, brB_true, brB_false, brB_dec, and_self, and_true, and_false, true_and, false_and, Bool.true_and, dataP, packP, addrP, lenP, or_true, true_or, or_false, false_or, ↓reduceIte] <;> (repeat' split) <;> (refine some_iff ?_ <;> (try simp only [decide_eq_true_eq, Bool.false_eq_true, false_iff, true_iff, Int.reduceEq, false_or, or_false, false_and, true_and, and_true, and_false, true_or, or_true, iff_self, iff_false, iff_true] at *) <;> first | omega | (intro h; omega) | (constructor <;> intro h <;> omega) | trivial)
  · simp only [impl_IsPacket.f, within_eq, packB, bnd_one, decide_eq_false b0, bNot_eq, Bool.not_false, brB_true]
    rw [show decide (packP a0 a1 a2 a3 a4 a5 a6 (l.length : Int)) = false from decide_eq_false (by unfold packP; omega), Bool.and_false]
/-- The class of a packet. -/
def classB (p : Bool) (a0 : Int) : Int := if p = true then (if a0 = 1 ∨ a0 = 2 then 0 else if a0 = 6 then 2 else 1) else -1
theorem specClassOf_ev (a0 a1 a2 a3 a4 a5 a6 : Int) (l : List Int) (hl : l.length ≤ 1048576) (h3 : (Lit.int .i64 a3).wf = true) (h4 : (Lit.int .i64 a4).wf = true) (k : Nat) (hk : l.length < k) : spec_ClassOf.f k a0 a1 a2 a3 a4 a5 a6 l = some (classB (packB a0 a1 a2 a3 a4 a5 a6 l) a0) := by
  simp only [spec_ClassOf.f, specIsPacket_ev a0 a1 a2 a3 a4 a5 a6 l hl h3 h4 k hk, classB, iLt_eq, iLe_eq, iEq_eq, iNe_eq, bNot_eq, bEq_eq, bNe_eq, brB_nb, brB_dec, brB_true, brB_false, chk_idx, chk_len, chk_make, chk_sub, bnd_one, rLen_eq, rGet_nat, rSet_nat, rApp_eq, ↓reduceIte]
  cases packB a0 a1 a2 a3 a4 a5 a6 l with
  | false => rfl
  | true =>
    simp only [iLt_eq, iLe_eq, iEq_eq, iNe_eq, bNot_eq, bEq_eq, bNe_eq, brB_nb, brB_dec, brB_true, brB_false, chk_idx, chk_len, chk_make, chk_sub, bnd_one, rLen_eq, rGet_nat, rSet_nat, rApp_eq, ↓reduceIte]
    by_cases b1 : a0 = 1
    · subst b1; rfl
    by_cases b2 : a0 = 2
    · subst b2; rfl
    by_cases b6 : a0 = 6
    · subst b6; rfl
    simp only [b1, b2, b6, or_self, iLt_eq, iLe_eq, iEq_eq, iNe_eq, bNot_eq, bEq_eq, bNe_eq, brB_nb, brB_dec, brB_true, brB_false, chk_idx, chk_len, chk_make, chk_sub, bnd_one, rLen_eq, rGet_nat, rSet_nat, rApp_eq, ↓reduceIte]
theorem implClassOf_ev (a0 a1 a2 a3 a4 a5 a6 : Int) (l : List Int) (hl : l.length ≤ 1048576) (h3 : (Lit.int .i64 a3).wf = true) (h4 : (Lit.int .i64 a4).wf = true) (k : Nat) (hk : l.length < k) : impl_ClassOf.f k a0 a1 a2 a3 a4 a5 a6 l = some (classB (packB a0 a1 a2 a3 a4 a5 a6 l) a0) := by
  simp only [impl_ClassOf.f, impl_classOf.f, implIsPacket_ev a0 a1 a2 a3 a4 a5 a6 l hl h3 h4 k hk, classB, iLt_eq, iLe_eq, iEq_eq, iNe_eq, bNot_eq, bEq_eq, bNe_eq, brB_nb, brB_dec, brB_true, brB_false, chk_idx, chk_len, chk_make, chk_sub, bnd_one, rLen_eq, rGet_nat, rSet_nat, rApp_eq, ↓reduceIte]
  cases packB a0 a1 a2 a3 a4 a5 a6 l with
  | false => rfl
  | true =>
    simp only [iLt_eq, iLe_eq, iEq_eq, iNe_eq, bNot_eq, bEq_eq, bNe_eq, brB_nb, brB_dec, brB_true, brB_false, chk_idx, chk_len, chk_make, chk_sub, bnd_one, rLen_eq, rGet_nat, rSet_nat, rApp_eq, ↓reduceIte]
    by_cases b1 : a0 = 1
    · subst b1; rfl
    by_cases b2 : a0 = 2
    · subst b2; rfl
    by_cases b6 : a0 = 6
    · subst b6; rfl
    simp only [b1, b2, b6, or_self, iLt_eq, iLe_eq, iEq_eq, iNe_eq, bNot_eq, bEq_eq, bNe_eq, brB_nb, brB_dec, brB_true, brB_false, chk_idx, chk_len, chk_make, chk_sub, bnd_one, rLen_eq, rGet_nat, rSet_nat, rApp_eq, ↓reduceIte]

theorem rGet_in {α : Type} (d : α) (l : List α) {v : Int} (h : 0 ≤ v) : rGet d l v = l.getD v.toNat d := rfl
theorem rSet_in {α : Type} (l : List α) {v : Int} (x : α) (h : 0 ≤ v) : rSet l v x = l.set v.toNat x := rfl
/-- A loop that looks for an element without a quality. -/
theorem iter_all {R : Type} {α : Type} {X : Type} {f : (X → Option R) → X → Option R} (s : Nat → X) (xs : List α) (p : α → Bool) (r e : Option R)
    (go : ∀ rec (i : Nat) (h : i < xs.length), p xs[i] = true → f rec (s i) = rec (s (i + 1))) (stop : ∀ rec (i : Nat) (h : i < xs.length), p xs[i] = false → f rec (s i) = e) (done : ∀ rec, f rec (s xs.length) = r) {n : Nat} (hn : xs.length < n) :
    iter f n (s 0) = brB (xs.all p) r e := by
  suffices H : ∀ d i n, i + d = xs.length → d < n → iter f n (s i) = brB ((xs.drop i).all p) r e from by
    have := H xs.length 0 n (by omega) hn
    simpa using this
  intro d
  induction d with
  | zero =>
    intro i n hi hn
    obtain ⟨m, rfl⟩ : ∃ m, n = m + 1 := ⟨n - 1, by omega⟩
    obtain rfl : i = xs.length := by omega
    rw [List.drop_length]
    exact done _
  | succ d ih =>
    intro i n hi hn
    obtain ⟨m, rfl⟩ : ∃ m, n = m + 1 := ⟨n - 1, by omega⟩
    show f (iter f m) (s i) = _
    have hlt : i < xs.length := by omega
    rw [List.drop_eq_getElem_cons hlt, List.all_cons]
    cases hq : p xs[i] with
    | false => rw [stop _ i hlt hq]; rfl
    | true => rw [go _ i hlt hq, ih (i + 1) m (by omega) (by omega), Bool.true_and]
/-- A node: its parent, its place, its functions. -/
def nd (xs : List (Int × Int × Int)) (i : Nat) : Int × Int × Int := xs.getD i (0, 0, 0)
theorem getD_set_if {α : Type} (d : α) (l : List α) (i j : Nat) (v : α) (h : i < l.length) : (l.set i v).getD j d = if j = i then v else l.getD j d := by
  rw [List.getD_eq_getElem?_getD, List.getD_eq_getElem?_getD, List.getElem?_set]
  by_cases e : j = i
  · subst e; rw [if_pos rfl, if_pos rfl, if_pos h]; rfl
  · rw [if_neg e, if_neg (by omega)]
theorem iBit_and255 (x : Int) : 0 ≤ iBit .and .i64 x 255 ∧ iBit .and .i64 x 255 ≤ 255 := by
  have h : (BitVec.ofInt IntKind.i64.bits x &&& BitVec.ofInt IntKind.i64.bits 255).toNat ≤ 255 := by
    rw [BitVec.toNat_and]
    refine Nat.le_trans Nat.and_le_right ?_
    decide
  simp only [iBit]
  rw [wrap64, w64_id (by omega) (by omega)]
  omega
noncomputable def lnF (k : Nat) (rec : (List Int × Int × Int) → Option (List Int × Int × Int)) (x : List Int × Int × Int) : Option (List Int × Int × Int) := spec_l01New.s0 k rec x.1 x.2.1 x.2.2
theorem l01New_ev (c : List Int) (k : Nat) (hk : 4000 < k) : ∃ s, spec_l01New.f k c = some (c, 0, s) := by
  suffices H : ∀ (n i : Nat) (x : Int) (K : Nat), i + n = 4000 → n < K → ∃ s, iter (lnF k) K (c, x, (i : Int)) = some (c, 0, s) from H 4000 0 (iAdd .i64 98663 (rLen c)) k (by omega) hk
  intro n
  induction n with
  | zero =>
    intro i x K hi hK
    obtain ⟨m, rfl⟩ : ∃ m, K = m + 1 := ⟨K - 1, by omega⟩
    refine ⟨x, ?_⟩
    show spec_l01New.s0 k (iter (lnF k) m) c x (i : Int) = _
    generalize iter (lnF k) m = rec
    simp only [spec_l01New.s0, iLt_eq, iLe_eq, iEq_eq, iNe_eq, bNot_eq, bEq_eq, bNe_eq, brB_nb, brB_dec, brB_true, brB_false, chk_idx, chk_len, chk_make, chk_sub, bnd_one, rLen_eq, rGet_nat, rSet_nat, rApp_eq, ↓reduceIte]
    by_cases h : (i : Int) < (c.length : Int)
    · rw [if_pos h, if_neg (by omega)]
    · rw [if_neg h]
  | succ n ih =>
    intro i x K hi hK
    obtain ⟨m, rfl⟩ : ∃ m, K = m + 1 := ⟨K - 1, by omega⟩
    by_cases h : (i : Int) < (c.length : Int)
    · obtain ⟨s, hs⟩ := ih (i + 1) (iBit .and .i64 (iAdd .i64 (iAdd .i64 (iMul .i64 x 131) (iCnv .i64 (c.getD i 0))) 7) 1073741823) m (by omega) (by omega)
      refine ⟨s, ?_⟩
      show spec_l01New.s0 k (iter (lnF k) m) c x (i : Int) = _
      generalize iter (lnF k) m = rec at hs ⊢
      simp only [spec_l01New.s0, iLt_eq, iLe_eq, iEq_eq, iNe_eq, bNot_eq, bEq_eq, bNe_eq, brB_nb, brB_dec, brB_true, brB_false, chk_idx, chk_len, chk_make, chk_sub, bnd_one, rLen_eq, rGet_nat, rSet_nat, rApp_eq, ↓reduceIte]
      rw [if_pos h, if_pos (by omega), if_pos (by omega), next_id (n := 4000) (by omega) (by omega), hs]
    · refine ⟨x, ?_⟩
      show spec_l01New.s0 k (iter (lnF k) m) c x (i : Int) = _
      generalize iter (lnF k) m = rec
      simp only [spec_l01New.s0, iLt_eq, iLe_eq, iEq_eq, iNe_eq, bNot_eq, bEq_eq, bNe_eq, brB_nb, brB_dec, brB_true, brB_false, chk_idx, chk_len, chk_make, chk_sub, bnd_one, rLen_eq, rGet_nat, rSet_nat, rApp_eq, ↓reduceIte]
      rw [if_neg h]
theorem l01Byte_some (k : Nat) (c : List Int) (hc : c.length ≤ 2000000) (p s : Int) (hp : 0 ≤ p) : ∃ b p' s', spec_l01Byte.f k c p s = some (b, c, p', s') ∧ 0 ≤ b ∧ b ≤ 255 ∧ 0 ≤ p' := by
  simp only [spec_l01Byte.f, chk_nn, iLt_eq, brB_dec, chk_idx, rLen_eq]
  rw [if_pos (by omega), if_pos (by omega)]
  by_cases h : p < (c.length : Int)
  · rw [if_pos h, if_pos (by omega)]
    exact ⟨_, _, _, rfl, (iBit_and255 _).1, (iBit_and255 _).2, by rw [iAdd_id (by omega) (by omega)]; omega⟩
  · rw [if_neg h]
    exact ⟨_, _, _, rfl, (iBit_and255 _).1, (iBit_and255 _).2, hp⟩
theorem l01Below_some (k : Nat) (c : List Int) (hc : c.length ≤ 2000000) (p s n : Int) (hp : 0 ≤ p) (hn : 0 < n) : ∃ v p' s', spec_l01Below.f k n c p s = some (v, c, p', s') ∧ 0 ≤ v ∧ v < n ∧ 0 ≤ p' := by
  obtain ⟨b1, p1, s1, e1, h1, g1, q1⟩ := l01Byte_some k c hc p s hp
  obtain ⟨b2, p2, s2, e2, h2, g2, q2⟩ := l01Byte_some k c hc p1 s1 q1
  obtain ⟨b3, p3, s3, e3, h3, g3, q3⟩ := l01Byte_some k c hc p2 s2 q2
  obtain ⟨b4, p4, s4, e4, h4, g4, q4⟩ := l01Byte_some k c hc p3 s3 q3
  simp only [spec_l01Below.f, iLe_eq, brB_dec, e1, e2, e3, e4, bnd_one, chk_nz]
  rw [if_neg (by omega)]
  by_cases h : n ≤ 256
  · rw [if_pos h, if_neg (by omega)]
    exact ⟨_, _, _, rfl, Int.tmod_nonneg _ h1, Int.tmod_lt_of_pos _ hn, q1⟩
  · rw [if_neg h, if_neg (by omega)]
    have e : iAdd .i64 (iAdd .i64 (iAdd .i64 (iMul .i64 b1 16777216) (iMul .i64 b2 65536)) (iMul .i64 b3 256)) b4 = b1 * 16777216 + b2 * 65536 + b3 * 256 + b4 := by
      simp only [iAdd_w, iMul_w, w64]; omega
    rw [e]
    exact ⟨_, _, _, rfl, Int.tmod_nonneg _ (by omega), Int.tmod_lt_of_pos _ hn, q4⟩
theorem l01PickInt_some (k : Nat) (l c : List Int) (hc : c.length ≤ 2000000) (p s : Int) (hp : 0 ≤ p) (hl : 0 < l.length) : ∃ v p' s', spec_l01PickInt.f k l c p s = some (v, c, p', s') ∧ v ∈ l ∧ 0 ≤ p' := by
  obtain ⟨v, p1, s1, e1, h1, g1, q1⟩ := l01Below_some k c hc p s (l.length : Int) hp (by omega)
  simp only [spec_l01PickInt.f, rLen_eq, e1, bnd_one, chk_idx]
  rw [if_pos ⟨h1, g1⟩, rGet_in _ _ h1, getD_lt 0 l (by omega)]
  exact ⟨_, _, _, rfl, List.getElem_mem _, q1⟩
noncomputable def dpF (k : Nat) (rec : (List Int × Int × List Int × Int × Int) → Option (List Int)) (x : List Int × Int × List Int × Int × Int) : Option (List Int) := spec_DrawPlaces.s0 k rec x.1 x.2.1 x.2.2.1 x.2.2.2.1 x.2.2.2.2
/-- Twelve places. -/
theorem drawPlaces_ev (c : List Int) (hc : c.length ≤ 2000000) (k : Nat) (hk : 4000 < k) : ∃ l : List Int, spec_DrawPlaces.f k c = some l ∧ l.length = 12 ∧ ∀ x ∈ l, 0 ≤ x ∧ x < 10000 := by
  obtain ⟨s0, h0⟩ := l01New_ev c k hk
  suffices H : ∀ (n i : Nat) (x : List Int) (p s : Int) (K : Nat), i + n = 12 → n < K → x.length = i → 0 ≤ p → (∀ y ∈ x, 0 ≤ y ∧ y < 10000) → ∃ l : List Int, iter (dpF k) K (x, (i : Int), c, p, s) = some l ∧ l.length = 12 ∧ ∀ x ∈ l, 0 ≤ x ∧ x < 10000 by
    obtain ⟨l, h, hl⟩ := H 12 0 [] 0 s0 k (by omega) (by omega) rfl (by omega) (fun y hy => by cases hy)
    refine ⟨l, ?_, hl⟩
    simp only [spec_DrawPlaces.f, h0, bnd_one]
    exact h
  intro n
  induction n with
  | zero =>
    intro i x p s K hi hK hx hp hxs
    obtain ⟨m, rfl⟩ : ∃ m, K = m + 1 := ⟨K - 1, by omega⟩
    refine ⟨x, ?_, by omega, hxs⟩
    show spec_DrawPlaces.s0 k (iter (dpF k) m) x (i : Int) c p s = _
    generalize iter (dpF k) m = rec
    simp only [spec_DrawPlaces.s0, iLt_eq, brB_dec]
    rw [if_neg (by omega)]
  | succ n ih =>
    intro i x p s K hi hK hx hp hxs
    obtain ⟨m, rfl⟩ : ∃ m, K = m + 1 := ⟨K - 1, by omega⟩
    obtain ⟨v, p1, s1, e1, h1, g1, q1⟩ := l01Below_some k c hc p s 10000 hp (by omega)
    obtain ⟨l, h, hl⟩ := ih (i + 1) (x ++ [v]) p1 s1 m (by omega) (by omega) (by simp [hx]) q1 (fun y hy => by
      rcases List.mem_append.1 hy with hy | hy
      · exact hxs y hy
      · simp at hy; subst hy; exact ⟨h1, g1⟩)
    refine ⟨l, ?_, hl⟩
    show spec_DrawPlaces.s0 k (iter (dpF k) m) x (i : Int) c p s = _
    generalize iter (dpF k) m = rec at h ⊢
    simp only [spec_DrawPlaces.s0, iLt_eq, brB_dec, e1, bnd_one, chk_len, rLen_eq, rApp_eq]
    rw [if_pos (by omega), if_pos (by simp only [List.length_append, List.length_cons, List.length_nil]; omega), next_id (n := 12) (by omega) (by omega), h]
theorem sameInts_refl (xs : List Int) (hn : xs.length ≤ 4611686018427387904) (k : Nat) (hk : xs.length < k) : laws_sameInts.f k xs xs = some true := by
  simp only [laws_sameInts.f, laws_sameInts.l0, iLt_eq, iLe_eq, iEq_eq, iNe_eq, bNot_eq, bEq_eq, bNe_eq, brB_nb, brB_dec, brB_true, brB_false, chk_idx, chk_len, chk_make, chk_sub, bnd_one, rLen_eq, rGet_nat, rSet_nat, rApp_eq, ↓reduceIte]
  refine iter_upto (f := fun (rec : (List Int × List Int × Int) → Option Bool) (x : List Int × List Int × Int) => laws_sameInts.s0 k rec x.1 x.2.1 x.2.2) (fun i => (xs, xs, (i : Int))) xs.length (fun rec i hi => ?_) (fun rec => ?_) hk
  · simp only [laws_sameInts.s0, iLt_eq, iLe_eq, iEq_eq, iNe_eq, bNot_eq, bEq_eq, bNe_eq, brB_nb, brB_dec, brB_true, brB_false, chk_idx, chk_len, chk_make, chk_sub, bnd_one, rLen_eq, rGet_nat, rSet_nat, rApp_eq, ↓reduceIte]
    rw [if_pos (by omega), if_idx hi, if_idx hi, next_id hi hn]
  · simp only [laws_sameInts.s0, iLt_eq, iLe_eq, iEq_eq, iNe_eq, bNot_eq, bEq_eq, bNe_eq, brB_nb, brB_dec, brB_true, brB_false, chk_idx, chk_len, chk_make, chk_sub, bnd_one, rLen_eq, rGet_nat, rSet_nat, rApp_eq, ↓reduceIte]
    rw [if_neg (by omega)]

/-- It gives something that is so. -/
def Yd {R : Type} (x : Option R) (Q : R → Prop) : Prop := ∃ r, x = some r ∧ Q r
theorem Yd.one {R : Type} {r : R} {Q : R → Prop} (h : Q r) : Yd (some r) Q := ⟨r, rfl, h⟩
theorem Yd.bnd {A R : Type} {x : Option A} {f : A → Option R} {P : A → Prop} {Q : R → Prop} (h : Yd x P) (hf : ∀ a, P a → Yd (f a) Q) : Yd (bnd x f) Q := by
  obtain ⟨a, e, ha⟩ := h
  subst e
  exact hf a ha
theorem Yd.br {R : Type} {b : Bool} {x y : Option R} {Q : R → Prop} (hx : b = true → Yd x Q) (hy : b = false → Yd y Q) : Yd (brB b x y) Q := by
  cases b with
  | true => exact hx rfl
  | false => exact hy rfl
theorem Yd.eq {R : Type} {a b : Int} {x y : Option R} {Q : R → Prop} (hx : a = b → Yd x Q) (hy : ¬ a = b → Yd y Q) : Yd (brB (iEq a b) x y) Q := by
  rw [iEq_eq, brB_dec]; split
  · exact hx ‹_›
  · exact hy ‹_›
theorem Yd.lt {R : Type} {a b : Int} {x y : Option R} {Q : R → Prop} (hx : a < b → Yd x Q) (hy : ¬ a < b → Yd y Q) : Yd (brB (iLt a b) x y) Q := by
  rw [iLt_eq, brB_dec]; split
  · exact hx ‹_›
  · exact hy ‹_›
theorem Yd.imp {R : Type} {x : Option R} {P Q : R → Prop} (h : Yd x P) (hi : ∀ r, P r → Q r) : Yd x Q := by
  obtain ⟨r, e, hr⟩ := h
  exact ⟨r, e, hi r hr⟩
theorem Yd.len {R : Type} {n b : Int} {x : Option R} {Q : R → Prop} (h : n * b ≤ 35184372088832) (hx : Yd x Q) : Yd (chk (cLen n b) x) Q := by rw [chk_len, if_pos h]; exact hx
theorem Yd.idx {R : Type} {i n : Int} {x : Option R} {Q : R → Prop} (h : 0 ≤ i ∧ i < n) (hx : Yd x Q) : Yd (chk (cIdx i n) x) Q := by rw [chk_idx, if_pos h]; exact hx
theorem below_bnd {R : Type} {k : Nat} {c : List Int} {p s n : Int} {f : Int × List Int × Int × Int → Option R} {Q : R → Prop} (hc : c.length ≤ 2000000) (hp : 0 ≤ p) (hn : 0 < n)
    (h : ∀ v p' s', 0 ≤ v → v < n → 0 ≤ p' → Yd (f (v, c, p', s')) Q) : Yd (bnd (spec_l01Below.f k n c p s) f) Q := by
  obtain ⟨v, p1, s1, e1, h1, g1, q1⟩ := l01Below_some k c hc p s n hp hn
  rw [e1]
  exact h v p1 s1 h1 g1 q1
theorem pick_bnd {R : Type} {k : Nat} {l c : List Int} {p s : Int} {f : Int × List Int × Int × Int → Option R} {Q : R → Prop} (hc : c.length ≤ 2000000) (hp : 0 ≤ p) (hl : 0 < l.length)
    (h : ∀ v p' s', v ∈ l → 0 ≤ p' → Yd (f (v, c, p', s')) Q) : Yd (bnd (spec_l01PickInt.f k l c p s) f) Q := by
  obtain ⟨v, p1, s1, e1, m1, q1⟩ := l01PickInt_some k l c hc p s hp hl
  rw [e1]
  exact h v p1 s1 m1 q1
/-- A loop that makes something of its state in at most N rounds. -/
theorem iter_yd {X R : Type} {f : (X → Option R) → X → Option R} {I : Nat → X → Prop} {Q : R → Prop} (N : Nat)
    (step : ∀ rec i x, i ≤ N → I i x → (∀ x', i < N → I (i + 1) x' → ∃ r, rec x' = some r ∧ Q r) → ∃ r, f rec x = some r ∧ Q r) {n : Nat} (hn : N < n) {x : X} (hx : I 0 x) : ∃ r, iter f n x = some r ∧ Q r := by
  suffices H : ∀ d i n x, i + d = N → d < n → I i x → ∃ r, iter f n x = some r ∧ Q r from H N 0 n x (by omega) hn hx
  intro d
  induction d with
  | zero =>
    intro i n x hi hn hx
    obtain ⟨m, rfl⟩ : ∃ m, n = m + 1 := ⟨n - 1, by omega⟩
    exact step _ i x (by omega) hx fun x' h => by omega
  | succ d ih =>
    intro i n x hi hn hx
    obtain ⟨m, rfl⟩ : ∃ m, n = m + 1 := ⟨n - 1, by omega⟩
    exact step _ i x (by omega) hx fun x' _ hx' => ih (i + 1) m x' (by omega) (by omega) hx'
theorem l04Data_yd (k : Nat) (n : Nat) (hn : n ≤ 1000) (hk : 4000 < k) (c : List Int) (hc : c.length ≤ 2000000) (p s : Int) (hp : 0 ≤ p) : Yd (spec_l04Data.f k (n : Int) c p s) fun r => r.2.1 = c ∧ 0 ≤ r.2.2.1 ∧ r.1.length = n ∧ wordsOk r.1 = true := by
  refine iter_yd (f := fun (rec : (Int × List Int × Int × List Int × Int × Int) → Option (List Int × List Int × Int × Int)) (x : Int × List Int × Int × List Int × Int × Int) => spec_l04Data.s0 k rec x.1 x.2.1 x.2.2.1 x.2.2.2.1 x.2.2.2.2.1 x.2.2.2.2.2)
    (I := fun i x => x.1 = (n : Int) ∧ x.2.1.length = i ∧ wordsOk x.2.1 = true ∧ x.2.2.1 = (i : Int) ∧ x.2.2.2.1 = c ∧ 0 ≤ x.2.2.2.2.1) (Q := fun r : List Int × List Int × Int × Int => r.2.1 = c ∧ 0 ≤ r.2.2.1 ∧ r.1.length = n ∧ wordsOk r.1 = true) n (fun rec i x hi hx hr => ?_) (by omega) ⟨rfl, rfl, rfl, rfl, rfl, hp⟩
  obtain ⟨n', l, j, c', p', s'⟩ := x
  obtain ⟨hn', hl, hw, hj, hc', hp'⟩ := hx
  simp only at hn' hl hw hj hc' hp'
  subst hn' hj hc'
  show Yd (spec_l04Data.s0 k rec (n : Int) l (i : Int) c' p' s') _
  unfold spec_l04Data.s0
  refine Yd.lt (fun h => ?_) fun h => Yd.one ⟨rfl, hp', by show l.length = n; have := hr; omega, hw⟩
  refine below_bnd hc hp' (by omega) fun y0 p1 s1 g0 g1 q1 => ?_
  dsimp only
  refine below_bnd hc q1 (by omega) fun y1 p2 s2 g2 g3 q2 => ?_
  dsimp only
  refine pick_bnd hc q2 (by simp) fun v p3 s3 g4 q3 => ?_
  dsimp only
  simp only [rApp_eq, rLen_eq, List.length_append, List.length_cons, List.length_nil, hl]
  refine Yd.len (by omega) ?_
  rw [next_id (i := i) (n := n) (by omega) (by omega)]
  refine hr _ (by omega) ⟨rfl, by simp [hl], ?_, rfl, rfl, q3⟩
  simp only [wordsOk, List.all_append, List.all_cons, List.all_nil, Bool.and_true, Bool.and_eq_true, decide_eq_true_eq] at hw ⊢
  refine ⟨hw, ?_⟩
  simp only [List.mem_cons, List.not_mem_nil, or_false] at g4
  omega
theorem data_bnd {R : Type} {k : Nat} {c : List Int} {p s n : Int} {f : List Int × List Int × Int × Int → Option R} {Q : R → Prop} (hk : 4000 < k) (hc : c.length ≤ 2000000) (hp : 0 ≤ p) (h0 : 0 ≤ n) (hn : n ≤ 1000)
    (h : ∀ l p' s', (l.length : Int) = n → wordsOk l = true → 0 ≤ p' → Yd (f (l, c, p', s')) Q) : Yd (bnd (spec_l04Data.f k n c p s) f) Q := by
  obtain ⟨⟨l, c1, p1, s1⟩, e1, q1, q2, q3, q4⟩ := l04Data_yd k n.toNat (by omega) hk c hc p s hp
  simp only at q1 q2 q3 q4
  subst q1
  rw [show (n.toNat : Int) = n by omega] at e1
  rw [e1]
  exact h l p1 s1 (by omega) q4 q2
/-- What the taking of an answer gives. -/
def takeB (bad : Bool) (g0 g1 g2 : Int) (gl : List Int) (g4 p4 p6 : Int) (pl : List Int) : Int × Int × Int × List Int × Int × Bool :=
  if bad = true then (g0, g1, g2, gl, g4, false) else if p6 = 0 then (if p4 = w64 (g2 - (gl.length : Int)) then (if ((gl ++ pl).length : Int) = g2 then (g0, g1, g2, gl ++ pl, 1, true) else (g0, g1, g2, gl ++ pl, g4, true)) else (g0, g1, g2, gl, g4, false)) else (g0, g1, g2, gl, 2, true)
/-- An answer that is not for this gathering. -/
def badB (g0 g1 g2 : Int) (gl : List Int) (g4 p0 p1 p2 p3 p4 p5 p6 : Int) (pl : List Int) : Bool := !(gatherB g0 g1 g2 gl g4 && (packB p0 p1 p2 p3 p4 p5 p6 pl && decide (g4 = 0 ∧ p0 = 6 ∧ p2 = g0 ∧ p5 = g1)))
theorem implTake_ev (g0 g1 g2 : Int) (gl : List Int) (g4 p0 p1 p2 p3 p4 p5 p6 : Int) (pl : List Int) (hg : gl.length ≤ 1048576) (hp : pl.length ≤ 1048576) (h3 : (Lit.int .i64 p3).wf = true) (h4 : (Lit.int .i64 p4).wf = true) (k : Nat) (hk : gl.length + pl.length < k) :
    impl_TakeAnswer.f k g0 g1 g2 gl g4 p0 p1 p2 p3 p4 p5 p6 pl = some (takeB (badB g0 g1 g2 gl g4 p0 p1 p2 p3 p4 p5 p6 pl) g0 g1 g2 gl g4 p4 p6 pl) := by
  simp only [impl_TakeAnswer.f, impl_copyGather.f, slices_Clone_int.f, implGatherOk_ev _ _ _ gl _ (by omega) k (by omega), implIsPacket_ev _ _ _ _ _ _ _ pl hp h3 h4 k (by omega), badB, iSub_w, iLt_eq, iLe_eq, iEq_eq, iNe_eq, bNot_eq, bEq_eq, bNe_eq, brB_nb, brB_dec, brB_true, brB_false, chk_idx, chk_len, chk_make, chk_sub, bnd_one, rLen_eq, rGet_nat, rSet_nat, rApp_eq, ↓reduceIte]
  rw [if_pos (by omega)]
  have hlen : ((gl ++ pl).length : Int) * 8 ≤ 35184372088832 := by rw [List.length_append]; omega
  simp only [bnd_one, hlen, if_true]
  cases gatherB g0 g1 g2 gl g4 with
  | false => rfl
  | true =>
    cases packB p0 p1 p2 p3 p4 p5 p6 pl with
    | false => rfl
    | true =>
      simp only [takeB, brB_true, Bool.true_and, Bool.not_eq_true', decide_eq_false_iff_not]
      by_cases c1 : g4 = 0 <;> by_cases c2 : p0 = 6 <;> by_cases c3 : p2 = g0 <;> by_cases c4 : p5 = g1 <;> simp only [c1, c2, c3, c4, and_self, and_true, true_and, and_false, false_and, not_true_eq_false, not_false_eq_true, ↓reduceIte] <;> (repeat' split) <;> rfl
theorem specTake_ev (g0 g1 g2 : Int) (gl : List Int) (g4 p0 p1 p2 p3 p4 p5 p6 : Int) (pl : List Int) (hg : gl.length ≤ 1048576) (hp : pl.length ≤ 1048576) (h3 : (Lit.int .i64 p3).wf = true) (h4 : (Lit.int .i64 p4).wf = true) (k : Nat) (hk : gl.length + pl.length < k) :
    spec_TakeAnswer.f k g0 g1 g2 gl g4 p0 p1 p2 p3 p4 p5 p6 pl = some (takeB (badB g0 g1 g2 gl g4 p0 p1 p2 p3 p4 p5 p6 pl) g0 g1 g2 gl g4 p4 p6 pl) := by
  simp only [spec_TakeAnswer.f, spec_l27Copy.f, List.nil_append, specGatherOk_ev _ _ _ gl _ (by omega) k (by omega), specIsPacket_ev _ _ _ _ _ _ _ pl hp h3 h4 k (by omega), badB, iSub_w, iLt_eq, iLe_eq, iEq_eq, iNe_eq, bNot_eq, bEq_eq, bNe_eq, brB_nb, brB_dec, brB_true, brB_false, chk_idx, chk_len, chk_make, chk_sub, bnd_one, rLen_eq, rGet_nat, rSet_nat, rApp_eq, ↓reduceIte]
  rw [if_pos (by omega)]
  have hlen : ((gl ++ pl).length : Int) * 8 ≤ 35184372088832 := by rw [List.length_append]; omega
  simp only [bnd_one, hlen, if_true]
  cases gatherB g0 g1 g2 gl g4 with
  | false => rfl
  | true =>
    cases packB p0 p1 p2 p3 p4 p5 p6 pl with
    | false => rfl
    | true =>
      simp only [takeB, brB_true, Bool.true_and, Bool.not_eq_true', decide_eq_false_iff_not]
      by_cases c1 : g4 = 0 <;> by_cases c2 : p0 = 6 <;> by_cases c3 : p2 = g0 <;> by_cases c4 : p5 = g1 <;> simp only [c1, c2, c3, c4, and_self, and_true, true_and, and_false, false_and, not_true_eq_false, not_false_eq_true, ↓reduceIte] <;> (repeat' split) <;> rfl
/-- What a gathering begins as. -/
def newB (c a0 a1 a4 a5 : Int) : Int × Int × Int × List Int × Int × Bool := if c = 1 then (a1, a5, if a0 = 4 then 1 else a4, ([] : List Int), 0, true) else (0, 0, 0, ([] : List Int), 0, false)
theorem class_one (a0 a1 a2 a3 a4 a5 a6 : Int) (l : List Int) (h : classB (packB a0 a1 a2 a3 a4 a5 a6 l) a0 = 1) : a0 = 3 ∨ a0 = 4 ∨ (a0 = 5 ∧ a4 = 0) := by
  have hp : packB a0 a1 a2 a3 a4 a5 a6 l = true := by
    cases hq : packB a0 a1 a2 a3 a4 a5 a6 l with
    | true => rfl
    | false => rw [hq] at h; simp [classB] at h
  rw [hp] at h
  simp only [packB, Bool.and_eq_true, decide_eq_true_eq] at hp
  replace hp := hp.2
  unfold packP at hp
  simp only [classB, if_pos] at h
  split at h
  · omega
  · split at h <;> omega
theorem specNew_ev (a0 a1 a2 a3 a4 a5 a6 : Int) (l : List Int) (hl : l.length ≤ 1048576) (h3 : (Lit.int .i64 a3).wf = true) (h4 : (Lit.int .i64 a4).wf = true) (k : Nat) (hk : l.length < k) : spec_NewGather.f k a0 a1 a2 a3 a4 a5 a6 l = some (newB (classB (packB a0 a1 a2 a3 a4 a5 a6 l) a0) a0 a1 a4 a5) := by
  simp only [spec_NewGather.f, specClassOf_ev a0 a1 a2 a3 a4 a5 a6 l hl h3 h4 k hk, newB, iLt_eq, iLe_eq, iEq_eq, iNe_eq, bNot_eq, bEq_eq, bNe_eq, brB_nb, brB_dec, brB_true, brB_false, chk_idx, chk_len, chk_make, chk_sub, bnd_one, rLen_eq, rGet_nat, rSet_nat, rApp_eq, ↓reduceIte]
  (repeat' split) <;> first | rfl | omega
theorem implNew_ev (a0 a1 a2 a3 a4 a5 a6 : Int) (l : List Int) (hl : l.length ≤ 1048576) (h3 : (Lit.int .i64 a3).wf = true) (h4 : (Lit.int .i64 a4).wf = true) (k : Nat) (hk : l.length < k) : impl_NewGather.f k a0 a1 a2 a3 a4 a5 a6 l = some (newB (classB (packB a0 a1 a2 a3 a4 a5 a6 l) a0) a0 a1 a4 a5) := by
  have h1 := class_one a0 a1 a2 a3 a4 a5 a6 l
  simp only [impl_NewGather.f, implClassOf_ev a0 a1 a2 a3 a4 a5 a6 l hl h3 h4 k hk, impl_wanted.f, newB, iLt_eq, iLe_eq, iEq_eq, iNe_eq, bNot_eq, bEq_eq, bNe_eq, brB_nb, brB_dec, brB_true, brB_false, chk_idx, chk_len, chk_make, chk_sub, bnd_one, rLen_eq, rGet_nat, rSet_nat, rApp_eq, ↓reduceIte]
  by_cases c : classB (packB a0 a1 a2 a3 a4 a5 a6 l) a0 = 1
  · rw [if_pos c, if_pos c]
    rcases h1 c with h | h | ⟨h, h'⟩
    · subst h; rfl
    · subst h; rfl
    · subst h h'; rfl
  · rw [if_neg c, if_neg c]

/-- How long the next piece is. -/
def mOf (pay a : Int) (n : Nat) : Nat := (iMin (pay - a.tmod pay) (n : Int)).toNat
theorem mOf_ok {pay a : Int} {n : Nat} (hp : 1 ≤ pay ∧ pay ≤ 8) (ha : 0 ≤ a) (hn : 0 < n) : 1 ≤ mOf pay a n ∧ mOf pay a n ≤ n ∧ mOf pay a n ≤ 8 ∧ iMin (pay - a.tmod pay) (n : Int) = (mOf pay a n : Int) := by
  have h0 := Int.tmod_nonneg pay ha
  have h1 := Int.tmod_lt_of_pos a (show 0 < pay by omega)
  unfold mOf iMin
  split <;> omega
/-- The pieces of a range. -/
def pcsL (pay : Int) : Nat → Int → Nat → List (Int × Int)
  | 0, _, _ => []
  | f + 1, a, n => if n = 0 then [] else (a, (mOf pay a n : Int)) :: pcsL pay f (a + mOf pay a n) (n - mOf pay a n)
theorem pcsL_len (pay : Int) : ∀ (f : Nat) (a : Int) (n : Nat), (pcsL pay f a n).length ≤ f
  | 0, _, _ => Nat.le_refl _
  | f + 1, a, n => by
    simp only [pcsL]
    split
    · simp
    · have := pcsL_len pay f (a + mOf pay a n) (n - mOf pay a n)
      simp only [List.length_cons]; omega
noncomputable def srF (k : Nat) (rec : (Int × Int × Int × (List (Int × Int))) → Option (List (Int × Int))) (x : Int × Int × Int × (List (Int × Int))) : Option (List (Int × Int)) := impl_SplitRange.s0 k rec x.1 x.2.1 x.2.2.1 x.2.2.2
theorem splitLoop (k : Nat) (pay : Int) (hp : 1 ≤ pay ∧ pay ≤ 8) : ∀ (f : Nat) (a : Int) (n : Nat) (out : List (Int × Int)) (K : Nat), n ≤ f → f < K → 0 ≤ a → a + n ≤ 65536 → out.length + n ≤ 100 → iter (srF k) K (a, (n : Int), pay, out) = some (out ++ pcsL pay f a n)
  | f, a, n, out, 0, _, hK, _, _, _ => by omega
  | 0, a, n, out, K + 1, hn, hK, h0, h1, h2 => by
    obtain rfl : n = 0 := by omega
    show impl_SplitRange.s0 k (iter (srF k) K) a ((0 : Nat) : Int) pay out = _
    generalize iter (srF k) K = rec
    simp only [impl_SplitRange.s0, iLt_eq, brB_dec, pcsL, List.append_nil]
    rw [if_neg (by omega)]
  | f + 1, a, n, out, K + 1, hn, hK, h0, h1, h2 => by
    show impl_SplitRange.s0 k (iter (srF k) K) a (n : Int) pay out = _
    by_cases hz : n = 0
    · subst hz
      generalize iter (srF k) K = rec
      simp only [impl_SplitRange.s0, iLt_eq, brB_dec, pcsL, ↓reduceIte, List.append_nil]
      rw [if_neg (by omega)]
    · obtain ⟨m1, m2, m3, m4⟩ := mOf_ok (a := a) hp h0 (Nat.pos_of_ne_zero hz)
      have t0 := Int.tmod_nonneg pay h0
      have t1 := Int.tmod_lt_of_pos a (show 0 < pay by omega)
      have ih := splitLoop k pay hp f (a + mOf pay a n) (n - mOf pay a n) (out ++ [(a, (mOf pay a n : Int))]) K (by omega) (by omega) (by omega) (by omega) (by simp only [List.length_append, List.length_cons, List.length_nil]; omega)
      simp only [impl_SplitRange.s0, iLt_eq, brB_dec, chk_nz, chk_len, rLen_eq, rApp_eq, pcsL, if_neg hz]
      rw [if_pos (by omega), if_neg (by omega), show iRem a pay = a.tmod pay from rfl, iSub_id (a := pay) (by omega) (by omega), m4, if_pos (by simp only [List.length_append, List.length_cons, List.length_nil]; omega), iAdd_id (by omega) (by omega), iSub_id (by omega) (by omega),
        show (n : Int) - (mOf pay a n : Int) = ((n - mOf pay a n : Nat) : Int) by omega, ih]
      simp
theorem isPayload_eq (k : Nat) (n : Int) : impl_IsPayload.f k n = some (decide (n = 1 ∨ n = 2 ∨ n = 4 ∨ n = 8)) := by
  simp only [impl_IsPayload.f, iLt_eq, iLe_eq, iEq_eq, iNe_eq, bNot_eq, bEq_eq, bNe_eq, brB_nb, brB_dec, brB_true, brB_false, chk_idx, chk_len, chk_make, chk_sub, bnd_one, rLen_eq, rGet_nat, rSet_nat, rApp_eq, ↓reduceIte]
  by_cases h1 : n = 1
  · subst h1; rfl
  by_cases h2 : n = 2
  · subst h2; rfl
  by_cases h3 : n = 4
  · subst h3; rfl
  simp [h1, h2, h3]
theorem splitRange_ev (a : Int) (n : Nat) (pay : Int) (hp : pay = 1 ∨ pay = 2 ∨ pay = 4 ∨ pay = 8) (h0 : 0 ≤ a) (h1 : a + n ≤ 65536) (hn : 1 ≤ n ∧ n ≤ 64) (k : Nat) (hk : 100 < k) : impl_SplitRange.f k a (n : Int) pay = some (pcsL pay n a n) := by
  have h := splitLoop k pay (by omega) n a n [] k (by omega) (by omega) h0 h1 (by simp; omega)
  simp only [impl_SplitRange.f, isPayload_eq, within_eq, bnd_one, decide_eq_true hp, bNot_eq, brB_nb, brB_true]
  rw [iSub_id (by omega) (by omega), decide_eq_true (show 1 ≤ (n : Int) ∧ (n : Int) ≤ 64 by omega), decide_eq_true (show 0 ≤ a ∧ a ≤ 65536 - (n : Int) by omega)]
  exact h
/-- The answer of one piece. -/
def ansP (from_ by_ tag a0 : Int) (d : List Int) (p : Int × Int) : Int × Int × Int × Int × Int × Int × Int × List Int :=
  (6, by_, from_, 0, (d.length : Int) - (p.1 - a0), tag, 0, (d.take (p.1 - a0 + p.2).toNat).drop (p.1 - a0).toNat)
/-- The answers to a read, as their rest is worked off. -/
def ansL (pay from_ by_ tag : Int) : Nat → Int → List Int → List (Int × Int × Int × Int × Int × Int × Int × List Int)
  | 0, _, _ => []
  | f + 1, a, d => if d.length = 0 then [] else (6, by_, from_, 0, (d.length : Int), tag, 0, d.take (mOf pay a d.length)) :: ansL pay from_ by_ tag f (a + mOf pay a d.length) (d.drop (mOf pay a d.length))
theorem ans_map (pay from_ by_ tag a0 : Int) (hp : 1 ≤ pay ∧ pay ≤ 8) (h0 : 0 ≤ a0) (d : List Int) : ∀ (f o : Nat), o ≤ d.length → (pcsL pay f (a0 + o) (d.length - o)).map (ansP from_ by_ tag a0 d) = ansL pay from_ by_ tag f (a0 + o) (d.drop o)
  | 0, o, _ => rfl
  | f + 1, o, ho => by
    simp only [pcsL, ansL, List.length_drop]
    by_cases hz : d.length - o = 0
    · rw [if_pos hz, if_pos hz]; rfl
    · rw [if_neg hz, if_neg hz]
      obtain ⟨m1, m2, m3, m4⟩ := mOf_ok (a := a0 + o) hp (by omega) (Nat.pos_of_ne_zero hz)
      generalize mOf pay (a0 + o) (d.length - o) = m at *
      have ih := ans_map pay from_ by_ tag a0 hp h0 d f (o + m) (by omega)
      rw [show a0 + (o : Int) + (m : Int) = a0 + ((o + m : Nat) : Int) by omega, show d.length - o - m = d.length - (o + m) by omega, List.map_cons, ih, List.drop_drop]
      congr 1
      simp only [ansP]
      rw [show a0 + (o : Int) - a0 = (o : Int) by omega, show ((o : Int) + (m : Int)).toNat = o + m by omega, Int.toNat_natCast, show (d.length : Int) - (o : Int) = ((d.length - o : Nat) : Int) by omega]
      congr 7
      rw [List.drop_take, show o + m - o = m by omega]
theorem pcs_in (pay a0 : Int) (hp : 1 ≤ pay ∧ pay ≤ 8) (h0 : 0 ≤ a0) (n : Nat) : ∀ (f o : Nat), o ≤ n → ∀ p ∈ pcsL pay f (a0 + o) (n - o), 0 ≤ p.1 - a0 ∧ 0 ≤ p.2 ∧ p.1 - a0 + p.2 ≤ n
  | 0, o, _, p, hm => by simp [pcsL] at hm
  | f + 1, o, ho, p, hm => by
    simp only [pcsL] at hm
    split at hm
    · simp at hm
    · rename_i hz
      obtain ⟨m1, m2, m3, m4⟩ := mOf_ok (a := a0 + o) hp (by omega) (Nat.pos_of_ne_zero hz)
      generalize mOf pay (a0 + o) (n - o) = m at *
      rcases List.mem_cons.1 hm with rfl | hm
      · exact ⟨by show 0 ≤ a0 + (o : Int) - a0; omega, by show (0 : Int) ≤ m; omega, by show a0 + (o : Int) - a0 + (m : Int) ≤ n; omega⟩
      · rw [show a0 + (o : Int) + (m : Int) = a0 + ((o + m : Nat) : Int) by omega, show n - o - m = n - (o + m) by omega] at hm
        exact pcs_in pay a0 hp h0 n f (o + m) (by omega) p hm
/-- The answers to a valid read. -/
theorem answersTo_ev (p1 p3 p5 by_ pay : Int) (d : List Int) (hd : 1 ≤ d.length ∧ d.length ≤ 64) (hw : wordsOk d = true) (h1 : 0 ≤ p1 ∧ p1 ≤ 255) (h3 : 0 ≤ p3) (h4 : p3 + d.length ≤ 65536) (h5 : 0 ≤ p5 ∧ p5 ≤ 7) (hb : 0 ≤ by_ ∧ by_ ≤ 255) (hp : pay = 1 ∨ pay = 2 ∨ pay = 4 ∨ pay = 8) (k : Nat) (hk : 200 < k) :
    impl_AnswersTo.f k 3 p1 0 p3 (d.length : Int) p5 0 [] by_ d pay = some (ansL pay p1 by_ p5 d.length p3 d) := by
  have hpk : packB 3 p1 0 p3 (d.length : Int) p5 0 [] = true := by
    simp only [packB, wordsOk, List.all_nil, Bool.true_and, decide_eq_true_eq]
    exact ⟨h1, .inr (.inr (.inl ⟨rfl, rfl, by omega, by omega, h5, rfl, rfl⟩))⟩
  have hm := ans_map pay p1 by_ p5 p3 (by omega) h3 d d.length 0 (by omega)
  have hi := pcs_in pay p3 (by omega) h3 d.length d.length 0 (by omega)
  simp only [Nat.sub_zero, List.drop_zero, show p3 + ((0 : Nat) : Int) = p3 by omega] at hm hi
  simp only [impl_AnswersTo.f, implIsPacket_ev 3 p1 0 p3 (d.length : Int) p5 0 [] (by simp) (by rw [wf64]; omega) (by rw [wf64]; omega) k (by simp; omega), hpk, implIsId_eq, areWords_ev d (by omega) k (by omega), hw, isPayload_eq, decide_eq_true hp, decide_eq_true hb, splitRange_ev p3 d.length pay hp h3 h4 hd k (by omega),
    bnd_one, bNot_eq, brB_nb, brB_true, rLen_eq, iNe_eq, decide_true, brB_true]
  have hl := pcsL_len pay d.length p3 d.length
  generalize pcsL pay d.length p3 d.length = pl at *
  rw [← hm]
  have h := iter_upto (f := fun (rec : (Int × List Int × (List (Int × Int × Int × Int × Int × Int × Int × List Int)) × (List (Int × Int)) × Int × Int × Int × Int × Int × Int × Int × Int × Int × List Int) → Option (List (Int × Int × Int × Int × Int × Int × Int × List Int))) (x : Int × List Int × (List (Int × Int × Int × Int × Int × Int × Int × List Int)) × (List (Int × Int)) × Int × Int × Int × Int × Int × Int × Int × Int × Int × List Int) => impl_AnswersTo.s0 k rec x.1 x.2.1 x.2.2.1 x.2.2.2.1 x.2.2.2.2.1 x.2.2.2.2.2.1 x.2.2.2.2.2.2.1 x.2.2.2.2.2.2.2.1 x.2.2.2.2.2.2.2.2.1 x.2.2.2.2.2.2.2.2.2.1 x.2.2.2.2.2.2.2.2.2.2.1 x.2.2.2.2.2.2.2.2.2.2.2.1 x.2.2.2.2.2.2.2.2.2.2.2.2.1 x.2.2.2.2.2.2.2.2.2.2.2.2.2)
    (fun i => (by_, d, (pl.take i).map (ansP p1 by_ p5 p3 d), pl, (pl.length : Int), (i : Int), 3, p1, 0, p3, (d.length : Int), p5, 0, [])) pl.length (r := pl.map (ansP p1 by_ p5 p3 d)) (fun rec i hj => ?_) (fun rec => ?_) (n := k) (by omega)
  · exact h
  · obtain ⟨q1, q2, q3⟩ := hi pl[i] (List.getElem_mem hj)
    have e : rGet (0, 0) pl (i : Int) = pl[i] := getD_lt _ _ hj
    have et : (pl.take (i + 1)).map (ansP p1 by_ p5 p3 d) = (pl.take i).map (ansP p1 by_ p5 p3 d) ++ [ansP p1 by_ p5 p3 d pl[i]] := by rw [List.take_succ_eq_append_getElem hj, List.map_append]; rfl
    have lt : ((pl.take i).map (ansP p1 by_ p5 p3 d)).length = i := by simp; omega
    rw [et]
    simp only [impl_AnswersTo.s0, slices_Clone_int.f, e, iLt_eq, brB_dec, chk_idx, chk_sub, chk_len, rLen_eq, rApp_eq]
    generalize pl[i] = pc at *
    obtain ⟨b, m⟩ := pc
    simp only at q1 q2 q3
    dsimp only
    have hs : (rSub d (b - p3) (b - p3 + m)).length ≤ d.length := by simp only [rSub, List.length_drop, List.length_take]; omega
    rw [if_pos (by omega), if_idx hj, iSub_id (a := b) (by omega) (by omega), iAdd_id (a := b - p3) (by omega) (by omega), if_pos (by omega), iSub_id (a := (d.length : Int)) (by omega) (by omega), next_id hj (by omega), if_pos (by omega)]
    rw [bnd_one, if_pos (by simp only [List.length_append, List.length_cons, List.length_nil, lt]; omega)]
    simp only [ansP, rSub]
  · simp only [impl_AnswersTo.s0, iLt_eq, brB_dec, List.take_length]
    rw [if_neg (by omega)]
theorem ansL_len (pay from_ by_ tag : Int) : ∀ (f : Nat) (a : Int) (d : List Int), (ansL pay from_ by_ tag f a d).length ≤ f
  | 0, _, _ => Nat.le_refl _
  | f + 1, a, d => by
    simp only [ansL]
    split
    · simp
    · have := ansL_len pay from_ by_ tag f (a + mOf pay a d.length) (d.drop (mOf pay a d.length))
      simp only [List.length_cons]; omega
theorem words_take {d : List Int} (h : wordsOk d = true) (m : Nat) : wordsOk (d.take m) = true := by
  simp only [wordsOk, List.all_eq_true] at h ⊢
  exact fun x hx => h x (List.mem_of_mem_take hx)
theorem words_drop {d : List Int} (h : wordsOk d = true) (m : Nat) : wordsOk (d.drop m) = true := by
  simp only [wordsOk, List.all_eq_true] at h ⊢
  exact fun x hx => h x (List.mem_of_mem_drop hx)
theorem words_app {d e : List Int} (h : wordsOk d = true) (h' : wordsOk e = true) : wordsOk (d ++ e) = true := by
  simp only [wordsOk, List.all_append, Bool.and_eq_true] at h h' ⊢
  exact ⟨h, h'⟩
theorem drop_cons_get {α : Type} {l t : List α} {i : Nat} {x : α} (h : l.drop i = x :: t) (d : α) : i < l.length ∧ rGet d l (i : Int) = x ∧ l.drop (i + 1) = t := by
  have hi : i < l.length := by
    rcases Nat.lt_or_ge i l.length with h' | h'
    · exact h'
    · rw [List.drop_eq_nil_of_le h'] at h; cases h
  rw [List.drop_eq_getElem_cons hi] at h
  injection h with h1 h2
  exact ⟨hi, (getD_lt d l hi).trans h1, h2⟩
theorem ans_pack {from_ by_ tag : Int} (hf : 0 ≤ from_ ∧ from_ ≤ 255) (hb : 0 ≤ by_ ∧ by_ ≤ 255) (ht : 0 ≤ tag ∧ tag ≤ 7) {d : List Int} {n m : Nat} (hw : wordsOk d = true) (hn : d.length ≤ n) (hn2 : n ≤ 64) (hm : d.length ≤ 8) : packB 6 by_ from_ 0 (n : Int) tag 0 d = true := by
  simp only [packB, hw, Bool.true_and, decide_eq_true_eq]
  exact ⟨hb, .inr (.inr (.inr (.inr (.inr ⟨rfl, rfl, hf, ht, by omega, by omega, by omega⟩))))⟩
/-- How many numbers nested rows have. -/
def rSum {α : Type} (z : α → Nat) (l : List α) : Nat := (l.map z).sum
theorem rSum_cons {α : Type} (z : α → Nat) (x : α) (l : List α) : rSum z (x :: l) = z x + rSum z l := by simp [rSum]
theorem rSum_le {α : Type} {z : α → Nat} {l : List α} {x : α} (h : x ∈ l) : z x ≤ rSum z l := by
  induction l with
  | nil => cases h
  | cons y l ih =>
    rw [rSum_cons]
    rcases List.mem_cons.1 h with rfl | h
    · omega
    · have := ih h; omega
def gGot (g : Int × Int × Int × List Int × Int) : Nat := g.2.2.2.1.length
def wGot (w : Int × Int × Int × List Int × Int × Int) : Nat := w.2.2.2.1.length
/-- The size of a requester. -/
def rqSize (b : List Bool) (o : List (Int × Int × Int × List Int × Int × Int)) (e : List (Int × Int × Int × List Int × Int)) : Int := (b.length : Int) + (o.length + rSum wGot o) + (e.length + rSum gGot e)
/-- How many are busy. -/
def busyN (b : List Bool) : Nat := b.countP id
theorem countBusy_ev (b : List Bool) (hb : b.length ≤ 1048576) (k : Nat) (hk : b.length < k) : spec_CountBusy.f k b = some (busyN b : Int) := by
  have h := iter_upto (f := fun (rec : (Int × Int × List Bool) → Option (Int)) (x : Int × Int × List Bool) => spec_CountBusy.s0 k rec x.1 x.2.1 x.2.2) (fun i => ((busyN (b.take i) : Int), (i : Int), b)) b.length (r := (busyN b : Int)) (fun rec i hi => ?_) (fun rec => ?_) (n := k) hk
  · exact h
  · have hc : busyN (b.take i) ≤ i := Nat.le_trans List.countP_le_length (by simp; omega)
    have e : busyN (b.take (i + 1)) = busyN (b.take i) + (if b.getD i false = true then 1 else 0) := by
      rw [List.take_succ_eq_append_getElem hi, busyN, List.countP_append, getD_lt false b hi]
      simp only [busyN, List.countP_cons, List.countP_nil, id_eq, Nat.zero_add]
    simp only [spec_CountBusy.s0, iLt_eq, brB_dec, chk_idx, rLen_eq, rGet_nat, e]
    rw [if_pos (by omega), if_idx hi, next_id hi (by omega), iAdd_id (by omega) (by omega), brB_if]
    split
    · congr 2
    · congr 2
  · simp only [spec_CountBusy.s0, iLt_eq, brB_dec, rLen_eq, List.take_length]
    rw [if_neg (by omega)]
theorem equalBool_ev (a b : List Bool) (ha : a.length ≤ 1048576) (k : Nat) (hk : a.length < k) : slices_Equal_bool.f k a b = some (decide (a = b)) := by
  simp only [slices_Equal_bool.f, iNe_eq, brB_nb, brB_dec, rLen_eq]
  by_cases hl : (a.length : Int) = (b.length : Int)
  · rw [if_pos hl]
    have h := iter_all (f := fun (rec : (List Bool × List Bool × Int × Int) → Option (Bool)) (x : List Bool × List Bool × Int × Int) => slices_Equal_bool.s0 k rec x.1 x.2.1 x.2.2.1 x.2.2.2) (fun i => (a, b, (a.length : Int), (i : Int))) (List.range a.length) (fun i => decide (a.getD i false = b.getD i false)) (some true) (some false) (fun rec i hi hp => ?_) (fun rec i hi hp => ?_) (fun rec => ?_) (n := k) (by simpa using hk)
    · refine Eq.trans h ?_
      by_cases e : a = b
      · subst e
        rw [show ((List.range a.length).all fun i => decide (a.getD i false = a.getD i false)) = true by simp, decide_eq_true rfl]; rfl
      · rw [decide_eq_false e, show ((List.range a.length).all fun i => decide (a.getD i false = b.getD i false)) = false by
          rw [← Bool.not_eq_true, List.all_eq_true]
          intro H
          refine e (List.ext_getElem (by omega) fun i h1 h2 => ?_)
          have := H i (List.mem_range.2 h1)
          rw [decide_eq_true_eq, getD_lt false a h1, getD_lt false b h2] at this
          exact this]; rfl
    · simp only [List.length_range] at hi
      simp only [List.getElem_range, decide_eq_true_eq] at hp
      simp only [slices_Equal_bool.s0, iLt_eq, brB_dec, chk_idx, rLen_eq, rGet_nat, hp, bNe_eq, decide_true, Bool.not_true, brB_false]
      rw [if_pos (by omega), if_idx hi, if_idx (by omega), next_id hi (by omega)]
    · simp only [List.length_range] at hi
      simp only [List.getElem_range, decide_eq_false_iff_not] at hp
      simp only [slices_Equal_bool.s0, iLt_eq, brB_dec, chk_idx, rLen_eq, rGet_nat, bNe_eq, decide_eq_false hp, Bool.not_false, brB_true]
      rw [if_pos (by omega), if_idx hi, if_idx (by omega)]
    · simp only [List.length_range, slices_Equal_bool.s0, iLt_eq, brB_dec]
      rw [if_neg (by omega)]
  · rw [if_neg hl, decide_eq_false (fun e => hl (by rw [e]))]
/-- A gathering that waits is valid, and the requester's own. -/
def wOkB (id : Int) (w : Int × Int × Int × List Int × Int × Int) : Bool := gatherB w.1 w.2.1 w.2.2.1 w.2.2.2.1 w.2.2.2.2.1 && (decide (w.1 = id) && (decide (w.2.2.2.2.1 = 0) && decide (0 ≤ w.2.2.2.2.2 ∧ w.2.2.2.2.2 ≤ 50)))
def gOkB (g : Int × Int × Int × List Int × Int) : Bool := gatherB g.1 g.2.1 g.2.2.1 g.2.2.2.1 g.2.2.2.2
/-- The table of the busy tags. -/
def tblB (id : Int) : List Bool → List (Int × Int × Int × List Int × Int × Int) → Option (List Bool)
  | t, [] => some t
  | t, w :: r => if wOkB id w = true ∧ t.getD w.2.1.toNat false = false then tblB id (t.set w.2.1.toNat true) r else none
/-- The same, tag by tag. -/
def spB (id : Int) (b : List Bool) : List (Int × Int × Int × List Int × Int × Int) → List (Int × Int × Int × List Int × Int × Int) → Bool
  | _, [] => true
  | seen, w :: r => wOkB id w && (b.getD w.2.1.toNat false && (seen.all (fun s => !decide (s.2.1 = w.2.1)) && spB id b (seen ++ [w]) r))
theorem wOk_tag {id : Int} {w : Int × Int × Int × List Int × Int × Int} (h : wOkB id w = true) : 0 ≤ w.2.1 ∧ w.2.1 ≤ 7 := by
  simp only [wOkB, gatherB, Bool.and_eq_true, decide_eq_true_eq] at h
  exact h.1.2.1
theorem busyN_set {t : List Bool} {i : Nat} (hi : i < t.length) (h : t.getD i false = false) : busyN (t.set i true) = busyN t + 1 := by
  rw [getD_lt false t hi] at h
  induction t generalizing i with
  | nil => simp at hi
  | cons x t ih =>
    cases i with
    | zero =>
      simp only [List.getElem_cons_zero] at h
      subst h
      simp [busyN]
    | succ i =>
      simp only [List.getElem_cons_succ, List.length_cons] at h hi
      have := ih (i := i) (by omega) h
      simp only [List.set_cons_succ, busyN, List.countP_cons, id_eq] at this ⊢
      omega
/-- t is part of b. -/
def leB (t b : List Bool) : Prop := ∀ i : Nat, t.getD i false = true → b.getD i false = true
theorem leB_count : ∀ {t b : List Bool}, t.length = b.length → leB t b → busyN t ≤ busyN b ∧ (busyN t = busyN b → t = b)
  | [], [], _, _ => ⟨Nat.le_refl _, fun _ => rfl⟩
  | [], _ :: _, h, _ => by simp at h
  | _ :: _, [], h, _ => by simp at h
  | x :: t, y :: b, h, hl => by
    have hl' : leB t b := fun i hi => by simpa using hl (i + 1) (by simpa using hi)
    obtain ⟨h1, h2⟩ := leB_count (by simpa using h) hl'
    have h0 := hl 0
    simp only [List.getD_cons_zero] at h0
    simp only [busyN, List.countP_cons, id_eq] at h1 h2 ⊢
    cases x <;> cases y <;> simp at h0 ⊢
    · exact ⟨h1, h2⟩
    · exact ⟨by omega, fun e => by omega⟩
    · exact ⟨h1, h2⟩
theorem leB_set {t b : List Bool} {i : Nat} (hi : i < t.length) (h : leB t b) (hb : b.getD i false = true) : leB (t.set i true) b := by
  intro j hj
  rw [getD_set_if false _ _ _ _ hi] at hj
  split at hj
  · rename_i e; rw [e]; exact hb
  · exact h j hj
theorem leB_of_set {t b : List Bool} {i : Nat} (hi : i < t.length) (h : leB (t.set i true) b) : leB t b ∧ b.getD i false = true := by
  refine ⟨fun j hj => h j ?_, h i ?_⟩
  · rw [getD_set_if false _ _ _ _ hi]; split
    · rfl
    · exact hj
  · rw [getD_set_if false _ _ _ _ hi, if_pos rfl]
/-- What has been seen is what the table shows. -/
def seenT (seen : List (Int × Int × Int × List Int × Int × Int)) (t : List Bool) : Prop := ∀ i : Nat, t.getD i false = true ↔ ∃ s ∈ seen, s.2.1 = (i : Int)
theorem seen_step {seen : List (Int × Int × Int × List Int × Int × Int)} {t : List Bool} {w : Int × Int × Int × List Int × Int × Int} (h : seenT seen t) (hw : 0 ≤ w.2.1) (hi : w.2.1.toNat < t.length) : seenT (seen ++ [w]) (t.set w.2.1.toNat true) := by
  intro i
  rw [getD_set_if false _ _ _ _ hi]
  constructor
  · intro hh
    split at hh
    · exact ⟨w, by simp, by omega⟩
    · obtain ⟨s, hs, e⟩ := (h i).1 hh
      exact ⟨s, by simp [hs], e⟩
  · rintro ⟨s, hs, e⟩
    split
    · rfl
    · rename_i ne
      rcases List.mem_append.1 hs with hs | hs
      · exact (h i).2 ⟨s, hs, e⟩
      · simp at hs; subst hs; omega
theorem seen_all {seen : List (Int × Int × Int × List Int × Int × Int)} {t : List Bool} {w : Int × Int × Int × List Int × Int × Int} (h : seenT seen t) (hw : 0 ≤ w.2.1) : seen.all (fun s => !decide (s.2.1 = w.2.1)) = !t.getD w.2.1.toNat false := by
  rw [Bool.eq_iff_iff, List.all_eq_true, Bool.not_eq_true', ← Bool.not_eq_true, h]
  constructor
  · rintro H ⟨s, hs, e⟩
    have := H s hs
    rw [Bool.not_eq_true', decide_eq_false_iff_not] at this
    exact this (by omega)
  · intro H s hs
    rw [Bool.not_eq_true', decide_eq_false_iff_not]
    exact fun e => H ⟨s, hs, by omega⟩
theorem tbl_count {id : Int} : ∀ (r : List (Int × Int × Int × List Int × Int × Int)) (t t' : List Bool), t.length = 8 → tblB id t r = some t' → busyN t' = busyN t + r.length ∧ t'.length = 8 ∧ leB t t'
  | [], t, t', hl, h => by simp only [tblB] at h; cases h; exact ⟨rfl, hl, fun _ h => h⟩
  | w :: r, t, t', hl, h => by
    simp only [tblB] at h
    split at h
    · rename_i c
      have ht := wOk_tag c.1
      obtain ⟨h1, h2, h3⟩ := tbl_count r _ t' (by simpa using hl) h
      rw [busyN_set (by omega) c.2] at h1
      exact ⟨by simp only [List.length_cons]; omega, h2, (leB_of_set (by omega) h3).1⟩
    · cases h
theorem sp_tbl {id : Int} {b : List Bool} : ∀ (r seen : List (Int × Int × Int × List Int × Int × Int)) (t : List Bool), t.length = 8 → seenT seen t → leB t b → (spB id b seen r = true ↔ ∃ t', tblB id t r = some t' ∧ leB t' b)
  | [], seen, t, hl, hs, hb => by
    simp only [spB, tblB, true_iff]
    exact ⟨t, rfl, hb⟩
  | w :: r, seen, t, hl, hs, hb => by
    simp only [spB, tblB, Bool.and_eq_true]
    constructor
    · rintro ⟨h1, h2, h3, h4⟩
      have ht := wOk_tag h1
      rw [seen_all hs ht.1, Bool.not_eq_true'] at h3
      rw [if_pos ⟨h1, h3⟩]
      exact (sp_tbl r (seen ++ [w]) _ (by simpa using hl) (seen_step hs ht.1 (by omega)) (leB_set (by omega) hb h2)).1 h4
    · rintro ⟨t', h, hle⟩
      split at h
      · rename_i c
        have ht := wOk_tag c.1
        obtain ⟨_, _, h3⟩ := tbl_count r _ t' (by simpa using hl) h
        have hle2 : leB (t.set w.2.1.toNat true) b := fun i hi => hle i (h3 i hi)
        obtain ⟨_, hbt⟩ := leB_of_set (by omega) hle2
        refine ⟨c.1, hbt, ?_, (sp_tbl r (seen ++ [w]) _ (by simpa using hl) (seen_step hs ht.1 (by omega)) hle2).2 ⟨t', h, hle⟩⟩
        rw [seen_all hs ht.1, c.2]; rfl
      · cases h
/-- The tags that wait are the busy ones. -/
def openOkB (id : Int) (b : List Bool) (o : List (Int × Int × Int × List Int × Int × Int)) : Bool := match tblB id (List.replicate 8 false) o with | some t => decide (t = b) | none => false
theorem open_eq {id : Int} {b : List Bool} (hb : b.length = 8) (o : List (Int × Int × Int × List Int × Int × Int)) : (decide ((busyN b : Int) = (o.length : Int)) && spB id b [] o) = openOkB id b o := by
  have h0 : seenT [] (List.replicate 8 false) := fun i => by
    simp only [List.not_mem_nil, false_and, exists_const, iff_false, Bool.not_eq_true]
    rw [List.getD_eq_getElem?_getD, List.getElem?_replicate]; split <;> rfl
  have h1 : leB (List.replicate 8 false) b := fun i hi => by
    rw [List.getD_eq_getElem?_getD, List.getElem?_replicate] at hi
    split at hi <;> cases hi
  have hs := sp_tbl (id := id) (b := b) o [] (List.replicate 8 false) (by simp) h0 h1
  have hz : busyN (List.replicate 8 false) = 0 := by decide
  unfold openOkB
  rw [Bool.eq_iff_iff, Bool.and_eq_true, decide_eq_true_eq, hs]
  cases ht : tblB id (List.replicate 8 false) o with
  | none => simp
  | some t =>
    obtain ⟨c1, c2, c3⟩ := tbl_count o _ t (by simp) ht
    simp only [Option.some.injEq, exists_eq_left', decide_eq_true_eq]
    constructor
    · rintro ⟨e, hle⟩
      exact (leB_count (by omega) hle).2 (by omega)
    · rintro rfl
      exact ⟨by omega, fun _ h => h⟩
/-- A requester is valid. -/
def reqB (id : Int) (b : List Bool) (o : List (Int × Int × Int × List Int × Int × Int)) (e : List (Int × Int × Int × List Int × Int)) : Bool :=
  decide (0 ≤ id ∧ id ≤ 255) && (decide ((b.length : Int) = 8) && (decide ((e.length : Int) ≤ 1000) && (e.all gOkB && openOkB id b o)))
theorem endedBad_ev (e : List (Int × Int × Int × List Int × Int)) (he : e.length ≤ 1048576) (hz : ∀ x ∈ e, gGot x ≤ 1048576) (k : Nat) (hk : 3000000 < k) : slices_ContainsFunc_Gather_impl_RequesterOk_1.f k e = some (!e.all gOkB) := by
  have h := iter_find (f := fun (rec : ((List (Int × Int × Int × (List Int) × Int)) × Int × Int) → Option (Int)) (x : (List (Int × Int × Int × (List Int) × Int)) × Int × Int) => slices_IndexFunc_Gather_impl_RequesterOk_1.s0 k rec x.1 x.2.1 x.2.2) (fun i => (e, (e.length : Int), (i : Int))) e gOkB (-1) (fun i => (i : Int))
    (fun rec i hi hp => ?_) (fun rec i hi hp => ?_) (fun rec => ?_) (n := k) (by omega)
  · have e1 : slices_IndexFunc_Gather_impl_RequesterOk_1.f k e = _ := h
    simp only [slices_ContainsFunc_Gather_impl_RequesterOk_1.f, e1, bnd_one, found_iff e gOkB]
  · have e1 : rGet (0, 0, 0, [], 0) e (i : Int) = e[i] := getD_lt _ _ hi
    have hg := hz _ (List.getElem_mem hi)
    simp only [slices_IndexFunc_Gather_impl_RequesterOk_1.s0, impl_RequesterOk_1.f, e1, iLt_eq, brB_dec, chk_idx, rLen_eq]
    rw [if_pos (by omega), if_idx hi, implGatherOk_ev _ _ _ _ _ (by unfold gGot at hg; omega) k (by unfold gGot at hg; omega), show gatherB _ _ _ _ _ = gOkB e[i] from rfl, hp, next_id hi (by omega)]; rfl
  · have e1 : rGet (0, 0, 0, [], 0) e (i : Int) = e[i] := getD_lt _ _ hi
    have hg := hz _ (List.getElem_mem hi)
    simp only [slices_IndexFunc_Gather_impl_RequesterOk_1.s0, impl_RequesterOk_1.f, e1, iLt_eq, brB_dec, chk_idx, rLen_eq]
    rw [if_pos (by omega), if_idx hi, implGatherOk_ev _ _ _ _ _ (by unfold gGot at hg; omega) k (by unfold gGot at hg; omega), show gatherB _ _ _ _ _ = gOkB e[i] from rfl, hp]; rfl
  · simp only [slices_IndexFunc_Gather_impl_RequesterOk_1.s0, iLt_eq, brB_dec]
    rw [if_neg (by omega)]
noncomputable def roF (k : Nat) (rec : ((List (Int × Int × Int × (List Int) × Int × Int)) × Int × Int × Int × List Bool × (List (Int × Int × Int × (List Int) × Int × Int)) × (List (Int × Int × Int × (List Int) × Int)) × List Bool) → Option (Bool)) (x : (List (Int × Int × Int × (List Int) × Int × Int)) × Int × Int × Int × List Bool × (List (Int × Int × Int × (List Int) × Int × Int)) × (List (Int × Int × Int × (List Int) × Int)) × List Bool) : Option Bool := impl_RequesterOk.s0 k rec x.1 x.2.1 x.2.2.1 x.2.2.2.1 x.2.2.2.2.1 x.2.2.2.2.2.1 x.2.2.2.2.2.2.1 x.2.2.2.2.2.2.2
theorem implOpen_loop (k : Nat) (hk : 3000000 < k) (id : Int) (b : List Bool) (o o' : List (Int × Int × Int × List Int × Int × Int)) (e : List (Int × Int × Int × List Int × Int)) (ho : o.length ≤ 1048576) (hz : ∀ x ∈ o, wGot x ≤ 1048576) : ∀ (r : List (Int × Int × Int × List Int × Int × Int)) (i : Nat) (t : List Bool) (K : Nat), o.drop i = r → i ≤ o.length → r.length < K → t.length = 8 →
    iter (roF k) K (o, (o.length : Int), (i : Int), id, b, o', e, t) = some (match tblB id t r with | some t => decide (t = b) | none => false)
  | r, i, t, 0, _, _, hK, _ => by omega
  | [], i, t, K + 1, hr, hi, hK, ht => by
    have hil : o.length ≤ i := by
      rcases Nat.lt_or_ge i o.length with h' | h'
      · rw [List.drop_eq_getElem_cons h'] at hr; cases hr
      · exact h'
    show impl_RequesterOk.s0 k (iter (roF k) K) o (o.length : Int) (i : Int) id b o' e t = _
    generalize iter (roF k) K = rec
    simp only [impl_RequesterOk.s0, iLt_eq, brB_dec, equalBool_ev t b (by omega) k (by omega), bnd_one, tblB]
    rw [if_neg (by omega)]
  | w :: r, i, t, K + 1, hr, hi, hK, ht => by
    obtain ⟨q1, q2, q3⟩ := drop_cons_get hr (0, 0, 0, [], 0, 0)
    have hm : w ∈ o := by
      have : w ∈ o.drop i := by rw [hr]; simp
      exact List.mem_of_mem_drop this
    have hg := hz w hm
    simp only [List.length_cons] at hK
    have ih := implOpen_loop k hk id b o o' e ho hz r (i + 1) (t.set w.2.1.toNat true) K q3 (by omega) (by omega) (by simpa using ht)
    show impl_RequesterOk.s0 k (iter (roF k) K) o (o.length : Int) (i : Int) id b o' e t = _
    generalize iter (roF k) K = rec at ih ⊢
    simp only [impl_RequesterOk.s0, q2, iLt_eq, iNe_eq, brB_dec, brB_nb, bNot_eq, chk_idx, rLen_eq, within_eq]
    rw [if_pos (by omega), if_idx q1, implGatherOk_ev _ _ _ _ _ (by unfold wGot at hg; omega) k (by unfold wGot at hg; omega), bnd_one, bnd_one, next_id q1 (by omega)]
    simp only [tblB]
    cases c1 : gatherB w.1 w.2.1 w.2.2.1 w.2.2.2.1 w.2.2.2.2.1 with
    | false =>
      have hn : ¬ (wOkB id w = true ∧ t.getD w.2.1.toNat false = false) := fun h => by have := h.1; simp [wOkB, c1] at this
      rw [brB_false, if_neg hn]
    | true =>
      have htag : 0 ≤ w.2.1 ∧ w.2.1 ≤ 7 := by
        simp only [gatherB, Bool.and_eq_true, decide_eq_true_eq] at c1
        exact c1.2.1
      rw [brB_true]
      by_cases c2 : w.1 = id
      · rw [if_pos c2]
        by_cases c3 : w.2.2.2.2.1 = 0
        · rw [if_pos c3]
          by_cases c4 : 0 ≤ w.2.2.2.2.2 ∧ w.2.2.2.2.2 ≤ 50
          · rw [decide_eq_true c4, brB_true, if_pos (by omega), rGet_in _ _ htag.1, rSet_in _ _ htag.1]
            have hw : wOkB id w = true := by unfold wOkB; rw [c1, decide_eq_true c2, decide_eq_true c3, decide_eq_true c4]; rfl
            cases c5 : t.getD w.2.1.toNat false with
            | true => rw [brB_true, if_neg (fun h => by cases h.2)]
            | false => rw [brB_false, if_pos (by omega), if_pos ⟨hw, rfl⟩]; exact ih
          · rw [decide_eq_false c4, brB_false, if_neg (fun h => c4 (by have := h.1; simp only [wOkB, Bool.and_eq_true, decide_eq_true_eq] at this; exact this.2.2.2))]
        · rw [if_neg c3, if_neg (fun h => c3 (by have := h.1; simp only [wOkB, Bool.and_eq_true, decide_eq_true_eq] at this; exact this.2.2.1))]
      · rw [if_neg c2, if_neg (fun h => c2 (by have := h.1; simp only [wOkB, Bool.and_eq_true, decide_eq_true_eq] at this; exact this.2.1))]
theorem implReqOk_ev (id : Int) (b : List Bool) (o : List (Int × Int × Int × List Int × Int × Int)) (e : List (Int × Int × Int × List Int × Int)) (h : rqSize b o e ≤ 1048576) (k : Nat) (hk : 3000000 < k) : impl_RequesterOk.f k id b o e = some (reqB id b o e) := by
  unfold rqSize at h
  have hz : ∀ x ∈ o, wGot x ≤ 1048576 := fun x hx => by have := rSum_le (z := wGot) hx; omega
  have hl := implOpen_loop k hk id b o o e (by omega) hz o 0 (List.replicate 8 false) k rfl (by omega) (by omega) (by simp)
  have hl' : impl_RequesterOk.l0 k k o (o.length : Int) 0 id b o e (List.replicate 8 false) = some (openOkB id b o) := hl
  have hnt : impl_NewTags.f k = some (List.replicate 8 false) := by
    simp only [impl_NewTags.f, chk_make]
    rw [if_pos (by omega)]; rfl
  simp only [impl_RequesterOk.f, implIsId_eq, impl_TagsOk.f, endedBad_ev e (by omega) (fun x hx => by have := rSum_le (z := gGot) hx; omega) k hk, hnt, hl', bnd_one, bNot_eq, brB_nb, brB_dec, iEq_eq, iLt_eq, rLen_eq, reqB]
  refine if_and (if_and ?_)
  by_cases c : (1000 : Int) < e.length
  · rw [if_pos c, decide_eq_false (by omega), Bool.false_and]
  · rw [if_neg c, decide_eq_true (show (e.length : Int) ≤ 1000 by omega), Bool.true_and]
    exact brB_and rfl
noncomputable def so1 (k : Nat) (rec : (Int × Int × List Bool × (List (Int × Int × Int × (List Int) × Int × Int)) × (List (Int × Int × Int × (List Int) × Int))) → Option (Bool)) (x : Int × Int × List Bool × (List (Int × Int × Int × (List Int) × Int × Int)) × (List (Int × Int × Int × (List Int) × Int))) : Option Bool := spec_RequesterOk.s1 k rec x.1 x.2.1 x.2.2.1 x.2.2.2.1 x.2.2.2.2
theorem specSeen_loop (k : Nat) (hk : 3000000 < k) (id : Int) (b : List Bool) (o : List (Int × Int × Int × List Int × Int × Int)) (e : List (Int × Int × Int × List Int × Int)) (g0 g1 g2 : Int) (gl : List Int) (g4 : Int) (i : Nat) (hi : i < o.length) (ho : o.length ≤ 1048576)
    (rec1 : (Int × Int × (List Bool) × (List (Int × Int × Int × (List Int) × Int × Int)) × List (Int × Int × Int × (List Int) × Int)) → Option (Bool)) :
    spec_RequesterOk.l2 k k rec1 (i : Int) 0 id b o e g0 g1 g2 gl g4 = brB ((o.take i).all (fun s => !decide (s.2.1 = g1))) (rec1 (((i + 1 : Nat) : Int), id, b, o, e)) (some false) := by
  have hlen : (o.take i).length = i := by simp; omega
  have h := iter_all (f := fun (rec : (Int × Int × Int × List Bool × (List (Int × Int × Int × (List Int) × Int × Int)) × (List (Int × Int × Int × (List Int) × Int)) × Int × Int × Int × List Int × Int) → Option (Bool)) (x : Int × Int × Int × List Bool × (List (Int × Int × Int × (List Int) × Int × Int)) × (List (Int × Int × Int × (List Int) × Int)) × Int × Int × Int × List Int × Int) => spec_RequesterOk.s2 k rec1 rec x.1 x.2.1 x.2.2.1 x.2.2.2.1 x.2.2.2.2.1 x.2.2.2.2.2.1 x.2.2.2.2.2.2.1 x.2.2.2.2.2.2.2.1 x.2.2.2.2.2.2.2.2.1 x.2.2.2.2.2.2.2.2.2.1 x.2.2.2.2.2.2.2.2.2.2)
    (fun j => ((i : Int), (j : Int), id, b, o, e, g0, g1, g2, gl, g4)) (o.take i) (fun s => !decide (s.2.1 = g1)) (rec1 (((i + 1 : Nat) : Int), id, b, o, e)) (some false) (fun rec j hj hp => ?_) (fun rec j hj hp => ?_) (fun rec => ?_) (n := k) (by omega)
  · exact h
  · rw [hlen] at hj
    have e1 : rGet (0, 0, 0, [], 0, 0) o (j : Int) = (o.take i)[j]'(by omega) := by
      rw [List.getElem_take]; exact getD_lt _ _ (by omega)
    rw [Bool.not_eq_true', decide_eq_false_iff_not] at hp
    simp only [spec_RequesterOk.s2, e1, iLt_eq, iEq_eq, brB_dec, chk_idx, rLen_eq]
    rw [if_pos (by omega), if_idx (by omega), if_neg hp, next_id (i := j) (n := o.length) (by omega) (by omega)]
  · rw [hlen] at hj
    have e1 : rGet (0, 0, 0, [], 0, 0) o (j : Int) = (o.take i)[j]'(by omega) := by
      rw [List.getElem_take]; exact getD_lt _ _ (by omega)
    rw [Bool.not_eq_false', decide_eq_true_eq] at hp
    simp only [spec_RequesterOk.s2, e1, iLt_eq, iEq_eq, brB_dec, chk_idx, rLen_eq]
    rw [if_pos (by omega), if_idx (by omega), if_pos hp]
  · simp only [spec_RequesterOk.s2, iLt_eq, brB_dec, hlen]
    rw [if_neg (by omega), next_id (i := i) (n := o.length) (by omega) (by omega)]
theorem specOpen_loop (k : Nat) (hk : 3000000 < k) (id : Int) (b : List Bool) (hb : b.length = 8) (o : List (Int × Int × Int × List Int × Int × Int)) (e : List (Int × Int × Int × List Int × Int)) (ho : o.length ≤ 1048576) (hz : ∀ x ∈ o, wGot x ≤ 1048576) : ∀ (r : List (Int × Int × Int × List Int × Int × Int)) (i : Nat) (K : Nat), o.drop i = r → i ≤ o.length → r.length < K →
    iter (so1 k) K ((i : Int), id, b, o, e) = some (spB id b (o.take i) r)
  | r, i, 0, _, _, hK => by omega
  | [], i, K + 1, hr, hi, hK => by
    have hil : o.length ≤ i := by
      rcases Nat.lt_or_ge i o.length with h' | h'
      · rw [List.drop_eq_getElem_cons h'] at hr; cases hr
      · exact h'
    show spec_RequesterOk.s1 k (iter (so1 k) K) (i : Int) id b o e = _
    generalize iter (so1 k) K = rec
    simp only [spec_RequesterOk.s1, iLt_eq, brB_dec, rLen_eq, spB]
    rw [if_neg (by omega)]
  | w :: r, i, K + 1, hr, hi, hK => by
    obtain ⟨q1, q2, q3⟩ := drop_cons_get hr (0, 0, 0, [], 0, 0)
    have hm : w ∈ o := by
      have : w ∈ o.drop i := by rw [hr]; simp
      exact List.mem_of_mem_drop this
    have hg := hz w hm
    simp only [List.length_cons] at hK
    have ih := specOpen_loop k hk id b hb o e ho hz r (i + 1) K q3 (by omega) (by omega)
    have et : o.take (i + 1) = o.take i ++ [w] := by
      rw [List.take_succ_eq_append_getElem q1]
      congr 2
      exact ((getD_lt _ _ q1).symm.trans q2)
    rw [et] at ih
    show spec_RequesterOk.s1 k (iter (so1 k) K) (i : Int) id b o e = _
    generalize iter (so1 k) K = rec at ih ⊢
    simp only [spec_RequesterOk.s1, q2, iLt_eq, iNe_eq, brB_dec, brB_nb, bNot_eq, chk_idx, rLen_eq, l01In_eq, specSeen_loop k hk id b o e _ _ _ _ _ i q1 ho rec, ih]
    rw [if_pos (by omega), if_idx q1, specGatherOk_ev _ _ _ _ _ (by unfold wGot at hg; omega) k (by unfold wGot at hg; omega), bnd_one]
    simp only [spB, wOkB]
    cases c1 : gatherB w.1 w.2.1 w.2.2.1 w.2.2.2.1 w.2.2.2.2.1 with
    | false => rfl
    | true =>
      have htag : 0 ≤ w.2.1 ∧ w.2.1 ≤ 7 := by
        simp only [gatherB, Bool.and_eq_true, decide_eq_true_eq] at c1
        exact c1.2.1
      rw [brB_true, bnd_one, if_idx q1, if_pos (show 0 ≤ w.2.1 ∧ w.2.1 < (b.length : Int) by omega), rGet_in _ _ htag.1, Bool.true_and]
      by_cases c2 : w.1 = id
      · rw [if_pos c2, decide_eq_true c2, Bool.true_and]
        by_cases c3 : w.2.2.2.2.1 = 0
        · rw [if_pos c3, decide_eq_true c3, Bool.true_and]
          by_cases c4 : 0 ≤ w.2.2.2.2.2 ∧ w.2.2.2.2.2 ≤ 50
          · rw [decide_eq_true c4, brB_true, Bool.true_and]
            exact brB_and (brB_and rfl)
          · rw [decide_eq_false c4]; rfl
        · rw [if_neg c3, decide_eq_false c3]; rfl
      · rw [if_neg c2, decide_eq_false c2]; rfl
theorem specReqOk_ev (id : Int) (b : List Bool) (o : List (Int × Int × Int × List Int × Int × Int)) (e : List (Int × Int × Int × List Int × Int)) (h : rqSize b o e ≤ 1048576) (k : Nat) (hk : 3000000 < k) : spec_RequesterOk.f k id b o e = some (reqB id b o e) := by
  unfold rqSize at h
  have hz : ∀ x ∈ o, wGot x ≤ 1048576 := fun x hx => by have := rSum_le (z := wGot) hx; omega
  have hze : ∀ x ∈ e, gGot x ≤ 1048576 := fun x hx => by have := rSum_le (z := gGot) hx; omega
  simp only [spec_RequesterOk.f, specIsId_eq, spec_TagsOk.f, countBusy_ev b (by omega) k (by omega), bnd_one, bNot_eq, brB_nb, brB_dec, iEq_eq, iNe_eq, iLt_eq, rLen_eq, reqB]
  refine if_and ?_
  by_cases hb : (b.length : Int) = 8
  · rw [if_pos hb, decide_eq_true hb, Bool.true_and]
    by_cases c : (1000 : Int) < e.length
    · rw [if_pos c, decide_eq_false (by omega), Bool.false_and]
    · rw [if_neg c, decide_eq_true (show (e.length : Int) ≤ 1000 by omega), Bool.true_and]
      have hsp := specOpen_loop k hk id b (by omega) o e (by omega) hz o 0 k rfl (by omega) (by omega)
      have hsp' : spec_RequesterOk.l1 k k 0 id b o e = some (spB id b [] o) := hsp
      have h1 := iter_all (f := fun (rec : (Int × Int × List Bool × (List (Int × Int × Int × (List Int) × Int × Int)) × (List (Int × Int × Int × (List Int) × Int))) → Option (Bool)) (x : Int × Int × List Bool × (List (Int × Int × Int × (List Int) × Int × Int)) × (List (Int × Int × Int × (List Int) × Int))) => spec_RequesterOk.s0 k rec x.1 x.2.1 x.2.2.1 x.2.2.2.1 x.2.2.2.2) (fun i => ((i : Int), id, b, o, e)) e gOkB (some (spB id b [] o)) (some false)
        (fun rec i hi hp => ?_) (fun rec i hi hp => ?_) (fun rec => ?_) (n := k) (by omega)
      · have h1' : spec_RequesterOk.l0 k k 0 id b o e = brB (e.all gOkB) (some (spB id b [] o)) (some false) := h1
        rw [h1', ← open_eq (by omega) o]
        by_cases c2 : (busyN b : Int) = (o.length : Int)
        · rw [if_pos c2, decide_eq_true c2, Bool.true_and]
          exact brB_and rfl
        · rw [if_neg c2, decide_eq_false c2, Bool.false_and, Bool.and_false]
      · have e1 : rGet (0, 0, 0, [], 0) e (i : Int) = e[i] := getD_lt _ _ hi
        have hg := hze _ (List.getElem_mem hi)
        simp only [spec_RequesterOk.s0, e1, iLt_eq, brB_dec, brB_nb, bNot_eq, chk_idx, rLen_eq]
        rw [if_pos (by omega), if_idx hi, specGatherOk_ev _ _ _ _ _ (by unfold gGot at hg; omega) k (by unfold gGot at hg; omega), show gatherB _ _ _ _ _ = gOkB e[i] from rfl, hp, next_id hi (by omega)]; rfl
      · have e1 : rGet (0, 0, 0, [], 0) e (i : Int) = e[i] := getD_lt _ _ hi
        have hg := hze _ (List.getElem_mem hi)
        simp only [spec_RequesterOk.s0, e1, iLt_eq, brB_dec, brB_nb, bNot_eq, chk_idx, rLen_eq]
        rw [if_pos (by omega), if_idx hi, specGatherOk_ev _ _ _ _ _ (by unfold gGot at hg; omega) k (by unfold gGot at hg; omega), show gatherB _ _ _ _ _ = gOkB e[i] from rfl, hp]; rfl
      · simp only [spec_RequesterOk.s0, iLt_eq, brB_dec, rLen_eq, hsp']
        rw [if_neg (by omega)]
  · rw [if_neg hb, decide_eq_false hb, Bool.false_and]

theorem len_rSet {α : Type} (l : List α) (i : Int) (x : α) : (rSet l i x).length = l.length := by simp [rSet]
theorem take_step {α : Type} (l : List α) {i : Nat} (h : i < l.length) : l.take i ++ [l[i]] = l.take (i + 1) := by rw [List.take_succ_eq_append_getElem h]
theorem implCopyGather_ev (a b c : Int) (l : List Int) (d : Int) (hl : l.length ≤ 1048576) (k : Nat) : impl_copyGather.f k a b c l d = some (a, b, c, l, d) := by
  simp only [impl_copyGather.f, slices_Clone_int.f, chk_len, rLen_eq]
  rw [if_pos (by omega)]
  rfl
theorem implCopyReq_two (k : Nat) (hk : 3000000 < k) (e : List (Int × Int × Int × List Int × Int)) (he : e.length ≤ 1048576) (hz : ∀ x ∈ e, gGot x ≤ 1048576) (n0 : Int) (b0 : List Bool) (o0 : List (Int × Int × Int × List Int × Int × Int)) (e0 : List (Int × Int × Int × List Int × Int)) (id : Int) (b : List Bool) (o : List (Int × Int × Int × List Int × Int × Int)) :
    impl_copyRequester.l1 k k e (e.length : Int) 0 n0 b0 o0 e0 id b o [] = some (id, b, o, e) := by
  unfold impl_copyRequester.l1
  refine iter_upto (fun i => (e, (e.length : Int), (i : Int), n0, b0, o0, e0, id, b, o, e.take i)) e.length (fun rec i hi => ?_) (fun rec => ?_) (by omega)
  · have e1 : rGet (0, 0, 0, [], 0) e (i : Int) = e[i] := getD_lt _ _ hi
    have hg : gGot e[i] ≤ 1048576 := hz _ (List.getElem_mem hi)
    unfold gGot at hg
    have hl : (e.take i ++ [e[i]]).length = i + 1 := by simp; omega
    simp only [impl_copyRequester.s1, e1, implCopyGather_ev _ _ _ _ _ hg k, bnd_one, iLt_eq, brB_dec, chk_idx, chk_len, rLen_eq, rApp_eq, hl]
    rw [if_pos (by omega), if_idx hi, if_pos (by omega), take_step e hi, next_id hi (by omega)]
  · simp only [impl_copyRequester.s1, iLt_eq, brB_dec, List.take_length]
    rw [if_neg (by omega)]
theorem implCopyReq_ev (id : Int) (b : List Bool) (o : List (Int × Int × Int × List Int × Int × Int)) (e : List (Int × Int × Int × List Int × Int)) (h : rqSize b o e ≤ 1048576) (k : Nat) (hk : 3000000 < k) : impl_copyRequester.f k id b o e = some (id, b, o, e) := by
  unfold rqSize at h
  have hzo : ∀ x ∈ o, wGot x ≤ 1048576 := fun x hx => by have := rSum_le (z := wGot) hx; omega
  have hze : ∀ x ∈ e, gGot x ≤ 1048576 := fun x hx => by have := rSum_le (z := gGot) hx; omega
  simp only [impl_copyRequester.f, impl_copyTags.f, slices_Clone_bool.f, chk_len, rLen_eq]
  rw [if_pos (by omega), bnd_one, bnd_one]
  unfold impl_copyRequester.l0
  refine iter_upto (fun i => (o, (o.length : Int), (i : Int), id, b, o, e, 0, [], [], [], id, b, o.take i, [])) o.length (fun rec i hi => ?_) (fun rec => ?_) (by omega)
  · have e1 : rGet (0, 0, 0, [], 0, 0) o (i : Int) = o[i] := getD_lt _ _ hi
    have hg : wGot o[i] ≤ 1048576 := hzo _ (List.getElem_mem hi)
    unfold wGot at hg
    have hl : (o.take i ++ [o[i]]).length = i + 1 := by simp; omega
    simp only [impl_copyRequester.s0, e1, implCopyGather_ev _ _ _ _ _ hg k, bnd_one, iLt_eq, brB_dec, chk_idx, chk_len, rLen_eq, rApp_eq, hl]
    rw [if_pos (by omega), if_idx hi, if_pos (by omega), take_step o hi, next_id hi (by omega)]
  · simp only [impl_copyRequester.s0, iLt_eq, brB_dec, List.take_length, rLen_eq]
    rw [if_neg (by omega)]
    exact implCopyReq_two k hk e (by omega) hze _ _ _ _ _ _ _
theorem specCopyGather_ev (a b c : Int) (l : List Int) (d : Int) (hl : l.length ≤ 1048576) (k : Nat) : spec_l27Copy.f k a b c l d = some (a, b, c, l, d) := by
  simp only [spec_l27Copy.f, chk_len, rLen_eq, rApp_eq, List.nil_append]
  rw [if_pos (by omega)]
theorem specCopyReq_two (k : Nat) (hk : 3000000 < k) (e : List (Int × Int × Int × List Int × Int)) (he : e.length ≤ 1048576) (hz : ∀ x ∈ e, gGot x ≤ 1048576) (n0 : Int) (b0 : List Bool) (o0 : List (Int × Int × Int × List Int × Int × Int)) (n1 : Int) (b1 : List Bool) (o1 : List (Int × Int × Int × List Int × Int × Int)) (e1 : List (Int × Int × Int × List Int × Int)) (id : Int) (b : List Bool) (o : List (Int × Int × Int × List Int × Int × Int)) :
    spec_l29Copy.l1 k k 0 n0 b0 o0 e n1 b1 o1 e1 id b o [] = some (id, b, o, e) := by
  unfold spec_l29Copy.l1
  refine iter_upto (fun i => ((i : Int), n0, b0, o0, e, n1, b1, o1, e1, id, b, o, e.take i)) e.length (fun rec i hi => ?_) (fun rec => ?_) (by omega)
  · have e1 : rGet (0, 0, 0, [], 0) e (i : Int) = e[i] := getD_lt _ _ hi
    have hg : gGot e[i] ≤ 1048576 := hz _ (List.getElem_mem hi)
    unfold gGot at hg
    have hl : (e.take i ++ [e[i]]).length = i + 1 := by simp; omega
    simp only [spec_l29Copy.s1, e1, specCopyGather_ev _ _ _ _ _ hg k, bnd_one, iLt_eq, brB_dec, chk_idx, chk_len, rLen_eq, rApp_eq, hl]
    rw [if_pos (by omega), if_idx hi, if_pos (by omega), take_step e hi, next_id hi (by omega)]
  · simp only [spec_l29Copy.s1, iLt_eq, brB_dec, List.take_length, rLen_eq]
    rw [if_neg (by omega)]
theorem specCopyReq_ev (id : Int) (b : List Bool) (o : List (Int × Int × Int × List Int × Int × Int)) (e : List (Int × Int × Int × List Int × Int)) (h : rqSize b o e ≤ 1048576) (k : Nat) (hk : 3000000 < k) : spec_l29Copy.f k id b o e = some (id, b, o, e) := by
  unfold rqSize at h
  have hzo : ∀ x ∈ o, wGot x ≤ 1048576 := fun x hx => by have := rSum_le (z := wGot) hx; omega
  have hze : ∀ x ∈ e, gGot x ≤ 1048576 := fun x hx => by have := rSum_le (z := gGot) hx; omega
  simp only [spec_l29Copy.f, spec_l28Copy.f, chk_len, rLen_eq, rApp_eq, List.nil_append]
  rw [if_pos (by omega), bnd_one]
  unfold spec_l29Copy.l0
  refine iter_upto (fun i => ((i : Int), id, b, o, e, 0, [], [], [], id, b, o.take i, [])) o.length (fun rec i hi => ?_) (fun rec => ?_) (by omega)
  · have e1 : rGet (0, 0, 0, [], 0, 0) o (i : Int) = o[i] := getD_lt _ _ hi
    have hg : wGot o[i] ≤ 1048576 := hzo _ (List.getElem_mem hi)
    unfold wGot at hg
    have hl : (o.take i ++ [o[i]]).length = i + 1 := by simp; omega
    simp only [spec_l29Copy.s0, e1, specCopyGather_ev _ _ _ _ _ hg k, bnd_one, iLt_eq, brB_dec, chk_idx, chk_len, rLen_eq, rApp_eq, hl]
    rw [if_pos (by omega), if_idx hi, if_idx hi, if_pos (by omega), take_step o hi, next_id hi (by omega)]
  · simp only [spec_l29Copy.s0, iLt_eq, brB_dec, List.take_length, rLen_eq]
    rw [if_neg (by omega)]
    exact specCopyReq_two k hk e (by omega) hze _ _ _ _ _ _ _ _ _ _

theorem idxF_lt : ∀ {b : List Bool} {i : Nat}, i < b.idxOf false → b.getD i false = true
  | [], i, h => by simp at h
  | false :: b, i, h => by simp [List.idxOf_cons] at h
  | true :: b, 0, _ => rfl
  | true :: b, i + 1, h => by
    have : i < b.idxOf false := by simpa [List.idxOf_cons] using h
    exact idxF_lt (b := b) this
theorem idxF_le (b : List Bool) : b.idxOf false ≤ b.length := List.idxOf_le_length
theorem idxF_at : ∀ {b : List Bool}, b.getD (b.idxOf false) false = false
  | [] => rfl
  | false :: b => rfl
  | true :: b => by
    have := idxF_at (b := b)
    rw [show (true :: b).idxOf false = b.idxOf false + 1 by simp [List.idxOf_cons]]
    exact this
/-- The first free tag is taken. -/
def takeTagB (b : List Bool) : List Bool × Int := if b.length = 8 ∧ b.idxOf false < 8 then (b.set (b.idxOf false) true, (b.idxOf false : Int)) else (b, -1)
theorem specTakeTag_ev (b : List Bool) (hb : b.length ≤ 1048576) (k : Nat) (hk : 3000000 < k) : spec_TakeTag.f k b = some (takeTagB b) := by
  have hc : spec_l28Copy.f k b = some b := by
    simp only [spec_l28Copy.f, chk_len, rLen_eq, rApp_eq, List.nil_append]
    rw [if_pos (by omega)]
  have ht : spec_TagsOk.f k b = some (decide ((b.length : Int) = 8)) := by simp only [spec_TagsOk.f, iEq_eq, rLen_eq]
  simp only [spec_TakeTag.f, hc, bnd_one, spec_TakeTag.l0]
  by_cases h8 : b.length = 8
  · have hle := idxF_le b
    have h := iter_upto (f := fun (rec : (Int × List Bool × List Bool × List Bool) → Option (List Bool × Int)) (x : Int × List Bool × List Bool × List Bool) => spec_TakeTag.s0 k rec x.1 x.2.1 x.2.2.1 x.2.2.2)
      (fun i => ((i : Int), b, [], b)) (b.idxOf false) (r := takeTagB b) (fun rec i hi => ?_) (fun rec => ?_) (n := k) (by omega)
    · exact h
    · have e1 : rGet false b (i : Int) = true := idxF_lt hi
      simp only [spec_TakeTag.s0, ht, bnd_one, brB_dec, iLt_eq, rLen_eq, chk_idx, e1, bNot_eq, Bool.not_true, brB_false]
      rw [if_pos (by omega), if_pos (by omega), if_idx (by omega), next_id (n := b.length) (by omega) (by omega)]
    · simp only [spec_TakeTag.s0, ht, bnd_one, brB_dec, iLt_eq, rLen_eq, chk_idx, bNot_eq]
      by_cases hi : b.idxOf false < 8
      · have e1 : rGet false b ((b.idxOf false : Nat) : Int) = false := idxF_at
        simp only [e1, Bool.not_false, brB_true]
        rw [if_pos (by omega), if_pos (by omega), if_idx (by omega), if_idx (by omega), takeTagB, if_pos ⟨h8, hi⟩, rSet_nat]
      · rw [if_neg (by omega), takeTagB, if_neg (by omega)]
  · have h := iter_upto (f := fun (rec : (Int × List Bool × List Bool × List Bool) → Option (List Bool × Int)) (x : Int × List Bool × List Bool × List Bool) => spec_TakeTag.s0 k rec x.1 x.2.1 x.2.2.1 x.2.2.2)
      (fun i => ((0 : Int), b, [], b)) 0 (r := takeTagB b) (fun rec i hi => by omega) (fun rec => ?_) (n := k) (by omega)
    · exact h
    · simp only [spec_TakeTag.s0, ht, bnd_one, brB_dec, iLt_eq, rLen_eq]
      have e : takeTagB b = (b, -1) := if_neg fun hh => h8 hh.1
      rw [e]
      split
      · rw [if_neg (by omega)]
      · rfl
theorem indexBool_ev (b : List Bool) (hb : b.length ≤ 1048576) (k : Nat) (hk : 3000000 < k) : slices_Index_bool.f k b false = some (if b.idxOf false < b.length then (b.idxOf false : Int) else -1) := by
  simp only [slices_Index_bool.f, slices_Index_bool.l0, rLen_eq]
  have hle := idxF_le b
  have h := iter_upto (f := fun (rec : (List Bool × Bool × Int × Int) → Option (Int)) (x : List Bool × Bool × Int × Int) => slices_Index_bool.s0 k rec x.1 x.2.1 x.2.2.1 x.2.2.2)
    (fun i => (b, false, (b.length : Int), (i : Int))) (b.idxOf false) (r := if b.idxOf false < b.length then (b.idxOf false : Int) else -1) (fun rec i hi => ?_) (fun rec => ?_) (n := k) (by omega)
  · exact h
  · have e1 : rGet false b (i : Int) = true := idxF_lt hi
    simp only [slices_Index_bool.s0, brB_dec, iLt_eq, rLen_eq, chk_idx, e1, bEq_eq]
    rw [if_pos (by omega), if_idx (by omega), next_id (n := b.length) (by omega) (by omega)]
    rfl
  · simp only [slices_Index_bool.s0, brB_dec, iLt_eq, rLen_eq, chk_idx, bEq_eq]
    by_cases hi : b.idxOf false < b.length
    · have e1 : rGet false b ((b.idxOf false : Nat) : Int) = false := idxF_at
      rw [e1, if_pos (by omega), if_idx hi, if_pos hi]
      rfl
    · rw [if_neg (by omega), if_neg hi]
theorem implTakeTag_ev (b : List Bool) (hb : b.length ≤ 1048576) (k : Nat) (hk : 3000000 < k) : impl_TakeTag.f k b = some (takeTagB b) := by
  have hle := idxF_le b
  simp only [impl_TakeTag.f, impl_copyTags.f, slices_Clone_bool.f, impl_TagsOk.f, chk_len, rLen_eq, indexBool_ev b hb k hk, iEq_eq]
  rw [if_pos (by omega), bnd_one, bnd_one, bnd_one, bnd_one, bNot_eq, brB_nb, brB_dec]
  unfold takeTagB
  by_cases h8 : b.length = 8
  · rw [if_pos (by omega), iLt_eq, brB_dec]
    by_cases hi : b.idxOf false < b.length
    · rw [if_pos hi, if_neg (by omega), chk_idx, if_idx hi, if_pos ⟨h8, by omega⟩]; rfl
    · rw [if_neg hi, if_pos (by omega), if_neg (by omega)]
  · rw [if_neg (by omega), if_neg (by omega)]
theorem rSum_bound {α : Type} {z : α → Nat} {c : Nat} : ∀ {l : List α}, (∀ x ∈ l, z x ≤ c) → rSum z l ≤ c * l.length
  | [], _ => by simp [rSum]
  | x :: l, h => by
    have h1 := h x (by simp)
    have h2 := rSum_bound (l := l) fun y hy => h y (by simp [hy])
    rw [rSum_cons, List.length_cons, Nat.mul_succ]
    omega
theorem tbl_ok {id : Int} : ∀ {r : List (Int × Int × Int × List Int × Int × Int)} {t t' : List Bool}, tblB id t r = some t' → ∀ w ∈ r, wOkB id w = true
  | [], t, t', _, w, hw => by cases hw
  | x :: r, t, t', h, w, hw => by
    simp only [tblB] at h
    split at h
    · rename_i c
      rcases List.mem_cons.1 hw with rfl | hw
      · exact c.1
      · exact tbl_ok h w hw
    · cases h
theorem gatherB_len {a b c d : Int} {l : List Int} (h : gatherB a b c l d = true) : l.length ≤ 64 := by
  simp only [gatherB, Bool.and_eq_true, decide_eq_true_eq] at h
  omega
/-- A valid requester is small. -/
structure ReqFacts (id : Int) (b : List Bool) (o : List (Int × Int × Int × List Int × Int × Int)) (e : List (Int × Int × Int × List Int × Int)) : Prop where
  b8 : b.length = 8
  o8 : o.length ≤ 8
  e1000 : e.length ≤ 1000
  wo : ∀ w ∈ o, wOkB id w = true
  ge : ∀ g ∈ e, gOkB g = true
  w64 : ∀ w ∈ o, wGot w ≤ 64
  g64 : ∀ g ∈ e, gGot g ≤ 64
  small : rqSize b o e ≤ 100000
theorem req_facts {id : Int} {b : List Bool} {o : List (Int × Int × Int × List Int × Int × Int)} {e : List (Int × Int × Int × List Int × Int)} (h : reqB id b o e = true) : ReqFacts id b o e := by
  simp only [reqB, Bool.and_eq_true, decide_eq_true_eq, List.all_eq_true] at h
  obtain ⟨_, h8, h1000, hge, ho⟩ := h
  unfold openOkB at ho
  split at ho
  · rename_i t ht
    obtain ⟨c1, c2, c3⟩ := tbl_count o _ t (by simp) ht
    have hz : busyN (List.replicate 8 false) = 0 := by decide
    have ht8 : busyN t ≤ t.length := List.countP_le_length
    have hwo := tbl_ok ht
    have hw64 : ∀ w ∈ o, wGot w ≤ 64 := fun w hw => by
      have := hwo w hw
      unfold wOkB at this
      rw [Bool.and_eq_true] at this
      exact gatherB_len this.1
    have hg64 : ∀ g ∈ e, gGot g ≤ 64 := fun g hg => gatherB_len (hge g hg)
    have s1 := rSum_bound hw64
    have s2 := rSum_bound hg64
    exact ⟨by omega, by omega, by omega, hwo, hge, hw64, hg64, by unfold rqSize; omega⟩
  · cases ho
/-- What beginning a read gives. -/
def readB (id : Int) (b : List Bool) (o : List (Int × Int × Int × List Int × Int × Int)) (e : List (Int × Int × Int × List Int × Int)) (a l : Int) : Int × List Bool × List (Int × Int × Int × List Int × Int × Int) × List (Int × Int × Int × List Int × Int) × Int × Int × Int × Int × Int × Int × Int × List Int × Bool :=
  if reqB id b o e = true ∧ 0 ≤ (takeTagB b).2 ∧ packB 3 id 0 a l (takeTagB b).2 0 [] = true then (id, (takeTagB b).1, o ++ [(id, (takeTagB b).2, l, [], 0, 0)], e, 3, id, 0, a, l, (takeTagB b).2, 0, [], true) else (id, b, o, e, 0, 0, 0, 0, 0, 0, 0, [], false)
theorem specRead_ev (id : Int) (b : List Bool) (o : List (Int × Int × Int × List Int × Int × Int)) (e : List (Int × Int × Int × List Int × Int)) (a l : Int) (h : rqSize b o e ≤ 1048576) (h3 : (Lit.int .i64 a).wf = true) (h4 : (Lit.int .i64 l).wf = true) (k : Nat) (hk : 3000000 < k) :
    spec_BeginRead.f k id b o e a l = some (readB id b o e a l) := by
  have hb : b.length ≤ 1048576 := by unfold rqSize at h; omega
  have ho : o.length ≤ 1048576 := by unfold rqSize at h; omega
  simp only [spec_BeginRead.f, specCopyReq_ev id b o e h k hk, specReqOk_ev id b o e h k hk, specTakeTag_ev b hb k hk, bnd_one, bNot_eq, brB_nb, iLt_eq, brB_dec, readB]
  cases c1 : reqB id b o e with
  | false => rfl
  | true =>
    rw [brB_true]
    generalize takeTagB b = T
    obtain ⟨t, tag⟩ := T
    simp only
    by_cases c2 : tag < 0
    · rw [if_pos c2, if_neg (by omega)]
    · rw [if_neg c2]
      simp only [specIsPacket_ev 3 id 0 a l tag 0 [] (by simp) h3 h4 k (by simp; omega), specNew_ev 3 id 0 a l tag 0 [] (by simp) h3 h4 k (by simp; omega), bnd_one]
      cases c3 : packB 3 id 0 a l tag 0 [] with
      | false => rw [brB_false, if_neg (by simp)]
      | true =>
        rw [brB_true, if_pos ⟨trivial, by omega, rfl⟩]
        simp only [chk_len, rLen_eq, rApp_eq]
        rw [if_pos (by simp only [List.length_append, List.length_cons, List.length_nil]; omega)]
        rfl
theorem implRead_ev (id : Int) (b : List Bool) (o : List (Int × Int × Int × List Int × Int × Int)) (e : List (Int × Int × Int × List Int × Int)) (a l : Int) (h : rqSize b o e ≤ 1048576) (h3 : (Lit.int .i64 a).wf = true) (h4 : (Lit.int .i64 l).wf = true) (k : Nat) (hk : 3000000 < k) :
    impl_BeginRead.f k id b o e a l = some (readB id b o e a l) := by
  have hb : b.length ≤ 1048576 := by unfold rqSize at h; omega
  have ho : o.length ≤ 1048576 := by unfold rqSize at h; omega
  simp only [impl_BeginRead.f, implCopyReq_ev id b o e h k hk, implReqOk_ev id b o e h k hk, implTakeTag_ev b hb k hk, bnd_one, bNot_eq, brB_nb, iLt_eq, brB_dec, readB]
  cases c1 : reqB id b o e with
  | false => rfl
  | true =>
    rw [brB_true]
    generalize takeTagB b = T
    obtain ⟨t, tag⟩ := T
    simp only
    by_cases c2 : tag < 0
    · rw [if_pos c2, if_neg (by omega)]
    · rw [if_neg c2]
      simp only [implIsPacket_ev 3 id 0 a l tag 0 [] (by simp) h3 h4 k (by simp; omega), implNew_ev 3 id 0 a l tag 0 [] (by simp) h3 h4 k (by simp; omega), bnd_one]
      cases c3 : packB 3 id 0 a l tag 0 [] with
      | false => rw [brB_false, if_neg (by simp)]
      | true =>
        rw [brB_true, if_pos ⟨trivial, by omega, rfl⟩]
        simp only [chk_len, rLen_eq, rApp_eq]
        rw [if_pos (by simp only [List.length_append, List.length_cons, List.length_nil]; omega)]
        rfl
theorem read_facts {a1 a2 a3 a4 a5 a6 : Int} {l : List Int} (h : packB 3 a1 a2 a3 a4 a5 a6 l = true) : l = [] ∧ (1 ≤ a4 ∧ a4 ≤ 64) ∧ (0 ≤ a3 ∧ a3 ≤ 65536 - a4) ∧ (0 ≤ a5 ∧ a5 ≤ 7) ∧ a6 = 0 ∧ a2 = 0 ∧ (0 ≤ a1 ∧ a1 ≤ 255) := by
  simp only [packB, Bool.and_eq_true, decide_eq_true_eq] at h
  replace h := h.2
  unfold packP at h
  have hl : (l.length : Int) = 0 := by omega
  exact ⟨List.length_eq_zero_iff.1 (by omega), by omega, by omega, by omega, by omega, by omega, by omega⟩
theorem set_self {b : List Bool} {i : Nat} (h : b.getD i false = false) : b.set i false = b := by
  apply List.ext_getElem?
  intro j
  rw [List.getElem?_set]
  by_cases e : i = j
  · subst e
    rw [if_pos rfl]
    by_cases hl : i < b.length
    · rw [if_pos hl, List.getElem?_eq_getElem hl, ← h, getD_lt false b hl]
    · rw [if_neg hl, List.getElem?_eq_none (by omega)]
  · rw [if_neg e]
theorem specFree_ev (b : List Bool) (tag : Int) (h8 : b.length = 8) (ht : 0 ≤ tag ∧ tag ≤ 7) (k : Nat) : spec_FreeTag.f k b tag = some (b.set tag.toNat false, b.getD tag.toNat false) := by
  have e1 : rGet false b tag = b.getD tag.toNat false := rfl
  have e2 : rSet b tag false = b.set tag.toNat false := rfl
  simp only [spec_FreeTag.f, spec_l28Copy.f, spec_TagsOk.f, l01In_eq, chk_len, chk_idx, rLen_eq, rApp_eq, List.nil_append, iEq_eq, e1, e2]
  rw [if_pos (by omega), bnd_one, bnd_one, decide_eq_true (show (b.length : Int) = 8 by omega), bNot_eq, Bool.not_true, brB_false, bnd_one, decide_eq_true ht, bNot_eq, Bool.not_true, brB_false, if_pos (by omega), bNot_eq]
  cases hb : b.getD tag.toNat false with
  | false => rw [Bool.not_false, brB_true, set_self hb]
  | true => rw [Bool.not_true, brB_false, if_pos (by omega)]; rfl
theorem implFree_ev (b : List Bool) (tag : Int) (h8 : b.length = 8) (ht : 0 ≤ tag ∧ tag ≤ 7) (k : Nat) : impl_FreeTag.f k b tag = some (b.set tag.toNat false, b.getD tag.toNat false) := by
  have e1 : rGet false b tag = b.getD tag.toNat false := rfl
  have e2 : rSet b tag false = b.set tag.toNat false := rfl
  simp only [impl_FreeTag.f, impl_copyTags.f, slices_Clone_bool.f, impl_TagsOk.f, within_eq, chk_len, chk_idx, rLen_eq, iEq_eq, e1, e2]
  rw [if_pos (by omega), bnd_one, bnd_one, bnd_one, decide_eq_true (show (b.length : Int) = 8 by omega), bNot_eq, Bool.not_true, brB_false, bnd_one, decide_eq_true ht, bNot_eq, Bool.not_true, brB_false, if_pos (by omega), bNot_eq]
  cases hb : b.getD tag.toNat false with
  | false => rw [Bool.not_false, brB_true, set_self hb]
  | true => rw [Bool.not_true, brB_false, if_pos (by omega)]; rfl
theorem cut_out {α : Type} (l : List α) (i : Nat) : rSub l 0 (i : Int) ++ rSub l ((i + 1 : Nat) : Int) (l.length : Int) = l.eraseIdx i := by
  simp only [rSub, Int.toNat_zero, List.drop_zero, Int.toNat_natCast, List.take_length]
  exact (List.eraseIdx_eq_take_drop_succ l i).symm
theorem specEnd_ev (id : Int) (b : List Bool) (o : List (Int × Int × Int × List Int × Int × Int)) (e : List (Int × Int × Int × List Int × Int)) (i : Nat) (g0 g1 g2 : Int) (gl : List Int) (g4 : Int) (h8 : b.length = 8) (ht : 0 ≤ g1 ∧ g1 ≤ 7) (hi : i < o.length) (ho : o.length ≤ 1048576) (he : e.length ≤ 1048576) (k : Nat) :
    spec_l29End.f k id b o e (i : Int) g0 g1 g2 gl g4 = some (id, b.set g1.toNat false, o.eraseIdx i, e ++ [(g0, g1, g2, gl, g4)]) := by
  have h1 := next_id hi (by omega)
  have h2 := cut_out o i
  have h3 : (o.eraseIdx i).length ≤ 1048576 := by rw [List.length_eraseIdx]; split <;> omega
  have e0 : iEq 0 0 = true := rfl
  simp only [spec_l29End.f, specFree_ev b g1 h8 ht k, bnd_one, h1, rLen_eq, rApp_eq, h2, chk_sub, e0, bAnd, Bool.true_and, iLe_eq, chk_len]
  rw [if_pos (by omega), if_pos (by omega), decide_eq_true (show (i : Int) ≤ ((i + 1 : Nat) : Int) by omega), decide_eq_true (show (o.length : Int) ≤ (o.length : Int) by omega), Bool.true_and, Bool.true_and, chk_len, if_pos (by omega)]
  rw [if_pos (by simp only [List.length_append, List.length_cons, List.length_nil]; omega)]
theorem delete_ev (o : List (Int × Int × Int × List Int × Int × Int)) (i : Nat) (hi : i < o.length) (ho : o.length ≤ 1048576) (k : Nat) : slices_Delete_Waiting.f k o (i : Int) ((i + 1 : Nat) : Int) = some (o.eraseIdx i) := by
  have h2 := cut_out o i
  have h3 : (o.eraseIdx i).length ≤ o.length := by rw [List.length_eraseIdx]; split <;> omega
  have e0 : iEq 0 0 = true := rfl
  simp only [slices_Delete_Waiting.f, rLen_eq, rApp_eq, h2, chk_sub, e0, bAnd, Bool.true_and, iLe_eq, iEq_eq, brB_dec]
  have c1 : cSub (i : Int) ((i + 1 : Nat) : Int) (o.length : Int) = true := by simp only [cSub, decide_eq_true_eq]; omega
  have c2 : cSub 0 (o.length : Int) (o.length : Int) = true := by simp only [cSub, decide_eq_true_eq]; omega
  rw [c1, c2, Bool.and_self, chk_true, if_neg (by omega), if_pos (by omega), if_pos (by omega), decide_eq_true (show (i : Int) ≤ ((i + 1 : Nat) : Int) by omega), decide_eq_true (show (o.length : Int) ≤ (o.length : Int) by omega), Bool.true_and, Bool.true_and, chk_len, if_pos (by omega),
    if_pos (by omega), decide_eq_true (show ((o.eraseIdx i).length : Int) ≤ ((o.eraseIdx i).length : Int) by omega), chk_true]
/-- Who waits on, who has waited too long. -/
def stayB (s : Int) (w : Int × Int × Int × List Int × Int × Int) : Bool := decide (w.2.2.2.2.2 + s ≤ 50)
def later (s : Int) (w : Int × Int × Int × List Int × Int × Int) : Int × Int × Int × List Int × Int × Int := (w.1, w.2.1, w.2.2.1, w.2.2.2.1, w.2.2.2.2.1, w.2.2.2.2.2 + s)
def failG (w : Int × Int × Int × List Int × Int × Int) : Int × Int × Int × List Int × Int := (w.1, w.2.1, w.2.2.1, w.2.2.2.1, 2)
def stay (s : Int) (o : List (Int × Int × Int × List Int × Int × Int)) : List (Int × Int × Int × List Int × Int × Int) := (o.filter (stayB s)).map (later s)
def fails (s : Int) (o : List (Int × Int × Int × List Int × Int × Int)) : List (Int × Int × Int × List Int × Int) := (o.filter (fun w => !stayB s w)).map failG
def freeStep (s : Int) (b : List Bool) (w : Int × Int × Int × List Int × Int × Int) : List Bool := if stayB s w = true then b else b.set w.2.1.toNat false
def freed (s : Int) (b : List Bool) (o : List (Int × Int × Int × List Int × Int × Int)) : List Bool := o.foldl (freeStep s) b
theorem freed_len (s : Int) : ∀ (o : List (Int × Int × Int × List Int × Int × Int)) (b : List Bool), (freed s b o).length = b.length
  | [], b => rfl
  | w :: o, b => by
    have := freed_len s o (freeStep s b w)
    simp only [freed, List.foldl_cons] at this ⊢
    rw [this]
    unfold freeStep; split <;> simp
theorem stay_app (s : Int) (l m : List (Int × Int × Int × List Int × Int × Int)) : stay s (l ++ m) = stay s l ++ stay s m := by simp [stay]
theorem fails_app (s : Int) (l m : List (Int × Int × Int × List Int × Int × Int)) : fails s (l ++ m) = fails s l ++ fails s m := by simp [fails]
theorem freed_app (s : Int) (b : List Bool) (l m : List (Int × Int × Int × List Int × Int × Int)) : freed s b (l ++ m) = freed s (freed s b l) m := by simp [freed]
theorem stay_len (s : Int) (l : List (Int × Int × Int × List Int × Int × Int)) : (stay s l).length + (fails s l).length = l.length := by
  induction l with
  | nil => rfl
  | cons w l ih =>
    have e1 : stay s (w :: l) = stay s [w] ++ stay s l := stay_app s [w] l
    have e2 : fails s (w :: l) = fails s [w] ++ fails s l := fails_app s [w] l
    rw [e1, e2, List.length_append, List.length_append, List.length_cons]
    have : (stay s [w]).length + (fails s [w]).length = 1 := by
      cases h : stayB s w <;> simp [stay, fails, h]
    omega
theorem stay_yes {s : Int} {w : Int × Int × Int × List Int × Int × Int} (h : stayB s w = true) : stay s [w] = [later s w] ∧ fails s [w] = [] ∧ ∀ b, freed s b [w] = b := by
  refine ⟨by simp [stay, h], by simp [fails, h], fun b => by simp [freed, freeStep, h]⟩
theorem stay_no {s : Int} {w : Int × Int × Int × List Int × Int × Int} (h : stayB s w = false) : stay s [w] = [] ∧ fails s [w] = [failG w] ∧ ∀ b, freed s b [w] = b.set w.2.1.toNat false := by
  refine ⟨by simp [stay, h], by simp [fails, h], fun b => by simp [freed, freeStep, h]⟩
/-- What passing time gives. -/
def passB (s : Int) (id : Int) (b : List Bool) (o : List (Int × Int × Int × List Int × Int × Int)) (e : List (Int × Int × Int × List Int × Int)) : Int × List Bool × List (Int × Int × Int × List Int × Int × Int) × List (Int × Int × Int × List Int × Int) :=
  if reqB id b o e = true ∧ (0 ≤ s ∧ s ≤ 50) ∧ (e ++ fails s o).length ≤ 1000 then (id, freed s b o, stay s o, e ++ fails s o) else (id, b, o, e)
theorem wOk_age {id : Int} {w : Int × Int × Int × List Int × Int × Int} (h : wOkB id w = true) : 0 ≤ w.2.2.2.2.2 ∧ w.2.2.2.2.2 ≤ 50 := by
  simp only [wOkB, Bool.and_eq_true, decide_eq_true_eq] at h
  exact h.2.2.2
theorem mid_get {α : Type} (d : α) (A : List α) (w : α) (r : List α) : rGet d (A ++ w :: r) (A.length : Int) = w := by
  rw [rGet_nat]; simp [List.getD_eq_getElem?_getD]
theorem mid_set {α : Type} (A : List α) (w v : α) (r : List α) : rSet (A ++ w :: r) (A.length : Int) v = A ++ v :: r := by
  rw [rSet_nat]; simp
theorem mid_cut {α : Type} (A : List α) (w : α) (r : List α) : (A ++ w :: r).eraseIdx A.length = A ++ r := by
  rw [List.eraseIdx_append_of_length_le (Nat.le_refl _)]; simp
theorem specPass_ev (s : Int) (id : Int) (b : List Bool) (o : List (Int × Int × Int × List Int × Int × Int)) (e : List (Int × Int × Int × List Int × Int)) (h : rqSize b o e ≤ 1048576) (k : Nat) (hk : 3000000 < k) : spec_PassTime.f k id b o e s = some (passB s id b o e) := by
  have hc := specCopyReq_ev id b o e h k hk
  simp only [spec_PassTime.f, hc, specReqOk_ev id b o e h k hk, bnd_one, bNot_eq, brB_nb, l01In_eq, brB_dec, passB]
  cases c1 : reqB id b o e with
  | false => rw [brB_false, if_neg (by simp)]
  | true =>
    obtain ⟨b8, o8, e1000, hwo, hge, _, _, _⟩ := req_facts c1
    rw [brB_true]
    by_cases c2 : 0 ≤ s ∧ s ≤ 50
    · rw [if_pos c2]
      unfold spec_PassTime.l0
      refine iter_from (fun i => (s, ((stay s (o.take i)).length : Int), id, b, o, e, 0, [], [], [], id, freed s b (o.take i), stay s (o.take i) ++ o.drop i, e ++ fails s (o.take i))) o.length (by simp [stay, fails, freed]) (fun rec i hi => ?_) (fun rec => ?_) (n := k) (by omega)
      · have hw := hwo _ (List.getElem_mem hi)
        have hage := wOk_age hw
        have htag := wOk_tag hw
        have hl := stay_len s (o.take i)
        rw [List.length_take, Nat.min_eq_left (Nat.le_of_lt hi)] at hl
        have hfl := freed_len s (o.take i) b
        have hdl : (o.drop (i + 1)).length = o.length - (i + 1) := List.length_drop
        rw [List.take_succ_eq_append_getElem hi, stay_app, fails_app, freed_app, List.drop_eq_getElem_cons hi]
        simp only [spec_PassTime.s0, mid_get, mid_set, iLt_eq, iLe_eq, brB_dec, chk_idx, rLen_eq]
        generalize o[i] = w at *
        generalize o.drop (i + 1) = R at *
        generalize stay s (o.take i) = A at *
        obtain ⟨w0, w1, w2, wl, w4, w5⟩ := w
        simp only at hage htag
        have hAl : ∀ v, ((A ++ v :: R).length : Int) = A.length + 1 + R.length := fun v => by simp only [List.length_append, List.length_cons]; omega
        simp only [hAl]
        rw [if_pos (by omega), if_pos (by omega), if_pos (by omega), if_pos (by omega), iAdd_id (by omega) (by omega)]
        cases hs : stayB s (w0, w1, w2, wl, w4, w5) with
        | true =>
          obtain ⟨q1, q2, q3⟩ := stay_yes hs
          have hs' : w5 + s ≤ 50 := of_decide_eq_true hs
          rw [if_pos hs', q1, q2, q3, List.append_nil, next_id (n := A.length + 1) (by omega) (by omega), List.append_assoc, List.singleton_append, List.length_append]
          rfl
        | false =>
          obtain ⟨q1, q2, q3⟩ := stay_no hs
          have hs' : ¬ w5 + s ≤ 50 := of_decide_eq_false hs
          rw [if_neg hs', if_pos (by omega), specEnd_ev id (freed s b (o.take i)) _ _ A.length _ _ _ _ _ (by omega) htag (by simp) (by have := hAl (w0, w1, w2, wl, w4, w5 + s); omega) (by simp only [List.length_append]; omega) k, bnd_one, q1, q2, q3, List.append_nil, List.append_assoc, mid_cut]
          rfl
      · simp only [spec_PassTime.s0, iLt_eq, brB_dec, List.take_length, List.drop_length, List.append_nil, rLen_eq]
        rw [if_neg (by omega)]
        by_cases c3 : (e ++ fails s o).length ≤ 1000
        · rw [if_neg (by omega), if_pos ⟨trivial, c2, c3⟩]
        · rw [if_pos (by omega), hc, bnd_one, if_neg (fun h => c3 h.2.2)]
    · rw [if_neg c2, if_neg (fun h => c2 h.2.1)]

theorem getD_set' (t : List Bool) (i j : Nat) (v : Bool) : (t.set i v).getD j false = if i = j ∧ i < t.length then v else t.getD j false := by
  simp only [List.getD_eq_getElem?_getD, List.getElem?_set]
  by_cases e : i = j
  · subst e
    by_cases hl : i < t.length
    · rw [if_pos rfl, if_pos hl, if_pos ⟨rfl, hl⟩]; rfl
    · rw [if_pos rfl, if_neg hl, if_neg (fun h => hl h.2), List.getElem?_eq_none (by omega)]
  · rw [if_neg e, if_neg (fun h => e h.1)]
theorem tbl_some {id : Int} : ∀ {o : List (Int × Int × Int × List Int × Int × Int)} {t t' : List Bool}, t.length = 8 → tblB id t o = some t' →
    (o.map (fun w => w.2.1)).Nodup ∧ (∀ w ∈ o, t.getD w.2.1.toNat false = false) ∧ t'.length = 8 ∧ (∀ i : Nat, t'.getD i false = true ↔ (t.getD i false = true ∨ ∃ w ∈ o, w.2.1 = (i : Int)))
  | [], t, t', hl, h => by
    simp only [tblB] at h
    cases h
    exact ⟨by simp, fun w hw => (by cases hw), hl, fun i => by simp⟩
  | w :: r, t, t', hl, h => by
    simp only [tblB] at h
    split at h
    · rename_i c
      have ht := wOk_tag c.1
      have hwo := tbl_ok h
      obtain ⟨h1, h2, h3, h4⟩ := tbl_some (t := t.set w.2.1.toNat true) (by simpa using hl) h
      refine ⟨?_, fun v hv => ?_, h3, fun i => ?_⟩
      · rw [List.map_cons, List.nodup_cons]
        refine ⟨fun hm => ?_, h1⟩
        obtain ⟨v, hv, e⟩ := List.mem_map.1 hm
        have := h2 v hv
        rw [e, getD_set', if_pos ⟨rfl, by omega⟩] at this
        cases this
      · rcases List.mem_cons.1 hv with rfl | hv
        · exact c.2
        · have := h2 v hv
          rw [getD_set'] at this
          split at this
          · cases this
          · exact this
      · rw [h4 i, getD_set']
        constructor
        · rintro (h | ⟨v, hv, e⟩)
          · split at h
            · rename_i e
              exact .inr ⟨w, by simp, by omega⟩
            · exact .inl h
          · exact .inr ⟨v, by simp [hv], e⟩
        · rintro (h | ⟨v, hv, e⟩)
          · refine .inl ?_
            split
            · rfl
            · exact h
          · rcases List.mem_cons.1 hv with rfl | hv
            · refine .inl ?_
              rw [if_pos ⟨by omega, by omega⟩]
            · exact .inr ⟨v, hv, e⟩
    · cases h
theorem tbl_make {id : Int} : ∀ {o : List (Int × Int × Int × List Int × Int × Int)} {t : List Bool}, t.length = 8 → (∀ w ∈ o, wOkB id w = true) → (o.map (fun w => w.2.1)).Nodup → (∀ w ∈ o, t.getD w.2.1.toNat false = false) → ∃ t', tblB id t o = some t'
  | [], t, _, _, _, _ => ⟨t, rfl⟩
  | w :: r, t, hl, hw, hn, hf => by
    have ht := wOk_tag (hw w (by simp))
    rw [List.map_cons, List.nodup_cons] at hn
    obtain ⟨t', h'⟩ := tbl_make (o := r) (t := t.set w.2.1.toNat true) (by simpa using hl) (fun v hv => hw v (by simp [hv])) hn.2 (fun v hv => by
      have hv' := wOk_tag (hw v (by simp [hv]))
      rw [getD_set', if_neg (fun h => ?_)]
      · exact hf v (by simp [hv])
      · exact hn.1 (List.mem_map.2 ⟨v, hv, by show v.2.1 = w.2.1; omega⟩))
    exact ⟨t', by simp only [tblB]; rw [if_pos ⟨hw w (by simp), hf w (by simp)⟩]; exact h'⟩
structure OpenP (id : Int) (b : List Bool) (o : List (Int × Int × Int × List Int × Int × Int)) : Prop where
  wo : ∀ w ∈ o, wOkB id w = true
  nd : (o.map (fun w => w.2.1)).Nodup
  tags : ∀ i : Nat, b.getD i false = true ↔ ∃ w ∈ o, w.2.1 = (i : Int)
theorem rep_getD (i : Nat) : (List.replicate 8 false).getD i false = false := by
  rw [List.getD_eq_getElem?_getD, List.getElem?_replicate]; split <;> rfl
theorem open_iff {id : Int} {b : List Bool} (hb : b.length = 8) (o : List (Int × Int × Int × List Int × Int × Int)) : openOkB id b o = true ↔ OpenP id b o := by
  unfold openOkB
  constructor
  · intro h
    split at h
    · rename_i t ht
      obtain ⟨h1, h2, h3, h4⟩ := tbl_some (by simp) ht
      have e : t = b := of_decide_eq_true h
      subst e
      refine ⟨tbl_ok ht, h1, fun i => ?_⟩
      rw [h4 i, rep_getD]
      simp
    · cases h
  · intro h
    obtain ⟨t, ht⟩ := tbl_make (t := List.replicate 8 false) (by simp) h.wo h.nd (fun w _ => rep_getD _)
    obtain ⟨h1, h2, h3, h4⟩ := tbl_some (by simp) ht
    rw [ht]
    refine decide_eq_true (List.ext_getElem (by omega) fun i h5 h6 => ?_)
    have q1 := h4 i
    have q2 := h.tags i
    rw [rep_getD, getD_lt false t h5] at q1
    rw [getD_lt false b h6] at q2
    simp only [Bool.false_eq_true, false_or] at q1
    exact Bool.eq_iff_iff.2 (q1.trans q2.symm)
theorem req_iff {id : Int} {b : List Bool} {o : List (Int × Int × Int × List Int × Int × Int)} {e : List (Int × Int × Int × List Int × Int)} :
    reqB id b o e = true ↔ (0 ≤ id ∧ id ≤ 255) ∧ b.length = 8 ∧ e.length ≤ 1000 ∧ (∀ g ∈ e, gOkB g = true) ∧ OpenP id b o := by
  simp only [reqB, Bool.and_eq_true, decide_eq_true_eq, List.all_eq_true]
  constructor
  · rintro ⟨h1, h2, h3, h4, h5⟩
    exact ⟨h1, by omega, by omega, h4, (open_iff (by omega) o).1 h5⟩
  · rintro ⟨h1, h2, h3, h4, h5⟩
    exact ⟨h1, by omega, by omega, h4, (open_iff h2 o).2 h5⟩
theorem open_len {id : Int} {b : List Bool} {o : List (Int × Int × Int × List Int × Int × Int)} {e : List (Int × Int × Int × List Int × Int)} (h : reqB id b o e = true) : busyN b = o.length := by
  simp only [reqB, Bool.and_eq_true, decide_eq_true_eq] at h
  obtain ⟨_, h8, _, _, ho⟩ := h
  rw [← open_eq (by omega) o, Bool.and_eq_true, decide_eq_true_eq] at ho
  omega
theorem take_free {b : List Bool} {i : Nat} (h : i = b.idxOf false) (hl : i < b.length) : b.getD i false = false := by subst h; exact idxF_at
theorem readB_ok {id : Int} {b : List Bool} {o : List (Int × Int × Int × List Int × Int × Int)} {e : List (Int × Int × Int × List Int × Int)} {a l : Int} (h : reqB id b o e = true) :
    reqB (readB id b o e a l).1 (readB id b o e a l).2.1 (readB id b o e a l).2.2.1 (readB id b o e a l).2.2.2.1 = true ∧ (readB id b o e a l).2.2.1.length + (readB id b o e a l).2.2.2.1.length ≤ o.length + e.length + 1 := by
  unfold readB
  split
  · rename_i c
    obtain ⟨_, c2, c3⟩ := c
    obtain ⟨r1, r2, r3, r4, r5⟩ := req_iff.1 h
    obtain ⟨f1, f2, f3, f4, f5, f6, f7⟩ := read_facts c3
    refine ⟨?_, by simp; omega⟩
    simp only
    unfold takeTagB at c2 f4 ⊢
    split at c2
    · rename_i hc
      rw [if_pos hc] at f4 ⊢
      simp only at f4 ⊢
      have hfree := take_free (b := b) rfl (by omega)
      refine req_iff.2 ⟨r1, by simp [r2], r3, r4, ?_, ?_, fun i => ?_⟩
      · intro w hw
        rcases List.mem_append.1 hw with hw | hw
        · exact r5.wo w hw
        · rw [List.mem_singleton] at hw
          subst hw
          simp only [wOkB, gatherB, wordsOk, List.all_nil, List.length_nil, Bool.and_eq_true, decide_eq_true_eq, if_true, if_false]
          refine ⟨⟨r1, f4, by omega, by show ((0 : Nat) : Int) ≤ l; omega, trivial, by omega, by rfl⟩, trivial, trivial, by omega⟩
      · rw [List.map_append, List.map_cons, List.map_nil, List.nodup_append]
        refine ⟨r5.nd, by simp, fun x hx y hy e => ?_⟩
        rw [List.mem_singleton] at hy
        subst hy
        subst e
        obtain ⟨w, hw, e⟩ := List.mem_map.1 hx
        have := (r5.tags (b.idxOf false)).2 ⟨w, hw, e⟩
        rw [hfree] at this
        cases this
      · rw [getD_set']
        constructor
        · intro hi
          split at hi
          · rename_i e
            exact ⟨_, List.mem_append_right _ (List.mem_singleton.2 rfl), by show ((b.idxOf false : Nat) : Int) = i; omega⟩
          · obtain ⟨w, hw, e⟩ := (r5.tags i).1 hi
            exact ⟨w, List.mem_append_left _ hw, e⟩
        · rintro ⟨w, hw, e⟩
          split
          · rfl
          · rename_i hne
            rcases List.mem_append.1 hw with hw | hw
            · exact (r5.tags i).2 ⟨w, hw, e⟩
            · rw [List.mem_singleton] at hw
              subst hw
              exact absurd ⟨by have e' : ((b.idxOf false : Nat) : Int) = i := e; omega, by omega⟩ hne
    · exact absurd c2 (show ¬ (0 : Int) ≤ -1 by omega)
  · exact ⟨h, Nat.le_succ _⟩
theorem freed_get (s : Int) : ∀ (o : List (Int × Int × Int × List Int × Int × Int)) (b : List Bool), b.length = 8 → (∀ w ∈ o, 0 ≤ w.2.1 ∧ w.2.1 ≤ 7) → ∀ i : Nat, (freed s b o).getD i false = true ↔ (b.getD i false = true ∧ ∀ w ∈ o, stayB s w = false → w.2.1 ≠ (i : Int))
  | [], b, _, _, i => by simp [freed]
  | w :: o, b, h8, ht, i => by
    have htw := ht w (by simp)
    have hl : (freeStep s b w).length = 8 := by unfold freeStep; split <;> simp [h8]
    have ih := freed_get s o (freeStep s b w) hl (fun v hv => ht v (by simp [hv])) i
    have e : freed s b (w :: o) = freed s (freeStep s b w) o := rfl
    rw [e, ih]
    unfold freeStep
    cases hs : stayB s w with
    | true =>
      simp only [if_pos]
      constructor
      · rintro ⟨h1, h2⟩
        refine ⟨h1, fun v hv hf => ?_⟩
        rcases List.mem_cons.1 hv with rfl | hv
        · rw [hs] at hf; cases hf
        · exact h2 v hv hf
      · rintro ⟨h1, h2⟩
        exact ⟨h1, fun v hv hf => h2 v (by simp [hv]) hf⟩
    | false =>
      simp only [Bool.false_eq_true, if_false]
      rw [getD_set']
      constructor
      · rintro ⟨h1, h2⟩
        split at h1
        · cases h1
        · rename_i hne
          refine ⟨h1, fun v hv hf => ?_⟩
          rcases List.mem_cons.1 hv with rfl | hv
          · exact fun e => hne ⟨by omega, by omega⟩
          · exact h2 v hv hf
      · rintro ⟨h1, h2⟩
        have := h2 w (by simp) hs
        rw [if_neg (fun h => this (by omega))]
        exact ⟨h1, fun v hv hf => h2 v (by simp [hv]) hf⟩
theorem nodup_eq {α : Type} {f : α → Int} : ∀ {l : List α}, (l.map f).Nodup → ∀ x ∈ l, ∀ y ∈ l, f x = f y → x = y
  | [], _, x, hx, _, _, _ => by cases hx
  | z :: l, h, x, hx, y, hy, e => by
    rw [List.map_cons, List.nodup_cons] at h
    rcases List.mem_cons.1 hx with rfl | hx'
    · rcases List.mem_cons.1 hy with rfl | hy
      · rfl
      · exact absurd (List.mem_map.2 ⟨y, hy, e.symm⟩) h.1
    · rcases List.mem_cons.1 hy with rfl | hy
      · exact (h.1 (List.mem_map.2 ⟨x, hx', e⟩)).elim
      · exact nodup_eq h.2 x hx' y hy e
theorem stay_tags (s : Int) (o : List (Int × Int × Int × List Int × Int × Int)) : (stay s o).map (fun w => w.2.1) = (o.filter (stayB s)).map (fun w => w.2.1) := by
  simp only [stay, List.map_map]; rfl
theorem passB_ok {s id : Int} {b : List Bool} {o : List (Int × Int × Int × List Int × Int × Int)} {e : List (Int × Int × Int × List Int × Int)} (h : reqB id b o e = true) :
    reqB (passB s id b o e).1 (passB s id b o e).2.1 (passB s id b o e).2.2.1 (passB s id b o e).2.2.2 = true ∧ (passB s id b o e).2.2.1.length + (passB s id b o e).2.2.2.length = o.length + e.length := by
  unfold passB
  split
  · rename_i c
    obtain ⟨_, c2, c3⟩ := c
    obtain ⟨r1, r2, r3, r4, r5⟩ := req_iff.1 h
    have hl := stay_len s o
    refine ⟨?_, by simp only [List.length_append]; omega⟩
    simp only
    refine req_iff.2 ⟨r1, by rw [freed_len]; exact r2, c3, fun g hg => ?_, fun w hw => ?_, ?_, fun i => ?_⟩
    · rcases List.mem_append.1 hg with hg | hg
      · exact r4 g hg
      · obtain ⟨w, hw, rfl⟩ := List.mem_map.1 hg
        have hw := r5.wo w (List.mem_filter.1 hw).1
        simp only [wOkB, gatherB, Bool.and_eq_true, decide_eq_true_eq] at hw
        obtain ⟨⟨w1, w2, w3, w4, w5, w6, w7⟩, w8, w9, w10⟩ := hw
        show gatherB w.1 w.2.1 w.2.2.1 w.2.2.2.1 2 = true
        simp only [gatherB, Bool.and_eq_true, decide_eq_true_eq]
        exact ⟨w1, w2, w3, w4, w5, by omega, by rfl⟩
    · obtain ⟨v, hv, rfl⟩ := List.mem_map.1 hw
      obtain ⟨hv1, hv2⟩ := List.mem_filter.1 hv
      have hs : v.2.2.2.2.2 + s ≤ 50 := of_decide_eq_true hv2
      have hw := r5.wo v hv1
      simp only [wOkB, Bool.and_eq_true, decide_eq_true_eq] at hw ⊢
      obtain ⟨w1, w2, w3, w4⟩ := hw
      exact ⟨w1, w2, w3, by simp only [later]; omega⟩
    · rw [stay_tags]
      exact r5.nd.sublist (List.Sublist.map _ List.filter_sublist)
    · rw [freed_get s o b r2 (fun w hw => wOk_tag (r5.wo w hw)) i, r5.tags i]
      constructor
      · rintro ⟨⟨w, hw, e1⟩, h2⟩
        refine ⟨later s w, List.mem_map.2 ⟨w, List.mem_filter.2 ⟨hw, ?_⟩, rfl⟩, e1⟩
        cases hs : stayB s w with
        | true => rfl
        | false => exact absurd e1 (h2 w hw hs)
      · rintro ⟨w, hw, e1⟩
        obtain ⟨v, hv, rfl⟩ := List.mem_map.1 hw
        obtain ⟨hv1, hv2⟩ := List.mem_filter.1 hv
        refine ⟨⟨v, hv1, e1⟩, fun u hu hf e2 => ?_⟩
        have e3 : u.2.1 = v.2.1 := e2.trans (Eq.symm e1)
        have := nodup_eq r5.nd u hu v hv1 e3
        subst this
        rw [hv2] at hf
        cases hf
  · exact ⟨h, rfl⟩
/-- Which gathering has a tag. -/
def idxTag (t : Int) (o : List (Int × Int × Int × List Int × Int × Int)) : Nat := o.findIdx (fun w => decide (w.2.1 = t))
def noW : Int × Int × Int × List Int × Int × Int := (0, 0, 0, [], 0, 0)
/-- What an answer makes of a gathering that waits. -/
def tookB (w : Int × Int × Int × List Int × Int × Int) (p0 p1 p2 p3 p4 p5 p6 : Int) (pl : List Int) : Int × Int × Int × List Int × Int × Bool :=
  takeB (badB w.1 w.2.1 w.2.2.1 w.2.2.2.1 w.2.2.2.2.1 p0 p1 p2 p3 p4 p5 p6 pl) w.1 w.2.1 w.2.2.1 w.2.2.2.1 w.2.2.2.2.1 p4 p6 pl
def handleB (id : Int) (b : List Bool) (o : List (Int × Int × Int × List Int × Int × Int)) (e : List (Int × Int × Int × List Int × Int)) (p0 p1 p2 p3 p4 p5 p6 : Int) (pl : List Int) : Int × List Bool × List (Int × Int × Int × List Int × Int × Int) × List (Int × Int × Int × List Int × Int) × Bool :=
  if reqB id b o e = true ∧ e.length ≠ 1000 ∧ idxTag p5 o < o.length ∧ (tookB (o.getD (idxTag p5 o) noW) p0 p1 p2 p3 p4 p5 p6 pl).2.2.2.2.2 = true then
    let g := tookB (o.getD (idxTag p5 o) noW) p0 p1 p2 p3 p4 p5 p6 pl
    if g.2.2.2.2.1 = 0 then (id, b, o.set (idxTag p5 o) (g.1, g.2.1, g.2.2.1, g.2.2.2.1, g.2.2.2.2.1, (o.getD (idxTag p5 o) noW).2.2.2.2.2), e, true)
    else (id, b.set g.2.1.toNat false, o.eraseIdx (idxTag p5 o), e ++ [(g.1, g.2.1, g.2.2.1, g.2.2.2.1, g.2.2.2.2.1)], true)
  else (id, b, o, e, false)
theorem idx_at {t : Int} {o : List (Int × Int × Int × List Int × Int × Int)} (h : idxTag t o < o.length) : (o.getD (idxTag t o) noW).2.1 = t := by
  have h' : o.findIdx (fun w => decide (w.2.1 = t)) < o.length := h
  have := List.findIdx_getElem (xs := o) (p := fun w => decide (w.2.1 = t)) (w := h')
  rw [getD_lt noW o h]
  exact of_decide_eq_true this
theorem idx_before {t : Int} {o : List (Int × Int × Int × List Int × Int × Int)} {i : Nat} (hi : i < o.length) (h : i < idxTag t o) : o[i].2.1 ≠ t := by
  have := List.not_of_lt_findIdx (xs := o) (p := fun w => decide (w.2.1 = t)) h
  simpa using this
/-- An answer leaves the gathering's own fields; what it is then. -/
theorem took_facts {id : Int} {w : Int × Int × Int × List Int × Int × Int} (hw : wOkB id w = true) {p0 p1 p2 p3 p4 p5 p6 : Int} {pl : List Int} (h : (tookB w p0 p1 p2 p3 p4 p5 p6 pl).2.2.2.2.2 = true) :
    (tookB w p0 p1 p2 p3 p4 p5 p6 pl).1 = w.1 ∧ (tookB w p0 p1 p2 p3 p4 p5 p6 pl).2.1 = w.2.1 ∧ gatherB w.1 w.2.1 (tookB w p0 p1 p2 p3 p4 p5 p6 pl).2.2.1 (tookB w p0 p1 p2 p3 p4 p5 p6 pl).2.2.2.1 (tookB w p0 p1 p2 p3 p4 p5 p6 pl).2.2.2.2.1 = true := by
  unfold tookB at h ⊢
  simp only [wOkB, Bool.and_eq_true, decide_eq_true_eq] at hw
  obtain ⟨hg, hid, hst, hage⟩ := hw
  cases hb : badB w.1 w.2.1 w.2.2.1 w.2.2.2.1 w.2.2.2.2.1 p0 p1 p2 p3 p4 p5 p6 pl with
  | true => rw [hb] at h; simp only [takeB, if_pos] at h; cases h
  | false =>
    rw [hb] at h
    simp only [badB, Bool.not_eq_false', Bool.and_eq_true, decide_eq_true_eq] at hb
    obtain ⟨_, hp, hc⟩ := hb
    have hg' := hg
    simp only [gatherB, Bool.and_eq_true, decide_eq_true_eq] at hg'
    obtain ⟨w1, w2, w3, w4, w5, w6, w7⟩ := hg'
    simp only [packB, Bool.and_eq_true, decide_eq_true_eq] at hp
    obtain ⟨hwd, hpp⟩ := hp
    unfold packP at hpp
    simp only [takeB, Bool.false_eq_true, if_false] at h ⊢
    by_cases c6 : p6 = 0
    · rw [if_pos c6] at h ⊢
      rw [w64_id (by omega) (by omega)] at h ⊢
      by_cases c4 : p4 = w.2.2.1 - (w.2.2.2.1.length : Int)
      · rw [if_pos c4] at h ⊢
        have hlen : ((w.2.2.2.1 ++ pl).length : Int) ≤ w.2.2.1 := by rw [List.length_append]; omega
        by_cases c5 : ((w.2.2.2.1 ++ pl).length : Int) = w.2.2.1
        · rw [if_pos c5]
          refine ⟨rfl, rfl, ?_⟩
          simp only [gatherB, Bool.and_eq_true, decide_eq_true_eq]
          refine ⟨w1, w2, w3, by omega, words_app w5 hwd, by omega, ?_⟩
          rw [if_pos trivial]
          exact decide_eq_true c5
        · rw [if_neg c5]
          refine ⟨rfl, rfl, ?_⟩
          simp only [gatherB, Bool.and_eq_true, decide_eq_true_eq]
          refine ⟨w1, w2, w3, by omega, words_app w5 hwd, by omega, ?_⟩
          rw [if_neg (by omega)]
      · rw [if_neg c4] at h; cases h
    · rw [if_neg c6]
      refine ⟨rfl, rfl, ?_⟩
      simp only [gatherB, Bool.and_eq_true, decide_eq_true_eq]
      exact ⟨w1, w2, w3, w4, w5, by omega, by rfl⟩
theorem handleB_ok {id : Int} {b : List Bool} {o : List (Int × Int × Int × List Int × Int × Int)} {e : List (Int × Int × Int × List Int × Int)} {p0 p1 p2 p3 p4 p5 p6 : Int} {pl : List Int} (h : reqB id b o e = true) :
    reqB (handleB id b o e p0 p1 p2 p3 p4 p5 p6 pl).1 (handleB id b o e p0 p1 p2 p3 p4 p5 p6 pl).2.1 (handleB id b o e p0 p1 p2 p3 p4 p5 p6 pl).2.2.1 (handleB id b o e p0 p1 p2 p3 p4 p5 p6 pl).2.2.2.1 = true ∧
      (handleB id b o e p0 p1 p2 p3 p4 p5 p6 pl).2.2.1.length + (handleB id b o e p0 p1 p2 p3 p4 p5 p6 pl).2.2.2.1.length = o.length + e.length := by
  unfold handleB
  split
  · rename_i c
    obtain ⟨_, c2, c3, c4⟩ := c
    obtain ⟨r1, r2, r3, r4, r5⟩ := req_iff.1 h
    have hm : o.getD (idxTag p5 o) noW ∈ o := by rw [getD_lt noW o c3]; exact List.getElem_mem c3
    have hw := r5.wo _ hm
    have htag := wOk_tag hw
    obtain ⟨t1, t2, t3⟩ := took_facts hw c4
    have hwE := getD_lt noW o c3
    generalize hW : o.getD (idxTag p5 o) noW = W at *
    generalize hj : idxTag p5 o = j at *
    generalize tookB W p0 p1 p2 p3 p4 p5 p6 pl = G at *
    obtain ⟨g0, g1, g2, gl, g4, gb⟩ := G
    simp only at t1 t2 t3 c4
    subst t1 t2
    simp only
    by_cases c5 : g4 = 0
    · rw [if_pos c5]
      have hmap : (o.set j (W.1, W.2.1, g2, gl, g4, W.2.2.2.2.2)).map (fun w => w.2.1) = o.map (fun w => w.2.1) := by
        rw [List.map_set]
        apply List.ext_getElem?
        intro i
        rw [List.getElem?_set]
        split
        · rename_i e
          subst e
          rw [if_pos (by simpa using c3), List.getElem?_map, List.getElem?_eq_getElem c3, ← hwE]; rfl
        · rfl
      have hmem : ∀ i : Int, (∃ w ∈ o.set j (W.1, W.2.1, g2, gl, g4, W.2.2.2.2.2), w.2.1 = i) ↔ (∃ w ∈ o, w.2.1 = i) := fun i => by
        have : (i ∈ (o.set j (W.1, W.2.1, g2, gl, g4, W.2.2.2.2.2)).map (fun w => w.2.1)) ↔ i ∈ o.map (fun w => w.2.1) := by rw [hmap]
        simpa only [List.mem_map] using this
      refine ⟨req_iff.2 ⟨r1, r2, r3, r4, fun w hw' => ?_, by rw [hmap]; exact r5.nd, fun i => (r5.tags i).trans (hmem i).symm⟩, by rw [List.length_set]⟩
      rcases List.mem_or_eq_of_mem_set hw' with hw' | rfl
      · exact r5.wo w hw'
      · simp only [wOkB, Bool.and_eq_true, decide_eq_true_eq] at hw ⊢
        exact ⟨t3, hw.2.1, c5, hw.2.2.2⟩
    · rw [if_neg c5]
      have hlen : (o.eraseIdx j).length + 1 = o.length := by rw [List.length_eraseIdx, if_pos c3]; omega
      have hsub : (o.eraseIdx j).Sublist o := List.eraseIdx_sublist ..
      refine ⟨req_iff.2 ⟨r1, by simp [r2], by simp; omega, fun g hg => ?_, fun w hw' => r5.wo w (hsub.subset hw'), r5.nd.sublist (hsub.map _), fun i => ?_⟩, by simp; omega⟩
      · rcases List.mem_append.1 hg with hg | hg
        · exact r4 g hg
        · rw [List.mem_singleton] at hg
          subst hg
          exact t3
      · rw [getD_set', r2]
        have hsplit : o = o.take j ++ W :: o.drop (j + 1) := by
          rw [hwE, ← List.drop_eq_getElem_cons c3, List.take_append_drop]
        have her : o.eraseIdx j = o.take j ++ o.drop (j + 1) := List.eraseIdx_eq_take_drop_succ ..
        have hnd := r5.nd
        rw [hsplit, List.map_append, List.map_cons, List.nodup_append] at hnd
        obtain ⟨n1, n2, n3⟩ := hnd
        rw [List.nodup_cons] at n2
        have gone : ∀ w ∈ o.eraseIdx j, w.2.1 ≠ W.2.1 := fun w hw' e => by
          rw [her] at hw'
          rcases List.mem_append.1 hw' with hw' | hw'
          · exact n3 w.2.1 (List.mem_map.2 ⟨w, hw', rfl⟩) W.2.1 (by simp) e
          · exact n2.1 (List.mem_map.2 ⟨w, hw', e⟩)
        constructor
        · intro hi
          split at hi
          · cases hi
          · rename_i hne
            obtain ⟨w, hw', e1⟩ := (r5.tags i).1 hi
            refine ⟨w, ?_, e1⟩
            rw [hsplit] at hw'
            rw [her]
            rcases List.mem_append.1 hw' with hw' | hw'
            · exact List.mem_append_left _ hw'
            · rcases List.mem_cons.1 hw' with rfl | hw'
              · exact absurd ⟨by omega, by omega⟩ hne
              · exact List.mem_append_right _ hw'
        · rintro ⟨w, hw', e1⟩
          have hne := gone w hw'
          rw [if_neg (fun h => hne (by omega))]
          exact (r5.tags i).2 ⟨w, hsub.subset hw', e1⟩
  · exact ⟨h, rfl⟩
theorem specHandle_ev (id : Int) (b : List Bool) (o : List (Int × Int × Int × List Int × Int × Int)) (e : List (Int × Int × Int × List Int × Int)) (p0 p1 p2 p3 p4 p5 p6 : Int) (pl : List Int) (h : rqSize b o e ≤ 1048576) (hp : pl.length ≤ 1048576) (h3 : (Lit.int .i64 p3).wf = true) (h4 : (Lit.int .i64 p4).wf = true) (k : Nat) (hk : 3000000 < k) :
    spec_HandleAnswer.f k id b o e p0 p1 p2 p3 p4 p5 p6 pl = some (handleB id b o e p0 p1 p2 p3 p4 p5 p6 pl) := by
  have hc := specCopyReq_ev id b o e h k hk
  simp only [spec_HandleAnswer.f, hc, specReqOk_ev id b o e h k hk, bnd_one, bNot_eq, brB_nb, iEq_eq, brB_dec, rLen_eq, handleB]
  cases c1 : reqB id b o e with
  | false => rw [brB_false, if_neg (by simp)]
  | true =>
    obtain ⟨b8, o8, e1000, hwo, hge, hg64, _, _⟩ := req_facts c1
    rw [brB_true]
    by_cases c2 : (e.length : Int) = 1000
    · rw [if_pos c2, if_neg (fun h => h.2.1 (by omega))]
    · rw [if_neg c2]
      unfold spec_HandleAnswer.l0
      have hle : idxTag p5 o ≤ o.length := List.findIdx_le_length
      refine iter_from (fun i => ((i : Int), id, b, o, e, p0, p1, p2, p3, p4, p5, p6, pl, 0, [], [], [], id, b, o, e)) (idxTag p5 o) rfl (fun rec i hi => ?_) (fun rec => ?_) (n := k) (by omega)
      · have hio : i < o.length := by omega
        have e1 : rGet (0, 0, 0, [], 0, 0) o (i : Int) = o[i] := getD_lt _ _ hio
        have hne := idx_before hio hi
        simp only [spec_HandleAnswer.s0, e1, iLt_eq, iNe_eq, brB_nb, brB_dec, chk_idx, rLen_eq]
        rw [if_pos (by omega), if_idx hio, if_neg hne, next_id hio (by omega)]
      · by_cases c3 : idxTag p5 o < o.length
        · have hat := idx_at c3
          have hm : o.getD (idxTag p5 o) noW ∈ o := by rw [getD_lt noW o c3]; exact List.getElem_mem c3
          have hw := hwo _ hm
          have hlen := hg64 _ hm
          have htag := wOk_tag hw
          have e1 : rGet (0, 0, 0, [], 0, 0) o ((idxTag p5 o : Nat) : Int) = o.getD (idxTag p5 o) noW := rfl
          simp only [spec_HandleAnswer.s0, e1, iLt_eq, iNe_eq, brB_nb, brB_dec, chk_idx, rLen_eq, hat]
          have tf := @took_facts id (o.getD (idxTag p5 o) noW) hw p0 p1 p2 p3 p4 p5 p6 pl
          have ht := specTake_ev (o.getD (idxTag p5 o) noW).1 (o.getD (idxTag p5 o) noW).2.1 (o.getD (idxTag p5 o) noW).2.2.1 (o.getD (idxTag p5 o) noW).2.2.2.1 (o.getD (idxTag p5 o) noW).2.2.2.2.1 p0 p1 p2 p3 p4 p5 p6 pl (by unfold wGot at hlen; omega) hp h3 h4 k (by unfold wGot at hlen; omega)
          rw [hat] at ht
          have hT : tookB (o.getD (idxTag p5 o) noW) p0 p1 p2 p3 p4 p5 p6 pl = takeB (badB (o.getD (idxTag p5 o) noW).1 p5 (o.getD (idxTag p5 o) noW).2.2.1 (o.getD (idxTag p5 o) noW).2.2.2.1 (o.getD (idxTag p5 o) noW).2.2.2.2.1 p0 p1 p2 p3 p4 p5 p6 pl) (o.getD (idxTag p5 o) noW).1 p5 (o.getD (idxTag p5 o) noW).2.2.1 (o.getD (idxTag p5 o) noW).2.2.2.1 (o.getD (idxTag p5 o) noW).2.2.2.2.1 p4 p6 pl := by
            unfold tookB; rw [hat]
          rw [← hT] at ht
          rw [hat] at tf htag
          generalize tookB (o.getD (idxTag p5 o) noW) p0 p1 p2 p3 p4 p5 p6 pl = G at *
          obtain ⟨g0, g1, g2, gl, g4, gb⟩ := G
          simp only at tf
          rw [if_pos (by omega), if_idx c3, if_pos trivial, if_idx c3, ht, bnd_one]
          dsimp only
          rw [bNot_eq, brB_nb]
          cases gb with
          | false => rw [brB_false, if_neg (by simp)]
          | true =>
            obtain ⟨_, q2, _⟩ := tf rfl
            subst q2
            have hcond : (True ∧ e.length ≠ 1000 ∧ idxTag g1 o < o.length ∧ True) := ⟨trivial, by omega, c3, trivial⟩
            rw [brB_true, if_idx c3]
            by_cases c5 : g4 = 0
            · simp only [if_pos c5, rSet_nat]
              rw [if_pos hcond]
            · simp only [if_neg c5]
              rw [specEnd_ev _ _ _ _ (idxTag g1 o) _ _ _ _ _ b8 htag (by rw [len_rSet]; exact c3) (by rw [len_rSet]; omega) (by omega) k, bnd_one, rSet_nat, List.eraseIdx_set_eq, if_pos hcond]
        · simp only [spec_HandleAnswer.s0, iLt_eq, brB_dec, rLen_eq]
          rw [if_neg (by omega), if_neg (fun h => c3 h.2.2.1)]
theorem implHandle_ev (id : Int) (b : List Bool) (o : List (Int × Int × Int × List Int × Int × Int)) (e : List (Int × Int × Int × List Int × Int)) (p0 p1 p2 p3 p4 p5 p6 : Int) (pl : List Int) (h : rqSize b o e ≤ 1048576) (hp : pl.length ≤ 1048576) (h3 : (Lit.int .i64 p3).wf = true) (h4 : (Lit.int .i64 p4).wf = true) (k : Nat) (hk : 3000000 < k) :
    impl_HandleAnswer.f k id b o e p0 p1 p2 p3 p4 p5 p6 pl = some (handleB id b o e p0 p1 p2 p3 p4 p5 p6 pl) := by
  have hc := implCopyReq_ev id b o e h k hk
  have hle : idxTag p5 o ≤ o.length := List.findIdx_le_length
  have hol : o.length ≤ 1048576 := by unfold rqSize at h; omega
  have hix : slices_IndexFunc_Waiting_impl_HandleAnswer_1.f k o p0 p1 p2 p3 p4 p5 p6 pl = some (if idxTag p5 o < o.length then (idxTag p5 o : Int) else -1, p0, p1, p2, p3, p4, p5, p6, pl) := by
    simp only [slices_IndexFunc_Waiting_impl_HandleAnswer_1.f, slices_IndexFunc_Waiting_impl_HandleAnswer_1.l0, rLen_eq]
    refine iter_from (fun i => (o, (o.length : Int), (i : Int), p0, p1, p2, p3, p4, p5, p6, pl)) (idxTag p5 o) rfl (fun rec i hi => ?_) (fun rec => ?_) (n := k) (by omega)
    · have hio : i < o.length := by omega
      have e1 : rGet (0, 0, 0, [], 0, 0) o (i : Int) = o[i] := getD_lt _ _ hio
      have hne := idx_before hio hi
      simp only [slices_IndexFunc_Waiting_impl_HandleAnswer_1.s0, impl_HandleAnswer_1.f, e1, iLt_eq, iEq_eq, brB_dec, chk_idx, rLen_eq, bnd_one]
      rw [if_pos (by omega), if_idx hio, if_neg hne, next_id hio (by omega)]
    · simp only [slices_IndexFunc_Waiting_impl_HandleAnswer_1.s0, impl_HandleAnswer_1.f, iLt_eq, iEq_eq, brB_dec, chk_idx, rLen_eq, bnd_one]
      by_cases c3 : idxTag p5 o < o.length
      · have e1 : rGet (0, 0, 0, [], 0, 0) o ((idxTag p5 o : Nat) : Int) = o.getD (idxTag p5 o) noW := rfl
        rw [if_pos (by omega), if_idx c3, e1, if_pos (idx_at c3), if_pos c3]
      · rw [if_neg (by omega), if_neg c3]
  simp only [impl_HandleAnswer.f, hc, hix, implReqOk_ev id b o e h k hk, bnd_one, bNot_eq, brB_nb, iEq_eq, iLt_eq, iNe_eq, brB_dec, rLen_eq, handleB]
  cases c1 : reqB id b o e with
  | false => rw [brB_false, if_neg (by simp)]
  | true =>
    obtain ⟨b8, o8, e1000, hwo, hge, hg64, _, _⟩ := req_facts c1
    rw [brB_true]
    by_cases c3 : idxTag p5 o < o.length
    · rw [if_pos c3, if_neg (by omega)]
      by_cases c2 : (e.length : Int) = 1000
      · rw [if_pos c2, if_neg (fun h => h.2.1 (by omega))]
      · rw [if_neg c2]
        have hat := idx_at c3
        have hm : o.getD (idxTag p5 o) noW ∈ o := by rw [getD_lt noW o c3]; exact List.getElem_mem c3
        have hw := hwo _ hm
        have hlen := hg64 _ hm
        have htag := wOk_tag hw
        have e1 : rGet (0, 0, 0, [], 0, 0) o ((idxTag p5 o : Nat) : Int) = o.getD (idxTag p5 o) noW := rfl
        have tf := @took_facts id (o.getD (idxTag p5 o) noW) hw p0 p1 p2 p3 p4 p5 p6 pl
        have ht := implTake_ev (o.getD (idxTag p5 o) noW).1 (o.getD (idxTag p5 o) noW).2.1 (o.getD (idxTag p5 o) noW).2.2.1 (o.getD (idxTag p5 o) noW).2.2.2.1 (o.getD (idxTag p5 o) noW).2.2.2.2.1 p0 p1 p2 p3 p4 p5 p6 pl (by unfold wGot at hlen; omega) hp h3 h4 k (by unfold wGot at hlen; omega)
        have hT : tookB (o.getD (idxTag p5 o) noW) p0 p1 p2 p3 p4 p5 p6 pl = takeB (badB (o.getD (idxTag p5 o) noW).1 (o.getD (idxTag p5 o) noW).2.1 (o.getD (idxTag p5 o) noW).2.2.1 (o.getD (idxTag p5 o) noW).2.2.2.1 (o.getD (idxTag p5 o) noW).2.2.2.2.1 p0 p1 p2 p3 p4 p5 p6 pl) (o.getD (idxTag p5 o) noW).1 (o.getD (idxTag p5 o) noW).2.1 (o.getD (idxTag p5 o) noW).2.2.1 (o.getD (idxTag p5 o) noW).2.2.2.1 (o.getD (idxTag p5 o) noW).2.2.2.2.1 p4 p6 pl := rfl
        rw [← hT] at ht
        simp only [e1, chk_idx, ht, bnd_one]
        generalize tookB (o.getD (idxTag p5 o) noW) p0 p1 p2 p3 p4 p5 p6 pl = G at *
        obtain ⟨g0, g1, g2, gl, g4, gb⟩ := G
        simp only at tf
        rw [if_idx c3]
        cases gb with
        | false => rw [brB_false, if_neg (by simp)]
        | true =>
          obtain ⟨_, q2, _⟩ := tf rfl
          rw [← q2] at htag
          have hcond : (True ∧ e.length ≠ 1000 ∧ idxTag p5 o < o.length ∧ True) := ⟨trivial, by omega, c3, trivial⟩
          rw [brB_true, if_idx c3]
          by_cases c5 : g4 = 0
          · simp only [if_pos c5, rSet_nat]
            rw [if_pos hcond]
          · simp only [if_neg c5]
            rw [next_id c3 (by omega), delete_ev _ (idxTag p5 o) (by rw [len_rSet]; exact c3) (by rw [len_rSet]; omega) k, bnd_one]
            simp only [chk_len, rLen_eq, rApp_eq]
            rw [if_pos (by simp only [List.length_append, List.length_cons, List.length_nil]; omega), implFree_ev b g1 b8 htag k, bnd_one, rSet_nat, List.eraseIdx_set_eq, if_pos hcond]
    · rw [if_neg c3, if_pos (by omega), if_neg (fun h => c3 h.2.2.1)]

theorem specNewReq_ev (id : Int) (k : Nat) : spec_NewRequester.f k id = some (id, List.replicate 8 false, [], []) := by
  simp only [spec_NewRequester.f, spec_NewTags.f, chk_make]
  rw [if_pos (by omega)]; rfl
theorem reqB_new {id : Int} (h : 0 ≤ id ∧ id ≤ 255) : reqB id (List.replicate 8 false) [] [] = true :=
  req_iff.2 ⟨h, by simp, by simp, by simp, by simp, by simp, fun i => by rw [rep_getD]; simp⟩
theorem l29Req_yd (k : Nat) (hk : 3000000 < k) (c : List Int) (hc : c.length ≤ 2000000) (p s : Int) (hp : 0 ≤ p) : Yd (spec_l29Requester.f k c p s) fun r => reqB r.1 r.2.1 r.2.2.1 r.2.2.2.1 = true ∧ r.2.2.1.length + r.2.2.2.1.length ≤ 8 := by
  unfold spec_l29Requester.f
  refine below_bnd hc hp (by omega) fun y0 p0 s0 g0 g1 q0 => ?_
  dsimp only
  rw [specNewReq_ev, bnd_one]
  dsimp only
  unfold spec_l29Requester.l0
  refine iter_yd (I := fun i x => x.1 = (i : Int) ∧ x.2.1 = c ∧ 0 ≤ x.2.2.1 ∧ reqB x.2.2.2.2.2.2.2.2.1 x.2.2.2.2.2.2.2.2.2.1 x.2.2.2.2.2.2.2.2.2.2.1 x.2.2.2.2.2.2.2.2.2.2.2 = true ∧ x.2.2.2.2.2.2.2.2.2.2.1.length + x.2.2.2.2.2.2.2.2.2.2.2.length ≤ i) 8 (fun rec i x hi hx hr => ?_) (by omega) ⟨rfl, rfl, q0, reqB_new (id := y0) (by omega), by simp⟩
  obtain ⟨j, c', p', s', z0, z1, z2, z3, id, b, o, e⟩ := x
  obtain ⟨hj, hc', hp', hq, hlen⟩ := hx
  simp only at hj hc' hp' hq hlen
  subst hj hc'
  show Yd (spec_l29Requester.s0 k rec (i : Int) c' p' s' z0 z1 z2 z3 id b o e) _
  unfold spec_l29Requester.s0
  rw [next_id (i := i) (n := 9) (by omega) (by omega)]
  refine below_bnd hc hp' (by omega) fun y8 p1 s1 g2 g3 q1 => ?_
  dsimp only
  refine Yd.lt (fun h => ?_) fun h => Yd.one ⟨hq, by show o.length + e.length ≤ 8; omega⟩
  have i8 : i < 8 := by omega
  have hs := (req_facts hq).small
  have hs : rqSize b o e ≤ 1048576 := by omega
  refine below_bnd hc q1 (by omega) fun y12 p2 s2 g4 g5 q2 => ?_
  dsimp only
  repeat' first
    | (refine Yd.eq (fun _ => ?_) fun _ => ?_ <;> try (exfalso; omega))
    | (refine below_bnd hc (by assumption) (by first | omega | (rw [rLen_eq]; assumption)) fun _ _ _ _ _ _ => ?_; dsimp only)
    | (rw [specRead_ev _ _ _ _ _ _ hs (by rw [wf64]; omega) (by rw [wf64, iAdd_id (by omega) (by omega)]; omega) k hk, bnd_one]
       exact hr _ i8 ⟨rfl, rfl, by assumption, (readB_ok hq).1, Nat.le_trans (readB_ok hq).2 (by omega)⟩)
    | (rw [specPass_ev _ _ _ _ _ hs k hk, bnd_one]
       exact hr _ i8 ⟨rfl, rfl, by assumption, (passB_ok hq).1, Nat.le_trans (Nat.le_of_eq (passB_ok hq).2) (by omega)⟩)
    | refine Yd.lt (fun _ => ?_) fun _ => ?_
    | (refine Yd.idx ⟨by assumption, by assumption⟩ ?_)
    | (refine data_bnd (by omega) hc (by assumption) (by omega) (by omega) fun _ _ _ _ _ _ => ?_; dsimp only)
    | (rw [specHandle_ev _ _ _ _ _ _ _ _ _ _ _ _ hs (by omega) (by rw [wf64]; omega) (by rw [wf64, iSub_w, w64]; omega) k hk, bnd_one]
       exact hr _ i8 ⟨rfl, rfl, by assumption, (handleB_ok hq).1, Nat.le_trans (Nat.le_of_eq (handleB_ok hq).2) (by omega)⟩)
    | exact hr _ i8 ⟨rfl, rfl, by assumption, hq, by show o.length + e.length ≤ i + 1; omega⟩
theorem drawReq_ev (k : Nat) (hk : 3000000 < k) (c : List Int) (hc : c.length ≤ 2000000) : ∃ (id : Int) (b : List Bool) (o : List (Int × Int × Int × List Int × Int × Int)) (e : List (Int × Int × Int × List Int × Int)), spec_DrawRequester.f k c = some (id, b, o, e) ∧ reqB id b o e = true ∧ o.length + e.length ≤ 8 := by
  obtain ⟨s0, h0⟩ := l01New_ev c k (by omega)
  obtain ⟨⟨id, b, o, e, c1, p1, s1⟩, e1, q1, q2⟩ := l29Req_yd k hk c hc 0 s0 (by omega)
  simp only at q1 q2
  refine ⟨id, b, o, e, ?_, q1, q2⟩
  simp only [spec_DrawRequester.f, h0, e1, bnd_one]
theorem full_iff {b : List Bool} (hb : b.length = 8) : b.idxOf false < 8 ↔ busyN b < 8 := by
  constructor
  · intro h
    have hm : false ∈ b := List.idxOf_lt_length_iff.1 (by omega)
    have hl : busyN b ≤ b.length := List.countP_le_length
    rcases Nat.lt_or_ge (busyN b) 8 with h | h
    · exact h
    · have := List.countP_eq_length.1 (show b.countP id = b.length by unfold busyN at *; omega) false hm
      cases this
  · intro h
    rw [← hb]
    refine List.idxOf_lt_length_iff.2 (Classical.byContradiction fun hn => ?_)
    have : b.countP id = b.length := List.countP_eq_length.2 (fun x hx => by
      cases x with
      | true => rfl
      | false => exact absurd hx hn)
    unfold busyN at h
    omega
theorem readB_full {id : Int} {b : List Bool} {o : List (Int × Int × Int × List Int × Int × Int)} {e : List (Int × Int × Int × List Int × Int)} {a l : Int} (h : reqB id b o e = true) (h8 : ¬ o.length ≤ 7) : readB id b o e a l = (id, b, o, e, 0, 0, 0, 0, 0, 0, 0, [], false) := by
  have b8 := (req_facts h).b8
  have hl := open_len h
  unfold readB takeTagB
  rw [if_neg (show ¬ (b.length = 8 ∧ b.idxOf false < 8) from fun g => by have := (full_iff b8).1 g.2; omega)]
  exact if_neg (fun g => absurd g.2.1 (show ¬ (0 : Int) ≤ -1 by omega))
theorem readB_free {id : Int} {b : List Bool} {o : List (Int × Int × Int × List Int × Int × Int)} {e : List (Int × Int × Int × List Int × Int)} {a l : Int} (h : reqB id b o e = true) (h8 : o.length ≤ 7) (ha : 0 ≤ a ∧ a < 10000) (hl : 1 ≤ l ∧ l ≤ 20) :
    ∃ t : Nat, t ≤ 7 ∧ b.getD t false = false ∧ readB id b o e a l = (id, b.set t true, o ++ [(id, (t : Int), l, [], 0, 0)], e, 3, id, 0, a, l, (t : Int), 0, [], true) := by
  have b8 := (req_facts h).b8
  have hol := open_len h
  have hid := (req_iff.1 h).1
  have hi : b.idxOf false < 8 := (full_iff b8).2 (by omega)
  have hfree := take_free (b := b) rfl (by omega)
  generalize hI : b.idxOf false = t at *
  refine ⟨t, by omega, hfree, ?_⟩
  have ht : takeTagB b = (b.set t true, (t : Int)) := by unfold takeTagB; rw [hI, if_pos ⟨b8, hi⟩]
  unfold readB
  rw [ht]
  refine if_pos ⟨h, by show (0 : Int) ≤ (t : Int); omega, ?_⟩
  simp only [packB, wordsOk, List.all_nil, Bool.true_and, decide_eq_true_eq]
  exact ⟨hid, .inr (.inr (.inl ⟨rfl, rfl, by omega, by omega, by omega, rfl, rfl⟩))⟩
theorem idxTag_last {t : Int} : ∀ {o : List (Int × Int × Int × List Int × Int × Int)} (_ : ∀ w ∈ o, w.2.1 ≠ t) (w : Int × Int × Int × List Int × Int × Int) (_ : w.2.1 = t), idxTag t (o ++ [w]) = o.length
  | [], _, w, hw => by simp [idxTag, List.findIdx_cons, hw]
  | v :: o, h, w, hw => by
    have ih := idxTag_last (o := o) (fun u hu => h u (by simp [hu])) w hw
    unfold idxTag at ih ⊢
    rw [List.cons_append, List.findIdx_cons, decide_eq_false (h v (by simp)), ih]
    rfl
theorem handleB_go {id : Int} {b : List Bool} {o : List (Int × Int × Int × List Int × Int × Int)} {e : List (Int × Int × Int × List Int × Int)} {w : Int × Int × Int × List Int × Int × Int} {p0 p1 p2 p3 p4 p6 : Int} {pl : List Int} (h : reqB id b (o ++ [w]) e = true) (he : e.length ≠ 1000) (ho : ∀ v ∈ o, v.2.1 ≠ w.2.1) {g0 g1 g2 g4 : Int} {gl : List Int}
    (ht : tookB w p0 p1 p2 p3 p4 w.2.1 p6 pl = (g0, g1, g2, gl, g4, true)) :
    handleB id b (o ++ [w]) e p0 p1 p2 p3 p4 w.2.1 p6 pl = if g4 = 0 then (id, b, o ++ [(g0, g1, g2, gl, g4, w.2.2.2.2.2)], e, true) else (id, b.set g1.toNat false, o, e ++ [(g0, g1, g2, gl, g4)], true) := by
  have hi := idxTag_last ho w rfl
  have hg : (o ++ [w]).getD o.length noW = w := by simp [List.getD_eq_getElem?_getD]
  have h1 : (o ++ [w]).set o.length (g0, g1, g2, gl, g4, w.2.2.2.2.2) = o ++ [(g0, g1, g2, gl, g4, w.2.2.2.2.2)] := by simp
  have h2 : (o ++ [w]).eraseIdx o.length = o := by rw [mid_cut, List.append_nil]
  unfold handleB
  rw [hi, hg, ht, if_pos ⟨h, he, by simp, rfl⟩]
  simp only [h1, h2]
/-- One piece is taken. -/
theorem tookB_good {from_ by_ tag want : Int} (hf : 0 ≤ from_ ∧ from_ ≤ 255) (hb : 0 ≤ by_ ∧ by_ ≤ 255) (ht : 0 ≤ tag ∧ tag ≤ 7) {got d : List Int} {m : Nat} (hw : wordsOk got = true) (hd : wordsOk d = true) (hwant : want = got.length + d.length) (hw64 : want ≤ 64) (hm : 1 ≤ m ∧ m ≤ d.length ∧ m ≤ 8) (ag : Int) :
    tookB (from_, tag, want, got, 0, ag) 6 by_ from_ 0 (d.length : Int) tag 0 (d.take m) = (from_, tag, want, got ++ d.take m, if m = d.length then 1 else 0, true) := by
  have hl : (d.take m).length = m := by rw [List.length_take]; omega
  have hbad : badB from_ tag want got 0 6 by_ from_ 0 (d.length : Int) tag 0 (d.take m) = false := by
    have h1 : gatherB from_ tag want got 0 = true := by
      simp only [gatherB, hw, Bool.and_eq_true, decide_eq_true_eq]
      refine ⟨hf, ht, by omega, by omega, trivial, by omega, ?_⟩
      rw [if_neg (by omega)]
    have h2 : packB 6 by_ from_ 0 (d.length : Int) tag 0 (d.take m) = true := ans_pack (m := 0) hf hb ht (words_take hd m) (by omega) (by omega) (by omega)
    simp only [badB, h1, h2, Bool.true_and, Bool.not_eq_false', decide_eq_true_eq]
    exact ⟨by trivial, by trivial, by trivial, by trivial⟩
  simp only [tookB, hbad, takeB, Bool.false_eq_true, ↓reduceIte]
  rw [w64_id (by omega) (by omega), if_pos (by omega)]
  by_cases e : m = d.length
  · rw [if_pos (by rw [List.length_append, hl]; omega), if_pos e]
  · rw [if_neg (by rw [List.length_append, hl]; omega), if_neg e]

noncomputable def frF (k : Nat) (rec : (List Int × (List (Int × Int × Int × Int × Int × Int × Int × List Int)) × Int × Int × List Bool × (List (Int × Int × Int × (List Int) × Int × Int)) × (List (Int × Int × Int × (List Int) × Int)) × Int × List Bool × (List (Int × Int × Int × (List Int) × Int × Int)) × (List (Int × Int × Int × (List Int) × Int))) → Option (Bool)) (x : List Int × (List (Int × Int × Int × Int × Int × Int × Int × List Int)) × Int × Int × List Bool × (List (Int × Int × Int × (List Int) × Int × Int)) × (List (Int × Int × Int × (List Int) × Int)) × Int × List Bool × (List (Int × Int × Int × (List Int) × Int × Int)) × (List (Int × Int × Int × (List Int) × Int))) : Option (Bool) :=
  laws_FnRequesters.s1 k rec x.1 x.2.1 x.2.2.1 x.2.2.2.1 x.2.2.2.2.1 x.2.2.2.2.2.1 x.2.2.2.2.2.2.1 x.2.2.2.2.2.2.2.1 x.2.2.2.2.2.2.2.2.1 x.2.2.2.2.2.2.2.2.2.1 x.2.2.2.2.2.2.2.2.2.2
theorem laws_FnRequesters.loop (k : Nat) (hk : 3000000 < k) (id t want : Int) (hid : 0 ≤ id ∧ id ≤ 255) (htag : 0 ≤ t ∧ t ≤ 7) (hwant : want ≤ 64) (b b' : List Bool) (o : List (Int × Int × Int × List Int × Int × Int)) (e : List (Int × Int × Int × List Int × Int)) (he : e.length ≤ 8) (ho : ∀ v ∈ o, v.2.1 ≠ t) (d : List Int) (hdl : d.length ≤ 64) (L : List (Int × Int × Int × Int × Int × Int × Int × List Int)) (hL : L.length ≤ 64) :
    ∀ (f i : Nat) (A : Int) (got rest : List Int) (K : Nat), got ++ rest = d → wordsOk got = true → wordsOk rest = true → want = got.length + rest.length → rest.length ≤ f → 0 < rest.length → 0 ≤ A → L.drop i = ansL 8 id 9 t f A rest → i ≤ L.length → L.length - i < K → reqB id b' (o ++ [(id, t, want, got, 0, 0)]) e = true →
      iter (frF k) K (d, L, (i : Int), id, b, o, e, id, b', o ++ [(id, t, want, got, 0, 0)], e) = some true
  | f, i, A, got, rest, 0, _, _, _, _, _, _, _, _, _, hK, _ => by omega
  | 0, i, A, got, rest, K + 1, _, _, _, _, hf, h0, _, _, _, _, _ => by omega
  | f + 1, i, A, got, rest, K + 1, hd, hwg, hwr, hw, hf, h0, hA, hdr, hi, hK, hq => by
    obtain ⟨m1, m2, m3, m4⟩ := mOf_ok (pay := 8) (a := A) (by omega) hA h0
    simp only [ansL] at hdr
    rw [if_neg (by omega)] at hdr
    generalize mOf 8 A rest.length = m at *
    have hil : i < L.length := by
      have := congrArg List.length hdr
      simp only [List.length_drop, List.length_cons] at this
      omega
    rw [List.drop_eq_getElem_cons hil] at hdr
    obtain ⟨hp, hdr'⟩ := List.cons.inj hdr
    have e1 : rGet (0, 0, 0, 0, 0, 0, 0, []) L (i : Int) = (6, 9, id, 0, (rest.length : Int), t, 0, rest.take m) := by rw [← hp]; exact getD_lt _ _ hil
    have tg := tookB_good hid (by omega : (0 : Int) ≤ 9 ∧ (9 : Int) ≤ 255) htag hwg hwr hw hwant ⟨m1, m2, m3⟩ 0
    have hg := handleB_go hq (by omega) (w := (id, t, want, got, 0, 0)) ho tg
    have hs := (req_facts hq).small
    have hH := implHandle_ev id b' (o ++ [(id, t, want, got, 0, 0)]) e 6 9 id 0 (rest.length : Int) t 0 (rest.take m) (by omega) (by rw [List.length_take]; omega) (by rw [wf64]; omega) (by rw [wf64]; omega) k hk
    have hok := (handleB_ok (p0 := 6) (p1 := 9) (p2 := id) (p3 := 0) (p4 := (rest.length : Int)) (p5 := t) (p6 := 0) (pl := rest.take m) hq).1
    dsimp only at hg
    rw [hg] at hH hok
    show laws_FnRequesters.s1 k (iter (frF k) K) d L (i : Int) id b o e id b' (o ++ [(id, t, want, got, 0, 0)]) e = _
    unfold laws_FnRequesters.s1
    rw [rLen_eq, e1]
    refine brT_to (iLt_yes (by omega)) (chk_to ?_ ?_)
    · refine cIdx_yes ?_; omega
    · rw [next_id hil (by omega)]
      by_cases e2 : m = rest.length
      · rw [if_pos e2] at hH hok
        rw [if_neg (by omega)] at hH hok
        have ht2 : rest.take m = rest := List.take_of_length_le (by omega)
        have hn : rest.drop m = [] := List.drop_eq_nil_of_le (by omega)
        rw [hn, show ansL 8 id 9 t f (A + m) [] = [] by cases f <;> rfl] at hdr'
        rw [ht2, hd] at hH hok
        rw [ht2]
        have hlen : L.length = i + 1 := by
          have := congrArg List.length hdr'
          simp only [List.length_drop, List.length_nil] at this
          omega
        refine bnd_to hH (brF_to bNot_t ?_)
        obtain ⟨K', rfl⟩ : ∃ K', K = K' + 1 := ⟨K - 1, by omega⟩
        dsimp only at hok
        have hs2 := (req_facts hok).small
        have ro := implReqOk_ev id (b'.set t.toNat false) o (e ++ [(id, t, want, d, 1)]) (Int.le_trans hs2 (by omega)) k hk
        rw [hok] at ro
        show laws_FnRequesters.s1 k (iter (frF k) K') d L ((i + 1 : Nat) : Int) id b o e id (b'.set t.toNat false) o (e ++ [(id, t, want, d, 1)]) = _
        unfold laws_FnRequesters.s1
        have e3 : rGet (0, 0, 0, [], 0) (e ++ [(id, t, want, d, 1)]) (rLen e) = (id, t, want, d, 1) := by rw [rLen_eq, mid_get]
        rw [e3]
        refine brF_to (iLt_no (by rw [rLen_eq]; omega)) (bnd_to ro (brT_to rfl (brT_to (decide_eq_true rfl) (brT_to ?_ (chk_to ?_ (brT_to rfl (chk_to ?_ (bnd_to (sameInts_refl d (by omega) k (by omega)) rfl))))))))
        · rw [iEq_eq, rLen_eq, rLen_eq, iAdd_id (by omega) (by omega), List.length_append]; exact decide_eq_true (by simp)
        · refine cIdx_yes ?_; simp only [rLen_eq, List.length_append, List.length_cons, List.length_nil]; omega
        · refine cIdx_yes ?_; simp only [rLen_eq, List.length_append, List.length_cons, List.length_nil]; omega
      · rw [if_neg e2, if_pos rfl] at hH hok
        refine bnd_to hH (brF_to bNot_t ?_)
        exact laws_FnRequesters.loop k hk id t want hid htag hwant b b' o e he ho d hdl L hL f (i + 1) (A + m) (got ++ rest.take m) (rest.drop m) K (by rw [List.append_assoc, List.take_append_drop]; exact hd) (words_app hwg (words_take hwr m)) (words_drop hwr m) (by simp only [List.length_append, List.length_take, List.length_drop]; omega) (by rw [List.length_drop]; omega) (by rw [List.length_drop]; omega) (by omega) hdr' (by omega) (by omega) hok
theorem laws_FnRequesters.main (c : List Int) (hc : c.length ≤ 9223372036854775807) : ∃ k, laws_FnRequesters.f k c = some true := by
  refine ⟨3000001, ?_⟩
  generalize hk : 3000001 = k
  unfold laws_FnRequesters.f
  by_cases g : c.length ≤ 1048576
  · have hb : laws_big.f k c = some false := by
      simp only [laws_big.f, rLen_eq]; rw [iLt_no (by omega)]
    obtain ⟨id, b, o, e, hd, hq, hl⟩ := drawReq_ev k (by omega) c (by omega)
    obtain ⟨p, hp, hp12, hpx⟩ := drawPlaces_ev c (by omega) k (by omega)
    have gp : ∀ i : Nat, i < 12 → 0 ≤ rGet 0 p (i : Int) ∧ rGet 0 p (i : Int) < 10000 := fun i hi => by
      have e1 : rGet 0 p (i : Int) = p[i] := getD_lt 0 p (by omega)
      rw [e1]; exact hpx _ (List.getElem_mem _)
    have g0 := gp 0 (by omega)
    have g1 := gp 1 (by omega)
    have hm0 := Int.tmod_nonneg 20 g1.1
    have hm1 := Int.tmod_lt_of_pos (rGet 0 p ((1 : Nat) : Int)) (show (0 : Int) < 20 by omega)
    have hlw : iAdd .i64 1 (iRem (rGet 0 p 1) 20) = 1 + (rGet 0 p ((1 : Nat) : Int)).tmod 20 := iAdd_id (by show _ ≤ 1 + (rGet 0 p ((1 : Nat) : Int)).tmod 20; omega) (by show 1 + (rGet 0 p ((1 : Nat) : Int)).tmod 20 ≤ _; omega)
    have s0 := (req_facts hq).small
    have f1 := implRead_ev id b o e (rGet 0 p 0) (iAdd .i64 1 (iRem (rGet 0 p 1) 20)) (by omega) (by rw [wf64]; have g0' : 0 ≤ rGet 0 p 0 ∧ rGet 0 p 0 < 10000 := g0; omega) (by rw [hlw, wf64]; omega) k (by omega)
    have ro := implReqOk_ev id b o e (by omega) k (by omega)
    rw [hq] at ro
    have rk := (readB_ok (a := rGet 0 p 0) (l := iAdd .i64 1 (iRem (rGet 0 p 1) 20)) hq).1
    refine bnd_to hb (brF_to rfl (bnd_to hd (bnd_to hp (chk_to ?_ (chk_to ?_ (chk_to rfl ?_))))))
    · refine cIdx_yes ?_; simp only [rLen_eq]; omega
    · refine cIdx_yes ?_; simp only [rLen_eq]; omega
    rw [hlw] at f1 rk ⊢
    have hl20 : 1 ≤ 1 + (rGet 0 p ((1 : Nat) : Int)).tmod 20 ∧ 1 + (rGet 0 p ((1 : Nat) : Int)).tmod 20 ≤ 20 := by omega
    generalize 1 + (rGet 0 p ((1 : Nat) : Int)).tmod 20 = l at *
    by_cases h8 : o.length ≤ 7
    · obtain ⟨t, ht, hfree, hr⟩ := readB_free (a := rGet 0 p 0) (l := l) hq h8 g0 (by omega)
      rw [hr] at f1 rk
      dsimp only at rk
      have s1 := (req_facts rk).small
      have ro2 := implReqOk_ev id (b.set t true) (o ++ [(id, (t : Int), l, [], 0, 0)]) e (Int.le_trans s1 (by omega)) k (by omega)
      rw [rk] at ro2
      refine bnd_to f1 (bnd_to ro (brF_to bNot_t (bnd_to ro2 (brF_to bNot_t (brF_to ?_ (brF_to bNot_t ?_))))))
      · rw [show iLe (rLen o) 7 = true by rw [iLe_eq, rLen_eq]; exact decide_eq_true (by omega)]; rfl
      obtain ⟨L, rfl⟩ : ∃ L : Nat, l = (L : Int) := ⟨l.toNat, by omega⟩
      unfold laws_FnRequesters.l0
      refine iter_from (fun i => (p, (List.range i).map (fun j => p.getD (j % 12) 0), (i : Int), id, b, o, e, id, b.set t true, o ++ [(id, (t : Int), (L : Int), [], 0, 0)], e, 3, id, 0, rGet 0 p 0, (L : Int), (t : Int), 0, [])) L rfl (fun rec i hi => ?_) (fun rec => ?_) (n := k) (by omega)
      · have e1 : rGet 0 p (iRem (i : Int) 12) = p.getD (i % 12) 0 := by
          rw [show iRem (i : Int) 12 = ((i % 12 : Nat) : Int) from rfl]; rfl
        have e2 : iRem (i : Int) 12 = ((i % 12 : Nat) : Int) := rfl
        unfold laws_FnRequesters.s0
        rw [e1, next_id hi (by omega), List.range_succ, List.map_append]
        refine brT_to (iLt_yes (show (i : Int) < (L : Int) by omega)) (chk_to rfl (chk_to ?_ (chk_to ?_ rfl)))
        · rw [e2]; refine cIdx_yes ?_; simp only [rLen_eq]; omega
        · refine cLen_yes ?_; simp only [rLen_eq, rApp_eq, List.length_append, List.length_cons, List.length_nil, List.length_map, List.length_range]; omega
      · unfold laws_FnRequesters.s0
        have hdw : wordsOk ((List.range L).map (fun j => p.getD (j % 12) 0)) = true := by
          simp only [wordsOk, List.all_eq_true, decide_eq_true_eq]
          intro x hx
          obtain ⟨j, _, rfl⟩ := List.mem_map.1 hx
          have := gp (j % 12) (by omega)
          rw [rGet_nat] at this
          omega
        have hdl : ((List.range L).map (fun j => p.getD (j % 12) 0)).length = L := by simp
        generalize (List.range L).map (fun j => p.getD (j % 12) 0) = d at *
        have hid := (req_iff.1 hq).1
        have ha := answersTo_ev id (rGet 0 p 0) (t : Int) 9 8 d (by omega) hdw hid g0.1 (by have g0' : 0 ≤ rGet 0 p 0 ∧ rGet 0 p 0 < 10000 := g0; omega) (by omega) (by omega) (by omega) k (by omega)
        have hal := ansL_len 8 id 9 (t : Int) d.length (rGet 0 p 0) d
        rw [← hdl]
        rw [← hdl] at rk
        refine brF_to (iLt_no (Int.le_refl _)) (bnd_to ha ?_)
        refine laws_FnRequesters.loop k (by omega) id (t : Int) (d.length : Int) hid (by omega) (by omega) b (b.set t true) o e (by omega) (fun w hw he => ?_) d (by omega) _ (by omega) d.length 0 (rGet 0 p 0) [] d k rfl rfl hdw (by simp) (Nat.le_refl _) (by omega) g0.1 rfl (Nat.zero_le _) (by omega) rk
        have := ((req_iff.1 hq).2.2.2.2.tags t).2 ⟨w, hw, he⟩
        rw [hfree] at this
        cases this
    · have hr := readB_full (a := rGet 0 p 0) (l := l) hq h8
      rw [hr] at f1
      refine bnd_to f1 (bnd_to ro (brF_to bNot_t (bnd_to ro (brF_to bNot_t (brF_to ?_ (brT_to bNot_f rfl))))))
      rw [show iLe (rLen o) 7 = false by rw [iLe_eq, rLen_eq]; exact decide_eq_false (by omega)]; rfl
  · have hb : laws_big.f k c = some true := by
      simp only [laws_big.f, rLen_eq]; rw [iLt_yes (by omega)]
    exact bnd_to hb (brT_to rfl rfl)
theorem laws_FnRequesters.pure : ∀ x : laws_FnRequesters.sig.inTy.T, Good laws_FnRequesters.sig.inTy x → ∃ k, laws_FnRequesters.spec.fn k x = some true := by
  rintro c ⟨hc, _⟩
  exact laws_FnRequesters.main c hc
end Go.Proofs.YtbmfjpflhbhhdaaT

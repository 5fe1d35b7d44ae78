/- What the functions of FnExactSetMask give, in plain terms. -/
import Derived.Test.YtmilhndiocggkaaFFnExactSetMask
import Derived.Test.YtmilhndiocggkaaTiPL
set_option linter.unusedVariables false
set_option linter.unusedSimpArgs false
set_option maxRecDepth 100000
namespace Go.Proofs.YtmilhndiocggkaaT
open Go
theorem some_dec {b : Bool} {p : Prop} [Decidable p] (h : b = true ↔ p) : some b = some (decide p) := by
  congr 1; rw [Bool.eq_iff_iff]; simpa using h
theorem iLe_eq (a b : Int) : iLe a b = decide (a ≤ b) := rfl
theorem iLt_eq (a b : Int) : iLt a b = decide (a < b) := rfl
theorem iEq_eq (a b : Int) : iEq a b = decide (a = b) := by by_cases h : a = b <;> simp [iEq, h]
theorem iNe_eq (a b : Int) : iNe a b = !decide (a = b) := by by_cases h : a = b <;> simp [iNe, h]
theorem bNot_eq (a : Bool) : bNot a = !a := rfl
theorem ite_some {α : Type} (p : Prop) [Decidable p] (a b : α) : (if p then some a else some b) = some (if p then a else b) := by split <;> rfl
/-- A loop that looks for the first element with a quality. -/
theorem iter_find {R : Type} {α : Type} {X : Type} {f : (X → Option R) → X → Option R} (s : Nat → X) (xs : List α) (p : α → Bool) (r : R) (e : Nat → R)
    (go : ∀ rec (i : Nat) (h : i < xs.length), p xs[i] = true → f rec (s i) = rec (s (i + 1))) (stop : ∀ rec (i : Nat) (h : i < xs.length), p xs[i] = false → f rec (s i) = some (e i)) (done : ∀ rec, f rec (s xs.length) = some r) {n : Nat} (hn : xs.length < n) :
    iter f n (s 0) = some (match xs.findIdx? (fun x => !p x) with | some i => e i | none => r) := by
  suffices H : ∀ d i n, i + d = xs.length → d < n → (∀ j (h : j < xs.length), j < i → p xs[j] = true) → iter f n (s i) = some (match xs.findIdx? (fun x => !p x) with | some i => e i | none => r) from H xs.length 0 n (by omega) hn (fun j _ h => by omega)
  intro d
  induction d with
  | zero =>
    intro i n hi hn hp
    obtain ⟨m, rfl⟩ : ∃ m, n = m + 1 := ⟨n - 1, by omega⟩
    obtain rfl : i = xs.length := by omega
    have : xs.findIdx? (fun x => !p x) = none := by
      rw [List.findIdx?_eq_none_iff]
      intro x hx
      obtain ⟨j, hj, rfl⟩ := List.mem_iff_getElem.1 hx
      simp [hp j hj (by omega)]
    rw [this]
    exact done _
  | succ d ih =>
    intro i n hi hn hp
    obtain ⟨m, rfl⟩ : ∃ m, n = m + 1 := ⟨n - 1, by omega⟩
    show f (iter f m) (s i) = _
    have hlt : i < xs.length := by omega
    by_cases hq : p xs[i] = false
    · rw [stop _ i hlt hq]
      have : xs.findIdx? (fun x => !p x) = some i := by
        rw [List.findIdx?_eq_some_iff_getElem]
        exact ⟨hlt, by simp [hq], fun j hj => by simp [hp j (by omega) hj]⟩
      rw [this]
    · have hq : p xs[i] = true := by simpa using hq
      rw [go _ i hlt hq]
      refine ih (i + 1) m (by omega) (by omega) fun j h hj => ?_
      rcases Nat.lt_or_ge j i with h' | h'
      · exact hp j h h'
      · obtain rfl : j = i := by omega
        exact hq
theorem getD_lt {α : Type} (d : α) (xs : List α) {i : Nat} (h : i < xs.length) : xs.getD i d = xs[i] := by
  rw [List.getD_eq_getElem?_getD, List.getElem?_eq_getElem h]; rfl
theorem bEq_eq (a b : Bool) : bEq a b = decide (a = b) := by cases a <;> cases b <;> rfl
theorem bNe_eq (a b : Bool) : bNe a b = !decide (a = b) := by cases a <;> cases b <;> rfl
theorem brB_nb {R : Type} (b : Bool) (x y : Option R) : brB (!b) x y = brB b y x := by cases b <;> rfl
theorem brB_dec {R : Type} (p : Prop) [Decidable p] (x y : Option R) : brB (decide p) x y = if p then x else y := by by_cases h : p <;> simp [h, brB]
theorem if_idx {R : Type} {i n : Nat} {x : Option R} (h : i < n) : (if 0 ≤ (i : Int) ∧ (i : Int) < (n : Int) then x else none) = x := if_pos (by omega)
theorem l01In_eq (k : Nat) (x a b : Int) : spec_l01In.f k x a b = some (decide (a ≤ x ∧ x ≤ b)) := by
  simp only [spec_l01In.f, iLt_eq, iLe_eq, iEq_eq, iNe_eq, bNot_eq, bEq_eq, bNe_eq, brB_nb, brB_dec, brB_true, brB_false, chk_idx, chk_len, chk_make, chk_sub, bnd_one, rLen_eq, rGet_nat, rSet_nat, rApp_eq, ↓reduceIte]; split <;> rename_i h <;> simp [h]
theorem within_eq (k : Nat) (x a b : Int) : impl_within.f k x a b = some (decide (a ≤ x ∧ x ≤ b)) := by
  simp only [impl_within.f, iLt_eq, iLe_eq, iEq_eq, iNe_eq, bNot_eq, bEq_eq, bNe_eq, brB_nb, brB_dec, brB_true, brB_false, chk_idx, chk_len, chk_make, chk_sub, bnd_one, rLen_eq, rGet_nat, rSet_nat, rApp_eq, ↓reduceIte]; split <;> rename_i h <;> simp [h]
theorem specIsId_eq (k : Nat) (a : Int) : spec_IsId.f k a = some (decide (0 ≤ a ∧ a ≤ 255)) := by simp only [spec_IsId.f, l01In_eq, bnd_one]
theorem implIsId_eq (k : Nat) (a : Int) : impl_IsId.f k a = some (decide (0 ≤ a ∧ a ≤ 255)) := by simp only [impl_IsId.f, within_eq, bnd_one]
theorem eqIntS_refl (xs : List Int) (hn : xs.length ≤ 4611686018427387904) (k : Nat) (hk : xs.length < k) : laws_eqIntS.f k xs xs = some true := by
  simp only [laws_eqIntS.f, laws_eqIntS.l0, iLt_eq, iLe_eq, iEq_eq, iNe_eq, bNot_eq, bEq_eq, bNe_eq, brB_nb, brB_dec, brB_true, brB_false, chk_idx, chk_len, chk_make, chk_sub, bnd_one, rLen_eq, rGet_nat, rSet_nat, rApp_eq, ↓reduceIte]
  refine iter_upto (f := fun (rec : (List Int × List Int × Int) → Option Bool) (x : List Int × List Int × Int) => laws_eqIntS.s0 k rec x.1 x.2.1 x.2.2) (fun i => (xs, xs, (i : Int))) xs.length (fun rec i hi => ?_) (fun rec => ?_) hk
  · simp only [laws_eqIntS.s0, iLt_eq, iLe_eq, iEq_eq, iNe_eq, bNot_eq, bEq_eq, bNe_eq, brB_nb, brB_dec, brB_true, brB_false, chk_idx, chk_len, chk_make, chk_sub, bnd_one, rLen_eq, rGet_nat, rSet_nat, rApp_eq, ↓reduceIte]
    rw [if_pos (by omega), if_idx hi, if_idx hi, next_id hi hn]
  · simp only [laws_eqIntS.s0, iLt_eq, iLe_eq, iEq_eq, iNe_eq, bNot_eq, bEq_eq, bNe_eq, brB_nb, brB_dec, brB_true, brB_false, chk_idx, chk_len, chk_make, chk_sub, bnd_one, rLen_eq, rGet_nat, rSet_nat, rApp_eq, ↓reduceIte]
    rw [if_neg (by omega)]
/-- The marks of a row of numbers. -/
def marks (m : Int) (n : Nat) : List Int := (List.range n).map fun (j : Nat) => m + (j : Int)
theorem marks_len (m : Int) (n : Nat) : (marks m n).length = n := by simp [marks]
theorem markIntS_ev (xs : List Int) (m : Int) (hn : xs.length ≤ 1000000000000) (h0 : 0 ≤ m) (h1 : m ≤ 1000000000000) (k : Nat) (hk : xs.length < k) : laws_markIntS.f k xs m = some (m + xs.length, marks m xs.length) := by
  simp only [laws_markIntS.f, laws_markIntS.l0]
  have h := iter_upto (f := fun (rec : (List Int × Int × Int) → Option (Int × List Int)) (x : List Int × Int × Int) => laws_markIntS.s0 k rec x.1 x.2.1 x.2.2)
    (fun i => (fill (fun (j : Nat) => m + (j : Int)) xs i, m + (i : Int), (i : Int))) xs.length (r := (m + xs.length, marks m xs.length)) (fun rec i hi => ?_) (fun rec => ?_) hk
  · rw [fill_zero] at h; simpa using h
  · simp only [laws_markIntS.s0, fill_len (Nat.le_of_lt hi), iLt_eq, iLe_eq, iEq_eq, iNe_eq, bNot_eq, bEq_eq, bNe_eq, brB_nb, brB_dec, brB_true, brB_false, chk_idx, chk_len, chk_make, chk_sub, bnd_one, rLen_eq, rGet_nat, rSet_nat, rApp_eq, ↓reduceIte]
    rw [if_pos (by omega), if_idx hi, fill_set hi, next_id hi (by omega), iAdd_id (by omega) (by omega)]
    congr 3
    omega
  · simp only [laws_markIntS.s0, fill_end, List.length_map, List.length_range, iLt_eq, iLe_eq, iEq_eq, iNe_eq, bNot_eq, bEq_eq, bNe_eq, brB_nb, brB_dec, brB_true, brB_false, chk_idx, chk_len, chk_make, chk_sub, bnd_one, rLen_eq, rGet_nat, rSet_nat, rApp_eq, ↓reduceIte]
    rw [if_neg (by omega)]
    rfl
theorem heldIntS_ev (n : Nat) (m : Int) (hn : n ≤ 1000000000000) (h0 : 0 ≤ m) (h1 : m ≤ 1000000000000) (k : Nat) (hk : n < k) : laws_heldIntS.f k (marks m n) m = some (m + n) := by
  simp only [laws_heldIntS.f, laws_heldIntS.l0]
  have h := iter_upto (f := fun (rec : (List Int × Int × Int) → Option Int) (x : List Int × Int × Int) => laws_heldIntS.s0 k rec x.1 x.2.1 x.2.2)
    (fun i => (marks m n, m + (i : Int), (i : Int))) n (r := m + n) (fun rec i hi => ?_) (fun rec => ?_) hk
  · simpa using h
  · simp only [laws_heldIntS.s0, marks_len, iLt_eq, iLe_eq, iEq_eq, iNe_eq, bNot_eq, bEq_eq, bNe_eq, brB_nb, brB_dec, brB_true, brB_false, chk_idx, chk_len, chk_make, chk_sub, bnd_one, rLen_eq, rGet_nat, rSet_nat, rApp_eq, ↓reduceIte]
    rw [if_pos (by omega), if_idx hi, marks, range_get n hi, if_pos rfl, next_id hi (by omega), iAdd_id (by omega) (by omega)]
    congr 3
    omega
  · simp only [laws_heldIntS.s0, marks_len, iLt_eq, iLe_eq, iEq_eq, iNe_eq, bNot_eq, bEq_eq, bNe_eq, brB_nb, brB_dec, brB_true, brB_false, chk_idx, chk_len, chk_make, chk_sub, bnd_one, rLen_eq, rGet_nat, rSet_nat, rApp_eq, ↓reduceIte]
    rw [if_neg (by omega)]
/-- All are words. -/
def wordsOk (l : List Int) : Bool := l.all fun x => decide (0 ≤ x ∧ x ≤ 65535)
theorem findIdx_all {α : Type} (l : List α) (p : α → Bool) : (match l.findIdx? (fun x => !p x) with | some _ => false | none => true) = l.all p := by
  cases h : l.findIdx? (fun x => !p x) with
  | none =>
    rw [List.findIdx?_eq_none_iff] at h
    symm
    rw [List.all_eq_true]
    intro x hx
    simpa using h x hx
  | some i =>
    rw [List.findIdx?_eq_some_iff_getElem] at h
    obtain ⟨hi, h1, _⟩ := h
    symm
    rw [← Bool.not_eq_true, List.all_eq_true]
    intro hall
    have := hall _ (List.getElem_mem hi)
    simp [this] at h1
/-- A gathering is valid. -/
def gatherB (a b c : Int) (l : List Int) (e : Int) : Bool := decide (0 ≤ a ∧ a ≤ 255) && (decide (0 ≤ b ∧ b ≤ 7) && (decide (0 ≤ c ∧ c ≤ 64) && (decide ((l.length : Int) ≤ c) && (wordsOk l && (decide (0 ≤ e ∧ e ≤ 2) && (if e = 1 then decide ((l.length : Int) = c) else true))))))
theorem brB_and {x : Option Bool} {b c : Bool} (h : x = some c) : brB b x (some false) = some (b && c) := by cases b <;> simp [brB, h]
theorem if_and {p : Prop} [Decidable p] {x : Option Bool} {c : Bool} (h : x = some c) : (if p then x else some false) = some (decide p && c) := by by_cases hp : p <;> simp [hp, h]
theorem eqPacket_refl (a0 a1 a2 a3 a4 a5 a6 : Int) (l : List Int) (hl : l.length ≤ 4611686018427387904) (k : Nat) (hk : l.length < k) : laws_eqPacket.f k a0 a1 a2 a3 a4 a5 a6 l a0 a1 a2 a3 a4 a5 a6 l = some true := by
  simp only [laws_eqPacket.f, eqIntS_refl l hl k hk, iLt_eq, iLe_eq, iEq_eq, iNe_eq, bNot_eq, bEq_eq, bNe_eq, brB_nb, brB_dec, brB_true, brB_false, chk_idx, chk_len, chk_make, chk_sub, bnd_one, rLen_eq, rGet_nat, rSet_nat, rApp_eq, ↓reduceIte, decide_true]
theorem markPacket_ev (a0 a1 a2 a3 a4 a5 a6 : Int) (l : List Int) (m : Int) (hn : l.length ≤ 1000000000000) (h0 : 0 ≤ m) (h1 : m ≤ 1000000000000) (k : Nat) (hk : l.length < k) : laws_markPacket.f k a0 a1 a2 a3 a4 a5 a6 l m = some (m + l.length, marks m l.length) := by
  simp only [laws_markPacket.f, markIntS_ev l m hn h0 h1 k hk, bnd_one]
theorem heldPacket_ev (a0 a1 a2 a3 a4 a5 a6 : Int) (n : Nat) (m : Int) (hn : n ≤ 1000000000000) (h0 : 0 ≤ m) (h1 : m ≤ 1000000000000) (k : Nat) (hk : n < k) : laws_heldPacket.f k a0 a1 a2 a3 a4 a5 a6 (marks m n) m = some (m + n) := by
  simp only [laws_heldPacket.f, heldIntS_ev n m hn h0 h1 k hk, iLt_eq, iLe_eq, iEq_eq, iNe_eq, bNot_eq, bEq_eq, bNe_eq, brB_nb, brB_dec, brB_true, brB_false, chk_idx, chk_len, chk_make, chk_sub, bnd_one, rLen_eq, rGet_nat, rSet_nat, rApp_eq, ↓reduceIte]
  rw [if_neg (by omega)]
theorem szBoolS_eq (k : Nat) (l : List Bool) (n : Int) (hl : l.length ≤ 9223372036854775807) (h0 : 0 ≤ n) (h1 : n ≤ 1048576) : laws_szBoolS.f k l n = some (if (l.length : Int) ≤ n then n - l.length else -1) := by
  simp only [laws_szBoolS.f, brB_lt, rLen_eq]
  rw [iSub_id (by omega) (by omega)]
  by_cases h : (l.length : Int) ≤ n
  · rw [if_neg (by omega), if_pos h]
  · rw [if_pos (by omega), if_neg h]
theorem toBoolS_ev (xs : List Bool) (hn : xs.length ≤ 1048576) (k : Nat) (hk : xs.length < k) : laws_toBoolS.f k xs = some xs := by
  simp only [laws_toBoolS.f, laws_toBoolS.l0, iLt_eq, iLe_eq, iEq_eq, iNe_eq, bNot_eq, bEq_eq, bNe_eq, brB_nb, brB_dec, brB_true, brB_false, chk_idx, chk_len, chk_make, chk_sub, bnd_one, rLen_eq, rGet_nat, rSet_nat, rApp_eq, ↓reduceIte]
  rw [if_pos (by omega), rRep_nat]
  have h := iter_upto (f := fun (rec : (List Bool × List Bool × Int) → Option (List Bool)) (x : List Bool × List Bool × Int) => laws_toBoolS.s0 k rec x.1 x.2.1 x.2.2)
    (fun i => (xs, fill (fun j => xs.getD j false) (List.replicate xs.length false) i, (i : Int))) xs.length (r := xs) (fun rec i hi => ?_) (fun rec => ?_) hk
  · rw [fill_zero] at h; exact h
  · simp only [laws_toBoolS.s0, fill_len (show i ≤ (List.replicate xs.length false).length by simp; omega), List.length_replicate, iLt_eq, iLe_eq, iEq_eq, iNe_eq, bNot_eq, bEq_eq, bNe_eq, brB_nb, brB_dec, brB_true, brB_false, chk_idx, chk_len, chk_make, chk_sub, bnd_one, rLen_eq, rGet_nat, rSet_nat, rApp_eq, ↓reduceIte]
    rw [if_pos (by omega), if_idx hi, if_idx hi, fill_set (by simpa using hi), next_id hi (by omega)]
  · have h2 := fill_end (g := fun j => xs.getD j false) (xs := List.replicate xs.length false)
    rw [List.length_replicate] at h2
    simp only [laws_toBoolS.s0, h2, range_getD, iLt_eq, iLe_eq, iEq_eq, iNe_eq, bNot_eq, bEq_eq, bNe_eq, brB_nb, brB_dec, brB_true, brB_false, chk_idx, chk_len, chk_make, chk_sub, bnd_one, rLen_eq, rGet_nat, rSet_nat, rApp_eq, ↓reduceIte]
    rw [if_neg (by omega)]
theorem eqBoolS_refl (xs : List Bool) (hn : xs.length ≤ 4611686018427387904) (k : Nat) (hk : xs.length < k) : laws_eqBoolS.f k xs xs = some true := by
  simp only [laws_eqBoolS.f, laws_eqBoolS.l0, iLt_eq, iLe_eq, iEq_eq, iNe_eq, bNot_eq, bEq_eq, bNe_eq, brB_nb, brB_dec, brB_true, brB_false, chk_idx, chk_len, chk_make, chk_sub, bnd_one, rLen_eq, rGet_nat, rSet_nat, rApp_eq, ↓reduceIte]
  refine iter_upto (f := fun (rec : (List Bool × List Bool × Int) → Option Bool) (x : List Bool × List Bool × Int) => laws_eqBoolS.s0 k rec x.1 x.2.1 x.2.2) (fun i => (xs, xs, (i : Int))) xs.length (fun rec i hi => ?_) (fun rec => ?_) hk
  · simp only [laws_eqBoolS.s0, iLt_eq, iLe_eq, iEq_eq, iNe_eq, bNot_eq, bEq_eq, bNe_eq, brB_nb, brB_dec, brB_true, brB_false, chk_idx, chk_len, chk_make, chk_sub, bnd_one, rLen_eq, rGet_nat, rSet_nat, rApp_eq, ↓reduceIte]
    rw [if_pos (by omega), if_idx hi, if_idx hi, next_id hi hn]
  · simp only [laws_eqBoolS.s0, iLt_eq, iLe_eq, iEq_eq, iNe_eq, bNot_eq, bEq_eq, bNe_eq, brB_nb, brB_dec, brB_true, brB_false, chk_idx, chk_len, chk_make, chk_sub, bnd_one, rLen_eq, rGet_nat, rSet_nat, rApp_eq, ↓reduceIte]
    rw [if_neg (by omega)]
/-- The marks of a row of answers. -/
def bmarks (m : Int) (n : Nat) : List Bool := (List.range n).map fun (j : Nat) => decide (iRem (m + (j : Int)) 3 = 0)
theorem bmarks_len (m : Int) (n : Nat) : (bmarks m n).length = n := by simp [bmarks]
theorem markBoolS_ev (xs : List Bool) (m : Int) (hn : xs.length ≤ 1000000000000) (h0 : 0 ≤ m) (h1 : m ≤ 1000000000000) (k : Nat) (hk : xs.length < k) : laws_markBoolS.f k xs m = some (m + xs.length, bmarks m xs.length) := by
  simp only [laws_markBoolS.f, laws_markBoolS.l0]
  have h := iter_upto (f := fun (rec : (List Bool × Int × Int) → Option (Int × List Bool)) (x : List Bool × Int × Int) => laws_markBoolS.s0 k rec x.1 x.2.1 x.2.2)
    (fun i => (fill (fun (j : Nat) => decide (iRem (m + (j : Int)) 3 = 0)) xs i, m + (i : Int), (i : Int))) xs.length (r := (m + xs.length, bmarks m xs.length)) (fun rec i hi => ?_) (fun rec => ?_) hk
  · rw [fill_zero] at h; simpa using h
  · simp only [laws_markBoolS.s0, fill_len (Nat.le_of_lt hi), chk_nz, Int.reduceEq, iLt_eq, iLe_eq, iEq_eq, iNe_eq, bNot_eq, bEq_eq, bNe_eq, brB_nb, brB_dec, brB_true, brB_false, chk_idx, chk_len, chk_make, chk_sub, bnd_one, rLen_eq, rGet_nat, rSet_nat, rApp_eq, ↓reduceIte]
    rw [if_pos (by omega), if_idx hi, fill_set hi, next_id hi (by omega), iAdd_id (by omega) (by omega)]
    congr 3
    omega
  · simp only [laws_markBoolS.s0, fill_end, List.length_map, List.length_range, iLt_eq, iLe_eq, iEq_eq, iNe_eq, bNot_eq, bEq_eq, bNe_eq, brB_nb, brB_dec, brB_true, brB_false, chk_idx, chk_len, chk_make, chk_sub, bnd_one, rLen_eq, rGet_nat, rSet_nat, rApp_eq, ↓reduceIte]
    rw [if_neg (by omega)]
    rfl
theorem heldBoolS_ev (n : Nat) (m : Int) (hn : n ≤ 1000000000000) (h0 : 0 ≤ m) (h1 : m ≤ 1000000000000) (k : Nat) (hk : n < k) : laws_heldBoolS.f k (bmarks m n) m = some (m + n) := by
  simp only [laws_heldBoolS.f, laws_heldBoolS.l0]
  have h := iter_upto (f := fun (rec : (List Bool × Int × Int) → Option Int) (x : List Bool × Int × Int) => laws_heldBoolS.s0 k rec x.1 x.2.1 x.2.2)
    (fun i => (bmarks m n, m + (i : Int), (i : Int))) n (r := m + n) (fun rec i hi => ?_) (fun rec => ?_) hk
  · simpa using h
  · simp only [laws_heldBoolS.s0, bmarks_len, chk_nz, Int.reduceEq, iLt_eq, iLe_eq, iEq_eq, iNe_eq, bNot_eq, bEq_eq, bNe_eq, brB_nb, brB_dec, brB_true, brB_false, chk_idx, chk_len, chk_make, chk_sub, bnd_one, rLen_eq, rGet_nat, rSet_nat, rApp_eq, ↓reduceIte]
    rw [if_pos (by omega), if_idx hi, bmarks, range_get n hi, if_pos rfl, next_id hi (by omega), iAdd_id (by omega) (by omega)]
    congr 3
    omega
  · simp only [laws_heldBoolS.s0, bmarks_len, iLt_eq, iLe_eq, iEq_eq, iNe_eq, bNot_eq, bEq_eq, bNe_eq, brB_nb, brB_dec, brB_true, brB_false, chk_idx, chk_len, chk_make, chk_sub, bnd_one, rLen_eq, rGet_nat, rSet_nat, rApp_eq, ↓reduceIte]
    rw [if_neg (by omega)]
theorem szVectors_eq (k : Nat) (e : Int) (a b : List Bool) (n : Int) (ha : a.length ≤ 9223372036854775807) (hb : b.length ≤ 9223372036854775807) (h0 : 0 ≤ n) (h1 : n ≤ 1048576) : laws_szVectors.f k e a b n = some (if (a.length : Int) + b.length ≤ n then n - a.length - b.length else -1) := by
  simp only [laws_szVectors.f, szBoolS_eq k a n ha h0 h1, iLt_eq, iLe_eq, iEq_eq, iNe_eq, bNot_eq, bEq_eq, bNe_eq, brB_nb, brB_dec, brB_true, brB_false, chk_idx, chk_len, chk_make, chk_sub, bnd_one, rLen_eq, rGet_nat, rSet_nat, rApp_eq, ↓reduceIte]
  by_cases h : (a.length : Int) ≤ n
  · rw [if_pos h, if_neg (by omega), szBoolS_eq k b (n - a.length) hb (by omega) (by omega)]
    simp only [iLt_eq, iLe_eq, iEq_eq, iNe_eq, bNot_eq, bEq_eq, bNe_eq, brB_nb, brB_dec, brB_true, brB_false, chk_idx, chk_len, chk_make, chk_sub, bnd_one, rLen_eq, rGet_nat, rSet_nat, rApp_eq, ↓reduceIte]
    (repeat' split) <;> first | rfl | omega
  · rw [if_neg h, if_pos (by omega), if_neg (by omega)]
theorem toVectors_ev (e : Int) (a b : List Bool) (ha : a.length ≤ 1048576) (hb : b.length ≤ 1048576) (k : Nat) (hk : a.length + b.length < k) : laws_toVectors.f k e a b = some (e, a, b) := by
  simp only [laws_toVectors.f, toBoolS_ev a ha k (by omega), toBoolS_ev b hb k (by omega), bnd_one]
theorem eqVectors_refl (e : Int) (a b : List Bool) (ha : a.length ≤ 4611686018427387904) (hb : b.length ≤ 4611686018427387904) (k : Nat) (hk : a.length + b.length < k) : laws_eqVectors.f k e a b e a b = some true := by
  simp only [laws_eqVectors.f, eqBoolS_refl a ha k (by omega), eqBoolS_refl b hb k (by omega), iLt_eq, iLe_eq, iEq_eq, iNe_eq, bNot_eq, bEq_eq, bNe_eq, brB_nb, brB_dec, brB_true, brB_false, chk_idx, chk_len, chk_make, chk_sub, bnd_one, rLen_eq, rGet_nat, rSet_nat, rApp_eq, ↓reduceIte, decide_true]
theorem markVectors_ev (e : Int) (a b : List Bool) (m : Int) (ha : a.length ≤ 10000000000) (hb : b.length ≤ 10000000000) (h0 : 0 ≤ m) (h1 : m ≤ 10000000000) (k : Nat) (hk : a.length + b.length < k) :
    laws_markVectors.f k e a b m = some (m + a.length + b.length, bmarks m a.length, bmarks (m + a.length) b.length) := by
  simp only [laws_markVectors.f, markBoolS_ev a m (by omega) h0 (by omega) k (by omega), markBoolS_ev b (m + a.length) (by omega) (by omega) (by omega) k (by omega), bnd_one]
theorem heldVectors_ev (e : Int) (a b : Nat) (m : Int) (ha : a ≤ 10000000000) (hb : b ≤ 10000000000) (h0 : 0 ≤ m) (h1 : m ≤ 10000000000) (k : Nat) (hk : a + b < k) :
    laws_heldVectors.f k e (bmarks m a) (bmarks (m + a) b) m = some (m + a + b) := by
  simp only [laws_heldVectors.f, heldBoolS_ev a m (by omega) h0 (by omega) k (by omega), iLt_eq, iLe_eq, iEq_eq, iNe_eq, bNot_eq, bEq_eq, bNe_eq, brB_nb, brB_dec, brB_true, brB_false, chk_idx, chk_len, chk_make, chk_sub, bnd_one, rLen_eq, rGet_nat, rSet_nat, rApp_eq, ↓reduceIte]
  rw [if_neg (by omega), heldBoolS_ev b (m + a) (by omega) (by omega) (by omega) k (by omega)]
  simp only [iLt_eq, iLe_eq, iEq_eq, iNe_eq, bNot_eq, bEq_eq, bNe_eq, brB_nb, brB_dec, brB_true, brB_false, chk_idx, chk_len, chk_make, chk_sub, bnd_one, rLen_eq, rGet_nat, rSet_nat, rApp_eq, ↓reduceIte]
  rw [if_neg (by omega)]
/-- No vector is pending that is not masked. -/
def pendB (a b : List Bool) : Bool := (List.range a.length).all fun i => !b.getD i false || a.getD i false
/-- Vectors are valid. -/
def vecB (e : Int) (a b : List Bool) : Bool := decide (1 ≤ (a.length : Int) ∧ (a.length : Int) ≤ 8) && (decide ((b.length : Int) = (a.length : Int)) && (decide (0 ≤ e ∧ e ≤ 65535) && pendB a b))
theorem specVectorsOk_ev (e : Int) (a b : List Bool) (hb : b.length ≤ 1048576) (ha : a.length ≤ 1048576) (k : Nat) (hk : a.length + b.length < k) : spec_VectorsOk.f k e a b = some (vecB e a b) := by
  simp only [spec_VectorsOk.f, l01In_eq, spec_VectorsOk.l0, iLt_eq, iLe_eq, iEq_eq, iNe_eq, bNot_eq, bEq_eq, bNe_eq, brB_nb, brB_dec, brB_true, brB_false, chk_idx, chk_len, chk_make, chk_sub, bnd_one, rLen_eq, rGet_nat, rSet_nat, rApp_eq, ↓reduceIte]
  refine if_and ?_
  by_cases h : (b.length : Int) = (a.length : Int)
  · rw [if_pos h, decide_eq_true h, Bool.true_and]
    refine if_and ?_
    have h' := iter_find (f := fun (rec : (Int × Int × List Bool × List Bool) → Option Bool) (x : Int × Int × List Bool × List Bool) => spec_VectorsOk.s0 k rec x.1 x.2.1 x.2.2.1 x.2.2.2) (fun i => ((i : Int), e, a, b)) (List.range a.length) (fun i => !b.getD i false || a.getD i false) true (fun _ => false)
      (fun rec i hi hp => ?_) (fun rec i hi hp => ?_) (fun rec => ?_) (n := k) (by simp; omega)
    · exact h'.trans (congrArg some (findIdx_all _ _))
    · simp only [List.length_range] at hi
      simp only [List.getElem_range] at hp
      simp only [spec_VectorsOk.s0, iLt_eq, iLe_eq, iEq_eq, iNe_eq, bNot_eq, bEq_eq, bNe_eq, brB_nb, brB_dec, brB_true, brB_false, chk_idx, chk_len, chk_make, chk_sub, bnd_one, rLen_eq, rGet_nat, rSet_nat, rApp_eq, ↓reduceIte]
      rw [if_pos (by omega), if_idx (by omega), if_idx hi, next_id hi (by omega)]
      cases h1 : b.getD i false <;> cases h2 : a.getD i false <;> rw [h1, h2] at hp <;> first | rfl | cases hp
    · simp only [List.length_range] at hi
      simp only [List.getElem_range] at hp
      simp only [spec_VectorsOk.s0, iLt_eq, iLe_eq, iEq_eq, iNe_eq, bNot_eq, bEq_eq, bNe_eq, brB_nb, brB_dec, brB_true, brB_false, chk_idx, chk_len, chk_make, chk_sub, bnd_one, rLen_eq, rGet_nat, rSet_nat, rApp_eq, ↓reduceIte]
      rw [if_pos (by omega), if_idx (by omega), if_idx hi]
      cases h1 : b.getD i false <;> cases h2 : a.getD i false <;> rw [h1, h2] at hp <;> first | rfl | cases hp
    · simp only [spec_VectorsOk.s0, List.length_range, iLt_eq, iLe_eq, iEq_eq, iNe_eq, bNot_eq, bEq_eq, bNe_eq, brB_nb, brB_dec, brB_true, brB_false, chk_idx, chk_len, chk_make, chk_sub, bnd_one, rLen_eq, rGet_nat, rSet_nat, rApp_eq, ↓reduceIte]
      rw [if_neg (by omega)]
  · rw [if_neg h, decide_eq_false h, Bool.false_and]
theorem implVectorsOk_ev (e : Int) (a b : List Bool) (hb : b.length ≤ 1048576) (ha : a.length ≤ 1048576) (k : Nat) (hk : a.length + b.length < k) : impl_VectorsOk.f k e a b = some (vecB e a b) := by
  simp only [impl_VectorsOk.f, within_eq, impl_VectorsOk.l0, iLt_eq, iLe_eq, iEq_eq, iNe_eq, bNot_eq, bEq_eq, bNe_eq, brB_nb, brB_dec, brB_true, brB_false, chk_idx, chk_len, chk_make, chk_sub, bnd_one, rLen_eq, rGet_nat, rSet_nat, rApp_eq, ↓reduceIte]
  refine if_and ?_
  by_cases h : (b.length : Int) = (a.length : Int)
  · rw [if_pos h, decide_eq_true h, Bool.true_and]
    refine if_and ?_
    have h' := iter_find (f := fun (rec : (List Bool × Int × Int × Int × List Bool × List Bool) → Option (Bool)) (x : List Bool × Int × Int × Int × List Bool × List Bool) => impl_VectorsOk.s0 k rec x.1 x.2.1 x.2.2.1 x.2.2.2.1 x.2.2.2.2.1 x.2.2.2.2.2) (fun i => (b, (b.length : Int), (i : Int), e, a, b)) (List.range a.length) (fun i => !b.getD i false || a.getD i false) true (fun _ => false)
      (fun rec i hi hp => ?_) (fun rec i hi hp => ?_) (fun rec => ?_) (n := k) (by simp; omega)
    · exact h'.trans (congrArg some (findIdx_all _ _))
    · simp only [List.length_range] at hi
      simp only [List.getElem_range] at hp
      simp only [impl_VectorsOk.s0, iLt_eq, iLe_eq, iEq_eq, iNe_eq, bNot_eq, bEq_eq, bNe_eq, brB_nb, brB_dec, brB_true, brB_false, chk_idx, chk_len, chk_make, chk_sub, bnd_one, rLen_eq, rGet_nat, rSet_nat, rApp_eq, ↓reduceIte]
      rw [if_pos (by omega), if_idx (by omega), if_idx hi, next_id hi (by omega)]
      cases h1 : b.getD i false <;> cases h2 : a.getD i false <;> rw [h1, h2] at hp <;> first | rfl | cases hp
    · simp only [List.length_range] at hi
      simp only [List.getElem_range] at hp
      simp only [impl_VectorsOk.s0, iLt_eq, iLe_eq, iEq_eq, iNe_eq, bNot_eq, bEq_eq, bNe_eq, brB_nb, brB_dec, brB_true, brB_false, chk_idx, chk_len, chk_make, chk_sub, bnd_one, rLen_eq, rGet_nat, rSet_nat, rApp_eq, ↓reduceIte]
      rw [if_pos (by omega), if_idx (by omega), if_idx hi]
      cases h1 : b.getD i false <;> cases h2 : a.getD i false <;> rw [h1, h2] at hp <;> first | rfl | cases hp
    · simp only [impl_VectorsOk.s0, List.length_range, iLt_eq, iLe_eq, iEq_eq, iNe_eq, bNot_eq, bEq_eq, bNe_eq, brB_nb, brB_dec, brB_true, brB_false, chk_idx, chk_len, chk_make, chk_sub, bnd_one, rLen_eq, rGet_nat, rSet_nat, rApp_eq, ↓reduceIte]
      rw [if_neg (by omega)]
  · rw [if_neg h, decide_eq_false h, Bool.false_and]
/-- The vector is one of these, and the device may call. -/
def hasB (e : Int) (a b : List Bool) (d v : Int) : Bool := vecB e a b && (decide (0 ≤ d ∧ d ≤ 255) && decide (0 ≤ v ∧ v ≤ (a.length : Int) - 1))
/-- What the raising of a vector gives. -/
def raiseB (ok : Bool) (e : Int) (a b : List Bool) (d v : Int) : Int × List Bool × List Bool × Int × Int × Int × Int × Int × Int × Int × List Int × Bool :=
  if ok = true then (if a.getD v.toNat false = true then (e, a, b.set v.toNat true, 0, 0, 0, 0, 0, 0, 0, [], true) else (e, a, b, 1, d, 0, e, 0, 0, 0, [v], true)) else (e, a, b, 0, 0, 0, 0, 0, 0, 0, [], false)
theorem raiseB_len (ok : Bool) (e : Int) (a b : List Bool) (d v : Int) : (raiseB ok e a b d v).2.1.length = a.length ∧ (raiseB ok e a b d v).2.2.1.length = b.length ∧ (raiseB ok e a b d v).2.2.2.2.2.2.2.2.2.2.1.length ≤ 1 := by
  unfold raiseB; (repeat' split) <;> simp
theorem hasB_lt {e : Int} {a b : List Bool} {d v : Int} (h : hasB e a b d v = true) : 0 ≤ v ∧ v < a.length ∧ v < b.length := by
  simp only [hasB, vecB, Bool.and_eq_true, decide_eq_true_eq] at h
  omega
theorem l30Ok_ev (e : Int) (a b : List Bool) (d v : Int) (hb : b.length ≤ 1048576) (ha : a.length ≤ 1048576) (k : Nat) (hk : a.length + b.length < k) : spec_l30Ok.f k e a b d v = some (hasB e a b d v) := by
  simp only [spec_l30Ok.f, specVectorsOk_ev e a b hb ha k hk, specIsId_eq, l01In_eq, bnd_one, rLen_eq]
  rw [iSub_id (by omega) (by omega)]
  exact brB_and (brB_and rfl)
theorem hasVector_ev (e : Int) (a b : List Bool) (d v : Int) (hb : b.length ≤ 1048576) (ha : a.length ≤ 1048576) (k : Nat) (hk : a.length + b.length < k) : impl_hasVector.f k e a b d v = some (hasB e a b d v) := by
  simp only [impl_hasVector.f, implVectorsOk_ev e a b hb ha k hk, implIsId_eq, within_eq, bnd_one, rLen_eq]
  rw [iSub_id (by omega) (by omega)]
  exact brB_and (brB_and rfl)
theorem l30Copy_eq (k : Nat) (e : Int) (a b : List Bool) (hb : b.length ≤ 1048576) (ha : a.length ≤ 1048576) : spec_l30Copy.f k e a b = some (e, a, b) := by
  simp only [spec_l30Copy.f, List.nil_append, iLt_eq, iLe_eq, iEq_eq, iNe_eq, bNot_eq, bEq_eq, bNe_eq, brB_nb, brB_dec, brB_true, brB_false, chk_idx, chk_len, chk_make, chk_sub, bnd_one, rLen_eq, rGet_nat, rSet_nat, rApp_eq, ↓reduceIte]
  rw [if_pos (by omega), if_pos (by omega)]
theorem copyVectors_eq (k : Nat) (e : Int) (a b : List Bool) (hb : b.length ≤ 1048576) (ha : a.length ≤ 1048576) : impl_copyVectors.f k e a b = some (e, a, b) := by
  simp only [impl_copyVectors.f, slices_Clone_bool.f, iLt_eq, iLe_eq, iEq_eq, iNe_eq, bNot_eq, bEq_eq, bNe_eq, brB_nb, brB_dec, brB_true, brB_false, chk_idx, chk_len, chk_make, chk_sub, bnd_one, rLen_eq, rGet_nat, rSet_nat, rApp_eq, ↓reduceIte]
  rw [if_pos (by omega), if_pos (by omega)]
  rfl
theorem rGet_in {α : Type} (d : α) (l : List α) {v : Int} (h : 0 ≤ v) : rGet d l v = l.getD v.toNat d := rfl
theorem rSet_in {α : Type} (l : List α) {v : Int} (x : α) (h : 0 ≤ v) : rSet l v x = l.set v.toNat x := rfl
theorem specRaise_ev (e : Int) (a b : List Bool) (d v : Int) (hb : b.length ≤ 1048576) (ha : a.length ≤ 1048576) (k : Nat) (hk : a.length + b.length < k) : spec_RaiseVector.f k e a b d v = some (raiseB (hasB e a b d v) e a b d v) := by
  simp only [spec_RaiseVector.f, l30Copy_eq k e a b hb ha, l30Ok_ev e a b d v hb ha k hk, raiseB, iLt_eq, iLe_eq, iEq_eq, iNe_eq, bNot_eq, bEq_eq, bNe_eq, brB_nb, brB_dec, brB_true, brB_false, chk_idx, chk_len, chk_make, chk_sub, bnd_one, rLen_eq, rGet_nat, rSet_nat, rApp_eq, ↓reduceIte]
  cases h : hasB e a b d v with
  | false => rfl
  | true =>
    have := hasB_lt h
    simp only [iLt_eq, iLe_eq, iEq_eq, iNe_eq, bNot_eq, bEq_eq, bNe_eq, brB_nb, brB_dec, brB_true, brB_false, chk_idx, chk_len, chk_make, chk_sub, bnd_one, rLen_eq, rGet_nat, rSet_nat, rApp_eq, ↓reduceIte]
    rw [if_pos (by omega), if_pos (by omega), rGet_in _ _ this.1, rSet_in _ _ this.1]
    cases a.getD v.toNat false <;> rfl
/-- What the setting of a mask gives. -/
def maskB (ok : Bool) (e : Int) (a b : List Bool) (d v : Int) (m : Bool) : Int × List Bool × List Bool × Int × Int × Int × Int × Int × Int × Int × List Int × Bool :=
  if ok = true then (if b.getD v.toNat false = true ∧ m = false then (e, a.set v.toNat false, b.set v.toNat false, 1, d, 0, e, 0, 0, 0, [v], true) else (e, a.set v.toNat m, b, 0, 0, 0, 0, 0, 0, 0, [], true)) else (e, a, b, 0, 0, 0, 0, 0, 0, 0, [], false)
theorem maskB_len (ok : Bool) (e : Int) (a b : List Bool) (d v : Int) (m : Bool) : (maskB ok e a b d v m).2.1.length = a.length ∧ (maskB ok e a b d v m).2.2.1.length = b.length ∧ (maskB ok e a b d v m).2.2.2.2.2.2.2.2.2.2.1.length ≤ 1 := by
  unfold maskB; (repeat' split) <;> simp
theorem pend_set {a b : List Bool} (h : pendB a b = true) (v : Nat) : pendB (a.set v false) (b.set v false) = true := by
  simp only [pendB, List.all_eq_true, List.mem_range, List.length_set] at h ⊢
  intro i hi
  have := h i hi
  simp only [List.getD_eq_getElem?_getD, List.getElem?_set] at this ⊢
  by_cases e : v = i
  · subst e
    simp only [↓reduceIte]
    split <;> simp
  · rw [if_neg e, if_neg e]; exact this
theorem has_set {e : Int} {a b : List Bool} {d v : Int} (h : hasB e a b d v = true) : hasB e (a.set v.toNat false) (b.set v.toNat false) d v = true := by
  simp only [hasB, vecB, Bool.and_eq_true, decide_eq_true_eq, List.length_set] at h ⊢
  exact ⟨⟨h.1.1, h.1.2.1, h.1.2.2.1, pend_set h.1.2.2.2 _⟩, h.2⟩
theorem specMask_ev (e : Int) (a b : List Bool) (d v : Int) (m : Bool) (hb : b.length ≤ 1048576) (ha : a.length ≤ 1048576) (k : Nat) (hk : a.length + b.length < k) : spec_SetMask.f k e a b d v m = some (maskB (hasB e a b d v) e a b d v m) := by
  simp only [spec_SetMask.f, l30Copy_eq k e a b hb ha, l30Ok_ev e a b d v hb ha k hk, maskB, iLt_eq, iLe_eq, iEq_eq, iNe_eq, bNot_eq, bEq_eq, bNe_eq, brB_nb, brB_dec, brB_true, brB_false, chk_idx, chk_len, chk_make, chk_sub, bnd_one, rLen_eq, rGet_nat, rSet_nat, rApp_eq, ↓reduceIte]
  cases h : hasB e a b d v with
  | false => rfl
  | true =>
    have hlt := hasB_lt h
    simp only [iLt_eq, iLe_eq, iEq_eq, iNe_eq, bNot_eq, bEq_eq, bNe_eq, brB_nb, brB_dec, brB_true, brB_false, chk_idx, chk_len, chk_make, chk_sub, bnd_one, rLen_eq, rGet_nat, rSet_nat, rApp_eq, ↓reduceIte]
    rw [if_pos (by omega), if_pos (by omega), if_pos (by omega), rGet_in _ _ hlt.1, rSet_in _ _ hlt.1]
    cases m with
    | true => simp [brB]
    | false =>
      cases hp : b.getD v.toNat false with
      | false => simp [brB]
      | true =>
        have hr := specRaise_ev e (a.set v.toNat false) (b.set v.toNat false) d v (by simpa using hb) (by simpa using ha) k (by simpa using hk)
        rw [has_set h] at hr
        simp only [raiseB, ↓reduceIte] at hr
        rw [show (a.set v.toNat false).getD v.toNat false = false by rw [List.getD_eq_getElem?_getD, List.getElem?_set]; simp; split <;> rfl] at hr
        simp only [Bool.false_eq_true, ↓reduceIte] at hr
        simp only [rSet_in _ _ hlt.1, brB_true, brB_false, hr, bnd_one, and_self, ↓reduceIte]
theorem implMask_ev (e : Int) (a b : List Bool) (d v : Int) (m : Bool) (hb : b.length ≤ 1048576) (ha : a.length ≤ 1048576) (k : Nat) (hk : a.length + b.length < k) : impl_SetMask.f k e a b d v m = some (maskB (hasB e a b d v) e a b d v m) := by
  simp only [impl_SetMask.f, copyVectors_eq k e a b hb ha, hasVector_ev e a b d v hb ha k hk, impl_call.f, maskB, iLt_eq, iLe_eq, iEq_eq, iNe_eq, bNot_eq, bEq_eq, bNe_eq, brB_nb, brB_dec, brB_true, brB_false, chk_idx, chk_len, chk_make, chk_sub, bnd_one, rLen_eq, rGet_nat, rSet_nat, rApp_eq, ↓reduceIte]
  cases h : hasB e a b d v with
  | false => rfl
  | true =>
    have hlt := hasB_lt h
    simp only [iLt_eq, iLe_eq, iEq_eq, iNe_eq, bNot_eq, bEq_eq, bNe_eq, brB_nb, brB_dec, brB_true, brB_false, chk_idx, chk_len, chk_make, chk_sub, bnd_one, rLen_eq, rGet_nat, rSet_nat, rApp_eq, ↓reduceIte]
    rw [if_pos (by omega), if_pos (by omega), if_pos (by omega), rGet_in _ _ hlt.1, rSet_in _ _ hlt.1]
    cases m with
    | true => cases hp : b.getD v.toNat false <;> simp [brB]
    | false => cases hp : b.getD v.toNat false <;> simp [brB, rSet_in _ _ hlt.1]
theorem laws_FnExactSetMask.pure : ∀ x : laws_FnExactSetMask.sig.inTy.T, Good laws_FnExactSetMask.sig.inTy x → ∃ k, laws_FnExactSetMask.spec.fn k x = some true := by
  rintro ⟨e, a, b, d, v, m⟩ ⟨_, ⟨ha, _⟩, ⟨hb, _⟩, _, _, _⟩
  have ha : a.length ≤ 9223372036854775807 := ha
  have hb : b.length ≤ 9223372036854775807 := hb
  refine ⟨a.length + b.length + 2, ?_⟩
  show laws_FnExactSetMask.f _ e a b d v m = some true
  generalize hk : a.length + b.length + 2 = k
  by_cases c1 : (a.length : Int) + b.length ≤ 1048576
  · have tp := toVectors_ev e a b (by omega) (by omega) k (by omega)
    have f1 := specMask_ev e a b d v m (by omega) (by omega) k (by omega)
    have f2 := implMask_ev e a b d v m (by omega) (by omega) k (by omega)
    have hl := maskB_len (hasB e a b d v) e a b d v m
    generalize maskB (hasB e a b d v) e a b d v m = r at f1 f2 hl
    obtain ⟨r0, r1, r2, r3, r4, r5, r6, r7, r8, r9, rl, rb⟩ := r
    simp only at hl
    obtain ⟨hl1, hl2, hl3⟩ := hl
    have e1 := eqVectors_refl r0 r1 r2 (by omega) (by omega) k (by omega)
    have e2 := eqPacket_refl r3 r4 r5 r6 r7 r8 r9 rl (by omega) k (by omega)
    have e3 := eqVectors_refl e a b (by omega) (by omega) k (by omega)
    have m1 := markVectors_ev r0 r1 r2 1 (by omega) (by omega) (by omega) (by omega) k (by omega)
    have m2 := markPacket_ev r3 r4 r5 r6 r7 r8 r9 rl (1 + r1.length + r2.length) (by omega) (by omega) (by omega) k (by omega)
    have m3 := markVectors_ev e a b 1 (by omega) (by omega) (by omega) (by omega) k (by omega)
    have n1 := heldVectors_ev r0 r1.length r2.length 1 (by omega) (by omega) (by omega) (by omega) k (by omega)
    have n2 := heldPacket_ev r3 r4 r5 r6 r7 r8 r9 rl.length (1 + r1.length + r2.length) (by omega) (by omega) (by omega) k (by omega)
    simp only [laws_FnExactSetMask.f, szVectors_eq k e a b 1048576 ha hb (by omega) (by omega), if_pos c1, tp, f1, f2, e1, e2, e3, m1, m2, m3, n1, n2, iLt_eq, iLe_eq, iEq_eq, iNe_eq, bNot_eq, bEq_eq, bNe_eq, brB_nb, brB_dec, brB_true, brB_false, chk_idx, chk_len, chk_make, chk_sub, bnd_one, rLen_eq, rGet_nat, rSet_nat, rApp_eq, ↓reduceIte, decide_true]
    repeat rw [if_neg (by omega)]
  · simp only [laws_FnExactSetMask.f, szVectors_eq k e a b 1048576 ha hb (by omega) (by omega), if_neg c1, iLt_eq, iLe_eq, iEq_eq, iNe_eq, bNot_eq, bEq_eq, bNe_eq, brB_nb, brB_dec, brB_true, brB_false, chk_idx, chk_len, chk_make, chk_sub, bnd_one, rLen_eq, rGet_nat, rSet_nat, rApp_eq, ↓reduceIte]
    rfl
end Go.Proofs.YtmilhndiocggkaaT

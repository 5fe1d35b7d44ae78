/- What the functions of FnExactOpenNode give, in plain terms. -/
import Derived.Test.YtknaadbgljjpiaaFFnExactOpenNode
import Derived.Test.YtknaadbgljjpiaaTiPL
set_option linter.unusedVariables false
set_option linter.unusedSimpArgs false
set_option maxRecDepth 100000
namespace Go.Proofs.YtknaadbgljjpiaaT
open Go
theorem some_dec {b : Bool} {p : Prop} [Decidable p] (h : b = true ↔ p) : some b = some (decide p) := by
  congr 1; rw [Bool.eq_iff_iff]; simpa using h
theorem iLe_eq (a b : Int) : iLe a b = decide (a ≤ b) := rfl
theorem iLt_eq (a b : Int) : iLt a b = decide (a < b) := rfl
theorem iEq_eq (a b : Int) : iEq a b = decide (a = b) := by by_cases h : a = b <;> simp [iEq, h]
theorem iNe_eq (a b : Int) : iNe a b = !decide (a = b) := by by_cases h : a = b <;> simp [iNe, h]
theorem bNot_eq (a : Bool) : bNot a = !a := rfl
theorem ite_some {α : Type} (p : Prop) [Decidable p] (a b : α) : (if p then some a else some b) = some (if p then a else b) := by split <;> rfl
/-- A loop that looks for the first element with a quality. -/
theorem iter_find {R : Type} {α : Type} {X : Type} {f : (X → Option R) → X → Option R} (s : Nat → X) (xs : List α) (p : α → Bool) (r : R) (e : Nat → R)
    (go : ∀ rec (i : Nat) (h : i < xs.length), p xs[i] = true → f rec (s i) = rec (s (i + 1))) (stop : ∀ rec (i : Nat) (h : i < xs.length), p xs[i] = false → f rec (s i) = some (e i)) (done : ∀ rec, f rec (s xs.length) = some r) {n : Nat} (hn : xs.length < n) :
    iter f n (s 0) = some (match xs.findIdx? (fun x => !p x) with | some i => e i | none => r) := by
  suffices H : ∀ d i n, i + d = xs.length → d < n → (∀ j (h : j < xs.length), j < i → p xs[j] = true) → iter f n (s i) = some (match xs.findIdx? (fun x => !p x) with | some i => e i | none => r) from H xs.length 0 n (by omega) hn (fun j _ h => by omega)
  intro d
  induction d with
  | zero =>
    intro i n hi hn hp
    obtain ⟨m, rfl⟩ : ∃ m, n = m + 1 := ⟨n - 1, by omega⟩
    obtain rfl : i = xs.length := by omega
    have : xs.findIdx? (fun x => !p x) = none := by
      rw [List.findIdx?_eq_none_iff]
      intro x hx
      obtain ⟨j, hj, rfl⟩ := List.mem_iff_getElem.1 hx
      simp [hp j hj (by omega)]
    rw [this]
    exact done _
  | succ d ih =>
    intro i n hi hn hp
    obtain ⟨m, rfl⟩ : ∃ m, n = m + 1 := ⟨n - 1, by omega⟩
    show f (iter f m) (s i) = _
    have hlt : i < xs.length := by omega
    by_cases hq : p xs[i] = false
    · rw [stop _ i hlt hq]
      have : xs.findIdx? (fun x => !p x) = some i := by
        rw [List.findIdx?_eq_some_iff_getElem]
        exact ⟨hlt, by simp [hq], fun j hj => by simp [hp j (by omega) hj]⟩
      rw [this]
    · have hq : p xs[i] = true := by simpa using hq
      rw [go _ i hlt hq]
      refine ih (i + 1) m (by omega) (by omega) fun j h hj => ?_
      rcases Nat.lt_or_ge j i with h' | h'
      · exact hp j h h'
      · obtain rfl : j = i := by omega
        exact hq
theorem getD_lt {α : Type} (d : α) (xs : List α) {i : Nat} (h : i < xs.length) : xs.getD i d = xs[i] := by
  rw [List.getD_eq_getElem?_getD, List.getElem?_eq_getElem h]; rfl
theorem bEq_eq (a b : Bool) : bEq a b = decide (a = b) := by cases a <;> cases b <;> rfl
theorem bNe_eq (a b : Bool) : bNe a b = !decide (a = b) := by cases a <;> cases b <;> rfl
theorem brB_nb {R : Type} (b : Bool) (x y : Option R) : brB (!b) x y = brB b y x := by cases b <;> rfl
theorem brB_dec {R : Type} (p : Prop) [Decidable p] (x y : Option R) : brB (decide p) x y = if p then x else y := by by_cases h : p <;> simp [h, brB]
theorem if_idx {R : Type} {i n : Nat} {x : Option R} (h : i < n) : (if 0 ≤ (i : Int) ∧ (i : Int) < (n : Int) then x else none) = x := if_pos (by omega)
theorem l01In_eq (k : Nat) (x a b : Int) : spec_l01In.f k x a b = some (decide (a ≤ x ∧ x ≤ b)) := by
  simp only [spec_l01In.f, iLt_eq, iLe_eq, iEq_eq, iNe_eq, bNot_eq, bEq_eq, bNe_eq, brB_nb, brB_dec, brB_true, brB_false, chk_idx, chk_len, chk_make, chk_sub, bnd_one, rLen_eq, rGet_nat, rSet_nat, rApp_eq, ↓reduceIte]; split <;> rename_i h <;> simp [h]
theorem within_eq (k : Nat) (x a b : Int) : impl_within.f k x a b = some (decide (a ≤ x ∧ x ≤ b)) := by
  simp only [impl_within.f, iLt_eq, iLe_eq, iEq_eq, iNe_eq, bNot_eq, bEq_eq, bNe_eq, brB_nb, brB_dec, brB_true, brB_false, chk_idx, chk_len, chk_make, chk_sub, bnd_one, rLen_eq, rGet_nat, rSet_nat, rApp_eq, ↓reduceIte]; split <;> rename_i h <;> simp [h]
/-- All are words. -/
def wordsOk (l : List Int) : Bool := l.all fun x => decide (0 ≤ x ∧ x ≤ 65535)
theorem findIdx_all {α : Type} (l : List α) (p : α → Bool) : (match l.findIdx? (fun x => !p x) with | some _ => false | none => true) = l.all p := by
  cases h : l.findIdx? (fun x => !p x) with
  | none =>
    rw [List.findIdx?_eq_none_iff] at h
    symm
    rw [List.all_eq_true]
    intro x hx
    simpa using h x hx
  | some i =>
    rw [List.findIdx?_eq_some_iff_getElem] at h
    obtain ⟨hi, h1, _⟩ := h
    symm
    rw [← Bool.not_eq_true, List.all_eq_true]
    intro hall
    have := hall _ (List.getElem_mem hi)
    simp [this] at h1
theorem found_iff {α : Type} (l : List α) (p : α → Bool) : iLe 0 (match l.findIdx? (fun x => !p x) with | some i => (i : Int) | none => -1) = !l.all p := by
  rw [← findIdx_all]
  cases l.findIdx? (fun x => !p x) with
  | none => rfl
  | some i => simp [iLe]
/-- A gathering is valid. -/
def gatherB (a b c : Int) (l : List Int) (e : Int) : Bool := decide (0 ≤ a ∧ a ≤ 255) && (decide (0 ≤ b ∧ b ≤ 7) && (decide (0 ≤ c ∧ c ≤ 64) && (decide ((l.length : Int) ≤ c) && (wordsOk l && (decide (0 ≤ e ∧ e ≤ 2) && (if e = 1 then decide ((l.length : Int) = c) else true))))))
theorem brB_and' {x : Option Bool} {b c : Bool} (h : b = true → x = some c) : brB b x (some false) = some (b && c) := by
  cases b with
  | false => rfl
  | true => rw [brB_true, h rfl, Bool.true_and]
theorem if_and' {p : Prop} [Decidable p] {x : Option Bool} {c : Bool} (h : p → x = some c) : (if p then x else some false) = some (decide p && c) := by
  by_cases hp : p
  · rw [if_pos hp, h hp, decide_eq_true hp, Bool.true_and]
  · rw [if_neg hp, decide_eq_false hp, Bool.false_and]
theorem brB_and {x : Option Bool} {b c : Bool} (h : x = some c) : brB b x (some false) = some (b && c) := by cases b <;> simp [brB, h]
theorem if_and {p : Prop} [Decidable p] {x : Option Bool} {c : Bool} (h : x = some c) : (if p then x else some false) = some (decide p && c) := by by_cases hp : p <;> simp [hp, h]
theorem szBoolS_eq (k : Nat) (l : List Bool) (n : Int) (hl : l.length ≤ 9223372036854775807) (h0 : 0 ≤ n) (h1 : n ≤ 1048576) : laws_szBoolS.f k l n = some (if (l.length : Int) ≤ n then n - l.length else -1) := by
  simp only [laws_szBoolS.f, brB_lt, rLen_eq]
  rw [iSub_id (by omega) (by omega)]
  by_cases h : (l.length : Int) ≤ n
  · rw [if_neg (by omega), if_pos h]
  · rw [if_pos (by omega), if_neg h]
theorem toBoolS_ev (xs : List Bool) (hn : xs.length ≤ 1048576) (k : Nat) (hk : xs.length < k) : laws_toBoolS.f k xs = some xs := by
  simp only [laws_toBoolS.f, laws_toBoolS.l0, iLt_eq, iLe_eq, iEq_eq, iNe_eq, bNot_eq, bEq_eq, bNe_eq, brB_nb, brB_dec, brB_true, brB_false, chk_idx, chk_len, chk_make, chk_sub, bnd_one, rLen_eq, rGet_nat, rSet_nat, rApp_eq, ↓reduceIte]
  rw [if_pos (by omega), rRep_nat]
  have h := iter_upto (f := fun (rec : (List Bool × List Bool × Int) → Option (List Bool)) (x : List Bool × List Bool × Int) => laws_toBoolS.s0 k rec x.1 x.2.1 x.2.2)
    (fun i => (xs, fill (fun j => xs.getD j false) (List.replicate xs.length false) i, (i : Int))) xs.length (r := xs) (fun rec i hi => ?_) (fun rec => ?_) hk
  · rw [fill_zero] at h; exact h
  · simp only [laws_toBoolS.s0, fill_len (show i ≤ (List.replicate xs.length false).length by simp; omega), List.length_replicate, iLt_eq, iLe_eq, iEq_eq, iNe_eq, bNot_eq, bEq_eq, bNe_eq, brB_nb, brB_dec, brB_true, brB_false, chk_idx, chk_len, chk_make, chk_sub, bnd_one, rLen_eq, rGet_nat, rSet_nat, rApp_eq, ↓reduceIte]
    rw [if_pos (by omega), if_idx hi, if_idx hi, fill_set (by simpa using hi), next_id hi (by omega)]
  · have h2 := fill_end (g := fun j => xs.getD j false) (xs := List.replicate xs.length false)
    rw [List.length_replicate] at h2
    simp only [laws_toBoolS.s0, h2, range_getD, iLt_eq, iLe_eq, iEq_eq, iNe_eq, bNot_eq, bEq_eq, bNe_eq, brB_nb, brB_dec, brB_true, brB_false, chk_idx, chk_len, chk_make, chk_sub, bnd_one, rLen_eq, rGet_nat, rSet_nat, rApp_eq, ↓reduceIte]
    rw [if_neg (by omega)]
theorem eqBoolS_refl (xs : List Bool) (hn : xs.length ≤ 4611686018427387904) (k : Nat) (hk : xs.length < k) : laws_eqBoolS.f k xs xs = some true := by
  simp only [laws_eqBoolS.f, laws_eqBoolS.l0, iLt_eq, iLe_eq, iEq_eq, iNe_eq, bNot_eq, bEq_eq, bNe_eq, brB_nb, brB_dec, brB_true, brB_false, chk_idx, chk_len, chk_make, chk_sub, bnd_one, rLen_eq, rGet_nat, rSet_nat, rApp_eq, ↓reduceIte]
  refine iter_upto (f := fun (rec : (List Bool × List Bool × Int) → Option Bool) (x : List Bool × List Bool × Int) => laws_eqBoolS.s0 k rec x.1 x.2.1 x.2.2) (fun i => (xs, xs, (i : Int))) xs.length (fun rec i hi => ?_) (fun rec => ?_) hk
  · simp only [laws_eqBoolS.s0, iLt_eq, iLe_eq, iEq_eq, iNe_eq, bNot_eq, bEq_eq, bNe_eq, brB_nb, brB_dec, brB_true, brB_false, chk_idx, chk_len, chk_make, chk_sub, bnd_one, rLen_eq, rGet_nat, rSet_nat, rApp_eq, ↓reduceIte]
    rw [if_pos (by omega), if_idx hi, if_idx hi, next_id hi hn]
  · simp only [laws_eqBoolS.s0, iLt_eq, iLe_eq, iEq_eq, iNe_eq, bNot_eq, bEq_eq, bNe_eq, brB_nb, brB_dec, brB_true, brB_false, chk_idx, chk_len, chk_make, chk_sub, bnd_one, rLen_eq, rGet_nat, rSet_nat, rApp_eq, ↓reduceIte]
    rw [if_neg (by omega)]
/-- The marks of a row of answers. -/
def bmarks (m : Int) (n : Nat) : List Bool := (List.range n).map fun (j : Nat) => decide (iRem (m + (j : Int)) 3 = 0)
theorem bmarks_len (m : Int) (n : Nat) : (bmarks m n).length = n := by simp [bmarks]
theorem markBoolS_ev (xs : List Bool) (m : Int) (hn : xs.length ≤ 1000000000000) (h0 : 0 ≤ m) (h1 : m ≤ 1000000000000) (k : Nat) (hk : xs.length < k) : laws_markBoolS.f k xs m = some (m + xs.length, bmarks m xs.length) := by
  simp only [laws_markBoolS.f, laws_markBoolS.l0]
  have h := iter_upto (f := fun (rec : (List Bool × Int × Int) → Option (Int × List Bool)) (x : List Bool × Int × Int) => laws_markBoolS.s0 k rec x.1 x.2.1 x.2.2)
    (fun i => (fill (fun (j : Nat) => decide (iRem (m + (j : Int)) 3 = 0)) xs i, m + (i : Int), (i : Int))) xs.length (r := (m + xs.length, bmarks m xs.length)) (fun rec i hi => ?_) (fun rec => ?_) hk
  · rw [fill_zero] at h; simpa using h
  · simp only [laws_markBoolS.s0, fill_len (Nat.le_of_lt hi), chk_nz, Int.reduceEq, iLt_eq, iLe_eq, iEq_eq, iNe_eq, bNot_eq, bEq_eq, bNe_eq, brB_nb, brB_dec, brB_true, brB_false, chk_idx, chk_len, chk_make, chk_sub, bnd_one, rLen_eq, rGet_nat, rSet_nat, rApp_eq, ↓reduceIte]
    rw [if_pos (by omega), if_idx hi, fill_set hi, next_id hi (by omega), iAdd_id (by omega) (by omega)]
    congr 3
    omega
  · simp only [laws_markBoolS.s0, fill_end, List.length_map, List.length_range, iLt_eq, iLe_eq, iEq_eq, iNe_eq, bNot_eq, bEq_eq, bNe_eq, brB_nb, brB_dec, brB_true, brB_false, chk_idx, chk_len, chk_make, chk_sub, bnd_one, rLen_eq, rGet_nat, rSet_nat, rApp_eq, ↓reduceIte]
    rw [if_neg (by omega)]
    rfl
theorem heldBoolS_ev (n : Nat) (m : Int) (hn : n ≤ 1000000000000) (h0 : 0 ≤ m) (h1 : m ≤ 1000000000000) (k : Nat) (hk : n < k) : laws_heldBoolS.f k (bmarks m n) m = some (m + n) := by
  simp only [laws_heldBoolS.f, laws_heldBoolS.l0]
  have h := iter_upto (f := fun (rec : (List Bool × Int × Int) → Option Int) (x : List Bool × Int × Int) => laws_heldBoolS.s0 k rec x.1 x.2.1 x.2.2)
    (fun i => (bmarks m n, m + (i : Int), (i : Int))) n (r := m + n) (fun rec i hi => ?_) (fun rec => ?_) hk
  · simpa using h
  · simp only [laws_heldBoolS.s0, bmarks_len, chk_nz, Int.reduceEq, iLt_eq, iLe_eq, iEq_eq, iNe_eq, bNot_eq, bEq_eq, bNe_eq, brB_nb, brB_dec, brB_true, brB_false, chk_idx, chk_len, chk_make, chk_sub, bnd_one, rLen_eq, rGet_nat, rSet_nat, rApp_eq, ↓reduceIte]
    rw [if_pos (by omega), if_idx hi, bmarks, range_get n hi, if_pos rfl, next_id hi (by omega), iAdd_id (by omega) (by omega)]
    congr 3
    omega
  · simp only [laws_heldBoolS.s0, bmarks_len, iLt_eq, iLe_eq, iEq_eq, iNe_eq, bNot_eq, bEq_eq, bNe_eq, brB_nb, brB_dec, brB_true, brB_false, chk_idx, chk_len, chk_make, chk_sub, bnd_one, rLen_eq, rGet_nat, rSet_nat, rApp_eq, ↓reduceIte]
    rw [if_neg (by omega)]
theorem rGet_in {α : Type} (d : α) (l : List α) {v : Int} (h : 0 ≤ v) : rGet d l v = l.getD v.toNat d := rfl
theorem rSet_in {α : Type} (l : List α) {v : Int} (x : α) (h : 0 ≤ v) : rSet l v x = l.set v.toNat x := rfl
/-- A loop that looks for an element without a quality. -/
theorem iter_all {R : Type} {α : Type} {X : Type} {f : (X → Option R) → X → Option R} (s : Nat → X) (xs : List α) (p : α → Bool) (r e : Option R)
    (go : ∀ rec (i : Nat) (h : i < xs.length), p xs[i] = true → f rec (s i) = rec (s (i + 1))) (stop : ∀ rec (i : Nat) (h : i < xs.length), p xs[i] = false → f rec (s i) = e) (done : ∀ rec, f rec (s xs.length) = r) {n : Nat} (hn : xs.length < n) :
    iter f n (s 0) = brB (xs.all p) r e := by
  suffices H : ∀ d i n, i + d = xs.length → d < n → iter f n (s i) = brB ((xs.drop i).all p) r e from by
    have := H xs.length 0 n (by omega) hn
    simpa using this
  intro d
  induction d with
  | zero =>
    intro i n hi hn
    obtain ⟨m, rfl⟩ : ∃ m, n = m + 1 := ⟨n - 1, by omega⟩
    obtain rfl : i = xs.length := by omega
    rw [List.drop_length]
    exact done _
  | succ d ih =>
    intro i n hi hn
    obtain ⟨m, rfl⟩ : ∃ m, n = m + 1 := ⟨n - 1, by omega⟩
    show f (iter f m) (s i) = _
    have hlt : i < xs.length := by omega
    rw [List.drop_eq_getElem_cons hlt, List.all_cons]
    cases hq : p xs[i] with
    | false => rw [stop _ i hlt hq]; rfl
    | true => rw [go _ i hlt hq, ih (i + 1) m (by omega) (by omega), Bool.true_and]
theorem brB_chain {R : Type} {b c : Bool} {X r e : Option R} (h : b = true → X = brB c r e) : brB b X e = brB (b && c) r e := by
  cases b with
  | false => rfl
  | true => rw [brB_true, h rfl, Bool.true_and]
theorem if_chain {R : Type} {p : Prop} [Decidable p] {c : Bool} {X r e : Option R} (h : p → X = brB c r e) : (if p then X else e) = brB (decide p && c) r e := by
  by_cases hp : p
  · rw [if_pos hp, h hp, decide_eq_true hp, Bool.true_and]
  · rw [if_neg hp, decide_eq_false hp]; rfl
theorem if_chain_iff {R : Type} {p q : Prop} [Decidable p] [Decidable q] {c : Bool} {X r e : Option R} (hpq : p ↔ q) (h : q → X = brB c r e) : (if p then X else e) = brB (decide q && c) r e := by
  by_cases hp : p
  · rw [if_pos hp, h (hpq.1 hp), decide_eq_true (hpq.1 hp), Bool.true_and]
  · rw [if_neg hp, decide_eq_false (fun hq => hp (hpq.2 hq))]; rfl
theorem take_getD {α : Type} (d : α) (xs : List α) {i : Nat} (h : i ≤ xs.length) : xs.take i = (List.range i).map fun j => xs.getD j d := by
  apply List.ext_getElem?
  intro j
  rw [List.getElem?_take]
  by_cases hj : j < i
  · rw [if_pos hj]; simp [hj, List.getElem?_eq_getElem (show j < xs.length by omega)]
  · rw [if_neg hj, List.getElem?_eq_none (by simpa using Nat.le_of_not_lt hj)]
theorem take_all {α : Type} (d : α) (xs : List α) {i : Nat} (h : i ≤ xs.length) (q : α → Bool) : (xs.take i).all q = (List.range i).all fun j => q (xs.getD j d) := by
  rw [take_getD d xs h, List.all_map]; rfl
/-- A node: its parent, its place, its functions. -/
def nd (xs : List (Int × Int × Int)) (i : Nat) : Int × Int × Int := xs.getD i (0, 0, 0)
theorem rGet_nd (xs : List (Int × Int × Int)) (i : Nat) : rGet (0, 0, 0) xs (i : Int) = nd xs i := rfl
def sameB (p d : Int) (x : Int × Int × Int) : Bool := decide (x.1 = p) && decide (x.2.1 = d)
def nodeB (xs : List (Int × Int × Int)) (i : Nat) : Bool :=
  decide (0 ≤ (nd xs i).1 ∧ (nd xs i).1 ≤ (i : Int) - 1) && (decide ((nd xs (nd xs i).1.toNat).2.2 = 0) && (decide (0 ≤ (nd xs i).2.1 ∧ (nd xs i).2.1 ≤ 3) && (decide (0 ≤ (nd xs i).2.2 ∧ (nd xs i).2.2 ≤ 4) &&
    (List.range i).all fun j => !sameB (nd xs i).1 (nd xs i).2.1 (nd xs j))))
def rootB (xs : List (Int × Int × Int)) : Bool := decide ((nd xs 0).1 = -1) && (decide ((nd xs 0).2.1 = 0) && (decide ((nd xs 0).2.2 = 0) && true))
/-- A tree is valid. -/
def treeB (xs : List (Int × Int × Int)) : Bool := decide (1 ≤ (xs.length : Int) ∧ (xs.length : Int) ≤ 12) && (rootB xs && (List.range (xs.length - 1)).all fun i => nodeB xs (i + 1))
theorem specDup (xs : List (Int × Int × Int)) (p d f : Int) (i : Nat) (hi : i < xs.length) (hx : xs.length ≤ 1048576) (hr : (nd xs 0).1 ≠ p) (rec : List (Int × Int × Int) × Int → Option Bool) (k : Nat) (hk : xs.length < k) :
    spec_TreeOk.l1 k k rec xs (i : Int) 1 p d f = brB ((List.range i).all fun j => !sameB p d (nd xs j)) (rec (xs, ((i + 1 : Nat) : Int))) (some false) := by
  simp only [spec_TreeOk.l1]
  have h := iter_all (f := fun (rec' : (List (Int × Int × Int) × Int × Int × Int × Int × Int) → Option Bool) (x : List (Int × Int × Int) × Int × Int × Int × Int × Int) => spec_TreeOk.s1 k rec rec' x.1 x.2.1 x.2.2.1 x.2.2.2.1 x.2.2.2.2.1 x.2.2.2.2.2)
    (fun j => (xs, (i : Int), ((j + 1 : Nat) : Int), p, d, f)) (List.range (i - 1)) (fun j => !sameB p d (nd xs (j + 1))) (rec (xs, ((i + 1 : Nat) : Int))) (some false) (fun rec' j hj hp => ?_) (fun rec' j hj hp => ?_) (fun rec' => ?_) (n := k) (by simp; omega)
  · refine h.trans ?_
    congr 1
    cases i with
    | zero => rfl
    | succ i =>
      rw [List.range_succ_eq_map, List.all_cons, List.all_map]
      rw [show sameB p d (nd xs 0) = false by simp [sameB, hr]]
      rfl
  · simp only [List.length_range] at hj
    simp only [List.getElem_range, sameB] at hp
    simp only [spec_TreeOk.s1, iLt_eq, iEq_eq, brB_dec, chk_idx, rLen_eq, rGet_nd]
    rw [if_pos (by omega), if_idx (by omega), if_idx (by omega), next_id (i := j + 1) (n := xs.length) (by omega) (by omega)]
    by_cases h1 : (nd xs (j + 1)).1 = p <;> by_cases h2 : (nd xs (j + 1)).2.1 = d <;> simp [h1, h2] at hp ⊢
  · simp only [List.length_range] at hj
    simp only [List.getElem_range, sameB] at hp
    simp only [spec_TreeOk.s1, iLt_eq, iEq_eq, brB_dec, chk_idx, rLen_eq, rGet_nd]
    rw [if_pos (by omega), if_idx (by omega), if_idx (by omega)]
    by_cases h1 : (nd xs (j + 1)).1 = p <;> by_cases h2 : (nd xs (j + 1)).2.1 = d <;> simp [h1, h2] at hp ⊢
  · simp only [List.length_range, spec_TreeOk.s1, iLt_eq, brB_dec]
    rw [if_neg (by omega), next_id (n := xs.length) hi (by omega)]
theorem specNode (xs : List (Int × Int × Int)) (i : Nat) (h0 : 0 < i) (hi : i < xs.length) (hx : xs.length ≤ 1048576) (hr : (nd xs 0).1 = -1) (rec : List (Int × Int × Int) × Int → Option Bool) (k : Nat) (hk : xs.length < k) :
    spec_TreeOk.s0 k rec xs (i : Int) = brB (nodeB xs i) (rec (xs, ((i + 1 : Nat) : Int))) (some false) := by
  simp only [spec_TreeOk.s0, l01In_eq, iLt_eq, iNe_eq, brB_nb, brB_dec, chk_idx, bnd_one, bNot_eq, rLen_eq, rGet_nd]
  rw [if_pos (by omega), if_idx hi, iSub_id (by omega) (by omega)]
  refine if_chain fun c1 => ?_
  rw [if_pos (by omega)]
  have e : rGet (0, 0, 0) xs (nd xs i).1 = nd xs (nd xs i).1.toNat := rfl
  rw [e]
  refine if_chain fun c2 => ?_
  refine if_chain fun c3 => ?_
  refine if_chain fun c4 => ?_
  exact specDup xs _ _ _ i hi hx (by rw [hr]; omega) rec k hk
theorem specTreeOk_ev (xs : List (Int × Int × Int)) (hx : xs.length ≤ 1048576) (k : Nat) (hk : xs.length < k) : spec_TreeOk.f k xs = some (treeB xs) := by
  simp only [spec_TreeOk.f, l01In_eq, bnd_one, rLen_eq, bNot_eq, brB_nb, brB_dec, chk_idx]
  refine if_and' fun c1 => ?_
  rw [if_pos (by omega)]
  rw [show rGet (0, 0, 0) xs 0 = nd xs 0 from rfl]
  simp only [iEq_eq, bAnd]
  refine brB_and' fun c2 => ?_
  have hr : (nd xs 0).1 = -1 := by
    simp only [Bool.and_eq_true, decide_eq_true_eq] at c2
    exact c2.1
  simp only [spec_TreeOk.l0]
  have h := iter_all (f := fun (rec : (List (Int × Int × Int) × Int) → Option Bool) (x : List (Int × Int × Int) × Int) => spec_TreeOk.s0 k rec x.1 x.2) (fun i => (xs, ((i + 1 : Nat) : Int))) (List.range (xs.length - 1)) (fun i => nodeB xs (i + 1)) (some true) (some false)
    (fun rec i hi hp => ?_) (fun rec i hi hp => ?_) (fun rec => ?_) (n := k) (by simp; omega)
  · refine h.trans ?_
    cases (List.range (xs.length - 1)).all fun i => nodeB xs (i + 1) <;> rfl
  · simp only [List.length_range] at hi
    simp only [List.getElem_range] at hp
    simp only
    rw [specNode xs (i + 1) (by omega) (by omega) hx hr rec k hk, hp]; rfl
  · simp only [List.length_range] at hi
    simp only [List.getElem_range] at hp
    simp only
    rw [specNode xs (i + 1) (by omega) (by omega) hx hr rec k hk, hp]; rfl
  · simp only [List.length_range, spec_TreeOk.s0, iLt_eq, brB_dec, rLen_eq]
    rw [if_neg (by omega)]
theorem indexSame (l : List (Int × Int × Int)) (p d f : Int) (hl : l.length ≤ 4611686018427387904) (k : Nat) (hk : l.length < k) : slices_IndexFunc_Node_impl_TreeOk_1.f k l p d f = some (match l.findIdx? (fun x => !!sameB p d x) with | some i => (i : Int) | none => -1, p, d, f) := by
  simp only [slices_IndexFunc_Node_impl_TreeOk_1.f, slices_IndexFunc_Node_impl_TreeOk_1.l0]
  have one : ∀ x : Int × Int × Int, impl_TreeOk_1.f k x.1 x.2.1 x.2.2 p d f = some (sameB p d x, p, d, f) := fun x => by
    simp only [impl_TreeOk_1.f, iEq_eq, brB_dec, sameB]
    split <;> rename_i h <;> simp [h]
  have h := iter_find (f := fun (rec : (List (Int × Int × Int) × Int × Int × Int × Int × Int) → Option (Int × Int × Int × Int)) (x : List (Int × Int × Int) × Int × Int × Int × Int × Int) => slices_IndexFunc_Node_impl_TreeOk_1.s0 k rec x.1 x.2.1 x.2.2.1 x.2.2.2.1 x.2.2.2.2.1 x.2.2.2.2.2) (fun i => (l, rLen l, (i : Int), p, d, f)) l (fun x => !sameB p d x) (-1, p, d, f) (fun i => ((i : Int), p, d, f)) (fun rec i hi hp => ?_) (fun rec i hi hp => ?_) (fun rec => ?_) hk
  · refine h.trans ?_
    cases l.findIdx? (fun x => !!sameB p d x) <;> rfl
  · simp only [slices_IndexFunc_Node_impl_TreeOk_1.s0, iLt_eq, brB_dec, chk_idx, rLen_eq, rGet_nat, one, bnd_one, getD_lt _ _ hi]
    rw [if_pos (by omega), if_idx hi, next_id hi hl]
    rw [show sameB p d l[i] = false by simpa using hp]; rfl
  · simp only [slices_IndexFunc_Node_impl_TreeOk_1.s0, iLt_eq, brB_dec, chk_idx, rLen_eq, rGet_nat, one, bnd_one, getD_lt _ _ hi]
    rw [if_pos (by omega), if_idx hi]
    rw [show sameB p d l[i] = true by simpa using hp]; rfl
  · simp only [slices_IndexFunc_Node_impl_TreeOk_1.s0, iLt_eq, brB_dec, rLen_eq]
    rw [if_neg (by omega)]
theorem containsSame (l : List (Int × Int × Int)) (p d f : Int) (hl : l.length ≤ 4611686018427387904) (k : Nat) (hk : l.length < k) : slices_ContainsFunc_Node_impl_TreeOk_1.f k l p d f = some (!l.all (fun x => !sameB p d x), p, d, f) := by
  simp only [slices_ContainsFunc_Node_impl_TreeOk_1.f, indexSame l p d f hl k hk, bnd_one, found_iff l (fun x => !sameB p d x)]
theorem implNode (xs : List (Int × Int × Int)) (i : Nat) (hi : i + 1 < xs.length) (hx : xs.length ≤ 1048576) (rec : List (Int × Int × Int) × List (Int × Int × Int) × Int × Int → Option Bool) (k : Nat) (hk : xs.length < k) :
    impl_TreeOk.s0 k rec xs (rSub xs 1 (xs.length : Int)) ((xs.length - 1 : Nat) : Int) (i : Int) = brB (nodeB xs (i + 1)) (rec (xs, rSub xs 1 (xs.length : Int), ((xs.length - 1 : Nat) : Int), ((i + 1 : Nat) : Int))) (some false) := by
  have e1 : rSub xs 1 (xs.length : Int) = xs.drop 1 := by simp [rSub]
  have e2 : rSub xs 0 ((i + 1 : Nat) : Int) = xs.take (i + 1) := by simp [rSub]
  have e3 : rGet (0, 0, 0) (xs.drop 1) (i : Int) = nd xs (i + 1) := by
    rw [rGet_nat, nd, List.getD_eq_getElem?_getD, List.getElem?_drop, Nat.add_comm, ← List.getD_eq_getElem?_getD]
  have e4 : (xs.take (i + 1)).length = i + 1 := by simp; omega
  simp only [impl_TreeOk.s0, within_eq, iLt_eq, iNe_eq, brB_nb, brB_dec, chk_idx, chk_sub, bnd_one, bNot_eq, rLen_eq, e1, e3, next_id (i := i) (n := xs.length) (by omega) (by omega), e2, e4, List.length_drop]
  rw [if_pos (by omega), if_idx (by omega), if_pos (by omega)]
  refine if_chain_iff (q := 0 ≤ (nd xs (i + 1)).1 ∧ (nd xs (i + 1)).1 ≤ ((i + 1 : Nat) : Int) - 1) (by omega) fun c1 => ?_
  rw [if_pos (by omega)]
  have e5 : rGet (0, 0, 0) (xs.take (i + 1)) (nd xs (i + 1)).1 = nd xs (nd xs (i + 1)).1.toNat := by
    simp only [rGet, nd, List.getD_eq_getElem?_getD, List.getElem?_take] at c1 ⊢
    rw [if_pos (by omega)]
  rw [e5]
  refine if_chain fun c2 => ?_
  refine if_chain fun c3 => ?_
  refine if_chain fun c4 => ?_
  rw [containsSame (xs.take (i + 1)) _ _ _ (by omega) k (by omega)]
  simp only [bnd_one, brB_nb]
  rw [take_all (0, 0, 0) xs (by omega)]
  rfl
theorem implTreeOk_ev (xs : List (Int × Int × Int)) (hx : xs.length ≤ 1048576) (k : Nat) (hk : xs.length < k) : impl_TreeOk.f k xs = some (treeB xs) := by
  simp only [impl_TreeOk.f, within_eq, bnd_one, rLen_eq, bNot_eq, brB_nb, brB_dec, chk_idx, chk_sub]
  refine if_and' fun c1 => ?_
  rw [if_pos (by omega)]
  rw [show rGet (0, 0, 0) xs 0 = nd xs 0 from rfl]
  simp only [iEq_eq, bAnd]
  refine brB_and' fun c2 => ?_
  rw [if_pos (by omega)]
  have e1 : (rSub xs 1 (xs.length : Int)).length = xs.length - 1 := by simp [rSub]
  simp only [impl_TreeOk.l0, e1]
  have h := iter_all (f := fun (rec : (List (Int × Int × Int) × List (Int × Int × Int) × Int × Int) → Option Bool) (x : List (Int × Int × Int) × List (Int × Int × Int) × Int × Int) => impl_TreeOk.s0 k rec x.1 x.2.1 x.2.2.1 x.2.2.2) (fun i => (xs, rSub xs 1 (xs.length : Int), ((xs.length - 1 : Nat) : Int), (i : Int))) (List.range (xs.length - 1)) (fun i => nodeB xs (i + 1)) (some true) (some false)
    (fun rec i hi hp => ?_) (fun rec i hi hp => ?_) (fun rec => ?_) (n := k) (by simp; omega)
  · refine h.trans ?_
    cases (List.range (xs.length - 1)).all fun i => nodeB xs (i + 1) <;> rfl
  · simp only [List.length_range] at hi
    simp only [List.getElem_range] at hp
    simp only
    rw [implNode xs i (by omega) hx rec k hk, hp]; rfl
  · simp only [List.length_range] at hi
    simp only [List.getElem_range] at hp
    simp only
    rw [implNode xs i (by omega) hx rec k hk, hp]; rfl
  · simp only [List.length_range, impl_TreeOk.s0, iLt_eq, brB_dec, rLen_eq]
    rw [if_neg (by omega)]
/-- A guard is valid. -/
def guardB (xs : List (Int × Int × Int)) (g : List Bool) : Bool := treeB xs && (decide ((g.length : Int) = (xs.length : Int)) && g.getD 0 false)
theorem tree_len {xs : List (Int × Int × Int)} (h : treeB xs = true) : 1 ≤ xs.length ∧ xs.length ≤ 12 := by
  simp only [treeB, Bool.and_eq_true, decide_eq_true_eq] at h
  omega
theorem specGuardOk_ev (xs : List (Int × Int × Int)) (g : List Bool) (hx : xs.length ≤ 1048576) (k : Nat) (hk : xs.length < k) : spec_GuardOk.f k xs g = some (guardB xs g) := by
  simp only [spec_GuardOk.f, specTreeOk_ev xs hx k hk, bnd_one, iEq_eq, brB_dec, chk_idx, rLen_eq]
  refine brB_and' fun c1 => ?_
  have := tree_len c1
  refine if_and' fun c2 => ?_
  rw [if_pos (by omega)]
  rfl
theorem implGuardOk_ev (xs : List (Int × Int × Int)) (g : List Bool) (hx : xs.length ≤ 1048576) (k : Nat) (hk : xs.length < k) : impl_GuardOk.f k xs g = some (guardB xs g) := by
  simp only [impl_GuardOk.f, implTreeOk_ev xs hx k hk, bnd_one, iEq_eq, brB_dec, chk_idx, rLen_eq]
  refine brB_and' fun c1 => ?_
  have := tree_len c1
  refine if_and' fun c2 => ?_
  rw [if_pos (by omega)]
  rfl
theorem szNodeS_eq (k : Nat) (l : List (Int × Int × Int)) (n : Int) (hl : l.length ≤ 9223372036854775807) (h0 : 0 ≤ n) (h1 : n ≤ 1048576) : laws_szNodeS.f k l n = some (if (l.length : Int) ≤ n then n - l.length else -1) := by
  simp only [laws_szNodeS.f, brB_lt, rLen_eq]
  rw [iSub_id (by omega) (by omega)]
  by_cases h : (l.length : Int) ≤ n
  · rw [if_neg (by omega), if_pos h]
  · rw [if_pos (by omega), if_neg h]
theorem szGuard_eq (k : Nat) (l : List Bool) (n : Int) (hl : l.length ≤ 9223372036854775807) (h0 : 0 ≤ n) (h1 : n ≤ 1048576) : laws_szGuard.f k l n = some (if (l.length : Int) ≤ n then n - l.length else -1) := by
  simp only [laws_szGuard.f, szBoolS_eq k l n hl h0 h1, iLt_eq, iLe_eq, iEq_eq, iNe_eq, bNot_eq, bEq_eq, bNe_eq, brB_nb, brB_dec, brB_true, brB_false, chk_idx, chk_len, chk_make, chk_sub, bnd_one, rLen_eq, rGet_nat, rSet_nat, rApp_eq, ↓reduceIte]
  (repeat' split) <;> first | rfl | omega
theorem toNodeS_ev (xs : List (Int × Int × Int)) (hn : xs.length ≤ 1048576) (k : Nat) (hk : xs.length < k) : laws_toNodeS.f k xs = some xs := by
  simp only [laws_toNodeS.f, laws_toNodeS.l0, iLt_eq, iLe_eq, iEq_eq, iNe_eq, bNot_eq, bEq_eq, bNe_eq, brB_nb, brB_dec, brB_true, brB_false, chk_idx, chk_len, chk_make, chk_sub, bnd_one, rLen_eq, rGet_nat, rSet_nat, rApp_eq, ↓reduceIte]
  rw [if_pos (by omega), rRep_nat]
  have h := iter_upto (f := fun (rec : (List (Int × Int × Int) × List (Int × Int × Int) × Int) → Option (List (Int × Int × Int))) (x : List (Int × Int × Int) × List (Int × Int × Int) × Int) => laws_toNodeS.s0 k rec x.1 x.2.1 x.2.2)
    (fun i => (xs, fill (fun j => xs.getD j (0, 0, 0)) (List.replicate xs.length (0, 0, 0)) i, (i : Int))) xs.length (r := xs) (fun rec i hi => ?_) (fun rec => ?_) hk
  · rw [fill_zero] at h; exact h
  · simp only [laws_toNodeS.s0, laws_toNode.f, fill_len (show i ≤ (List.replicate xs.length ((0, 0, 0) : Int × Int × Int)).length by simp; omega), List.length_replicate, iLt_eq, iLe_eq, iEq_eq, iNe_eq, bNot_eq, bEq_eq, bNe_eq, brB_nb, brB_dec, brB_true, brB_false, chk_idx, chk_len, chk_make, chk_sub, bnd_one, rLen_eq, rGet_nat, rSet_nat, rApp_eq, ↓reduceIte]
    rw [if_pos (by omega), if_idx hi, if_idx hi]
    rw [fill_set (by simpa using hi), next_id hi (by omega)]
  · have h2 := fill_end (g := fun j => xs.getD j (0, 0, 0)) (xs := List.replicate xs.length ((0, 0, 0) : Int × Int × Int))
    rw [List.length_replicate] at h2
    simp only [laws_toNodeS.s0, h2, range_getD, iLt_eq, iLe_eq, iEq_eq, iNe_eq, bNot_eq, bEq_eq, bNe_eq, brB_nb, brB_dec, brB_true, brB_false, chk_idx, chk_len, chk_make, chk_sub, bnd_one, rLen_eq, rGet_nat, rSet_nat, rApp_eq, ↓reduceIte]
    rw [if_neg (by omega)]
theorem toGuard_ev (xs : List Bool) (hn : xs.length ≤ 1048576) (k : Nat) (hk : xs.length < k) : laws_toGuard.f k xs = some xs := by
  simp only [laws_toGuard.f, toBoolS_ev xs hn k hk, bnd_one]
theorem eqNodeS_refl (xs : List (Int × Int × Int)) (hn : xs.length ≤ 4611686018427387904) (k : Nat) (hk : xs.length < k) : laws_eqNodeS.f k xs xs = some true := by
  simp only [laws_eqNodeS.f, laws_eqNodeS.l0, iLt_eq, iLe_eq, iEq_eq, iNe_eq, bNot_eq, bEq_eq, bNe_eq, brB_nb, brB_dec, brB_true, brB_false, chk_idx, chk_len, chk_make, chk_sub, bnd_one, rLen_eq, rGet_nat, rSet_nat, rApp_eq, ↓reduceIte]
  refine iter_upto (f := fun (rec : (List (Int × Int × Int) × List (Int × Int × Int) × Int) → Option Bool) (x : List (Int × Int × Int) × List (Int × Int × Int) × Int) => laws_eqNodeS.s0 k rec x.1 x.2.1 x.2.2) (fun i => (xs, xs, (i : Int))) xs.length (fun rec i hi => ?_) (fun rec => ?_) hk
  · simp only [laws_eqNodeS.s0, laws_eqNode.f, iLt_eq, iLe_eq, iEq_eq, iNe_eq, bNot_eq, bEq_eq, bNe_eq, brB_nb, brB_dec, brB_true, brB_false, chk_idx, chk_len, chk_make, chk_sub, bnd_one, rLen_eq, rGet_nat, rSet_nat, rApp_eq, ↓reduceIte]
    rw [if_pos (by omega), if_idx hi, if_idx hi, next_id hi hn]
  · simp only [laws_eqNodeS.s0, iLt_eq, iLe_eq, iEq_eq, iNe_eq, bNot_eq, bEq_eq, bNe_eq, brB_nb, brB_dec, brB_true, brB_false, chk_idx, chk_len, chk_make, chk_sub, bnd_one, rLen_eq, rGet_nat, rSet_nat, rApp_eq, ↓reduceIte]
    rw [if_neg (by omega)]
theorem eqGuard_refl (xs : List Bool) (hn : xs.length ≤ 4611686018427387904) (k : Nat) (hk : xs.length < k) : laws_eqGuard.f k xs xs = some true := by
  simp only [laws_eqGuard.f, eqBoolS_refl xs hn k hk, iLt_eq, iLe_eq, iEq_eq, iNe_eq, bNot_eq, bEq_eq, bNe_eq, brB_nb, brB_dec, brB_true, brB_false, chk_idx, chk_len, chk_make, chk_sub, bnd_one, rLen_eq, rGet_nat, rSet_nat, rApp_eq, ↓reduceIte]
theorem getD_set_self {α : Type} {d : α} {l : List α} {i : Nat} {x : α} (h : i < l.length) : (l.set i x).getD i d = x := by
  rw [List.getD_eq_getElem?_getD, List.getElem?_set, if_pos rfl, if_pos h]; rfl
def nmark (m : Int) (j : Nat) : Int × Int × Int := (m + 3 * (j : Int), m + 3 * (j : Int) + 1, m + 3 * (j : Int) + 2)
theorem markNodeS_ev (xs : List (Int × Int × Int)) (m : Int) (hn : xs.length ≤ 1000000000) (h0 : 0 ≤ m) (h1 : m ≤ 1000000000) (k : Nat) (hk : xs.length < k) : laws_markNodeS.f k xs m = some (m + 3 * (xs.length : Int), (List.range xs.length).map (nmark m)) := by
  simp only [laws_markNodeS.f, laws_markNodeS.l0]
  have h := iter_upto (f := fun (rec : (List (Int × Int × Int) × Int × Int) → Option (Int × List (Int × Int × Int))) (x : List (Int × Int × Int) × Int × Int) => laws_markNodeS.s0 k rec x.1 x.2.1 x.2.2)
    (fun i => (fill (nmark m) xs i, m + 3 * (i : Int), (i : Int))) xs.length (r := (m + 3 * (xs.length : Int), (List.range xs.length).map (nmark m))) (fun rec i hi => ?_) (fun rec => ?_) hk
  · rw [fill_zero] at h; simpa using h
  · have hl : i < (fill (nmark m) xs i).length := by rw [fill_len (Nat.le_of_lt hi)]; exact hi
    simp only [laws_markNodeS.s0, iLt_eq, brB_dec, chk_idx, rLen_eq, rGet_nat, rSet_nat, List.length_set, getD_set_self, hl, List.set_set]
    rw [fill_len (Nat.le_of_lt hi), if_pos (by omega), if_idx hi, if_idx hi, if_idx hi]
    rw [iAdd_id (a := m + 3 * (i : Int)) (b := 1) (by omega) (by omega), iAdd_id (a := m + 3 * (i : Int) + 1) (b := 1) (by omega) (by omega), iAdd_id (a := m + 3 * (i : Int) + 1 + 1) (b := 1) (by omega) (by omega), next_id hi (by omega)]
    have e : (m + 3 * (i : Int), m + 3 * (i : Int) + 1, m + 3 * (i : Int) + 1 + 1) = nmark m i := by simp only [nmark]; congr 2; omega
    rw [e, fill_set hi]
    congr 3
    omega
  · simp only [laws_markNodeS.s0, fill_end, List.length_map, List.length_range, iLt_eq, brB_dec, rLen_eq]
    rw [if_neg (by omega)]
theorem markGuard_ev (l : List Bool) (m : Int) (hn : l.length ≤ 1000000000000) (h0 : 0 ≤ m) (h1 : m ≤ 1000000000000) (k : Nat) (hk : l.length < k) : laws_markGuard.f k l m = some (m + l.length, bmarks m l.length) := by
  simp only [laws_markGuard.f, markBoolS_ev l m hn h0 h1 k hk, bnd_one]
theorem heldGuard_ev (n : Nat) (m : Int) (hn : n ≤ 1000000000000) (h0 : 0 ≤ m) (h1 : m ≤ 1000000000000) (k : Nat) (hk : n < k) : laws_heldGuard.f k (bmarks m n) m = some (m + n) := by
  simp only [laws_heldGuard.f, heldBoolS_ev n m hn h0 h1 k hk, iLt_eq, iLe_eq, iEq_eq, iNe_eq, bNot_eq, bEq_eq, bNe_eq, brB_nb, brB_dec, brB_true, brB_false, chk_idx, chk_len, chk_make, chk_sub, bnd_one, rLen_eq, rGet_nat, rSet_nat, rApp_eq, ↓reduceIte]
  rw [if_neg (by omega)]
/-- What the setting of a node gives. -/
def setB (xs : List (Int × Int × Int)) (g : List Bool) (n : Int) (v : Bool) : List Bool × Bool :=
  if guardB xs g = true ∧ (1 ≤ n ∧ n ≤ (xs.length : Int) - 1) ∧ g.getD n.toNat false ≠ v then (g.set n.toNat v, true) else (g, false)
theorem setB_len (xs : List (Int × Int × Int)) (g : List Bool) (n : Int) (v : Bool) : (setB xs g n v).1.length = g.length := by
  unfold setB; split <;> simp
theorem guard_len {xs : List (Int × Int × Int)} {g : List Bool} (h : guardB xs g = true) : g.length = xs.length := by
  simp only [guardB, Bool.and_eq_true, decide_eq_true_eq] at h
  omega
theorem specSet_ev (xs : List (Int × Int × Int)) (g : List Bool) (n : Int) (v : Bool) (hx : xs.length ≤ 1048576) (hg : g.length ≤ 1048576) (k : Nat) (hk : xs.length < k) : spec_l33Set.f k xs g n v = some (setB xs g n v) := by
  simp only [spec_l33Set.f, specGuardOk_ev xs g hx k hk, List.nil_append, l01In_eq, iLt_eq, iLe_eq, iEq_eq, iNe_eq, bNot_eq, bEq_eq, bNe_eq, brB_nb, brB_dec, brB_true, brB_false, chk_idx, chk_len, chk_make, chk_sub, bnd_one, rLen_eq, rGet_nat, rSet_nat, rApp_eq, ↓reduceIte]
  rw [if_pos (by omega), iSub_id (by omega) (by omega)]
  unfold setB
  cases h : guardB xs g with
  | false => simp [brB]
  | true =>
    have := guard_len h
    by_cases c : 1 ≤ n ∧ n ≤ (xs.length : Int) - 1
    · rw [brB_true, if_pos c, if_pos (by omega), rGet_in _ g (by omega)]
      by_cases c2 : g.getD n.toNat false = v
      · rw [if_pos c2, if_neg (fun h => h.2.2 c2)]
      · rw [if_neg c2, if_pos (by omega), rSet_in g _ (by omega), if_pos ⟨rfl, c, c2⟩]
    · rw [brB_true, if_neg c, if_neg (fun h => c h.2.1)]
theorem implSet_ev (xs : List (Int × Int × Int)) (g : List Bool) (n : Int) (v : Bool) (hx : xs.length ≤ 1048576) (hg : g.length ≤ 1048576) (k : Nat) (hk : xs.length < k) : impl_setNode.f k xs g n v = some (setB xs g n v) := by
  simp only [impl_setNode.f, slices_Clone_bool.f, implGuardOk_ev xs g hx k hk, within_eq, iLt_eq, iLe_eq, iEq_eq, iNe_eq, bNot_eq, bEq_eq, bNe_eq, brB_nb, brB_dec, brB_true, brB_false, chk_idx, chk_len, chk_make, chk_sub, bnd_one, rLen_eq, rGet_nat, rSet_nat, rApp_eq, ↓reduceIte]
  rw [if_pos (by omega), iSub_id (by omega) (by omega)]
  simp only [bnd_one]
  unfold setB
  cases h : guardB xs g with
  | false => simp [brB]
  | true =>
    have := guard_len h
    by_cases c : 1 ≤ n ∧ n ≤ (xs.length : Int) - 1
    · rw [brB_true, if_pos c, if_pos (by omega), rGet_in _ g (by omega)]
      by_cases c2 : g.getD n.toNat false = v
      · rw [if_pos c2, if_neg (fun h => h.2.2 c2)]
      · rw [if_neg c2, if_pos (by omega), rSet_in g _ (by omega), if_pos ⟨rfl, c, c2⟩]
    · rw [brB_true, if_neg c, if_neg (fun h => c h.2.1)]
theorem laws_FnExactOpenNode.main (xs : List (Int × Int × Int)) (g : List Bool) (n : Int) (hx : xs.length ≤ 9223372036854775807) (hg : g.length ≤ 9223372036854775807) : ∃ k, laws_FnExactOpenNode.f k xs g n = some true := by
  refine ⟨xs.length + g.length + 2, ?_⟩
  generalize hk : xs.length + g.length + 2 = k
  by_cases c1 : (xs.length : Int) ≤ 1048576
  · by_cases c2 : (g.length : Int) ≤ 1048576 - xs.length
    · have tx := toNodeS_ev xs (by omega) k (by omega)
      have tg := toGuard_ev g (by omega) k (by omega)
      have f1 := specSet_ev xs g n true (by omega) (by omega) k (by omega)
      have f2 := implSet_ev xs g n true (by omega) (by omega) k (by omega)
      have hl := setB_len xs g n true
      generalize setB xs g n true = r at f1 f2 hl
      obtain ⟨r, b⟩ := r
      simp only at hl
      have e := eqGuard_refl r (by omega) k (by omega)
      have ex := eqNodeS_refl xs (by omega) k (by omega)
      have eg := eqGuard_refl g (by omega) k (by omega)
      have mx := markNodeS_ev xs 1 (by omega) (by omega) (by omega) k (by omega)
      have mg := markGuard_ev g (1 + 3 * (xs.length : Int)) (by omega) (by omega) (by omega) k (by omega)
      have mr := markGuard_ev r 1 (by omega) (by omega) (by omega) k (by omega)
      have hr := heldGuard_ev r.length 1 (by omega) (by omega) (by omega) k (by omega)
      simp only [laws_FnExactOpenNode.f, spec_OpenNode.f, impl_OpenNode.f, szNodeS_eq k xs 1048576 hx (by omega) (by omega), if_pos c1, szGuard_eq k g (1048576 - xs.length) hg (by omega) (by omega), if_pos c2,
        tx, tg, f1, f2, e, ex, eg, mx, mg, mr, hr, iLt_eq, iLe_eq, iEq_eq, iNe_eq, bNot_eq, bEq_eq, bNe_eq, brB_nb, brB_dec, brB_true, brB_false, chk_idx, chk_len, chk_make, chk_sub, bnd_one, rLen_eq, rGet_nat, rSet_nat, rApp_eq, ↓reduceIte, decide_true]
      repeat rw [if_neg (by omega)]
    · simp only [laws_FnExactOpenNode.f, szNodeS_eq k xs 1048576 hx (by omega) (by omega), if_pos c1, szGuard_eq k g (1048576 - xs.length) hg (by omega) (by omega), if_neg c2, iLt_eq, iLe_eq, iEq_eq, iNe_eq, bNot_eq, bEq_eq, bNe_eq, brB_nb, brB_dec, brB_true, brB_false, chk_idx, chk_len, chk_make, chk_sub, bnd_one, rLen_eq, rGet_nat, rSet_nat, rApp_eq, ↓reduceIte]
      repeat rw [if_neg (by omega)]
      rfl
  · simp only [laws_FnExactOpenNode.f, szNodeS_eq k xs 1048576 hx (by omega) (by omega), if_neg c1, iLt_eq, iLe_eq, iEq_eq, iNe_eq, bNot_eq, bEq_eq, bNe_eq, brB_nb, brB_dec, brB_true, brB_false, chk_idx, chk_len, chk_make, chk_sub, bnd_one, rLen_eq, rGet_nat, rSet_nat, rApp_eq, ↓reduceIte]
    rfl
theorem laws_FnExactOpenNode.pure : ∀ x : laws_FnExactOpenNode.sig.inTy.T, Good laws_FnExactOpenNode.sig.inTy x → ∃ k, laws_FnExactOpenNode.spec.fn k x = some true :=
  fun x h => laws_FnExactOpenNode.main x.1 x.2.1 x.2.2 h.1.1 h.2.1.1
end Go.Proofs.YtknaadbgljjpiaaT

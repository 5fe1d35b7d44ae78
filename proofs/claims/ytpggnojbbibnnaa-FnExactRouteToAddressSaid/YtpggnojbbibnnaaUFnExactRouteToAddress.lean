/- What the functions of FnExactRouteToAddress give, in plain terms. -/
import Derived.Test.YtpggnojbbibnnaaFFnExactRouteToAddress
import Derived.Test.YtpggnojbbibnnaaTiPL
set_option linter.unusedVariables false
set_option linter.unusedSimpArgs false
set_option maxRecDepth 100000
namespace Go.Proofs.YtpggnojbbibnnaaT
open Go
theorem iLe_eq (a b : Int) : iLe a b = decide (a ≤ b) := rfl
theorem iLt_eq (a b : Int) : iLt a b = decide (a < b) := rfl
theorem iEq_eq (a b : Int) : iEq a b = decide (a = b) := by by_cases h : a = b <;> simp [iEq, h]
theorem iNe_eq (a b : Int) : iNe a b = !decide (a = b) := by by_cases h : a = b <;> simp [iNe, h]
theorem bNot_eq (a : Bool) : bNot a = !a := rfl
/-- A loop that looks for the first element with a quality. -/
theorem iter_find {R : Type} {α : Type} {X : Type} {f : (X → Option R) → X → Option R} (s : Nat → X) (xs : List α) (p : α → Bool) (r : R) (e : Nat → R)
    (go : ∀ rec (i : Nat) (h : i < xs.length), p xs[i] = true → f rec (s i) = rec (s (i + 1))) (stop : ∀ rec (i : Nat) (h : i < xs.length), p xs[i] = false → f rec (s i) = some (e i)) (done : ∀ rec, f rec (s xs.length) = some r) {n : Nat} (hn : xs.length < n) :
    iter f n (s 0) = some (match xs.findIdx? (fun x => !p x) with | some i => e i | none => r) := by
  suffices H : ∀ d i n, i + d = xs.length → d < n → (∀ j (h : j < xs.length), j < i → p xs[j] = true) → iter f n (s i) = some (match xs.findIdx? (fun x => !p x) with | some i => e i | none => r) from H xs.length 0 n (by omega) hn (fun j _ h => by omega)
  intro d
  induction d with
  | zero =>
    intro i n hi hn hp
    obtain ⟨m, rfl⟩ : ∃ m, n = m + 1 := ⟨n - 1, by omega⟩
    obtain rfl : i = xs.length := by omega
    have : xs.findIdx? (fun x => !p x) = none := by
      rw [List.findIdx?_eq_none_iff]
      intro x hx
      obtain ⟨j, hj, rfl⟩ := List.mem_iff_getElem.1 hx
      simp [hp j hj (by omega)]
    rw [this]
    exact done _
  | succ d ih =>
    intro i n hi hn hp
    obtain ⟨m, rfl⟩ : ∃ m, n = m + 1 := ⟨n - 1, by omega⟩
    show f (iter f m) (s i) = _
    have hlt : i < xs.length := by omega
    by_cases hq : p xs[i] = false
    · rw [stop _ i hlt hq]
      have : xs.findIdx? (fun x => !p x) = some i := by
        rw [List.findIdx?_eq_some_iff_getElem]
        exact ⟨hlt, by simp [hq], fun j hj => by simp [hp j (by omega) hj]⟩
      rw [this]
    · have hq : p xs[i] = true := by simpa using hq
      rw [go _ i hlt hq]
      refine ih (i + 1) m (by omega) (by omega) fun j h hj => ?_
      rcases Nat.lt_or_ge j i with h' | h'
      · exact hp j h h'
      · obtain rfl : j = i := by omega
        exact hq
theorem getD_lt {α : Type} (d : α) (xs : List α) {i : Nat} (h : i < xs.length) : xs.getD i d = xs[i] := by
  rw [List.getD_eq_getElem?_getD, List.getElem?_eq_getElem h]; rfl
theorem bEq_eq (a b : Bool) : bEq a b = decide (a = b) := by cases a <;> cases b <;> rfl
theorem bNe_eq (a b : Bool) : bNe a b = !decide (a = b) := by cases a <;> cases b <;> rfl
theorem brB_nb {R : Type} (b : Bool) (x y : Option R) : brB (!b) x y = brB b y x := by cases b <;> rfl
theorem brB_dec {R : Type} (p : Prop) [Decidable p] (x y : Option R) : brB (decide p) x y = if p then x else y := by by_cases h : p <;> simp [h, brB]
theorem if_idx {R : Type} {i n : Nat} {x : Option R} (h : i < n) : (if 0 ≤ (i : Int) ∧ (i : Int) < (n : Int) then x else none) = x := if_pos (by omega)
theorem l01In_eq (k : Nat) (x a b : Int) : spec_l01In.f k x a b = some (decide (a ≤ x ∧ x ≤ b)) := by
  simp only [spec_l01In.f, iLt_eq, iLe_eq, iEq_eq, iNe_eq, bNot_eq, bEq_eq, bNe_eq, brB_nb, brB_dec, brB_true, brB_false, chk_idx, chk_len, chk_make, chk_sub, bnd_one, rLen_eq, rGet_nat, rSet_nat, rApp_eq, ↓reduceIte]; split <;> rename_i h <;> simp [h]
theorem within_eq (k : Nat) (x a b : Int) : impl_within.f k x a b = some (decide (a ≤ x ∧ x ≤ b)) := by
  simp only [impl_within.f, iLt_eq, iLe_eq, iEq_eq, iNe_eq, bNot_eq, bEq_eq, bNe_eq, brB_nb, brB_dec, brB_true, brB_false, chk_idx, chk_len, chk_make, chk_sub, bnd_one, rLen_eq, rGet_nat, rSet_nat, rApp_eq, ↓reduceIte]; split <;> rename_i h <;> simp [h]
theorem eqIntS_refl (xs : List Int) (hn : xs.length ≤ 4611686018427387904) (k : Nat) (hk : xs.length < k) : laws_eqIntS.f k xs xs = some true := by
  simp only [laws_eqIntS.f, laws_eqIntS.l0, iLt_eq, iLe_eq, iEq_eq, iNe_eq, bNot_eq, bEq_eq, bNe_eq, brB_nb, brB_dec, brB_true, brB_false, chk_idx, chk_len, chk_make, chk_sub, bnd_one, rLen_eq, rGet_nat, rSet_nat, rApp_eq, ↓reduceIte]
  refine iter_upto (f := fun (rec : (List Int × List Int × Int) → Option Bool) (x : List Int × List Int × Int) => laws_eqIntS.s0 k rec x.1 x.2.1 x.2.2) (fun i => (xs, xs, (i : Int))) xs.length (fun rec i hi => ?_) (fun rec => ?_) hk
  · simp only [laws_eqIntS.s0, iLt_eq, iLe_eq, iEq_eq, iNe_eq, bNot_eq, bEq_eq, bNe_eq, brB_nb, brB_dec, brB_true, brB_false, chk_idx, chk_len, chk_make, chk_sub, bnd_one, rLen_eq, rGet_nat, rSet_nat, rApp_eq, ↓reduceIte]
    rw [if_pos (by omega), if_idx hi, if_idx hi, next_id hi hn]
  · simp only [laws_eqIntS.s0, iLt_eq, iLe_eq, iEq_eq, iNe_eq, bNot_eq, bEq_eq, bNe_eq, brB_nb, brB_dec, brB_true, brB_false, chk_idx, chk_len, chk_make, chk_sub, bnd_one, rLen_eq, rGet_nat, rSet_nat, rApp_eq, ↓reduceIte]
    rw [if_neg (by omega)]
/-- The marks of a row of numbers. -/
def marks (m : Int) (n : Nat) : List Int := (List.range n).map fun (j : Nat) => m + (j : Int)
theorem marks_len (m : Int) (n : Nat) : (marks m n).length = n := by simp [marks]
theorem markIntS_ev (xs : List Int) (m : Int) (hn : xs.length ≤ 1000000000000) (h0 : 0 ≤ m) (h1 : m ≤ 1000000000000) (k : Nat) (hk : xs.length < k) : laws_markIntS.f k xs m = some (m + xs.length, marks m xs.length) := by
  simp only [laws_markIntS.f, laws_markIntS.l0]
  have h := iter_upto (f := fun (rec : (List Int × Int × Int) → Option (Int × List Int)) (x : List Int × Int × Int) => laws_markIntS.s0 k rec x.1 x.2.1 x.2.2)
    (fun i => (fill (fun (j : Nat) => m + (j : Int)) xs i, m + (i : Int), (i : Int))) xs.length (r := (m + xs.length, marks m xs.length)) (fun rec i hi => ?_) (fun rec => ?_) hk
  · rw [fill_zero] at h; simpa using h
  · simp only [laws_markIntS.s0, fill_len (Nat.le_of_lt hi), iLt_eq, iLe_eq, iEq_eq, iNe_eq, bNot_eq, bEq_eq, bNe_eq, brB_nb, brB_dec, brB_true, brB_false, chk_idx, chk_len, chk_make, chk_sub, bnd_one, rLen_eq, rGet_nat, rSet_nat, rApp_eq, ↓reduceIte]
    rw [if_pos (by omega), if_idx hi, fill_set hi, next_id hi (by omega), iAdd_id (by omega) (by omega)]
    congr 3
    omega
  · simp only [laws_markIntS.s0, fill_end, List.length_map, List.length_range, iLt_eq, iLe_eq, iEq_eq, iNe_eq, bNot_eq, bEq_eq, bNe_eq, brB_nb, brB_dec, brB_true, brB_false, chk_idx, chk_len, chk_make, chk_sub, bnd_one, rLen_eq, rGet_nat, rSet_nat, rApp_eq, ↓reduceIte]
    rw [if_neg (by omega)]
    rfl
theorem heldIntS_ev (n : Nat) (m : Int) (hn : n ≤ 1000000000000) (h0 : 0 ≤ m) (h1 : m ≤ 1000000000000) (k : Nat) (hk : n < k) : laws_heldIntS.f k (marks m n) m = some (m + n) := by
  simp only [laws_heldIntS.f, laws_heldIntS.l0]
  have h := iter_upto (f := fun (rec : (List Int × Int × Int) → Option Int) (x : List Int × Int × Int) => laws_heldIntS.s0 k rec x.1 x.2.1 x.2.2)
    (fun i => (marks m n, m + (i : Int), (i : Int))) n (r := m + n) (fun rec i hi => ?_) (fun rec => ?_) hk
  · simpa using h
  · simp only [laws_heldIntS.s0, marks_len, iLt_eq, iLe_eq, iEq_eq, iNe_eq, bNot_eq, bEq_eq, bNe_eq, brB_nb, brB_dec, brB_true, brB_false, chk_idx, chk_len, chk_make, chk_sub, bnd_one, rLen_eq, rGet_nat, rSet_nat, rApp_eq, ↓reduceIte]
    rw [if_pos (by omega), if_idx hi, marks, range_get n hi, if_pos rfl, next_id hi (by omega), iAdd_id (by omega) (by omega)]
    congr 3
    omega
  · simp only [laws_heldIntS.s0, marks_len, iLt_eq, iLe_eq, iEq_eq, iNe_eq, bNot_eq, bEq_eq, bNe_eq, brB_nb, brB_dec, brB_true, brB_false, chk_idx, chk_len, chk_make, chk_sub, bnd_one, rLen_eq, rGet_nat, rSet_nat, rApp_eq, ↓reduceIte]
    rw [if_neg (by omega)]
theorem findIdx_all {α : Type} (l : List α) (p : α → Bool) : (match l.findIdx? (fun x => !p x) with | some _ => false | none => true) = l.all p := by
  cases h : l.findIdx? (fun x => !p x) with
  | none =>
    rw [List.findIdx?_eq_none_iff] at h
    symm
    rw [List.all_eq_true]
    intro x hx
    simpa using h x hx
  | some i =>
    rw [List.findIdx?_eq_some_iff_getElem] at h
    obtain ⟨hi, h1, _⟩ := h
    symm
    rw [← Bool.not_eq_true, List.all_eq_true]
    intro hall
    have := hall _ (List.getElem_mem hi)
    simp [this] at h1
theorem found_iff {α : Type} (l : List α) (p : α → Bool) : iLe 0 (match l.findIdx? (fun x => !p x) with | some i => (i : Int) | none => -1) = !l.all p := by
  rw [← findIdx_all]
  cases l.findIdx? (fun x => !p x) with
  | none => rfl
  | some i => simp [iLe]
theorem brB_and' {x : Option Bool} {b c : Bool} (h : b = true → x = some c) : brB b x (some false) = some (b && c) := by
  cases b with
  | false => rfl
  | true => rw [brB_true, h rfl, Bool.true_and]
theorem if_and' {p : Prop} [Decidable p] {x : Option Bool} {c : Bool} (h : p → x = some c) : (if p then x else some false) = some (decide p && c) := by
  by_cases hp : p
  · rw [if_pos hp, h hp, decide_eq_true hp, Bool.true_and]
  · rw [if_neg hp, decide_eq_false hp, Bool.false_and]
theorem brB_and {x : Option Bool} {b c : Bool} (h : x = some c) : brB b x (some false) = some (b && c) := by cases b <;> simp [brB, h]
theorem if_and {p : Prop} [Decidable p] {x : Option Bool} {c : Bool} (h : x = some c) : (if p then x else some false) = some (decide p && c) := by by_cases hp : p <;> simp [hp, h]
/-- A loop that looks for an element without a quality. -/
theorem iter_all {R : Type} {α : Type} {X : Type} {f : (X → Option R) → X → Option R} (s : Nat → X) (xs : List α) (p : α → Bool) (r e : Option R)
    (go : ∀ rec (i : Nat) (h : i < xs.length), p xs[i] = true → f rec (s i) = rec (s (i + 1))) (stop : ∀ rec (i : Nat) (h : i < xs.length), p xs[i] = false → f rec (s i) = e) (done : ∀ rec, f rec (s xs.length) = r) {n : Nat} (hn : xs.length < n) :
    iter f n (s 0) = brB (xs.all p) r e := by
  suffices H : ∀ d i n, i + d = xs.length → d < n → iter f n (s i) = brB ((xs.drop i).all p) r e from by
    have := H xs.length 0 n (by omega) hn
    simpa using this
  intro d
  induction d with
  | zero =>
    intro i n hi hn
    obtain ⟨m, rfl⟩ : ∃ m, n = m + 1 := ⟨n - 1, by omega⟩
    obtain rfl : i = xs.length := by omega
    rw [List.drop_length]
    exact done _
  | succ d ih =>
    intro i n hi hn
    obtain ⟨m, rfl⟩ : ∃ m, n = m + 1 := ⟨n - 1, by omega⟩
    show f (iter f m) (s i) = _
    have hlt : i < xs.length := by omega
    rw [List.drop_eq_getElem_cons hlt, List.all_cons]
    cases hq : p xs[i] with
    | false => rw [stop _ i hlt hq]; rfl
    | true => rw [go _ i hlt hq, ih (i + 1) m (by omega) (by omega), Bool.true_and]
theorem if_chain {R : Type} {p : Prop} [Decidable p] {c : Bool} {X r e : Option R} (h : p → X = brB c r e) : (if p then X else e) = brB (decide p && c) r e := by
  by_cases hp : p
  · rw [if_pos hp, h hp, decide_eq_true hp, Bool.true_and]
  · rw [if_neg hp, decide_eq_false hp]; rfl
theorem if_chain_iff {R : Type} {p q : Prop} [Decidable p] [Decidable q] {c : Bool} {X r e : Option R} (hpq : p ↔ q) (h : q → X = brB c r e) : (if p then X else e) = brB (decide q && c) r e := by
  by_cases hp : p
  · rw [if_pos hp, h (hpq.1 hp), decide_eq_true (hpq.1 hp), Bool.true_and]
  · rw [if_neg hp, decide_eq_false (fun hq => hp (hpq.2 hq))]; rfl
theorem take_getD {α : Type} (d : α) (xs : List α) {i : Nat} (h : i ≤ xs.length) : xs.take i = (List.range i).map fun j => xs.getD j d := by
  apply List.ext_getElem?
  intro j
  rw [List.getElem?_take]
  by_cases hj : j < i
  · rw [if_pos hj]; simp [hj, List.getElem?_eq_getElem (show j < xs.length by omega)]
  · rw [if_neg hj, List.getElem?_eq_none (by simpa using Nat.le_of_not_lt hj)]
theorem take_all {α : Type} (d : α) (xs : List α) {i : Nat} (h : i ≤ xs.length) (q : α → Bool) : (xs.take i).all q = (List.range i).all fun j => q (xs.getD j d) := by
  rw [take_getD d xs h, List.all_map]; rfl
/-- A node: its parent, its place, its functions. -/
def nd (xs : List (Int × Int × Int)) (i : Nat) : Int × Int × Int := xs.getD i (0, 0, 0)
theorem rGet_nd (xs : List (Int × Int × Int)) (i : Nat) : rGet (0, 0, 0) xs (i : Int) = nd xs i := rfl
def sameB (p d : Int) (x : Int × Int × Int) : Bool := decide (x.1 = p) && decide (x.2.1 = d)
def nodeB (xs : List (Int × Int × Int)) (i : Nat) : Bool :=
  decide (0 ≤ (nd xs i).1 ∧ (nd xs i).1 ≤ (i : Int) - 1) && (decide ((nd xs (nd xs i).1.toNat).2.2 = 0) && (decide (0 ≤ (nd xs i).2.1 ∧ (nd xs i).2.1 ≤ 3) && (decide (0 ≤ (nd xs i).2.2 ∧ (nd xs i).2.2 ≤ 4) &&
    (List.range i).all fun j => !sameB (nd xs i).1 (nd xs i).2.1 (nd xs j))))
def rootB (xs : List (Int × Int × Int)) : Bool := decide ((nd xs 0).1 = -1) && (decide ((nd xs 0).2.1 = 0) && (decide ((nd xs 0).2.2 = 0) && true))
/-- A tree is valid. -/
def treeB (xs : List (Int × Int × Int)) : Bool := decide (1 ≤ (xs.length : Int) ∧ (xs.length : Int) ≤ 12) && (rootB xs && (List.range (xs.length - 1)).all fun i => nodeB xs (i + 1))
theorem specDup (xs : List (Int × Int × Int)) (p d f : Int) (i : Nat) (hi : i < xs.length) (hx : xs.length ≤ 1048576) (hr : (nd xs 0).1 ≠ p) (rec : List (Int × Int × Int) × Int → Option Bool) (k : Nat) (hk : xs.length < k) :
    spec_TreeOk.l1 k k rec xs (i : Int) 1 p d f = brB ((List.range i).all fun j => !sameB p d (nd xs j)) (rec (xs, ((i + 1 : Nat) : Int))) (some false) := by
  simp only [spec_TreeOk.l1]
  have h := iter_all (f := fun (rec' : (List (Int × Int × Int) × Int × Int × Int × Int × Int) → Option Bool) (x : List (Int × Int × Int) × Int × Int × Int × Int × Int) => spec_TreeOk.s1 k rec rec' x.1 x.2.1 x.2.2.1 x.2.2.2.1 x.2.2.2.2.1 x.2.2.2.2.2)
    (fun j => (xs, (i : Int), ((j + 1 : Nat) : Int), p, d, f)) (List.range (i - 1)) (fun j => !sameB p d (nd xs (j + 1))) (rec (xs, ((i + 1 : Nat) : Int))) (some false) (fun rec' j hj hp => ?_) (fun rec' j hj hp => ?_) (fun rec' => ?_) (n := k) (by simp; omega)
  · refine h.trans ?_
    congr 1
    cases i with
    | zero => rfl
    | succ i =>
      rw [List.range_succ_eq_map, List.all_cons, List.all_map]
      rw [show sameB p d (nd xs 0) = false by simp [sameB, hr]]
      rfl
  · simp only [List.length_range] at hj
    simp only [List.getElem_range, sameB] at hp
    simp only [spec_TreeOk.s1, iLt_eq, iEq_eq, brB_dec, chk_idx, rLen_eq, rGet_nd]
    rw [if_pos (by omega), if_idx (by omega), if_idx (by omega), next_id (i := j + 1) (n := xs.length) (by omega) (by omega)]
    by_cases h1 : (nd xs (j + 1)).1 = p <;> by_cases h2 : (nd xs (j + 1)).2.1 = d <;> simp [h1, h2] at hp ⊢
  · simp only [List.length_range] at hj
    simp only [List.getElem_range, sameB] at hp
    simp only [spec_TreeOk.s1, iLt_eq, iEq_eq, brB_dec, chk_idx, rLen_eq, rGet_nd]
    rw [if_pos (by omega), if_idx (by omega), if_idx (by omega)]
    by_cases h1 : (nd xs (j + 1)).1 = p <;> by_cases h2 : (nd xs (j + 1)).2.1 = d <;> simp [h1, h2] at hp ⊢
  · simp only [List.length_range, spec_TreeOk.s1, iLt_eq, brB_dec]
    rw [if_neg (by omega), next_id (n := xs.length) hi (by omega)]
theorem specNode (xs : List (Int × Int × Int)) (i : Nat) (h0 : 0 < i) (hi : i < xs.length) (hx : xs.length ≤ 1048576) (hr : (nd xs 0).1 = -1) (rec : List (Int × Int × Int) × Int → Option Bool) (k : Nat) (hk : xs.length < k) :
    spec_TreeOk.s0 k rec xs (i : Int) = brB (nodeB xs i) (rec (xs, ((i + 1 : Nat) : Int))) (some false) := by
  simp only [spec_TreeOk.s0, l01In_eq, iLt_eq, iNe_eq, brB_nb, brB_dec, chk_idx, bnd_one, bNot_eq, rLen_eq, rGet_nd]
  rw [if_pos (by omega), if_idx hi, iSub_id (by omega) (by omega)]
  refine if_chain fun c1 => ?_
  rw [if_pos (by omega)]
  have e : rGet (0, 0, 0) xs (nd xs i).1 = nd xs (nd xs i).1.toNat := rfl
  rw [e]
  refine if_chain fun c2 => ?_
  refine if_chain fun c3 => ?_
  refine if_chain fun c4 => ?_
  exact specDup xs _ _ _ i hi hx (by rw [hr]; omega) rec k hk
theorem specTreeOk_ev (xs : List (Int × Int × Int)) (hx : xs.length ≤ 1048576) (k : Nat) (hk : xs.length < k) : spec_TreeOk.f k xs = some (treeB xs) := by
  simp only [spec_TreeOk.f, l01In_eq, bnd_one, rLen_eq, bNot_eq, brB_nb, brB_dec, chk_idx]
  refine if_and' fun c1 => ?_
  rw [if_pos (by omega)]
  rw [show rGet (0, 0, 0) xs 0 = nd xs 0 from rfl]
  simp only [iEq_eq, bAnd]
  refine brB_and' fun c2 => ?_
  have hr : (nd xs 0).1 = -1 := by
    simp only [Bool.and_eq_true, decide_eq_true_eq] at c2
    exact c2.1
  simp only [spec_TreeOk.l0]
  have h := iter_all (f := fun (rec : (List (Int × Int × Int) × Int) → Option Bool) (x : List (Int × Int × Int) × Int) => spec_TreeOk.s0 k rec x.1 x.2) (fun i => (xs, ((i + 1 : Nat) : Int))) (List.range (xs.length - 1)) (fun i => nodeB xs (i + 1)) (some true) (some false)
    (fun rec i hi hp => ?_) (fun rec i hi hp => ?_) (fun rec => ?_) (n := k) (by simp; omega)
  · refine h.trans ?_
    cases (List.range (xs.length - 1)).all fun i => nodeB xs (i + 1) <;> rfl
  · simp only [List.length_range] at hi
    simp only [List.getElem_range] at hp
    simp only
    rw [specNode xs (i + 1) (by omega) (by omega) hx hr rec k hk, hp]; rfl
  · simp only [List.length_range] at hi
    simp only [List.getElem_range] at hp
    simp only
    rw [specNode xs (i + 1) (by omega) (by omega) hx hr rec k hk, hp]; rfl
  · simp only [List.length_range, spec_TreeOk.s0, iLt_eq, brB_dec, rLen_eq]
    rw [if_neg (by omega)]
theorem indexSame (l : List (Int × Int × Int)) (p d f : Int) (hl : l.length ≤ 4611686018427387904) (k : Nat) (hk : l.length < k) : slices_IndexFunc_Node_impl_TreeOk_1.f k l p d f = some (match l.findIdx? (fun x => !!sameB p d x) with | some i => (i : Int) | none => -1, p, d, f) := by
  simp only [slices_IndexFunc_Node_impl_TreeOk_1.f, slices_IndexFunc_Node_impl_TreeOk_1.l0]
  have one : ∀ x : Int × Int × Int, impl_TreeOk_1.f k x.1 x.2.1 x.2.2 p d f = some (sameB p d x, p, d, f) := fun x => by
    simp only [impl_TreeOk_1.f, iEq_eq, brB_dec, sameB]
    split <;> rename_i h <;> simp [h]
  have h := iter_find (f := fun (rec : (List (Int × Int × Int) × Int × Int × Int × Int × Int) → Option (Int × Int × Int × Int)) (x : List (Int × Int × Int) × Int × Int × Int × Int × Int) => slices_IndexFunc_Node_impl_TreeOk_1.s0 k rec x.1 x.2.1 x.2.2.1 x.2.2.2.1 x.2.2.2.2.1 x.2.2.2.2.2) (fun i => (l, rLen l, (i : Int), p, d, f)) l (fun x => !sameB p d x) (-1, p, d, f) (fun i => ((i : Int), p, d, f)) (fun rec i hi hp => ?_) (fun rec i hi hp => ?_) (fun rec => ?_) hk
  · refine h.trans ?_
    cases l.findIdx? (fun x => !!sameB p d x) <;> rfl
  · simp only [slices_IndexFunc_Node_impl_TreeOk_1.s0, iLt_eq, brB_dec, chk_idx, rLen_eq, rGet_nat, one, bnd_one, getD_lt _ _ hi]
    rw [if_pos (by omega), if_idx hi, next_id hi hl]
    rw [show sameB p d l[i] = false by simpa using hp]; rfl
  · simp only [slices_IndexFunc_Node_impl_TreeOk_1.s0, iLt_eq, brB_dec, chk_idx, rLen_eq, rGet_nat, one, bnd_one, getD_lt _ _ hi]
    rw [if_pos (by omega), if_idx hi]
    rw [show sameB p d l[i] = true by simpa using hp]; rfl
  · simp only [slices_IndexFunc_Node_impl_TreeOk_1.s0, iLt_eq, brB_dec, rLen_eq]
    rw [if_neg (by omega)]
theorem containsSame (l : List (Int × Int × Int)) (p d f : Int) (hl : l.length ≤ 4611686018427387904) (k : Nat) (hk : l.length < k) : slices_ContainsFunc_Node_impl_TreeOk_1.f k l p d f = some (!l.all (fun x => !sameB p d x), p, d, f) := by
  simp only [slices_ContainsFunc_Node_impl_TreeOk_1.f, indexSame l p d f hl k hk, bnd_one, found_iff l (fun x => !sameB p d x)]
theorem implNode (xs : List (Int × Int × Int)) (i : Nat) (hi : i + 1 < xs.length) (hx : xs.length ≤ 1048576) (rec : List (Int × Int × Int) × List (Int × Int × Int) × Int × Int → Option Bool) (k : Nat) (hk : xs.length < k) :
    impl_TreeOk.s0 k rec xs (rSub xs 1 (xs.length : Int)) ((xs.length - 1 : Nat) : Int) (i : Int) = brB (nodeB xs (i + 1)) (rec (xs, rSub xs 1 (xs.length : Int), ((xs.length - 1 : Nat) : Int), ((i + 1 : Nat) : Int))) (some false) := by
  have e1 : rSub xs 1 (xs.length : Int) = xs.drop 1 := by simp [rSub]
  have e2 : rSub xs 0 ((i + 1 : Nat) : Int) = xs.take (i + 1) := by simp [rSub]
  have e3 : rGet (0, 0, 0) (xs.drop 1) (i : Int) = nd xs (i + 1) := by
    rw [rGet_nat, nd, List.getD_eq_getElem?_getD, List.getElem?_drop, Nat.add_comm, ← List.getD_eq_getElem?_getD]
  have e4 : (xs.take (i + 1)).length = i + 1 := by simp; omega
  simp only [impl_TreeOk.s0, within_eq, iLt_eq, iNe_eq, brB_nb, brB_dec, chk_idx, chk_sub, bnd_one, bNot_eq, rLen_eq, e1, e3, next_id (i := i) (n := xs.length) (by omega) (by omega), e2, e4, List.length_drop]
  rw [if_pos (by omega), if_idx (by omega), if_pos (by omega)]
  refine if_chain_iff (q := 0 ≤ (nd xs (i + 1)).1 ∧ (nd xs (i + 1)).1 ≤ ((i + 1 : Nat) : Int) - 1) (by omega) fun c1 => ?_
  rw [if_pos (by omega)]
  have e5 : rGet (0, 0, 0) (xs.take (i + 1)) (nd xs (i + 1)).1 = nd xs (nd xs (i + 1)).1.toNat := by
    simp only [rGet, nd, List.getD_eq_getElem?_getD, List.getElem?_take] at c1 ⊢
    rw [if_pos (by omega)]
  rw [e5]
  refine if_chain fun c2 => ?_
  refine if_chain fun c3 => ?_
  refine if_chain fun c4 => ?_
  rw [containsSame (xs.take (i + 1)) _ _ _ (by omega) k (by omega)]
  simp only [bnd_one, brB_nb]
  rw [take_all (0, 0, 0) xs (by omega)]
  rfl
theorem implTreeOk_ev (xs : List (Int × Int × Int)) (hx : xs.length ≤ 1048576) (k : Nat) (hk : xs.length < k) : impl_TreeOk.f k xs = some (treeB xs) := by
  simp only [impl_TreeOk.f, within_eq, bnd_one, rLen_eq, bNot_eq, brB_nb, brB_dec, chk_idx, chk_sub]
  refine if_and' fun c1 => ?_
  rw [if_pos (by omega)]
  rw [show rGet (0, 0, 0) xs 0 = nd xs 0 from rfl]
  simp only [iEq_eq, bAnd]
  refine brB_and' fun c2 => ?_
  rw [if_pos (by omega)]
  have e1 : (rSub xs 1 (xs.length : Int)).length = xs.length - 1 := by simp [rSub]
  simp only [impl_TreeOk.l0, e1]
  have h := iter_all (f := fun (rec : (List (Int × Int × Int) × List (Int × Int × Int) × Int × Int) → Option Bool) (x : List (Int × Int × Int) × List (Int × Int × Int) × Int × Int) => impl_TreeOk.s0 k rec x.1 x.2.1 x.2.2.1 x.2.2.2) (fun i => (xs, rSub xs 1 (xs.length : Int), ((xs.length - 1 : Nat) : Int), (i : Int))) (List.range (xs.length - 1)) (fun i => nodeB xs (i + 1)) (some true) (some false)
    (fun rec i hi hp => ?_) (fun rec i hi hp => ?_) (fun rec => ?_) (n := k) (by simp; omega)
  · refine h.trans ?_
    cases (List.range (xs.length - 1)).all fun i => nodeB xs (i + 1) <;> rfl
  · simp only [List.length_range] at hi
    simp only [List.getElem_range] at hp
    simp only
    rw [implNode xs i (by omega) hx rec k hk, hp]; rfl
  · simp only [List.length_range] at hi
    simp only [List.getElem_range] at hp
    simp only
    rw [implNode xs i (by omega) hx rec k hk, hp]; rfl
  · simp only [List.length_range, impl_TreeOk.s0, iLt_eq, brB_dec, rLen_eq]
    rw [if_neg (by omega)]
theorem tree_len {xs : List (Int × Int × Int)} (h : treeB xs = true) : 1 ≤ xs.length ∧ xs.length ≤ 12 := by
  simp only [treeB, Bool.and_eq_true, decide_eq_true_eq] at h
  omega
theorem szNodeS_eq (k : Nat) (l : List (Int × Int × Int)) (n : Int) (hl : l.length ≤ 9223372036854775807) (h0 : 0 ≤ n) (h1 : n ≤ 1048576) : laws_szNodeS.f k l n = some (if (l.length : Int) ≤ n then n - l.length else -1) := by
  simp only [laws_szNodeS.f, brB_lt, rLen_eq]
  rw [iSub_id (by omega) (by omega)]
  by_cases h : (l.length : Int) ≤ n
  · rw [if_neg (by omega), if_pos h]
  · rw [if_pos (by omega), if_neg h]
theorem toNodeS_ev (xs : List (Int × Int × Int)) (hn : xs.length ≤ 1048576) (k : Nat) (hk : xs.length < k) : laws_toNodeS.f k xs = some xs := by
  simp only [laws_toNodeS.f, laws_toNodeS.l0, iLt_eq, iLe_eq, iEq_eq, iNe_eq, bNot_eq, bEq_eq, bNe_eq, brB_nb, brB_dec, brB_true, brB_false, chk_idx, chk_len, chk_make, chk_sub, bnd_one, rLen_eq, rGet_nat, rSet_nat, rApp_eq, ↓reduceIte]
  rw [if_pos (by omega), rRep_nat]
  have h := iter_upto (f := fun (rec : (List (Int × Int × Int) × List (Int × Int × Int) × Int) → Option (List (Int × Int × Int))) (x : List (Int × Int × Int) × List (Int × Int × Int) × Int) => laws_toNodeS.s0 k rec x.1 x.2.1 x.2.2)
    (fun i => (xs, fill (fun j => xs.getD j (0, 0, 0)) (List.replicate xs.length (0, 0, 0)) i, (i : Int))) xs.length (r := xs) (fun rec i hi => ?_) (fun rec => ?_) hk
  · rw [fill_zero] at h; exact h
  · simp only [laws_toNodeS.s0, laws_toNode.f, fill_len (show i ≤ (List.replicate xs.length ((0, 0, 0) : Int × Int × Int)).length by simp; omega), List.length_replicate, iLt_eq, iLe_eq, iEq_eq, iNe_eq, bNot_eq, bEq_eq, bNe_eq, brB_nb, brB_dec, brB_true, brB_false, chk_idx, chk_len, chk_make, chk_sub, bnd_one, rLen_eq, rGet_nat, rSet_nat, rApp_eq, ↓reduceIte]
    rw [if_pos (by omega), if_idx hi, if_idx hi]
    rw [fill_set (by simpa using hi), next_id hi (by omega)]
  · have h2 := fill_end (g := fun j => xs.getD j (0, 0, 0)) (xs := List.replicate xs.length ((0, 0, 0) : Int × Int × Int))
    rw [List.length_replicate] at h2
    simp only [laws_toNodeS.s0, h2, range_getD, iLt_eq, iLe_eq, iEq_eq, iNe_eq, bNot_eq, bEq_eq, bNe_eq, brB_nb, brB_dec, brB_true, brB_false, chk_idx, chk_len, chk_make, chk_sub, bnd_one, rLen_eq, rGet_nat, rSet_nat, rApp_eq, ↓reduceIte]
    rw [if_neg (by omega)]
theorem eqNodeS_refl (xs : List (Int × Int × Int)) (hn : xs.length ≤ 4611686018427387904) (k : Nat) (hk : xs.length < k) : laws_eqNodeS.f k xs xs = some true := by
  simp only [laws_eqNodeS.f, laws_eqNodeS.l0, iLt_eq, iLe_eq, iEq_eq, iNe_eq, bNot_eq, bEq_eq, bNe_eq, brB_nb, brB_dec, brB_true, brB_false, chk_idx, chk_len, chk_make, chk_sub, bnd_one, rLen_eq, rGet_nat, rSet_nat, rApp_eq, ↓reduceIte]
  refine iter_upto (f := fun (rec : (List (Int × Int × Int) × List (Int × Int × Int) × Int) → Option Bool) (x : List (Int × Int × Int) × List (Int × Int × Int) × Int) => laws_eqNodeS.s0 k rec x.1 x.2.1 x.2.2) (fun i => (xs, xs, (i : Int))) xs.length (fun rec i hi => ?_) (fun rec => ?_) hk
  · simp only [laws_eqNodeS.s0, laws_eqNode.f, iLt_eq, iLe_eq, iEq_eq, iNe_eq, bNot_eq, bEq_eq, bNe_eq, brB_nb, brB_dec, brB_true, brB_false, chk_idx, chk_len, chk_make, chk_sub, bnd_one, rLen_eq, rGet_nat, rSet_nat, rApp_eq, ↓reduceIte]
    rw [if_pos (by omega), if_idx hi, if_idx hi, next_id hi hn]
  · simp only [laws_eqNodeS.s0, iLt_eq, iLe_eq, iEq_eq, iNe_eq, bNot_eq, bEq_eq, bNe_eq, brB_nb, brB_dec, brB_true, brB_false, chk_idx, chk_len, chk_make, chk_sub, bnd_one, rLen_eq, rGet_nat, rSet_nat, rApp_eq, ↓reduceIte]
    rw [if_neg (by omega)]
theorem getD_set_self {α : Type} {d : α} {l : List α} {i : Nat} {x : α} (h : i < l.length) : (l.set i x).getD i d = x := by
  rw [List.getD_eq_getElem?_getD, List.getElem?_set, if_pos rfl, if_pos h]; rfl
def nmark (m : Int) (j : Nat) : Int × Int × Int := (m + 3 * (j : Int), m + 3 * (j : Int) + 1, m + 3 * (j : Int) + 2)
theorem markNodeS_ev (xs : List (Int × Int × Int)) (m : Int) (hn : xs.length ≤ 1000000000) (h0 : 0 ≤ m) (h1 : m ≤ 1000000000) (k : Nat) (hk : xs.length < k) : laws_markNodeS.f k xs m = some (m + 3 * (xs.length : Int), (List.range xs.length).map (nmark m)) := by
  simp only [laws_markNodeS.f, laws_markNodeS.l0]
  have h := iter_upto (f := fun (rec : (List (Int × Int × Int) × Int × Int) → Option (Int × List (Int × Int × Int))) (x : List (Int × Int × Int) × Int × Int) => laws_markNodeS.s0 k rec x.1 x.2.1 x.2.2)
    (fun i => (fill (nmark m) xs i, m + 3 * (i : Int), (i : Int))) xs.length (r := (m + 3 * (xs.length : Int), (List.range xs.length).map (nmark m))) (fun rec i hi => ?_) (fun rec => ?_) hk
  · rw [fill_zero] at h; simpa using h
  · have hl : i < (fill (nmark m) xs i).length := by rw [fill_len (Nat.le_of_lt hi)]; exact hi
    simp only [laws_markNodeS.s0, iLt_eq, brB_dec, chk_idx, rLen_eq, rGet_nat, rSet_nat, List.length_set, getD_set_self, hl, List.set_set]
    rw [fill_len (Nat.le_of_lt hi), if_pos (by omega), if_idx hi, if_idx hi, if_idx hi]
    rw [iAdd_id (a := m + 3 * (i : Int)) (b := 1) (by omega) (by omega), iAdd_id (a := m + 3 * (i : Int) + 1) (b := 1) (by omega) (by omega), iAdd_id (a := m + 3 * (i : Int) + 1 + 1) (b := 1) (by omega) (by omega), next_id hi (by omega)]
    have e : (m + 3 * (i : Int), m + 3 * (i : Int) + 1, m + 3 * (i : Int) + 1 + 1) = nmark m i := by simp only [nmark]; congr 2; omega
    rw [e, fill_set hi]
    congr 3
    omega
  · simp only [laws_markNodeS.s0, fill_end, List.length_map, List.length_range, iLt_eq, brB_dec, rLen_eq]
    rw [if_neg (by omega)]
/-- Each parent comes before its child. -/
def TreeP (xs : List (Int × Int × Int)) : Prop := ∀ i : Nat, i < xs.length → (nd xs i).1 < (i : Int) ∧ (0 < i → 0 ≤ (nd xs i).1)
theorem treeP_of {xs : List (Int × Int × Int)} (h : treeB xs = true) : TreeP xs := by
  intro i hi
  simp only [treeB, Bool.and_eq_true, rootB, decide_eq_true_eq, List.all_eq_true, List.mem_range] at h
  cases i with
  | zero => have := h.2.1.1; exact ⟨by omega, fun h => by omega⟩
  | succ i =>
    have := h.2.2 i (by omega)
    simp only [nodeB, Bool.and_eq_true, decide_eq_true_eq] at this
    exact ⟨by omega, fun _ => this.1.1⟩
theorem l19Ok_ev (xs : List (Int × Int × Int)) (n : Int) (hx : xs.length ≤ 1048576) (k : Nat) (hk : xs.length < k) : spec_l19Ok.f k xs n = some (treeB xs && decide (0 ≤ n ∧ n ≤ (xs.length : Int) - 1)) := by
  simp only [spec_l19Ok.f, specTreeOk_ev xs hx k hk, l01In_eq, bnd_one, rLen_eq]
  rw [iSub_id (by omega) (by omega)]
  exact brB_and rfl
theorem isNode_ev (xs : List (Int × Int × Int)) (n : Int) (hx : xs.length ≤ 1048576) (k : Nat) (hk : xs.length < k) : impl_isNode.f k xs n = some (treeB xs && decide (0 ≤ n ∧ n ≤ (xs.length : Int) - 1)) := by
  simp only [impl_isNode.f, implTreeOk_ev xs hx k hk, within_eq, bnd_one, rLen_eq]
  rw [iSub_id (by omega) (by omega)]
  exact brB_and rfl
def okN (xs : List (Int × Int × Int)) (n : Int) : Bool := treeB xs && decide (0 ≤ n ∧ n ≤ (xs.length : Int) - 1)
/-- The place of a node among its siblings. -/
def dev (xs : List (Int × Int × Int)) (c : Int) : Int := (nd xs c.toNat).2.1
theorem sorted_uniq {key : Int → Int} : ∀ {l m : List Int}, l.Pairwise (fun a b => key a < key b) → m.Pairwise (fun a b => key a < key b) → (∀ x, x ∈ l ↔ x ∈ m) → l = m
  | [], [], _, _, _ => rfl
  | [], b :: m, _, _, h => by have := (h b).2 (by simp); simp at this
  | a :: l, [], _, _, h => by have := (h a).1 (by simp); simp at this
  | a :: l, b :: m, hl, hm, h => by
    obtain ⟨l1, l2⟩ := List.pairwise_cons.1 hl
    obtain ⟨m1, m2⟩ := List.pairwise_cons.1 hm
    have e : a = b := by
      rcases List.mem_cons.1 ((h a).1 (by simp)) with e | ha
      · exact e
      · rcases List.mem_cons.1 ((h b).2 (by simp)) with e | hb
        · exact e.symm
        · have h1 := m1 a ha; have h2 := l1 b hb; omega
    subst e
    congr 1
    refine sorted_uniq l2 m2 fun x => ⟨fun hx => ?_, fun hx => ?_⟩
    · rcases List.mem_cons.1 ((h x).1 (by simp [hx])) with e | hx'
      · subst e; have := l1 x hx; omega
      · exact hx'
    · rcases List.mem_cons.1 ((h x).2 (by simp [hx])) with e | hx'
      · subst e; have := m1 x hx; omega
      · exact hx'
theorem compare_ev (k : Nat) (a b : Int) : ∃ v, cmp_Compare_Compare_int.f k a b = some v ∧ (v < 0 ↔ a < b) := by
  simp only [cmp_Compare_Compare_int.f, cmp_isNaN_isNaN_int.f, bnd_one, iNe_eq, decide_true, Bool.not_true, brB_false, iLt_eq, brB_dec]
  by_cases h : a < b
  · rw [if_pos h]; exact ⟨_, rfl, by omega⟩
  · rw [if_neg h]
    by_cases h' : b < a
    · rw [if_pos h']; exact ⟨_, rfl, by omega⟩
    · rw [if_neg h']; exact ⟨_, rfl, by omega⟩
theorem childCmp_ev (k : Nat) (xs : List (Int × Int × Int)) (a b : Int) (ha : 0 ≤ a ∧ a < xs.length) (hb : 0 ≤ b ∧ b < xs.length) : ∃ v, impl_ChildrenOf_1.f k a b xs = some (v, xs) ∧ (v < 0 ↔ dev xs a < dev xs b) := by
  obtain ⟨v, hv, h⟩ := compare_ev k (dev xs a) (dev xs b)
  refine ⟨v, ?_, h⟩
  simp only [impl_ChildrenOf_1.f, chk_idx, rLen_eq]
  rw [if_pos ha, if_pos hb, show (rGet (0, 0, 0) xs a).2.1 = dev xs a from rfl, show (rGet (0, 0, 0) xs b).2.1 = dev xs b from rfl, hv]
  rfl
theorem get_at (A : List Int) (x : Int) (R : List Int) : rGet 0 (A ++ x :: R) (A.length : Int) = x := by
  rw [rGet_nat, List.getD_eq_getElem?_getD, List.getElem?_append_right (Nat.le_refl _)]; simp
theorem set_at (A : List Int) (x y : Int) (R : List Int) : (A ++ x :: R).set A.length y = A ++ y :: R := by
  rw [List.set_append_right _ _ (Nat.le_refl _)]; simp
theorem insIn (k : Nat) (xs : List (Int × Int × Int)) (post : List Int) (n : Nat) (hn : n ≤ 100) (i : Nat) (res : Option (List (Int × Int × Int) × List Int)) (rec0 : ((List Int) × Int × Int × Int × List (Int × Int × Int)) → Option ((List (Int × Int × Int)) × List Int)) :
    ∀ (A C : List Int) (x : Int) (K : Nat), A.length < K → (A ++ x :: C ++ post).length = n → (∀ y ∈ A ++ x :: C ++ post, 0 ≤ y ∧ y < xs.length) →
      (A ++ C).Pairwise (fun a b => dev xs a < dev xs b) → (∀ c ∈ C, dev xs x < dev xs c) → (∀ a ∈ A, dev xs a ≠ dev xs x) →
      (∀ S : List Int, S.Pairwise (fun a b => dev xs a < dev xs b) → S.Perm (A ++ x :: C) → rec0 (S ++ post, 0, (n : Int), iAdd .i64 (i : Int) 1, xs) = res) →
      iter (fun (rec : (List Int × Int × Int × Int × Int × (List (Int × Int × Int))) → Option (List (Int × Int × Int) × List Int)) (x : List Int × Int × Int × Int × Int × (List (Int × Int × Int))) => slices_insertionSortCmpFunc_insertionSortCmpFunc_int_impl_ChildrenOf_1.s1 k rec0 rec x.1 x.2.1 x.2.2.1 x.2.2.2.1 x.2.2.2.2.1 x.2.2.2.2.2) K (A ++ x :: C ++ post, 0, (n : Int), (i : Int), (A.length : Int), xs) = res := by
  intro A
  generalize hm : A.length = m
  induction m generalizing A with
  | zero =>
    intro C x K hK hlen hin hs hx hd hres
    obtain ⟨K', rfl⟩ : ∃ K', K = K' + 1 := ⟨K - 1, by omega⟩
    have hA : A = [] := List.length_eq_zero_iff.1 hm
    subst hA
    show slices_insertionSortCmpFunc_insertionSortCmpFunc_int_impl_ChildrenOf_1.s1 k rec0 (iter _ K') ([] ++ x :: C ++ post) 0 (n : Int) (i : Int) ((0 : Nat) : Int) xs = res
    generalize iter _ K' = rec1
    simp only [slices_insertionSortCmpFunc_insertionSortCmpFunc_int_impl_ChildrenOf_1.s1, iLt_eq, brB_dec]
    rw [if_neg (by omega)]
    exact hres ([] ++ x :: C) (List.pairwise_cons.2 ⟨hx, by simpa using hs⟩) (List.Perm.refl _)
  | succ m ih =>
    intro C x K hK hlen hin hs hx hd hres
    obtain ⟨K', rfl⟩ : ∃ K', K = K' + 1 := ⟨K - 1, by omega⟩
    obtain ⟨A', a, rfl⟩ : ∃ A' a, A = A' ++ [a] := by
      refine ⟨A.dropLast, A.getLast (fun e => by subst e; simp at hm), (List.dropLast_concat_getLast _).symm⟩
    have hm' : A'.length = m := by simpa using hm
    have e1 : A' ++ [a] ++ x :: C ++ post = A' ++ a :: (x :: (C ++ post)) := by simp
    have e2 : A' ++ [a] ++ x :: C ++ post = (A' ++ [a]) ++ x :: (C ++ post) := by simp
    have g1 : rGet 0 (A' ++ [a] ++ x :: C ++ post) ((m + 1 : Nat) : Int) = x := by rw [e2, ← hm]; exact get_at _ _ _
    have g2 : rGet 0 (A' ++ [a] ++ x :: C ++ post) (m : Int) = a := by rw [e1, ← hm']; exact get_at _ _ _
    have ha := hin a (by simp)
    have hx' := hin x (by simp)
    obtain ⟨v, hv, hvlt⟩ := childCmp_ev k xs x a hx' ha
    have hlen' : ((A' ++ [a] ++ x :: C ++ post).length : Int) = n := by omega
    have hmn : m + 1 < n := by
      rw [← hlen]; simp only [List.length_append, List.length_cons, List.length_nil]; omega
    have es : ((A' ++ [a] ++ x :: C ++ post).set (m + 1) a).set m x = A' ++ x :: (a :: C) ++ post := by
      rw [e2, ← hm, set_at]
      rw [show A' ++ [a] ++ a :: (C ++ post) = A' ++ a :: (a :: (C ++ post)) by simp, ← hm', set_at]
      simp
    have ihh := ih A' hm' (a :: C) x K' (by omega) (by simp only [List.length_append, List.length_cons, List.length_nil] at hlen ⊢; omega)
      (fun y hy => hin y (by simp only [List.mem_append, List.mem_cons, List.not_mem_nil, or_false] at hy ⊢; rcases hy with (h | h | h | h) | h <;> simp [h]))
      (by simpa using hs)
    show slices_insertionSortCmpFunc_insertionSortCmpFunc_int_impl_ChildrenOf_1.s1 k rec0 (iter _ K') (A' ++ [a] ++ x :: C ++ post) 0 (n : Int) (i : Int) ((m + 1 : Nat) : Int) xs = res
    generalize iter _ K' = rec1 at ihh ⊢
    have es1 : iSub .i64 ((m + 1 : Nat) : Int) 1 = (m : Int) := by rw [iSub_id (by omega) (by omega)]; omega
    simp only [slices_insertionSortCmpFunc_insertionSortCmpFunc_int_impl_ChildrenOf_1.s1, es1, g1, g2, hv, iLt_eq, brB_dec, chk_idx, rLen_eq, bnd_one, rSet_nat, List.length_set, hlen', es]
    rw [if_pos (by omega), if_pos (by omega), if_pos (by omega)]
    obtain ⟨p1, p2, p3⟩ := List.pairwise_append.1 hs
    obtain ⟨p4, p5, p6⟩ := List.pairwise_append.1 p1
    by_cases hlt : v < 0
    · rw [if_pos hlt, if_pos (by omega), if_pos (by omega), if_pos (by omega), if_pos (by omega)]
      have hxa := hvlt.1 hlt
      refine ihh (fun c hc => ?_) (fun y hy => hd y (by simp [hy])) fun S hS hp => hres S hS (hp.trans ?_)
      · rcases List.mem_cons.1 hc with rfl | hc
        · exact hxa
        · exact hx c hc
      · have : A' ++ [a] ++ x :: C = A' ++ (a :: x :: C) := by simp
        rw [this]
        exact List.Perm.append_left _ (List.Perm.swap _ _ _)
    · rw [if_neg hlt]
      have hxa : dev xs a < dev xs x := by
        have h1 := hd a (by simp)
        have h2 : ¬ dev xs x < dev xs a := fun h => hlt (hvlt.2 h)
        omega
      have := hres (A' ++ [a] ++ x :: C) (List.pairwise_append.2 ⟨p1, List.pairwise_cons.2 ⟨hx, p2⟩, fun y hy z hz => ?_⟩) (List.Perm.refl _)
      · exact this
      · have hyx : dev xs y < dev xs x := by
          rcases List.mem_append.1 hy with hy | hy
          · have := p6 y hy a (by simp); omega
          · simp at hy; subst hy; exact hxa
        rcases List.mem_cons.1 hz with rfl | hz
        · exact hyx
        · have := hx z hz; omega
theorem insOut (k : Nat) (hk : 200 < k) (xs : List (Int × Int × Int)) (n : Nat) (hn : n ≤ 100) (L : List Int) (hL : L.length = n) (hin : ∀ y ∈ L, 0 ≤ y ∧ y < xs.length) (hd : L.Pairwise (fun a b => dev xs a ≠ dev xs b)) :
    ∀ (d i : Nat) (S post : List Int) (K : Nat), i + d = n → d < K → S.length = i → S.Pairwise (fun a b => dev xs a < dev xs b) → (S ++ post).Perm L →
      ∃ T : List Int, iter (fun (rec : (List Int × Int × Int × Int × (List (Int × Int × Int))) → Option (List (Int × Int × Int) × List Int)) (x : List Int × Int × Int × Int × (List (Int × Int × Int))) => slices_insertionSortCmpFunc_insertionSortCmpFunc_int_impl_ChildrenOf_1.s0 k rec x.1 x.2.1 x.2.2.1 x.2.2.2.1 x.2.2.2.2) K (S ++ post, 0, (n : Int), (i : Int), xs) = some (xs, T) ∧ T.Pairwise (fun a b => dev xs a < dev xs b) ∧ T.Perm L := by
  intro d
  induction d with
  | zero =>
    intro i S post K hi hK hS hs hp
    obtain ⟨K', rfl⟩ : ∃ K', K = K' + 1 := ⟨K - 1, by omega⟩
    have hpost : post = [] := by
      have := hp.length_eq
      rw [List.length_append, hL] at this
      exact List.length_eq_zero_iff.1 (by omega)
    subst hpost
    rw [List.append_nil] at hp ⊢
    refine ⟨S, ?_, hs, hp⟩
    show slices_insertionSortCmpFunc_insertionSortCmpFunc_int_impl_ChildrenOf_1.s0 k (iter _ K') S 0 (n : Int) (i : Int) xs = _
    generalize iter _ K' = rec
    simp only [slices_insertionSortCmpFunc_insertionSortCmpFunc_int_impl_ChildrenOf_1.s0, iLt_eq, brB_dec]
    rw [if_neg (by omega)]
  | succ d ih =>
    intro i S post K hi hK hS hs hp
    obtain ⟨K', rfl⟩ : ∃ K', K = K' + 1 := ⟨K - 1, by omega⟩
    have hlen := hp.length_eq
    rw [List.length_append, hL] at hlen
    cases post with
    | nil => simp at hlen; omega
    | cons x post =>
      have hd' : (S ++ x :: post).Pairwise (fun a b => dev xs a ≠ dev xs b) := (List.Perm.pairwise_iff (fun h => Ne.symm h) hp).2 hd
      obtain ⟨d1, d2, d3⟩ := List.pairwise_append.1 hd'
      have step : ∀ rec, slices_insertionSortCmpFunc_insertionSortCmpFunc_int_impl_ChildrenOf_1.s0 k rec (S ++ x :: post) 0 (n : Int) (i : Int) xs = slices_insertionSortCmpFunc_insertionSortCmpFunc_int_impl_ChildrenOf_1.l1 k k rec (S ++ x :: post) 0 (n : Int) (i : Int) (i : Int) xs := fun rec => by
        simp only [slices_insertionSortCmpFunc_insertionSortCmpFunc_int_impl_ChildrenOf_1.s0, iLt_eq, brB_dec]
        rw [if_pos (by omega)]
      -- what the inner loop comes to
      have main : ∀ rec : ((List Int) × Int × Int × Int × List (Int × Int × Int)) → Option ((List (Int × Int × Int)) × List Int), (∀ S' : List Int, S'.length = i + 1 → S'.Pairwise (fun a b => dev xs a < dev xs b) → (S' ++ post).Perm L → ∃ T, rec (S' ++ post, 0, (n : Int), ((i + 1 : Nat) : Int), xs) = some (xs, T) ∧ T.Pairwise (fun a b => dev xs a < dev xs b) ∧ T.Perm L) →
          ∃ T, slices_insertionSortCmpFunc_insertionSortCmpFunc_int_impl_ChildrenOf_1.l1 k k rec (S ++ x :: post) 0 (n : Int) (i : Int) (i : Int) xs = some (xs, T) ∧ T.Pairwise (fun a b => dev xs a < dev xs b) ∧ T.Perm L := by
        intro rec hrec
        -- the sorted rows are one
        have huniq : ∀ S1 S2 : List Int, S1.Pairwise (fun a b => dev xs a < dev xs b) → S2.Pairwise (fun a b => dev xs a < dev xs b) → S1.Perm (S ++ [x]) → S2.Perm (S ++ [x]) → S1 = S2 := fun S1 S2 h1 h2 q1 q2 => sorted_uniq (key := dev xs) h1 h2 fun y => (q1.mem_iff).trans (q2.mem_iff).symm
        -- there is one: the inner loop makes it
        have hex : ∃ S1 : List Int, S1.Pairwise (fun a b => dev xs a < dev xs b) ∧ S1.Perm (S ++ [x]) := by
          have ins : ∀ (S : List Int), S.Pairwise (fun a b => dev xs a < dev xs b) → (∀ a ∈ S, dev xs a ≠ dev xs x) → ∃ S1 : List Int, S1.Pairwise (fun a b => dev xs a < dev xs b) ∧ S1.Perm (S ++ [x]) := by
            intro S
            induction S with
            | nil => exact fun _ _ => ⟨[x], by simp, List.Perm.refl _⟩
            | cons a S ihS =>
              intro hs hne
              obtain ⟨a1, a2⟩ := List.pairwise_cons.1 hs
              by_cases h : dev xs x < dev xs a
              · refine ⟨x :: a :: S, List.pairwise_cons.2 ⟨fun y hy => ?_, hs⟩, ?_⟩
                · rcases List.mem_cons.1 hy with rfl | hy
                  · exact h
                  · have := a1 y hy; omega
                · exact (List.perm_append_comm (l₁ := [x]) (l₂ := a :: S))
              · obtain ⟨S1, q1, q2⟩ := ihS a2 (fun y hy => hne y (by simp [hy]))
                refine ⟨a :: S1, List.pairwise_cons.2 ⟨fun y hy => ?_, q1⟩, List.Perm.cons _ q2⟩
                have hy' := (q2.mem_iff).1 hy
                rcases List.mem_append.1 hy' with hy' | hy'
                · exact a1 y hy'
                · simp at hy'; subst hy'
                  have := hne a (by simp); omega
          exact ins S hs fun a ha => d3 a ha x (by simp)
        obtain ⟨S1, q1, q2⟩ := hex
        have hl1 : S1.length = i + 1 := by rw [q2.length_eq, List.length_append, hS]; rfl
        have hperm : (S1 ++ post).Perm L := by
          refine (List.Perm.append_right post q2).trans ?_
          rw [List.append_assoc]; exact hp
        obtain ⟨T, t1, t2, t3⟩ := hrec S1 hl1 q1 hperm
        refine ⟨T, ?_, t2, t3⟩
        have hI := insIn k xs post n hn i (some (xs, T)) rec S [] x k (by omega) (by rw [List.append_assoc]; simp only [List.length_append, List.length_cons, List.length_nil] at hlen ⊢; omega)
          (fun y hy => hin y ((hp.mem_iff).1 (by simpa using hy))) (by simpa using hs) (fun c hc => by cases hc) (fun a ha => d3 a ha x (by simp))
          (fun S' hS' hp' => by
            rw [huniq S' S1 hS' q1 hp' q2, next_id (i := i) (n := 1000) (by omega) (by omega)]
            exact t1)
        rw [List.append_assoc, hS] at hI
        exact hI
      obtain ⟨T, t1, t2, t3⟩ := main (iter (fun (rec : (List Int × Int × Int × Int × (List (Int × Int × Int))) → Option (List (Int × Int × Int) × List Int)) (x : List Int × Int × Int × Int × (List (Int × Int × Int))) => slices_insertionSortCmpFunc_insertionSortCmpFunc_int_impl_ChildrenOf_1.s0 k rec x.1 x.2.1 x.2.2.1 x.2.2.2.1 x.2.2.2.2) K') fun S' h1 h2 h3 => ih (i + 1) S' post K' (by omega) (by omega) h1 h2 h3
      exact ⟨T, (step _).trans t1, t2, t3⟩
theorem bitsLen_small (k n : Nat) (hn : n ≤ 12) : ∃ v, bits_Len.f k (iCnv .u64 (n : Int)) = some v := by
  have : n = 0 ∨ n = 1 ∨ n = 2 ∨ n = 3 ∨ n = 4 ∨ n = 5 ∨ n = 6 ∨ n = 7 ∨ n = 8 ∨ n = 9 ∨ n = 10 ∨ n = 11 ∨ n = 12 := by omega
  rcases this with rfl | rfl | rfl | rfl | rfl | rfl | rfl | rfl | rfl | rfl | rfl | rfl | rfl <;> exact ⟨_, rfl⟩
noncomputable def pdF (k : Nat) (rec : (List Int × Int × Int × Int × Bool × Bool × (List (Int × Int × Int))) → Option (List (Int × Int × Int) × List Int)) (x : List Int × Int × Int × Int × Bool × Bool × (List (Int × Int × Int))) : Option (List (Int × Int × Int) × List Int) := slices_pdqsortCmpFunc_pdqsortCmpFunc_int_impl_ChildrenOf_1.s0 k rec x.1 x.2.1 x.2.2.1 x.2.2.2.1 x.2.2.2.2.1 x.2.2.2.2.2.1 x.2.2.2.2.2.2
/-- Sorting the children. -/
theorem sortChildren (k : Nat) (hk : 200 < k) (xs : List (Int × Int × Int)) (L : List Int) (hL : L.length ≤ 12) (hin : ∀ y ∈ L, 0 ≤ y ∧ y < xs.length) (hd : L.Pairwise (fun a b => dev xs a ≠ dev xs b)) :
    ∃ T : List Int, slices_SortFunc_int_impl_ChildrenOf_1.f k L xs = some (xs, T) ∧ T.Pairwise (fun a b => dev xs a < dev xs b) ∧ T.Perm L := by
  obtain ⟨v, hv⟩ := bitsLen_small k L.length hL
  obtain ⟨k', hk'⟩ : ∃ k', k = k' + 1 := ⟨k - 1, by omega⟩
  cases hL0 : L with
  | nil =>
    refine ⟨[], ?_, List.Pairwise.nil, List.Perm.refl _⟩
    rw [hL0] at hv
    have e0 : slices_insertionSortCmpFunc_insertionSortCmpFunc_int_impl_ChildrenOf_1.f k [] 0 0 xs = some (xs, []) := by subst hk'; rfl
    simp only [slices_SortFunc_int_impl_ChildrenOf_1.f, rLen_eq, hv, bnd_one]
    have e1 : slices_pdqsortCmpFunc_pdqsortCmpFunc_int_impl_ChildrenOf_1.f k [] 0 ((List.length ([] : List Int) : Nat) : Int) v xs = some (xs, []) := by
      have : ∀ j, j = k' + 1 → slices_pdqsortCmpFunc_pdqsortCmpFunc_int_impl_ChildrenOf_1.l0 k j [] 0 0 v true true xs = some (xs, []) := by
        intro j hj
        subst hj
        show slices_pdqsortCmpFunc_pdqsortCmpFunc_int_impl_ChildrenOf_1.s0 k (iter (pdF k) k') [] 0 0 v true true xs = _
        generalize iter (pdF k) k' = rec
        simp only [slices_pdqsortCmpFunc_pdqsortCmpFunc_int_impl_ChildrenOf_1.s0, iLe_eq, brB_dec, e0, bnd_one]
        rw [if_pos (by rw [iSub_id (by omega) (by omega)]; omega)]
      exact this k hk'
    rw [e1]; rfl
  | cons x0 L0 =>
    rw [← hL0]
    have hpos : 1 ≤ L.length := by rw [hL0]; simp
    obtain ⟨T, t1, t2, t3⟩ := insOut k hk xs L.length (by omega) L rfl hin hd (L.length - 1) 1 [x0] L0 k (by omega) (by omega) rfl (by simp) (by rw [hL0]; exact List.Perm.refl _)
    rw [show [x0] ++ L0 = L by rw [hL0]; rfl] at t1
    refine ⟨T, ?_, t2, t3⟩
    have e0 : slices_insertionSortCmpFunc_insertionSortCmpFunc_int_impl_ChildrenOf_1.f k L 0 (L.length : Int) xs = some (xs, T) := t1
    have e1 : slices_pdqsortCmpFunc_pdqsortCmpFunc_int_impl_ChildrenOf_1.f k L 0 (L.length : Int) v xs = some (xs, T) := by
      have : ∀ j, j = k' + 1 → slices_pdqsortCmpFunc_pdqsortCmpFunc_int_impl_ChildrenOf_1.l0 k j L 0 (L.length : Int) v true true xs = some (xs, T) := by
        intro j hj
        subst hj
        show slices_pdqsortCmpFunc_pdqsortCmpFunc_int_impl_ChildrenOf_1.s0 k (iter (pdF k) k') L 0 (L.length : Int) v true true xs = _
        generalize iter (pdF k) k' = rec
        simp only [slices_pdqsortCmpFunc_pdqsortCmpFunc_int_impl_ChildrenOf_1.s0, iLe_eq, brB_dec, e0, bnd_one]
        rw [if_pos (by rw [iSub_id (by omega) (by omega)]; omega)]
      exact this k hk'
    simp only [slices_SortFunc_int_impl_ChildrenOf_1.f, rLen_eq, hv, bnd_one, e1]
/-- The nodes below a node, in the order of the text. -/
def chF (xs : List (Int × Int × Int)) (n : Int) (i : Nat) : List Int := ((List.range i).filter fun (j : Nat) => decide ((nd xs j).1 = n)).map fun (j : Nat) => (j : Int)
/-- The nodes below a node, at one place. -/
def chD (xs : List (Int × Int × Int)) (n d : Int) (i : Nat) : List Int := ((List.range i).filter fun (j : Nat) => decide ((nd xs j).1 = n) && decide ((nd xs j).2.1 = d)).map fun (j : Nat) => (j : Int)
/-- The nodes below a node, by their places. -/
def chS (xs : List (Int × Int × Int)) (n : Int) (d : Nat) : List Int := (List.range d).flatMap fun (e : Nat) => chD xs n (e : Int) xs.length
theorem chF_succ (xs : List (Int × Int × Int)) (n : Int) (i : Nat) : chF xs n (i + 1) = if (nd xs i).1 = n then chF xs n i ++ [(i : Int)] else chF xs n i := by
  simp only [chF, List.range_succ, List.filter_append, List.map_append, List.filter_cons, List.filter_nil]
  by_cases h : (nd xs i).1 = n <;> simp [h]
theorem chD_succ (xs : List (Int × Int × Int)) (n d : Int) (i : Nat) : chD xs n d (i + 1) = if (nd xs i).1 = n then (if (nd xs i).2.1 = d then chD xs n d i ++ [(i : Int)] else chD xs n d i) else chD xs n d i := by
  simp only [chD, List.range_succ, List.filter_append, List.map_append, List.filter_cons, List.filter_nil]
  by_cases h : (nd xs i).1 = n <;> by_cases h' : (nd xs i).2.1 = d <;> simp [h, h']
theorem chF_len (xs : List (Int × Int × Int)) (n : Int) (i : Nat) : (chF xs n i).length ≤ i := by
  have := List.length_filter_le (fun (j : Nat) => decide ((nd xs j).1 = n)) (List.range i)
  simpa [chF] using this
theorem chD_len (xs : List (Int × Int × Int)) (n d : Int) (i : Nat) : (chD xs n d i).length ≤ i := by
  have := List.length_filter_le (fun (j : Nat) => decide ((nd xs j).1 = n) && decide ((nd xs j).2.1 = d)) (List.range i)
  simpa [chD] using this
theorem mem_chF {xs : List (Int × Int × Int)} {n : Int} {i : Nat} {x : Int} : x ∈ chF xs n i ↔ 0 ≤ x ∧ x < i ∧ (nd xs x.toNat).1 = n := by
  simp only [chF, List.mem_map, List.mem_filter, List.mem_range, decide_eq_true_eq]
  constructor
  · rintro ⟨j, ⟨h1, h2⟩, rfl⟩
    exact ⟨by omega, by omega, by simpa using h2⟩
  · rintro ⟨h1, h2, h3⟩
    exact ⟨x.toNat, ⟨by omega, h3⟩, by omega⟩
theorem mem_chD {xs : List (Int × Int × Int)} {n d : Int} {i : Nat} {x : Int} : x ∈ chD xs n d i ↔ 0 ≤ x ∧ x < i ∧ (nd xs x.toNat).1 = n ∧ dev xs x = d := by
  simp only [chD, List.mem_map, List.mem_filter, List.mem_range, Bool.and_eq_true, decide_eq_true_eq, dev]
  constructor
  · rintro ⟨j, ⟨h1, h2, h3⟩, rfl⟩
    exact ⟨by omega, by omega, by simpa using h2, by simpa using h3⟩
  · rintro ⟨h1, h2, h3, h4⟩
    exact ⟨x.toNat, ⟨by omega, h3, h4⟩, by omega⟩
theorem node_of {xs : List (Int × Int × Int)} (h : treeB xs = true) {i : Nat} (h0 : 0 < i) (hi : i < xs.length) : nodeB xs i = true := by
  simp only [treeB, Bool.and_eq_true, List.all_eq_true, List.mem_range] at h
  have := h.2.2 (i - 1) (by omega)
  rwa [show i - 1 + 1 = i by omega] at this
/-- Siblings have places of their own. -/
theorem dev_ne {xs : List (Int × Int × Int)} (h : treeB xs = true) {n x y : Int} (hn : 0 ≤ n) (hx : x ∈ chF xs n xs.length) (hy : y ∈ chF xs n xs.length) (hne : x < y) : dev xs x ≠ dev xs y := by
  obtain ⟨x1, x2, x3⟩ := mem_chF.1 hx
  obtain ⟨y1, y2, y3⟩ := mem_chF.1 hy
  have hb := node_of h (i := y.toNat) (by omega) (by omega)
  simp only [nodeB, Bool.and_eq_true, List.all_eq_true, List.mem_range] at hb
  have := hb.2.2.2.2 x.toNat (by omega)
  simp only [sameB, Bool.not_eq_true', Bool.and_eq_false_iff, decide_eq_false_iff_not] at this
  rcases this with h' | h'
  · exact absurd (x3.trans y3.symm) h'
  · exact h'
theorem chF_lt (xs : List (Int × Int × Int)) (n : Int) (i : Nat) : (chF xs n i).Pairwise (· < ·) := by
  unfold chF
  rw [List.pairwise_map]
  refine List.Pairwise.filter _ ?_
  exact List.pairwise_lt_range.imp fun h => by omega
theorem chF_dev {xs : List (Int × Int × Int)} (h : treeB xs = true) {n : Int} (hn : 0 ≤ n) : (chF xs n xs.length).Pairwise (fun a b => dev xs a ≠ dev xs b) :=
  (chF_lt xs n xs.length).imp_of_mem fun hx hy hlt => dev_ne h hn hx hy hlt
theorem chS_sorted {xs : List (Int × Int × Int)} (h : treeB xs = true) {n : Int} (hn : 0 ≤ n) (d : Nat) : (chS xs n d).Pairwise (fun a b => dev xs a < dev xs b) := by
  unfold chS
  rw [List.pairwise_flatMap]
  refine ⟨fun e he => ?_, ?_⟩
  · have hlt : (chD xs n (e : Int) xs.length).Pairwise (· < ·) := by
      unfold chD
      rw [List.pairwise_map]
      refine List.Pairwise.filter _ ?_
      exact List.pairwise_lt_range.imp fun h => by omega
    refine hlt.imp_of_mem fun hx hy hlt => ?_
    obtain ⟨x1, x2, x3, x4⟩ := mem_chD.1 hx
    obtain ⟨y1, y2, y3, y4⟩ := mem_chD.1 hy
    exact absurd (x4.trans y4.symm) (dev_ne h hn (mem_chF.2 ⟨x1, x2, x3⟩) (mem_chF.2 ⟨y1, y2, y3⟩) hlt)
  · refine List.pairwise_lt_range.imp fun hlt => ?_
    intro x hx y hy
    have h1 := (mem_chD.1 hx).2.2.2
    have h2 := (mem_chD.1 hy).2.2.2
    omega
theorem mem_chS {xs : List (Int × Int × Int)} (h : treeB xs = true) {n : Int} (hn : 0 ≤ n) {x : Int} : x ∈ chS xs n 4 ↔ x ∈ chF xs n xs.length := by
  simp only [chS, List.mem_flatMap, List.mem_range, mem_chD, mem_chF]
  constructor
  · rintro ⟨e, _, h1, h2, h3, _⟩
    exact ⟨h1, h2, h3⟩
  · rintro ⟨h1, h2, h3⟩
    have hpos : 0 < x.toNat := by
      rcases Nat.eq_zero_or_pos x.toNat with e | e
      · have hr := h
        simp only [treeB, rootB, Bool.and_eq_true, decide_eq_true_eq] at hr
        rw [e] at h3
        have := hr.2.1.1
        omega
      · exact e
    have hb := node_of h hpos (by omega)
    simp only [nodeB, Bool.and_eq_true, decide_eq_true_eq] at hb
    have hd := hb.2.2.1
    exact ⟨(dev xs x).toNat, by unfold dev; omega, h1, h2, h3, by unfold dev; omega⟩
theorem chS_perm {xs : List (Int × Int × Int)} (h : treeB xs = true) {n : Int} (hn : 0 ≤ n) : (chS xs n 4).Perm (chF xs n xs.length) := by
  have hl := tree_len h
  obtain ⟨T, t1, t2, t3⟩ := sortChildren 1000 (by omega) xs (chF xs n xs.length) (by have := chF_len xs n xs.length; omega) (fun y hy => by obtain ⟨a, b, _⟩ := mem_chF.1 hy; exact ⟨a, b⟩) (chF_dev h hn)
  have eT : T = chS xs n 4 := sorted_uniq (key := dev xs) t2 (chS_sorted h hn 4) fun x => (t3.mem_iff).trans (mem_chS h hn).symm
  rwa [eT] at t3
/-- The nodes below a node. -/
def chT (xs : List (Int × Int × Int)) (n : Int) : List Int := if okN xs n = true then chS xs n 4 else []
theorem chT_len (xs : List (Int × Int × Int)) (n : Int) : (chT xs n).length ≤ 12 := by
  unfold chT
  split
  · rename_i h
    simp only [okN, Bool.and_eq_true, decide_eq_true_eq] at h
    have hl := tree_len h.1
    have h1 := chF_len xs n xs.length
    have := (chS_perm h.1 (show 0 ≤ n by omega)).length_eq
    omega
  · simp
theorem chT_mem {xs : List (Int × Int × Int)} {n x : Int} (h : x ∈ chT xs n) : n < x ∧ 0 ≤ n ∧ x < xs.length ∧ treeB xs = true ∧ (nd xs x.toNat).1 = n := by
  unfold chT at h
  split at h
  · rename_i hk
    simp only [okN, Bool.and_eq_true, decide_eq_true_eq] at hk
    obtain ⟨h1, h2, h3⟩ := mem_chF.1 ((mem_chS hk.1 (by omega)).1 h)
    have := (treeP_of hk.1) x.toNat (by omega)
    exact ⟨by omega, by omega, h2, hk.1, h3⟩
  · simp at h
theorem implChildren_ev (xs : List (Int × Int × Int)) (n : Int) (hx : xs.length ≤ 1048576) (k : Nat) (hk : xs.length + 300 < k) : impl_ChildrenOf.f k xs n = some (chT xs n) := by
  simp only [impl_ChildrenOf.f, isNode_ev xs n hx k (by omega), bnd_one, bNot_eq, brB_nb, chT]
  cases h : okN xs n with
  | false => rw [show (treeB xs && decide (0 ≤ n ∧ n ≤ (xs.length : Int) - 1)) = false from h]; rfl
  | true =>
    rw [show (treeB xs && decide (0 ≤ n ∧ n ≤ (xs.length : Int) - 1)) = true from h, brB_true]
    simp only [okN, Bool.and_eq_true, decide_eq_true_eq] at h
    have hl := tree_len h.1
    have hn : 0 ≤ n := by omega
    obtain ⟨T, t1, t2, t3⟩ := sortChildren k (by omega) xs (chF xs n xs.length) (by have := chF_len xs n xs.length; omega) (fun y hy => by obtain ⟨a, b, _⟩ := mem_chF.1 hy; exact ⟨a, b⟩) (chF_dev h.1 hn)
    have eT : T = chS xs n 4 := sorted_uniq (key := dev xs) t2 (chS_sorted h.1 hn 4) fun x => (t3.mem_iff).trans (mem_chS h.1 hn).symm
    rw [eT] at t1
    have hh := iter_upto (f := fun (rec : (Int × List Int × (List (Int × Int × Int)) × Int × Int × (List (Int × Int × Int))) → Option (List Int)) (x : Int × List Int × (List (Int × Int × Int)) × Int × Int × (List (Int × Int × Int))) => impl_ChildrenOf.s0 k rec x.1 x.2.1 x.2.2.1 x.2.2.2.1 x.2.2.2.2.1 x.2.2.2.2.2) (fun i => (n, chF xs n i, xs, (xs.length : Int), (i : Int), xs)) xs.length (r := chS xs n 4) (fun rec i hi => ?_) (fun rec => ?_) (n := k) (by omega)
    · exact hh
    · have hc := chF_len xs n i
      simp only [impl_ChildrenOf.s0, rGet_nd, iLt_eq, iEq_eq, brB_dec, chk_idx, chk_len, rLen_eq, rApp_eq, chF_succ]
      rw [if_pos (by omega), if_idx hi, next_id hi (by omega)]
      by_cases c : (nd xs i).1 = n
      · rw [if_pos c, if_pos c, if_pos (by simp only [List.length_append, List.length_cons, List.length_nil]; omega)]
      · rw [if_neg c, if_neg c]
    · simp only [impl_ChildrenOf.s0, iLt_eq, brB_dec, t1, bnd_one]
      rw [if_neg (by omega)]
theorem chD_one (xs : List (Int × Int × Int)) (n d : Int) (hr : (nd xs 0).1 ≠ n) : chD xs n d 1 = [] := by
  rw [chD_succ, if_neg hr]; rfl
theorem specRow (k : Nat) (xs : List (Int × Int × Int)) (n : Int) (d : Int) (out : List Int) (hr : (nd xs 0).1 ≠ n) (hx : 1 ≤ xs.length ∧ xs.length ≤ 12) (ho : out.length ≤ 100) (hk : xs.length < k) (rec0 : ((List (Int × Int × Int)) × Int × (List Int) × Int) → Option (List Int)) :
    spec_ChildrenOf.l1 k k rec0 xs n out d 1 = rec0 (xs, n, out ++ chD xs n d xs.length, iAdd .i64 d 1) := by
  have suff : ∀ r, rec0 (xs, n, out ++ chD xs n d xs.length, iAdd .i64 d 1) = r → spec_ChildrenOf.l1 k k rec0 xs n out d 1 = r := by
    intro r hres
    suffices H : ∀ (m i : Nat) (K : Nat), i + m = xs.length → m < K → 1 ≤ i → iter (fun (rec : ((List (Int × Int × Int)) × Int × List Int × Int × Int) → Option (List Int)) (x : (List (Int × Int × Int)) × Int × List Int × Int × Int) => spec_ChildrenOf.s1 k rec0 rec x.1 x.2.1 x.2.2.1 x.2.2.2.1 x.2.2.2.2) K (xs, n, out ++ chD xs n d i, d, (i : Int)) = r by
      have := H (xs.length - 1) 1 k (by omega) (by omega) (by omega)
      rw [chD_one xs n d hr, List.append_nil] at this
      exact this
    intro m
    induction m with
    | zero =>
      intro i K hi hK h1
      obtain ⟨K', rfl⟩ : ∃ K', K = K' + 1 := ⟨K - 1, by omega⟩
      obtain rfl : i = xs.length := by omega
      show spec_ChildrenOf.s1 k rec0 (iter _ K') xs n (out ++ chD xs n d xs.length) d (xs.length : Int) = r
      generalize iter _ K' = rec
      simp only [spec_ChildrenOf.s1, iLt_eq, brB_dec, rLen_eq]
      rw [if_neg (by omega)]
      exact hres
    | succ m ih =>
      intro i K hi hK h1
      obtain ⟨K', rfl⟩ : ∃ K', K = K' + 1 := ⟨K - 1, by omega⟩
      have ihh := ih (i + 1) K' (by omega) (by omega) (by omega)
      have hc := chD_len xs n d i
      show spec_ChildrenOf.s1 k rec0 (iter _ K') xs n (out ++ chD xs n d i) d (i : Int) = r
      generalize iter _ K' = rec at ihh ⊢
      simp only [spec_ChildrenOf.s1, rGet_nd, iLt_eq, iEq_eq, brB_dec, chk_idx, chk_len, rLen_eq, rApp_eq]
      rw [if_pos (by omega), if_idx (by omega), next_id (i := i) (n := xs.length) (by omega) (by omega)]
      rw [chD_succ] at ihh
      by_cases c1 : (nd xs i).1 = n
      · rw [if_pos c1] at ihh ⊢
        rw [if_idx (by omega)]
        by_cases c2 : (nd xs i).2.1 = d
        · rw [if_pos c2] at ihh ⊢
          rw [if_pos (by simp only [List.length_append, List.length_cons, List.length_nil]; omega), List.append_assoc]; exact ihh
        · rw [if_neg c2] at ihh ⊢; exact ihh
      · rw [if_neg c1] at ihh ⊢; exact ihh
  exact suff _ rfl
theorem specChildren_ev (xs : List (Int × Int × Int)) (n : Int) (hx : xs.length ≤ 1048576) (k : Nat) (hk : xs.length + 300 < k) : spec_ChildrenOf.f k xs n = some (chT xs n) := by
  simp only [spec_ChildrenOf.f, l19Ok_ev xs n hx k (by omega), bnd_one, bNot_eq, brB_nb, chT]
  cases h : okN xs n with
  | false => rw [show (treeB xs && decide (0 ≤ n ∧ n ≤ (xs.length : Int) - 1)) = false from h]; rfl
  | true =>
    rw [show (treeB xs && decide (0 ≤ n ∧ n ≤ (xs.length : Int) - 1)) = true from h, brB_true]
    simp only [okN, Bool.and_eq_true, decide_eq_true_eq] at h
    have hl := tree_len h.1
    have hr : (nd xs 0).1 ≠ n := by
      have hr := h.1
      simp only [treeB, rootB, Bool.and_eq_true, decide_eq_true_eq] at hr
      have := hr.2.1.1
      omega
    have hlen : ∀ d, d ≤ 4 → (chS xs n d).length ≤ 12 * d := by
      intro d
      induction d with
      | zero => intro _; simp [chS]
      | succ d ih =>
        intro hd
        have := ih (by omega)
        have h2 := chD_len xs n (d : Int) xs.length
        have e : chS xs n (d + 1) = chS xs n d ++ chD xs n (d : Int) xs.length := by simp [chS, List.range_succ]
        rw [e, List.length_append]; omega
    have hh := iter_upto (f := fun (rec : ((List (Int × Int × Int)) × Int × List Int × Int) → Option (List Int)) (x : (List (Int × Int × Int)) × Int × List Int × Int) => spec_ChildrenOf.s0 k rec x.1 x.2.1 x.2.2.1 x.2.2.2) (fun d => (xs, n, chS xs n d, (d : Int))) 4 (r := chS xs n 4) (fun rec d hd => ?_) (fun rec => ?_) (n := k) (by omega)
    · exact hh
    · have := hlen d (by omega)
      have e : chS xs n (d + 1) = chS xs n d ++ chD xs n (d : Int) xs.length := by simp [chS, List.range_succ]
      simp only [spec_ChildrenOf.s0, iLe_eq, brB_dec, specRow k xs n (d : Int) (chS xs n d) hr hl (by omega) (by omega) rec]
      rw [if_pos (by omega), e, next_id hd (by omega)]
    · simp only [spec_ChildrenOf.s0, iLe_eq, brB_dec]
      rw [if_neg (by omega)]

/-- A window covers an address. -/
def covB (s b a : Int) : Bool := decide (0 < s) && (decide (b ≤ a) && iLt (iSub .u64 (iCnv .u64 a) (iCnv .u64 b)) (iCnv .u64 s))
theorem implCov_eq (k : Nat) (s b a : Int) : impl_Bar__covers.f k s b a = some (covB s b a) := by
  simp only [impl_Bar__covers.f, iLt_eq, iLe_eq, brB_dec, covB]
  exact if_and (if_and rfl)
theorem specCov_eq (k : Nat) (s b a : Int) : spec_l25Covers.f k s b a = some (covB s b a) := by
  simp only [spec_l25Covers.f, spec_l24Far.f, bnd_one, iLt_eq, iLe_eq, brB_dec, covB]
  exact if_and (if_and rfl)
def covN (ws : List (Int × Int)) (a c : Int) : Bool := covB (rGet (0, 0) ws c).1 (rGet (0, 0) ws c).2 a
theorem find_idx (p : Int → Bool) (l : List Int) : l.find? p = (l.findIdx? p).map fun i => l.getD i 0 := by
  cases h : l.findIdx? p with
  | none =>
    rw [List.findIdx?_eq_none_iff] at h
    simp only [Option.map_none, List.find?_eq_none]
    intro x hx
    have := h x hx
    simp [this]
  | some i =>
    rw [List.findIdx?_eq_some_iff_getElem] at h
    obtain ⟨h1, h2, h3⟩ := h
    simp only [Option.map_some]
    rw [List.find?_eq_some_iff_getElem, getD_lt 0 l h1]
    exact ⟨h2, i, h1, rfl, fun j hj => by have := h3 j hj; simpa using this⟩
theorem indexCov_ev (ch : List Int) (ws : List (Int × Int)) (a : Int) (hin : ∀ c ∈ ch, 0 ≤ c ∧ c < ws.length) (hl : ch.length ≤ 100) (k : Nat) (hk : 200 < k) :
    slices_IndexFunc_int_impl_downFrom_1.f k ch ws a = some ((match ch.findIdx? (covN ws a) with | some i => (i : Int) | none => -1), ws, a) := by
  have h := iter_find (f := fun (rec : (List Int × Int × Int × (List (Int × Int)) × Int) → Option (Int × List (Int × Int) × Int)) (x : List Int × Int × Int × (List (Int × Int)) × Int) => slices_IndexFunc_int_impl_downFrom_1.s0 k rec x.1 x.2.1 x.2.2.1 x.2.2.2.1 x.2.2.2.2) (fun i => (ch, (ch.length : Int), (i : Int), ws, a)) ch (fun c => !covN ws a c) (-1, ws, a) (fun i => ((i : Int), ws, a))
    (fun rec i hi hp => ?_) (fun rec i hi hp => ?_) (fun rec => ?_) (n := k) (by omega)
  · refine Eq.trans h ?_
    simp only [Bool.not_not]
    cases ch.findIdx? (covN ws a) <;> rfl
  · have hc := hin _ (List.getElem_mem hi)
    simp only [slices_IndexFunc_int_impl_downFrom_1.s0, impl_downFrom_1.f, implCov_eq, iLt_eq, brB_dec, chk_idx, rLen_eq, rGet_nat, getD_lt _ _ hi]
    rw [if_pos (by omega), if_idx hi, if_pos hc, bnd_one, bnd_one, show covB (rGet (0, 0) ws ch[i]).1 (rGet (0, 0) ws ch[i]).2 a = covN ws a ch[i] from rfl]
    rw [show covN ws a ch[i] = false by simpa using hp, next_id hi (by omega)]; rfl
  · have hc := hin _ (List.getElem_mem hi)
    simp only [slices_IndexFunc_int_impl_downFrom_1.s0, impl_downFrom_1.f, implCov_eq, iLt_eq, brB_dec, chk_idx, rLen_eq, rGet_nat, getD_lt _ _ hi]
    rw [if_pos (by omega), if_idx hi, if_pos hc, bnd_one, bnd_one, show covB (rGet (0, 0) ws ch[i]).1 (rGet (0, 0) ws ch[i]).2 a = covN ws a ch[i] from rfl]
    rw [show covN ws a ch[i] = true by simpa using hp]; rfl
  · simp only [slices_IndexFunc_int_impl_downFrom_1.s0, iLt_eq, brB_dec]
    rw [if_neg (by omega)]
/-- The way down to the device that covers an address. -/
def downL (xs : List (Int × Int × Int)) (ws : List (Int × Int)) (a : Int) : Nat → Int → List Int → List Int
  | 0, _, _ => []
  | f + 1, n, out => if (nd xs n.toNat).2.2 = 0 then (match (chT xs n).find? (covN ws a) with | none => [] | some c => downL xs ws a f c (out ++ [c])) else out
theorem downL_len (xs : List (Int × Int × Int)) (ws : List (Int × Int)) (a : Int) : ∀ (f : Nat) (n : Int) (out : List Int), (downL xs ws a f n out).length ≤ out.length + f
  | 0, _, _ => by simp [downL]
  | f + 1, n, out => by
    simp only [downL]
    split
    · split
      · simp
      · rename_i c _
        have := downL_len xs ws a f c (out ++ [c])
        simp only [List.length_append, List.length_cons, List.length_nil] at this
        omega
    · omega
noncomputable def idF (k : Nat) (rec : ((List (Int × Int × Int)) × Int × List Int × (List (Int × Int)) × Int) → Option (List Int)) (x : (List (Int × Int × Int)) × Int × List Int × (List (Int × Int)) × Int) : Option (List Int) := impl_downFrom.s0 k rec x.1 x.2.1 x.2.2.1 x.2.2.2.1 x.2.2.2.2
theorem implDown (xs : List (Int × Int × Int)) (ht : treeB xs = true) (ws : List (Int × Int)) (hw : ws.length = xs.length) (a : Int) (k : Nat) (hk : 400 < k) : ∀ (f : Nat) (n : Int) (out : List Int) (K : Nat), 0 ≤ n → n < xs.length → (xs.length : Int) ≤ f + n → f < K → out.length + f ≤ 100 →
    iter (idF k) K (xs, n, out, ws, a) = some (downL xs ws a f n out)
  | f, n, out, 0, _, _, _, hK, _ => by omega
  | 0, n, out, K + 1, h0, h1, h2, hK, ho => by omega
  | f + 1, n, out, K + 1, h0, h1, h2, hK, ho => by
    have hl := tree_len ht
    have hcl := chT_len xs n
    have hin : ∀ c ∈ chT xs n, 0 ≤ c ∧ c < ws.length := fun c hc => by have := chT_mem hc; omega
    have ih : ∀ c, c ∈ chT xs n → iter (idF k) K (xs, c, out ++ [c], ws, a) = some (downL xs ws a f c (out ++ [c])) := fun c hc => by
      have := chT_mem hc
      exact implDown xs ht ws hw a k hk f c (out ++ [c]) K (by omega) (by omega) (by omega) (by omega) (by simp only [List.length_append, List.length_cons, List.length_nil]; omega)
    show impl_downFrom.s0 k (iter (idF k) K) xs n out ws a = _
    generalize iter (idF k) K = rec at ih ⊢
    have e : rGet (0, 0, 0) xs n = nd xs n.toNat := rfl
    simp only [impl_downFrom.s0, impl_isBridge.f, implChildren_ev xs n (by omega) k (by omega), indexCov_ev (chT xs n) ws a hin (by omega) k (by omega), e, chk_idx, rLen_eq, iEq_eq, iLt_eq, bnd_one, downL]
    rw [if_pos (by omega), bnd_one, brB_dec]
    by_cases hb : (nd xs n.toNat).2.2 = 0
    · rw [if_pos hb, if_pos hb, find_idx, brB_dec]
      cases hf : (chT xs n).findIdx? (covN ws a) with
      | none => dsimp only; rw [if_pos (by omega)]; rfl
      | some i =>
        have hi : i < (chT xs n).length := by
          rw [List.findIdx?_eq_some_iff_getElem] at hf
          exact hf.1
        simp only [Option.map_some, rGet_nat, rApp_eq, chk_len, rLen_eq]
        rw [if_neg (by omega), if_idx hi, if_pos (by simp only [List.length_append, List.length_cons, List.length_nil]; omega)]
        exact ih _ (by rw [getD_lt 0 _ hi]; exact List.getElem_mem hi)
    · rw [if_neg hb, if_neg hb]
theorem specIn (xs : List (Int × Int × Int)) (ws : List (Int × Int)) (a : Int) (out ch : List Int) (hin : ∀ c ∈ ch, 0 ≤ c ∧ c < ws.length) (hl : ch.length ≤ 100) (ho : out.length ≤ 1000) (k : Nat) (hk : 200 < k) (rec0 : ((List (Int × Int × Int)) × (List (Int × Int)) × Int × Int × List Int) → Option (List Int)) :
    spec_l25Down.l1 k k rec0 xs ws a out ch (-1) ((ch.length : Int) - 1) = (match ch.find? (covN ws a) with | none => some [] | some c => rec0 (xs, ws, c, a, out ++ [c])) := by
  suffices H : ∀ (m : Nat) (K : Nat), m ≤ ch.length → m < K → iter (fun (rec : ((List (Int × Int × Int)) × (List (Int × Int)) × Int × List Int × List Int × Int × Int) → Option (List Int)) (x : (List (Int × Int × Int)) × (List (Int × Int)) × Int × List Int × List Int × Int × Int) => spec_l25Down.s1 k rec0 rec x.1 x.2.1 x.2.2.1 x.2.2.2.1 x.2.2.2.2.1 x.2.2.2.2.2.1 x.2.2.2.2.2.2) K (xs, ws, a, out, ch, ((ch.drop m).find? (covN ws a)).getD (-1), (m : Int) - 1) = (match ch.find? (covN ws a) with | none => some [] | some c => rec0 (xs, ws, c, a, out ++ [c])) by
    have := H ch.length k (Nat.le_refl _) (by omega)
    rw [List.drop_length] at this
    exact this
  intro m
  induction m with
  | zero =>
    intro K hm hK
    obtain ⟨K', rfl⟩ : ∃ K', K = K' + 1 := ⟨K - 1, by omega⟩
    show spec_l25Down.s1 k rec0 (iter _ K') xs ws a out ch (((ch.drop 0).find? (covN ws a)).getD (-1)) (((0 : Nat) : Int) - 1) = _
    generalize iter _ K' = rec
    simp only [spec_l25Down.s1, iLe_eq, iLt_eq, brB_dec, List.drop_zero, chk_len, rLen_eq, rApp_eq]
    rw [if_neg (by omega)]
    cases hf : ch.find? (covN ws a) with
    | none => rfl
    | some c =>
      have hc := hin c (List.mem_of_find?_eq_some hf)
      simp only [Option.getD_some]
      rw [if_neg (by omega), if_pos (by simp only [List.length_append, List.length_cons, List.length_nil]; omega)]
  | succ m ih =>
    intro K hm hK
    obtain ⟨K', rfl⟩ : ∃ K', K = K' + 1 := ⟨K - 1, by omega⟩
    have ihh := ih K' (by omega) (by omega)
    have hml : m < ch.length := by omega
    rw [List.drop_eq_getElem_cons hml, List.find?_cons] at ihh
    have hc := hin _ (List.getElem_mem hml)
    show spec_l25Down.s1 k rec0 (iter _ K') xs ws a out ch (((ch.drop (m + 1)).find? (covN ws a)).getD (-1)) (((m + 1 : Nat) : Int) - 1) = _
    generalize iter _ K' = rec at ihh ⊢
    rw [show ((m + 1 : Nat) : Int) - 1 = (m : Int) by omega]
    simp only [spec_l25Down.s1, specCov_eq, iLe_eq, brB_dec, chk_idx, rLen_eq, rGet_nat, getD_lt 0 ch hml, bnd_one]
    rw [if_pos (by omega), if_idx hml, if_pos hc, if_idx hml, iSub_id (by omega) (by omega), show covB (rGet (0, 0) ws ch[m]).1 (rGet (0, 0) ws ch[m]).2 a = covN ws a ch[m] from rfl]
    cases hcv : covN ws a ch[m] with
    | true => rw [hcv] at ihh; exact ihh
    | false => rw [hcv] at ihh; exact ihh
noncomputable def sdF (k : Nat) (rec : ((List (Int × Int × Int)) × (List (Int × Int)) × Int × Int × List Int) → Option (List Int)) (x : (List (Int × Int × Int)) × (List (Int × Int)) × Int × Int × List Int) : Option (List Int) := spec_l25Down.s0 k rec x.1 x.2.1 x.2.2.1 x.2.2.2.1 x.2.2.2.2
theorem specDown (xs : List (Int × Int × Int)) (ht : treeB xs = true) (ws : List (Int × Int)) (hw : ws.length = xs.length) (a : Int) (k : Nat) (hk : 400 < k) : ∀ (f : Nat) (n : Int) (out : List Int) (K : Nat), 0 ≤ n → n < xs.length → (xs.length : Int) ≤ f + n → f < K → out.length + f ≤ 100 →
    iter (sdF k) K (xs, ws, n, a, out) = some (downL xs ws a f n out)
  | f, n, out, 0, _, _, _, hK, _ => by omega
  | 0, n, out, K + 1, h0, h1, h2, hK, ho => by omega
  | f + 1, n, out, K + 1, h0, h1, h2, hK, ho => by
    have hl := tree_len ht
    have hcl := chT_len xs n
    have hin : ∀ c ∈ chT xs n, 0 ≤ c ∧ c < ws.length := fun c hc => by have := chT_mem hc; omega
    have ih : ∀ c, c ∈ chT xs n → iter (sdF k) K (xs, ws, c, a, out ++ [c]) = some (downL xs ws a f c (out ++ [c])) := fun c hc => by
      have := chT_mem hc
      exact specDown xs ht ws hw a k hk f c (out ++ [c]) K (by omega) (by omega) (by omega) (by omega) (by simp only [List.length_append, List.length_cons, List.length_nil]; omega)
    show spec_l25Down.s0 k (iter (sdF k) K) xs ws n a out = _
    generalize iter (sdF k) K = rec at ih ⊢
    have e : rGet (0, 0, 0) xs n = nd xs n.toNat := rfl
    simp only [spec_l25Down.s0, specChildren_ev xs n (by omega) k (by omega), e, chk_idx, rLen_eq, iEq_eq, bnd_one, downL]
    rw [if_pos (by omega), brB_dec]
    by_cases hb : (nd xs n.toNat).2.2 = 0
    · rw [if_pos hb, if_pos hb, iSub_id (by omega) (by omega), specIn xs ws a out (chT xs n) hin (by omega) (by omega) k (by omega) rec]
      cases hf : (chT xs n).find? (covN ws a) with
      | none => rfl
      | some c => exact ih c (List.mem_of_find?_eq_some hf)
    · rw [if_neg hb, if_neg hb]
/-- The way from the root to the device of an address. -/
def downT (xs : List (Int × Int × Int)) (ws : List (Int × Int)) (a : Int) : List Int := if treeB xs = true ∧ ws.length = xs.length then downL xs ws a xs.length 0 [0] else []
theorem implDownFrom_ev {xs : List (Int × Int × Int)} (ht : treeB xs = true) {ws : List (Int × Int)} (hw : ws.length = xs.length) (a n : Int) (h0 : 0 ≤ n) (h1 : n < xs.length) (k : Nat) (hk : 400 < k) : impl_downFrom.f k xs ws n a = some (downL xs ws a xs.length n [n]) := by
  have hl := tree_len ht
  exact implDown xs ht ws hw a k hk xs.length n [n] k h0 h1 (by omega) (by omega) (by simp only [List.length_cons, List.length_nil]; omega)
theorem specDownFrom_ev {xs : List (Int × Int × Int)} (ht : treeB xs = true) {ws : List (Int × Int)} (hw : ws.length = xs.length) (a n : Int) (h0 : 0 ≤ n) (h1 : n < xs.length) (k : Nat) (hk : 400 < k) : spec_l25Down.f k xs ws n a = some (downL xs ws a xs.length n [n]) := by
  have hl := tree_len ht
  exact specDown xs ht ws hw a k hk xs.length n [n] k h0 h1 (by omega) (by omega) (by simp only [List.length_cons, List.length_nil]; omega)
theorem areWindows_ev (xs : List (Int × Int × Int)) (ws : List (Int × Int)) (hx : xs.length ≤ 1048576) (k : Nat) (hk : xs.length < k) : impl_areWindows.f k xs ws = some (decide (treeB xs = true ∧ ws.length = xs.length)) := by
  simp only [impl_areWindows.f, implTreeOk_ev xs hx k hk, bnd_one, iEq_eq, rLen_eq]
  cases treeB xs with
  | false => simp [brB]
  | true => rw [brB_true]; congr 1; rw [Bool.eq_iff_iff]; simp; omega
theorem implDownTo_ev (xs : List (Int × Int × Int)) (ws : List (Int × Int)) (a : Int) (hx : xs.length ≤ 1048576) (k : Nat) (hk : xs.length + 400 < k) : impl_DownToAddress.f k xs ws a = some (downT xs ws a) := by
  simp only [impl_DownToAddress.f, areWindows_ev xs ws hx k (by omega), bnd_one, bNot_eq, brB_nb, brB_dec, downT]
  by_cases h : treeB xs = true ∧ ws.length = xs.length
  · have hl := tree_len h.1
    rw [if_pos h, if_pos h, implDownFrom_ev h.1 h.2 a 0 (by omega) (by omega) k (by omega), bnd_one]
  · rw [if_neg h, if_neg h]
theorem specDownTo_ev (xs : List (Int × Int × Int)) (ws : List (Int × Int)) (a : Int) (hx : xs.length ≤ 1048576) (k : Nat) (hk : xs.length + 400 < k) : spec_DownToAddress.f k xs ws a = some (downT xs ws a) := by
  simp only [spec_DownToAddress.f, specTreeOk_ev xs hx k (by omega), bnd_one, bNot_eq, brB_nb, iNe_eq, brB_dec, rLen_eq, downT]
  cases ht : treeB xs with
  | false => rw [brB_false, if_neg (fun h => by cases h.1)]
  | true =>
    have hl := tree_len ht
    rw [brB_true]
    by_cases hw : ws.length = xs.length
    · rw [if_pos (by omega), if_pos ⟨rfl, hw⟩, specDownFrom_ev ht hw a 0 (by omega) (by omega) k (by omega), bnd_one]
    · rw [if_neg (by omega), if_neg (fun h => hw h.2)]
/-- The way up and down. -/
def routeL (xs : List (Int × Int × Int)) (ws : List (Int × Int)) (a : Int) : Nat → Int → List Int → List Int
  | 0, _, _ => []
  | f + 1, n, out => if n = 0 ∨ ((nd xs n.toNat).2.2 = 0 ∧ covN ws a n = true) then (if (downL xs ws a xs.length n [n]).length = 0 then [] else out ++ downL xs ws a xs.length n [n]) else routeL xs ws a f (nd xs n.toNat).1 (out ++ [n])
theorem routeL_len (xs : List (Int × Int × Int)) (ws : List (Int × Int)) (a : Int) : ∀ (f : Nat) (n : Int) (out : List Int), (routeL xs ws a f n out).length ≤ out.length + f + xs.length + 1
  | 0, _, _ => by simp [routeL]
  | f + 1, n, out => by
    simp only [routeL]
    split
    · split
      · simp
      · have := downL_len xs ws a xs.length n [n]
        simp only [List.length_append, List.length_cons, List.length_nil] at this ⊢
        omega
    · have := routeL_len xs ws a f (nd xs n.toNat).1 (out ++ [n])
      simp only [List.length_append, List.length_cons, List.length_nil] at this
      omega
theorem fn_nonneg {xs : List (Int × Int × Int)} (h : treeB xs = true) {n : Int} (h0 : 0 < n) (h1 : n < xs.length) : 0 ≤ (nd xs n.toNat).2.2 ∧ 0 ≤ (nd xs n.toNat).1 ∧ (nd xs n.toNat).1 < n := by
  have hb := node_of h (i := n.toNat) (by omega) (by omega)
  simp only [nodeB, Bool.and_eq_true, decide_eq_true_eq] at hb
  have h2 := hb.2.2.2.1
  have h3 := hb.1
  omega
noncomputable def irF (k : Nat) (rec : ((List (Int × Int × Int)) × (List (Int × Int)) × Int × List Int × Int) → Option (List Int)) (x : (List (Int × Int × Int)) × (List (Int × Int)) × Int × List Int × Int) : Option (List Int) := impl_RouteToAddress.s0 k rec x.1 x.2.1 x.2.2.1 x.2.2.2.1 x.2.2.2.2
theorem implRoute (xs : List (Int × Int × Int)) (ht : treeB xs = true) (ws : List (Int × Int)) (hw : ws.length = xs.length) (a : Int) (k : Nat) (hk : 400 < k) : ∀ (f : Nat) (n : Int) (out : List Int) (K : Nat), 0 ≤ n → n < xs.length → n < f → f < K → out.length + f ≤ 100 →
    iter (irF k) K (xs, ws, a, out, n) = some (routeL xs ws a f n out)
  | f, n, out, 0, _, _, _, hK, _ => by omega
  | 0, n, out, K + 1, h0, h1, h2, hK, ho => by omega
  | f + 1, n, out, K + 1, h0, h1, h2, hK, ho => by
    have hl := tree_len ht
    have ih : 0 < n → iter (irF k) K (xs, ws, a, out ++ [n], (nd xs n.toNat).1) = some (routeL xs ws a f (nd xs n.toNat).1 (out ++ [n])) := fun hn => by
      have := fn_nonneg ht hn h1
      exact implRoute xs ht ws hw a k hk f _ (out ++ [n]) K (by omega) (by omega) (by omega) (by omega) (by simp only [List.length_append, List.length_cons, List.length_nil]; omega)
    have hd := downL_len xs ws a xs.length n [n]
    simp only [List.length_cons, List.length_nil] at hd
    show impl_RouteToAddress.s0 k (iter (irF k) K) xs ws a out n = _
    generalize iter (irF k) K = rec at ih ⊢
    have e : rGet (0, 0, 0) xs n = nd xs n.toNat := rfl
    simp only [impl_RouteToAddress.s0, impl_isBridge.f, implCov_eq, implDownFrom_ev ht hw a n h0 h1 k hk, e, chk_idx, chk_len, rLen_eq, rApp_eq, iEq_eq, iNe_eq, bNot_eq, brB_nb, brB_dec, bnd_one, routeL]
    rw [show covB (rGet (0, 0) ws n).1 (rGet (0, 0) ws n).2 a = covN ws a n from rfl]
    have fin : (if ((downL xs ws a xs.length n [n]).length : Int) = 0 then some [] else if ((out ++ downL xs ws a xs.length n [n]).length : Int) * 8 ≤ 35184372088832 then some (out ++ downL xs ws a xs.length n [n]) else none) = some (if (downL xs ws a xs.length n [n]).length = 0 then [] else out ++ downL xs ws a xs.length n [n]) := by
      by_cases hz : (downL xs ws a xs.length n [n]).length = 0
      · rw [if_pos (by omega), if_pos hz]
      · rw [if_neg (by omega), if_neg hz, if_pos (by rw [List.length_append]; omega)]
    by_cases hn : n = 0
    · have hP : n = 0 ∨ ((nd xs n.toNat).2.2 = 0 ∧ covN ws a n = true) := Or.inl hn
      rw [if_pos hn, if_pos hP]; exact fin
    · rw [if_neg hn, if_pos (show 0 ≤ n ∧ n < (xs.length : Int) by omega), bnd_one, brB_dec]
      by_cases hb : (nd xs n.toNat).2.2 = 0
      · rw [if_pos hb, if_pos (show 0 ≤ n ∧ n < (ws.length : Int) by omega), brB_if]
        by_cases hc : covN ws a n = true
        · have hP : n = 0 ∨ ((nd xs n.toNat).2.2 = 0 ∧ covN ws a n = true) := Or.inr ⟨hb, hc⟩
          rw [if_pos hc, if_pos hP]; exact fin
        · have hP : ¬ (n = 0 ∨ ((nd xs n.toNat).2.2 = 0 ∧ covN ws a n = true)) := fun h => h.elim hn fun h => hc h.2
          rw [if_neg hc, if_neg hP, if_pos (by simp only [List.length_append, List.length_cons, List.length_nil]; omega), if_pos (show 0 ≤ n ∧ n < (xs.length : Int) by omega)]
          exact ih (by omega)
      · have hP : ¬ (n = 0 ∨ ((nd xs n.toNat).2.2 = 0 ∧ covN ws a n = true)) := fun h => h.elim hn fun h => hb h.1
        rw [if_neg hb, if_neg hP, if_pos (by simp only [List.length_append, List.length_cons, List.length_nil]; omega), if_pos (show 0 ≤ n ∧ n < (xs.length : Int) by omega)]
        exact ih (by omega)
noncomputable def srF2 (k : Nat) (rec : ((List (Int × Int × Int)) × (List (Int × Int)) × Int × List Int × Int) → Option (List Int)) (x : (List (Int × Int × Int)) × (List (Int × Int)) × Int × List Int × Int) : Option (List Int) := spec_RouteToAddress.s0 k rec x.1 x.2.1 x.2.2.1 x.2.2.2.1 x.2.2.2.2
theorem specRoute (xs : List (Int × Int × Int)) (ht : treeB xs = true) (ws : List (Int × Int)) (hw : ws.length = xs.length) (a : Int) (k : Nat) (hk : 400 < k) : ∀ (f : Nat) (n : Int) (out : List Int) (K : Nat), 0 ≤ n → n < xs.length → n < f → f < K → out.length + f ≤ 100 →
    iter (srF2 k) K (xs, ws, a, out, n) = some (routeL xs ws a f n out)
  | f, n, out, 0, _, _, _, hK, _ => by omega
  | 0, n, out, K + 1, h0, h1, h2, hK, ho => by omega
  | f + 1, n, out, K + 1, h0, h1, h2, hK, ho => by
    have hl := tree_len ht
    have ih : 0 < n → iter (srF2 k) K (xs, ws, a, out ++ [n], (nd xs n.toNat).1) = some (routeL xs ws a f (nd xs n.toNat).1 (out ++ [n])) := fun hn => by
      have := fn_nonneg ht hn h1
      exact specRoute xs ht ws hw a k hk f _ (out ++ [n]) K (by omega) (by omega) (by omega) (by omega) (by simp only [List.length_append, List.length_cons, List.length_nil]; omega)
    have hd := downL_len xs ws a xs.length n [n]
    simp only [List.length_cons, List.length_nil] at hd
    show spec_RouteToAddress.s0 k (iter (srF2 k) K) xs ws a out n = _
    generalize iter (srF2 k) K = rec at ih ⊢
    have e : rGet (0, 0, 0) xs n = nd xs n.toNat := rfl
    simp only [spec_RouteToAddress.s0, specCov_eq, specDownFrom_ev ht hw a n h0 h1 k hk, e, chk_idx, chk_len, rLen_eq, rApp_eq, iEq_eq, iLt_eq, bNot_eq, brB_nb, brB_dec, bnd_one, routeL]
    rw [show covB (rGet (0, 0) ws n).1 (rGet (0, 0) ws n).2 a = covN ws a n from rfl]
    have fin : (if ((downL xs ws a xs.length n [n]).length : Int) = 0 then some [] else if ((out ++ downL xs ws a xs.length n [n]).length : Int) * 8 ≤ 35184372088832 then some (out ++ downL xs ws a xs.length n [n]) else none) = some (if (downL xs ws a xs.length n [n]).length = 0 then [] else out ++ downL xs ws a xs.length n [n]) := by
      by_cases hz : (downL xs ws a xs.length n [n]).length = 0
      · rw [if_pos (by omega), if_pos hz]
      · rw [if_neg (by omega), if_neg hz, if_pos (by rw [List.length_append]; omega)]
    by_cases hn : n = 0
    · have hP : n = 0 ∨ ((nd xs n.toNat).2.2 = 0 ∧ covN ws a n = true) := Or.inl hn
      rw [if_neg (show ¬ (0 < n) by omega), if_pos hP]; exact fin
    · have hfn := fn_nonneg ht (show 0 < n by omega) h1
      rw [if_pos (show 0 < n by omega), if_pos (show 0 ≤ n ∧ n < (xs.length : Int) by omega)]
      by_cases hb : (nd xs n.toNat).2.2 = 0
      · rw [if_neg (show ¬ (0 < (nd xs n.toNat).2.2) by omega), if_pos (show 0 ≤ n ∧ n < (ws.length : Int) by omega), brB_if]
        by_cases hc : covN ws a n = true
        · have hP : n = 0 ∨ ((nd xs n.toNat).2.2 = 0 ∧ covN ws a n = true) := Or.inr ⟨hb, hc⟩
          rw [if_pos hc, if_pos hP]; exact fin
        · have hP : ¬ (n = 0 ∨ ((nd xs n.toNat).2.2 = 0 ∧ covN ws a n = true)) := fun h => h.elim hn fun h => hc h.2
          rw [if_neg hc, if_neg hP, if_pos (by simp only [List.length_append, List.length_cons, List.length_nil]; omega), if_pos (show 0 ≤ n ∧ n < (xs.length : Int) by omega)]
          exact ih (by omega)
      · have hP : ¬ (n = 0 ∨ ((nd xs n.toNat).2.2 = 0 ∧ covN ws a n = true)) := fun h => h.elim hn fun h => hb h.1
        rw [if_pos (show 0 < (nd xs n.toNat).2.2 by omega), if_neg hP, if_pos (by simp only [List.length_append, List.length_cons, List.length_nil]; omega), if_pos (show 0 ≤ n ∧ n < (xs.length : Int) by omega)]
        exact ih (by omega)
/-- The way from a node to the device of an address. -/
def routeT (xs : List (Int × Int × Int)) (ws : List (Int × Int)) (m a : Int) : List Int := if (downT xs ws a).length ≠ 0 ∧ (0 ≤ m ∧ m ≤ (xs.length : Int) - 1) then routeL xs ws a xs.length m [] else []
theorem downT_ok {xs : List (Int × Int × Int)} {ws : List (Int × Int)} {a : Int} (h : (downT xs ws a).length ≠ 0) : treeB xs = true ∧ ws.length = xs.length := by
  unfold downT at h
  split at h
  · rename_i h'; exact h'
  · simp at h
theorem routeT_len (xs : List (Int × Int × Int)) (ws : List (Int × Int)) (m a : Int) : (routeT xs ws m a).length ≤ 25 := by
  unfold routeT
  split
  · rename_i h
    have := tree_len (downT_ok h.1).1
    have := routeL_len xs ws a xs.length m []
    simp only [List.length_nil] at this
    omega
  · simp
theorem implRouteTo_ev (xs : List (Int × Int × Int)) (ws : List (Int × Int)) (m a : Int) (hx : xs.length ≤ 1048576) (k : Nat) (hk : xs.length + 400 < k) : impl_RouteToAddress.f k xs ws m a = some (routeT xs ws m a) := by
  simp only [impl_RouteToAddress.f, implDownTo_ev xs ws a hx k hk, within_eq, bnd_one, bNot_eq, brB_nb, iEq_eq, brB_dec, rLen_eq, routeT]
  by_cases h : (downT xs ws a).length = 0
  · rw [if_pos (by omega), if_neg (fun h' => h'.1 h)]
  · obtain ⟨ht, hw⟩ := downT_ok h
    have hl := tree_len ht
    rw [if_neg (by omega), iSub_id (by omega) (by omega)]
    by_cases hm : 0 ≤ m ∧ m ≤ (xs.length : Int) - 1
    · rw [if_pos hm, if_pos ⟨h, hm⟩]
      exact implRoute xs ht ws hw a k (by omega) xs.length m [] k hm.1 (by omega) (by omega) (by omega) (by simp only [List.length_nil]; omega)
    · rw [if_neg hm, if_neg (fun h' => hm h'.2)]
theorem specRouteTo_ev (xs : List (Int × Int × Int)) (ws : List (Int × Int)) (m a : Int) (hx : xs.length ≤ 1048576) (k : Nat) (hk : xs.length + 400 < k) : spec_RouteToAddress.f k xs ws m a = some (routeT xs ws m a) := by
  simp only [spec_RouteToAddress.f, specDownTo_ev xs ws a hx k hk, l01In_eq, bnd_one, bNot_eq, brB_nb, iEq_eq, brB_dec, rLen_eq, routeT]
  by_cases h : (downT xs ws a).length = 0
  · rw [if_pos (by omega), if_neg (fun h' => h'.1 h)]
  · obtain ⟨ht, hw⟩ := downT_ok h
    have hl := tree_len ht
    rw [if_neg (by omega), iSub_id (by omega) (by omega)]
    by_cases hm : 0 ≤ m ∧ m ≤ (xs.length : Int) - 1
    · rw [if_pos hm, if_pos ⟨h, hm⟩]
      exact specRoute xs ht ws hw a k (by omega) xs.length m [] k hm.1 (by omega) (by omega) (by omega) (by simp only [List.length_nil]; omega)
    · rw [if_neg hm, if_neg (fun h' => hm h'.2)]
theorem szBarS_eq (k : Nat) (l : List (Int × Int)) (n : Int) (hl : l.length ≤ 9223372036854775807) (h0 : 0 ≤ n) (h1 : n ≤ 1048576) : laws_szBarS.f k l n = some (if (l.length : Int) ≤ n then n - l.length else -1) := by
  simp only [laws_szBarS.f, brB_lt, rLen_eq]
  rw [iSub_id (by omega) (by omega)]
  by_cases h : (l.length : Int) ≤ n
  · rw [if_neg (by omega), if_pos h]
  · rw [if_pos (by omega), if_neg h]
theorem toBarS_ev (xs : List (Int × Int)) (hn : xs.length ≤ 1048576) (k : Nat) (hk : xs.length < k) : laws_toBarS.f k xs = some xs := by
  simp only [laws_toBarS.f, laws_toBarS.l0, iLt_eq, iLe_eq, iEq_eq, iNe_eq, bNot_eq, bEq_eq, bNe_eq, brB_nb, brB_dec, brB_true, brB_false, chk_idx, chk_len, chk_make, chk_sub, bnd_one, rLen_eq, rGet_nat, rSet_nat, rApp_eq, ↓reduceIte]
  rw [if_pos (by omega), rRep_nat]
  have h := iter_upto (f := fun (rec : ((List (Int × Int)) × (List (Int × Int)) × Int) → Option (List (Int × Int))) (x : (List (Int × Int)) × (List (Int × Int)) × Int) => laws_toBarS.s0 k rec x.1 x.2.1 x.2.2)
    (fun i => (xs, fill (fun j => xs.getD j (0, 0)) (List.replicate xs.length (0, 0)) i, (i : Int))) xs.length (r := xs) (fun rec i hi => ?_) (fun rec => ?_) hk
  · rw [fill_zero] at h; exact h
  · simp only [laws_toBarS.s0, laws_toBar.f, fill_len (show i ≤ (List.replicate xs.length ((0, 0) : Int × Int)).length by simp; omega), List.length_replicate, iLt_eq, iLe_eq, iEq_eq, iNe_eq, bNot_eq, bEq_eq, bNe_eq, brB_nb, brB_dec, brB_true, brB_false, chk_idx, chk_len, chk_make, chk_sub, bnd_one, rLen_eq, rGet_nat, rSet_nat, rApp_eq, ↓reduceIte]
    rw [if_pos (by omega), if_idx hi, if_idx hi]
    rw [fill_set (by simpa using hi), next_id hi (by omega)]
  · have h2 := fill_end (g := fun j => xs.getD j (0, 0)) (xs := List.replicate xs.length ((0, 0) : Int × Int))
    rw [List.length_replicate] at h2
    simp only [laws_toBarS.s0, h2, range_getD, iLt_eq, iLe_eq, iEq_eq, iNe_eq, bNot_eq, bEq_eq, bNe_eq, brB_nb, brB_dec, brB_true, brB_false, chk_idx, chk_len, chk_make, chk_sub, bnd_one, rLen_eq, rGet_nat, rSet_nat, rApp_eq, ↓reduceIte]
    rw [if_neg (by omega)]
theorem eqBarS_refl (xs : List (Int × Int)) (hn : xs.length ≤ 4611686018427387904) (k : Nat) (hk : xs.length < k) : laws_eqBarS.f k xs xs = some true := by
  simp only [laws_eqBarS.f, laws_eqBarS.l0, iLt_eq, iLe_eq, iEq_eq, iNe_eq, bNot_eq, bEq_eq, bNe_eq, brB_nb, brB_dec, brB_true, brB_false, chk_idx, chk_len, chk_make, chk_sub, bnd_one, rLen_eq, rGet_nat, rSet_nat, rApp_eq, ↓reduceIte]
  refine iter_upto (f := fun (rec : ((List (Int × Int)) × (List (Int × Int)) × Int) → Option (Bool)) (x : (List (Int × Int)) × (List (Int × Int)) × Int) => laws_eqBarS.s0 k rec x.1 x.2.1 x.2.2) (fun i => (xs, xs, (i : Int))) xs.length (fun rec i hi => ?_) (fun rec => ?_) hk
  · simp only [laws_eqBarS.s0, laws_eqBar.f, iLt_eq, iLe_eq, iEq_eq, iNe_eq, bNot_eq, bEq_eq, bNe_eq, brB_nb, brB_dec, brB_true, brB_false, chk_idx, chk_len, chk_make, chk_sub, bnd_one, rLen_eq, rGet_nat, rSet_nat, rApp_eq, ↓reduceIte]
    rw [if_pos (by omega), if_idx hi, if_idx hi, next_id hi hn]
  · simp only [laws_eqBarS.s0, iLt_eq, iLe_eq, iEq_eq, iNe_eq, bNot_eq, bEq_eq, bNe_eq, brB_nb, brB_dec, brB_true, brB_false, chk_idx, chk_len, chk_make, chk_sub, bnd_one, rLen_eq, rGet_nat, rSet_nat, rApp_eq, ↓reduceIte]
    rw [if_neg (by omega)]
def bmark (m : Int) (j : Nat) : Int × Int := (m + 2 * (j : Int), m + 2 * (j : Int) + 1)
theorem markBarS_ev (xs : List (Int × Int)) (m : Int) (hn : xs.length ≤ 1000000000) (h0 : 0 ≤ m) (h1 : m ≤ 1000000000) (k : Nat) (hk : xs.length < k) : laws_markBarS.f k xs m = some (m + 2 * (xs.length : Int), (List.range xs.length).map (bmark m)) := by
  simp only [laws_markBarS.f, laws_markBarS.l0]
  have h := iter_upto (f := fun (rec : ((List (Int × Int)) × Int × Int) → Option (Int × List (Int × Int))) (x : (List (Int × Int)) × Int × Int) => laws_markBarS.s0 k rec x.1 x.2.1 x.2.2)
    (fun i => (fill (bmark m) xs i, m + 2 * (i : Int), (i : Int))) xs.length (r := (m + 2 * (xs.length : Int), (List.range xs.length).map (bmark m))) (fun rec i hi => ?_) (fun rec => ?_) hk
  · rw [fill_zero] at h; simpa using h
  · have hl : i < (fill (bmark m) xs i).length := by rw [fill_len (Nat.le_of_lt hi)]; exact hi
    simp only [laws_markBarS.s0, iLt_eq, brB_dec, chk_idx, rLen_eq, rGet_nat, rSet_nat, List.length_set, getD_set_self, hl, List.set_set]
    rw [fill_len (Nat.le_of_lt hi), if_pos (by omega), if_idx hi, if_idx hi]
    rw [iAdd_id (a := m + 2 * (i : Int)) (b := 1) (by omega) (by omega), iAdd_id (a := m + 2 * (i : Int) + 1) (b := 1) (by omega) (by omega), next_id hi (by omega)]
    have e : (m + 2 * (i : Int), m + 2 * (i : Int) + 1) = bmark m i := rfl
    rw [e, fill_set hi]
    congr 3
    omega
  · simp only [laws_markBarS.s0, fill_end, List.length_map, List.length_range, iLt_eq, brB_dec, rLen_eq]
    rw [if_neg (by omega)]

theorem laws_FnExactRouteToAddress.main (xs : List (Int × Int × Int)) (ws : List (Int × Int)) (m a : Int) (hx : xs.length ≤ 9223372036854775807) (hw : ws.length ≤ 9223372036854775807) : ∃ k, laws_FnExactRouteToAddress.f k xs ws m a = some true := by
  refine ⟨xs.length + ws.length + 500, ?_⟩
  generalize hk : xs.length + ws.length + 500 = k
  by_cases c1 : (xs.length : Int) ≤ 1048576
  · by_cases c2 : (ws.length : Int) ≤ 1048576 - xs.length
    · have tx := toNodeS_ev xs (by omega) k (by omega)
      have tw := toBarS_ev ws (by omega) k (by omega)
      have f1 := specRouteTo_ev xs ws m a (by omega) k (by omega)
      have f2 := implRouteTo_ev xs ws m a (by omega) k (by omega)
      have hl := routeT_len xs ws m a
      generalize routeT xs ws m a = r at f1 f2 hl
      have e := eqIntS_refl r (by omega) k (by omega)
      have ex := eqNodeS_refl xs (by omega) k (by omega)
      have ew := eqBarS_refl ws (by omega) k (by omega)
      have mx := markNodeS_ev xs 1 (by omega) (by omega) (by omega) k (by omega)
      have mw := markBarS_ev ws (1 + 3 * (xs.length : Int)) (by omega) (by omega) (by omega) k (by omega)
      have mr := markIntS_ev r 1 (by omega) (by omega) (by omega) k (by omega)
      have hr := heldIntS_ev r.length 1 (by omega) (by omega) (by omega) k (by omega)
      simp only [laws_FnExactRouteToAddress.f, szNodeS_eq k xs 1048576 hx (by omega) (by omega), if_pos c1, szBarS_eq k ws (1048576 - xs.length) hw (by omega) (by omega), if_pos c2, tx, tw, f1, f2, e, ex, ew, mx, mw, mr, hr, iLt_eq, iLe_eq, iEq_eq, iNe_eq, bNot_eq, bEq_eq, bNe_eq, brB_nb, brB_dec, brB_true, brB_false, chk_idx, chk_len, chk_make, chk_sub, bnd_one, rLen_eq, rGet_nat, rSet_nat, rApp_eq, ↓reduceIte, decide_true]
      repeat rw [if_neg (by omega)]
    · simp only [laws_FnExactRouteToAddress.f, szNodeS_eq k xs 1048576 hx (by omega) (by omega), if_pos c1, szBarS_eq k ws (1048576 - xs.length) hw (by omega) (by omega), if_neg c2, iLt_eq, iLe_eq, iEq_eq, iNe_eq, bNot_eq, bEq_eq, bNe_eq, brB_nb, brB_dec, brB_true, brB_false, chk_idx, chk_len, chk_make, chk_sub, bnd_one, rLen_eq, rGet_nat, rSet_nat, rApp_eq, ↓reduceIte]
      repeat rw [if_neg (by omega)]
      rfl
  · simp only [laws_FnExactRouteToAddress.f, szNodeS_eq k xs 1048576 hx (by omega) (by omega), if_neg c1, iLt_eq, iLe_eq, iEq_eq, iNe_eq, bNot_eq, bEq_eq, bNe_eq, brB_nb, brB_dec, brB_true, brB_false, chk_idx, chk_len, chk_make, chk_sub, bnd_one, rLen_eq, rGet_nat, rSet_nat, rApp_eq, ↓reduceIte]
    rfl
theorem laws_FnExactRouteToAddress.pure : ∀ x : laws_FnExactRouteToAddress.sig.inTy.T, Good laws_FnExactRouteToAddress.sig.inTy x → ∃ k, laws_FnExactRouteToAddress.spec.fn k x = some true :=
  fun ⟨xs, ws, m, a⟩ ⟨⟨hx, _⟩, ⟨hw, _⟩, _, _⟩ => laws_FnExactRouteToAddress.main xs ws m a hx hw
end Go.Proofs.YtpggnojbbibnnaaT

/- What the functions of FnAddressRoutes give, in plain terms. -/
import Derived.Test.YtpggnojbbibnnaaFFnAddressRoutes
import Derived.Test.YtpggnojbbibnnaaTiPL
set_option linter.unusedVariables false
set_option linter.unusedSimpArgs false
set_option maxRecDepth 100000
namespace Go.Proofs.YtpggnojbbibnnaaT
open Go
theorem bnd_to {A R : Type} {x : Option A} {a : A} {f : A → Option R} {r : Option R} (h : x = some a) (g : f a = r) : bnd x f = r := by rw [h]; exact g
theorem brF_to {R : Type} {b : Bool} {x y r : Option R} (h : b = false) (g : y = r) : brB b x y = r := by rw [h]; exact g
theorem brT_to {R : Type} {b : Bool} {x y r : Option R} (h : b = true) (g : x = r) : brB b x y = r := by rw [h]; exact g
theorem chk_to {R : Type} {b : Bool} {x r : Option R} (h : b = true) (g : x = r) : chk b x = r := by rw [h]; exact g
theorem iNe_self (a : Int) : iNe a a = false := by simp [iNe]
theorem bNot_t : bNot true = false := rfl
theorem bNot_f : bNot false = true := rfl
theorem iLt_no {a b : Int} (h : b ≤ a) : iLt a b = false := by simp [iLt, h]
theorem iLt_yes {a b : Int} (h : a < b) : iLt a b = true := by simp [iLt, h]
theorem iNe_no {a b : Int} (h : a = b) : iNe a b = false := by subst h; exact iNe_self a
theorem iter_from {X R : Type} {f : (X → Option R) → X → Option R} {x0 : X} (s : Nat → X) (N : Nat) {r : R} (h0 : x0 = s 0) (step : ∀ rec i, i < N → f rec (s i) = rec (s (i + 1))) (done : ∀ rec, f rec (s N) = some r) {n : Nat} (hn : N < n) :
    iter f n x0 = some r := by rw [h0]; exact iter_upto s N step done hn
theorem cIdx_yes {i n : Int} (h : 0 ≤ i ∧ i < n) : cIdx i n = true := decide_eq_true h
theorem iLe_eq (a b : Int) : iLe a b = decide (a ≤ b) := rfl
theorem iLt_eq (a b : Int) : iLt a b = decide (a < b) := rfl
theorem iEq_eq (a b : Int) : iEq a b = decide (a = b) := by by_cases h : a = b <;> simp [iEq, h]
theorem iNe_eq (a b : Int) : iNe a b = !decide (a = b) := by by_cases h : a = b <;> simp [iNe, h]
theorem bNot_eq (a : Bool) : bNot a = !a := rfl
/-- A loop that looks for the first element with a quality. -/
theorem iter_find {R : Type} {α : Type} {X : Type} {f : (X → Option R) → X → Option R} (s : Nat → X) (xs : List α) (p : α → Bool) (r : R) (e : Nat → R)
    (go : ∀ rec (i : Nat) (h : i < xs.length), p xs[i] = true → f rec (s i) = rec (s (i + 1))) (stop : ∀ rec (i : Nat) (h : i < xs.length), p xs[i] = false → f rec (s i) = some (e i)) (done : ∀ rec, f rec (s xs.length) = some r) {n : Nat} (hn : xs.length < n) :
    iter f n (s 0) = some (match xs.findIdx? (fun x => !p x) with | some i => e i | none => r) := by
  suffices H : ∀ d i n, i + d = xs.length → d < n → (∀ j (h : j < xs.length), j < i → p xs[j] = true) → iter f n (s i) = some (match xs.findIdx? (fun x => !p x) with | some i => e i | none => r) from H xs.length 0 n (by omega) hn (fun j _ h => by omega)
  intro d
  induction d with
  | zero =>
    intro i n hi hn hp
    obtain ⟨m, rfl⟩ : ∃ m, n = m + 1 := ⟨n - 1, by omega⟩
    obtain rfl : i = xs.length := by omega
    have : xs.findIdx? (fun x => !p x) = none := by
      rw [List.findIdx?_eq_none_iff]
      intro x hx
      obtain ⟨j, hj, rfl⟩ := List.mem_iff_getElem.1 hx
      simp [hp j hj (by omega)]
    rw [this]
    exact done _
  | succ d ih =>
    intro i n hi hn hp
    obtain ⟨m, rfl⟩ : ∃ m, n = m + 1 := ⟨n - 1, by omega⟩
    show f (iter f m) (s i) = _
    have hlt : i < xs.length := by omega
    by_cases hq : p xs[i] = false
    · rw [stop _ i hlt hq]
      have : xs.findIdx? (fun x => !p x) = some i := by
        rw [List.findIdx?_eq_some_iff_getElem]
        exact ⟨hlt, by simp [hq], fun j hj => by simp [hp j (by omega) hj]⟩
      rw [this]
    · have hq : p xs[i] = true := by simpa using hq
      rw [go _ i hlt hq]
      refine ih (i + 1) m (by omega) (by omega) fun j h hj => ?_
      rcases Nat.lt_or_ge j i with h' | h'
      · exact hp j h h'
      · obtain rfl : j = i := by omega
        exact hq
theorem getD_lt {α : Type} (d : α) (xs : List α) {i : Nat} (h : i < xs.length) : xs.getD i d = xs[i] := by
  rw [List.getD_eq_getElem?_getD, List.getElem?_eq_getElem h]; rfl
theorem bEq_eq (a b : Bool) : bEq a b = decide (a = b) := by cases a <;> cases b <;> rfl
theorem bNe_eq (a b : Bool) : bNe a b = !decide (a = b) := by cases a <;> cases b <;> rfl
theorem brB_nb {R : Type} (b : Bool) (x y : Option R) : brB (!b) x y = brB b y x := by cases b <;> rfl
theorem brB_dec {R : Type} (p : Prop) [Decidable p] (x y : Option R) : brB (decide p) x y = if p then x else y := by by_cases h : p <;> simp [h, brB]
theorem if_idx {R : Type} {i n : Nat} {x : Option R} (h : i < n) : (if 0 ≤ (i : Int) ∧ (i : Int) < (n : Int) then x else none) = x := if_pos (by omega)
theorem l01In_eq (k : Nat) (x a b : Int) : spec_l01In.f k x a b = some (decide (a ≤ x ∧ x ≤ b)) := by
  simp only [spec_l01In.f, iLt_eq, iLe_eq, iEq_eq, iNe_eq, bNot_eq, bEq_eq, bNe_eq, brB_nb, brB_dec, brB_true, brB_false, chk_idx, chk_len, chk_make, chk_sub, bnd_one, rLen_eq, rGet_nat, rSet_nat, rApp_eq, ↓reduceIte]; split <;> rename_i h <;> simp [h]
theorem within_eq (k : Nat) (x a b : Int) : impl_within.f k x a b = some (decide (a ≤ x ∧ x ≤ b)) := by
  simp only [impl_within.f, iLt_eq, iLe_eq, iEq_eq, iNe_eq, bNot_eq, bEq_eq, bNe_eq, brB_nb, brB_dec, brB_true, brB_false, chk_idx, chk_len, chk_make, chk_sub, bnd_one, rLen_eq, rGet_nat, rSet_nat, rApp_eq, ↓reduceIte]; split <;> rename_i h <;> simp [h]
theorem findIdx_all {α : Type} (l : List α) (p : α → Bool) : (match l.findIdx? (fun x => !p x) with | some _ => false | none => true) = l.all p := by
  cases h : l.findIdx? (fun x => !p x) with
  | none =>
    rw [List.findIdx?_eq_none_iff] at h
    symm
    rw [List.all_eq_true]
    intro x hx
    simpa using h x hx
  | some i =>
    rw [List.findIdx?_eq_some_iff_getElem] at h
    obtain ⟨hi, h1, _⟩ := h
    symm
    rw [← Bool.not_eq_true, List.all_eq_true]
    intro hall
    have := hall _ (List.getElem_mem hi)
    simp [this] at h1
theorem found_iff {α : Type} (l : List α) (p : α → Bool) : iLe 0 (match l.findIdx? (fun x => !p x) with | some i => (i : Int) | none => -1) = !l.all p := by
  rw [← findIdx_all]
  cases l.findIdx? (fun x => !p x) with
  | none => rfl
  | some i => simp [iLe]
theorem brB_and' {x : Option Bool} {b c : Bool} (h : b = true → x = some c) : brB b x (some false) = some (b && c) := by
  cases b with
  | false => rfl
  | true => rw [brB_true, h rfl, Bool.true_and]
theorem if_and' {p : Prop} [Decidable p] {x : Option Bool} {c : Bool} (h : p → x = some c) : (if p then x else some false) = some (decide p && c) := by
  by_cases hp : p
  · rw [if_pos hp, h hp, decide_eq_true hp, Bool.true_and]
  · rw [if_neg hp, decide_eq_false hp, Bool.false_and]
theorem brB_and {x : Option Bool} {b c : Bool} (h : x = some c) : brB b x (some false) = some (b && c) := by cases b <;> simp [brB, h]
theorem if_and {p : Prop} [Decidable p] {x : Option Bool} {c : Bool} (h : x = some c) : (if p then x else some false) = some (decide p && c) := by by_cases hp : p <;> simp [hp, h]
theorem rGet_in {α : Type} (d : α) (l : List α) {v : Int} (h : 0 ≤ v) : rGet d l v = l.getD v.toNat d := rfl
/-- A loop that looks for an element without a quality. -/
theorem iter_all {R : Type} {α : Type} {X : Type} {f : (X → Option R) → X → Option R} (s : Nat → X) (xs : List α) (p : α → Bool) (r e : Option R)
    (go : ∀ rec (i : Nat) (h : i < xs.length), p xs[i] = true → f rec (s i) = rec (s (i + 1))) (stop : ∀ rec (i : Nat) (h : i < xs.length), p xs[i] = false → f rec (s i) = e) (done : ∀ rec, f rec (s xs.length) = r) {n : Nat} (hn : xs.length < n) :
    iter f n (s 0) = brB (xs.all p) r e := by
  suffices H : ∀ d i n, i + d = xs.length → d < n → iter f n (s i) = brB ((xs.drop i).all p) r e from by
    have := H xs.length 0 n (by omega) hn
    simpa using this
  intro d
  induction d with
  | zero =>
    intro i n hi hn
    obtain ⟨m, rfl⟩ : ∃ m, n = m + 1 := ⟨n - 1, by omega⟩
    obtain rfl : i = xs.length := by omega
    rw [List.drop_length]
    exact done _
  | succ d ih =>
    intro i n hi hn
    obtain ⟨m, rfl⟩ : ∃ m, n = m + 1 := ⟨n - 1, by omega⟩
    show f (iter f m) (s i) = _
    have hlt : i < xs.length := by omega
    rw [List.drop_eq_getElem_cons hlt, List.all_cons]
    cases hq : p xs[i] with
    | false => rw [stop _ i hlt hq]; rfl
    | true => rw [go _ i hlt hq, ih (i + 1) m (by omega) (by omega), Bool.true_and]
theorem if_chain {R : Type} {p : Prop} [Decidable p] {c : Bool} {X r e : Option R} (h : p → X = brB c r e) : (if p then X else e) = brB (decide p && c) r e := by
  by_cases hp : p
  · rw [if_pos hp, h hp, decide_eq_true hp, Bool.true_and]
  · rw [if_neg hp, decide_eq_false hp]; rfl
theorem if_chain_iff {R : Type} {p q : Prop} [Decidable p] [Decidable q] {c : Bool} {X r e : Option R} (hpq : p ↔ q) (h : q → X = brB c r e) : (if p then X else e) = brB (decide q && c) r e := by
  by_cases hp : p
  · rw [if_pos hp, h (hpq.1 hp), decide_eq_true (hpq.1 hp), Bool.true_and]
  · rw [if_neg hp, decide_eq_false (fun hq => hp (hpq.2 hq))]; rfl
theorem take_getD {α : Type} (d : α) (xs : List α) {i : Nat} (h : i ≤ xs.length) : xs.take i = (List.range i).map fun j => xs.getD j d := by
  apply List.ext_getElem?
  intro j
  rw [List.getElem?_take]
  by_cases hj : j < i
  · rw [if_pos hj]; simp [hj, List.getElem?_eq_getElem (show j < xs.length by omega)]
  · rw [if_neg hj, List.getElem?_eq_none (by simpa using Nat.le_of_not_lt hj)]
theorem take_all {α : Type} (d : α) (xs : List α) {i : Nat} (h : i ≤ xs.length) (q : α → Bool) : (xs.take i).all q = (List.range i).all fun j => q (xs.getD j d) := by
  rw [take_getD d xs h, List.all_map]; rfl
/-- A node: its parent, its place, its functions. -/
def nd (xs : List (Int × Int × Int)) (i : Nat) : Int × Int × Int := xs.getD i (0, 0, 0)
theorem rGet_nd (xs : List (Int × Int × Int)) (i : Nat) : rGet (0, 0, 0) xs (i : Int) = nd xs i := rfl
def sameB (p d : Int) (x : Int × Int × Int) : Bool := decide (x.1 = p) && decide (x.2.1 = d)
def nodeB (xs : List (Int × Int × Int)) (i : Nat) : Bool :=
  decide (0 ≤ (nd xs i).1 ∧ (nd xs i).1 ≤ (i : Int) - 1) && (decide ((nd xs (nd xs i).1.toNat).2.2 = 0) && (decide (0 ≤ (nd xs i).2.1 ∧ (nd xs i).2.1 ≤ 3) && (decide (0 ≤ (nd xs i).2.2 ∧ (nd xs i).2.2 ≤ 4) &&
    (List.range i).all fun j => !sameB (nd xs i).1 (nd xs i).2.1 (nd xs j))))
def rootB (xs : List (Int × Int × Int)) : Bool := decide ((nd xs 0).1 = -1) && (decide ((nd xs 0).2.1 = 0) && (decide ((nd xs 0).2.2 = 0) && true))
/-- A tree is valid. -/
def treeB (xs : List (Int × Int × Int)) : Bool := decide (1 ≤ (xs.length : Int) ∧ (xs.length : Int) ≤ 12) && (rootB xs && (List.range (xs.length - 1)).all fun i => nodeB xs (i + 1))
theorem specDup (xs : List (Int × Int × Int)) (p d f : Int) (i : Nat) (hi : i < xs.length) (hx : xs.length ≤ 1048576) (hr : (nd xs 0).1 ≠ p) (rec : List (Int × Int × Int) × Int → Option Bool) (k : Nat) (hk : xs.length < k) :
    spec_TreeOk.l1 k k rec xs (i : Int) 1 p d f = brB ((List.range i).all fun j => !sameB p d (nd xs j)) (rec (xs, ((i + 1 : Nat) : Int))) (some false) := by
  simp only [spec_TreeOk.l1]
  have h := iter_all (f := fun (rec' : (List (Int × Int × Int) × Int × Int × Int × Int × Int) → Option Bool) (x : List (Int × Int × Int) × Int × Int × Int × Int × Int) => spec_TreeOk.s1 k rec rec' x.1 x.2.1 x.2.2.1 x.2.2.2.1 x.2.2.2.2.1 x.2.2.2.2.2)
    (fun j => (xs, (i : Int), ((j + 1 : Nat) : Int), p, d, f)) (List.range (i - 1)) (fun j => !sameB p d (nd xs (j + 1))) (rec (xs, ((i + 1 : Nat) : Int))) (some false) (fun rec' j hj hp => ?_) (fun rec' j hj hp => ?_) (fun rec' => ?_) (n := k) (by simp; omega)
  · refine h.trans ?_
    congr 1
    cases i with
    | zero => rfl
    | succ i =>
      rw [List.range_succ_eq_map, List.all_cons, List.all_map]
      rw [show sameB p d (nd xs 0) = false by simp [sameB, hr]]
      rfl
  · simp only [List.length_range] at hj
    simp only [List.getElem_range, sameB] at hp
    simp only [spec_TreeOk.s1, iLt_eq, iEq_eq, brB_dec, chk_idx, rLen_eq, rGet_nd]
    rw [if_pos (by omega), if_idx (by omega), if_idx (by omega), next_id (i := j + 1) (n := xs.length) (by omega) (by omega)]
    by_cases h1 : (nd xs (j + 1)).1 = p <;> by_cases h2 : (nd xs (j + 1)).2.1 = d <;> simp [h1, h2] at hp ⊢
  · simp only [List.length_range] at hj
    simp only [List.getElem_range, sameB] at hp
    simp only [spec_TreeOk.s1, iLt_eq, iEq_eq, brB_dec, chk_idx, rLen_eq, rGet_nd]
    rw [if_pos (by omega), if_idx (by omega), if_idx (by omega)]
    by_cases h1 : (nd xs (j + 1)).1 = p <;> by_cases h2 : (nd xs (j + 1)).2.1 = d <;> simp [h1, h2] at hp ⊢
  · simp only [List.length_range, spec_TreeOk.s1, iLt_eq, brB_dec]
    rw [if_neg (by omega), next_id (n := xs.length) hi (by omega)]
theorem specNode (xs : List (Int × Int × Int)) (i : Nat) (h0 : 0 < i) (hi : i < xs.length) (hx : xs.length ≤ 1048576) (hr : (nd xs 0).1 = -1) (rec : List (Int × Int × Int) × Int → Option Bool) (k : Nat) (hk : xs.length < k) :
    spec_TreeOk.s0 k rec xs (i : Int) = brB (nodeB xs i) (rec (xs, ((i + 1 : Nat) : Int))) (some false) := by
  simp only [spec_TreeOk.s0, l01In_eq, iLt_eq, iNe_eq, brB_nb, brB_dec, chk_idx, bnd_one, bNot_eq, rLen_eq, rGet_nd]
  rw [if_pos (by omega), if_idx hi, iSub_id (by omega) (by omega)]
  refine if_chain fun c1 => ?_
  rw [if_pos (by omega)]
  have e : rGet (0, 0, 0) xs (nd xs i).1 = nd xs (nd xs i).1.toNat := rfl
  rw [e]
  refine if_chain fun c2 => ?_
  refine if_chain fun c3 => ?_
  refine if_chain fun c4 => ?_
  exact specDup xs _ _ _ i hi hx (by rw [hr]; omega) rec k hk
theorem specTreeOk_ev (xs : List (Int × Int × Int)) (hx : xs.length ≤ 1048576) (k : Nat) (hk : xs.length < k) : spec_TreeOk.f k xs = some (treeB xs) := by
  simp only [spec_TreeOk.f, l01In_eq, bnd_one, rLen_eq, bNot_eq, brB_nb, brB_dec, chk_idx]
  refine if_and' fun c1 => ?_
  rw [if_pos (by omega)]
  rw [show rGet (0, 0, 0) xs 0 = nd xs 0 from rfl]
  simp only [iEq_eq, bAnd]
  refine brB_and' fun c2 => ?_
  have hr : (nd xs 0).1 = -1 := by
    simp only [Bool.and_eq_true, decide_eq_true_eq] at c2
    exact c2.1
  simp only [spec_TreeOk.l0]
  have h := iter_all (f := fun (rec : (List (Int × Int × Int) × Int) → Option Bool) (x : List (Int × Int × Int) × Int) => spec_TreeOk.s0 k rec x.1 x.2) (fun i => (xs, ((i + 1 : Nat) : Int))) (List.range (xs.length - 1)) (fun i => nodeB xs (i + 1)) (some true) (some false)
    (fun rec i hi hp => ?_) (fun rec i hi hp => ?_) (fun rec => ?_) (n := k) (by simp; omega)
  · refine h.trans ?_
    cases (List.range (xs.length - 1)).all fun i => nodeB xs (i + 1) <;> rfl
  · simp only [List.length_range] at hi
    simp only [List.getElem_range] at hp
    simp only
    rw [specNode xs (i + 1) (by omega) (by omega) hx hr rec k hk, hp]; rfl
  · simp only [List.length_range] at hi
    simp only [List.getElem_range] at hp
    simp only
    rw [specNode xs (i + 1) (by omega) (by omega) hx hr rec k hk, hp]; rfl
  · simp only [List.length_range, spec_TreeOk.s0, iLt_eq, brB_dec, rLen_eq]
    rw [if_neg (by omega)]
theorem indexSame (l : List (Int × Int × Int)) (p d f : Int) (hl : l.length ≤ 4611686018427387904) (k : Nat) (hk : l.length < k) : slices_IndexFunc_Node_impl_TreeOk_1.f k l p d f = some (match l.findIdx? (fun x => !!sameB p d x) with | some i => (i : Int) | none => -1, p, d, f) := by
  simp only [slices_IndexFunc_Node_impl_TreeOk_1.f, slices_IndexFunc_Node_impl_TreeOk_1.l0]
  have one : ∀ x : Int × Int × Int, impl_TreeOk_1.f k x.1 x.2.1 x.2.2 p d f = some (sameB p d x, p, d, f) := fun x => by
    simp only [impl_TreeOk_1.f, iEq_eq, brB_dec, sameB]
    split <;> rename_i h <;> simp [h]
  have h := iter_find (f := fun (rec : (List (Int × Int × Int) × Int × Int × Int × Int × Int) → Option (Int × Int × Int × Int)) (x : List (Int × Int × Int) × Int × Int × Int × Int × Int) => slices_IndexFunc_Node_impl_TreeOk_1.s0 k rec x.1 x.2.1 x.2.2.1 x.2.2.2.1 x.2.2.2.2.1 x.2.2.2.2.2) (fun i => (l, rLen l, (i : Int), p, d, f)) l (fun x => !sameB p d x) (-1, p, d, f) (fun i => ((i : Int), p, d, f)) (fun rec i hi hp => ?_) (fun rec i hi hp => ?_) (fun rec => ?_) hk
  · refine h.trans ?_
    cases l.findIdx? (fun x => !!sameB p d x) <;> rfl
  · simp only [slices_IndexFunc_Node_impl_TreeOk_1.s0, iLt_eq, brB_dec, chk_idx, rLen_eq, rGet_nat, one, bnd_one, getD_lt _ _ hi]
    rw [if_pos (by omega), if_idx hi, next_id hi hl]
    rw [show sameB p d l[i] = false by simpa using hp]; rfl
  · simp only [slices_IndexFunc_Node_impl_TreeOk_1.s0, iLt_eq, brB_dec, chk_idx, rLen_eq, rGet_nat, one, bnd_one, getD_lt _ _ hi]
    rw [if_pos (by omega), if_idx hi]
    rw [show sameB p d l[i] = true by simpa using hp]; rfl
  · simp only [slices_IndexFunc_Node_impl_TreeOk_1.s0, iLt_eq, brB_dec, rLen_eq]
    rw [if_neg (by omega)]
theorem containsSame (l : List (Int × Int × Int)) (p d f : Int) (hl : l.length ≤ 4611686018427387904) (k : Nat) (hk : l.length < k) : slices_ContainsFunc_Node_impl_TreeOk_1.f k l p d f = some (!l.all (fun x => !sameB p d x), p, d, f) := by
  simp only [slices_ContainsFunc_Node_impl_TreeOk_1.f, indexSame l p d f hl k hk, bnd_one, found_iff l (fun x => !sameB p d x)]
theorem implNode (xs : List (Int × Int × Int)) (i : Nat) (hi : i + 1 < xs.length) (hx : xs.length ≤ 1048576) (rec : List (Int × Int × Int) × List (Int × Int × Int) × Int × Int → Option Bool) (k : Nat) (hk : xs.length < k) :
    impl_TreeOk.s0 k rec xs (rSub xs 1 (xs.length : Int)) ((xs.length - 1 : Nat) : Int) (i : Int) = brB (nodeB xs (i + 1)) (rec (xs, rSub xs 1 (xs.length : Int), ((xs.length - 1 : Nat) : Int), ((i + 1 : Nat) : Int))) (some false) := by
  have e1 : rSub xs 1 (xs.length : Int) = xs.drop 1 := by simp [rSub]
  have e2 : rSub xs 0 ((i + 1 : Nat) : Int) = xs.take (i + 1) := by simp [rSub]
  have e3 : rGet (0, 0, 0) (xs.drop 1) (i : Int) = nd xs (i + 1) := by
    rw [rGet_nat, nd, List.getD_eq_getElem?_getD, List.getElem?_drop, Nat.add_comm, ← List.getD_eq_getElem?_getD]
  have e4 : (xs.take (i + 1)).length = i + 1 := by simp; omega
  simp only [impl_TreeOk.s0, within_eq, iLt_eq, iNe_eq, brB_nb, brB_dec, chk_idx, chk_sub, bnd_one, bNot_eq, rLen_eq, e1, e3, next_id (i := i) (n := xs.length) (by omega) (by omega), e2, e4, List.length_drop]
  rw [if_pos (by omega), if_idx (by omega), if_pos (by omega)]
  refine if_chain_iff (q := 0 ≤ (nd xs (i + 1)).1 ∧ (nd xs (i + 1)).1 ≤ ((i + 1 : Nat) : Int) - 1) (by omega) fun c1 => ?_
  rw [if_pos (by omega)]
  have e5 : rGet (0, 0, 0) (xs.take (i + 1)) (nd xs (i + 1)).1 = nd xs (nd xs (i + 1)).1.toNat := by
    simp only [rGet, nd, List.getD_eq_getElem?_getD, List.getElem?_take] at c1 ⊢
    rw [if_pos (by omega)]
  rw [e5]
  refine if_chain fun c2 => ?_
  refine if_chain fun c3 => ?_
  refine if_chain fun c4 => ?_
  rw [containsSame (xs.take (i + 1)) _ _ _ (by omega) k (by omega)]
  simp only [bnd_one, brB_nb]
  rw [take_all (0, 0, 0) xs (by omega)]
  rfl
theorem implTreeOk_ev (xs : List (Int × Int × Int)) (hx : xs.length ≤ 1048576) (k : Nat) (hk : xs.length < k) : impl_TreeOk.f k xs = some (treeB xs) := by
  simp only [impl_TreeOk.f, within_eq, bnd_one, rLen_eq, bNot_eq, brB_nb, brB_dec, chk_idx, chk_sub]
  refine if_and' fun c1 => ?_
  rw [if_pos (by omega)]
  rw [show rGet (0, 0, 0) xs 0 = nd xs 0 from rfl]
  simp only [iEq_eq, bAnd]
  refine brB_and' fun c2 => ?_
  rw [if_pos (by omega)]
  have e1 : (rSub xs 1 (xs.length : Int)).length = xs.length - 1 := by simp [rSub]
  simp only [impl_TreeOk.l0, e1]
  have h := iter_all (f := fun (rec : (List (Int × Int × Int) × List (Int × Int × Int) × Int × Int) → Option Bool) (x : List (Int × Int × Int) × List (Int × Int × Int) × Int × Int) => impl_TreeOk.s0 k rec x.1 x.2.1 x.2.2.1 x.2.2.2) (fun i => (xs, rSub xs 1 (xs.length : Int), ((xs.length - 1 : Nat) : Int), (i : Int))) (List.range (xs.length - 1)) (fun i => nodeB xs (i + 1)) (some true) (some false)
    (fun rec i hi hp => ?_) (fun rec i hi hp => ?_) (fun rec => ?_) (n := k) (by simp; omega)
  · refine h.trans ?_
    cases (List.range (xs.length - 1)).all fun i => nodeB xs (i + 1) <;> rfl
  · simp only [List.length_range] at hi
    simp only [List.getElem_range] at hp
    simp only
    rw [implNode xs i (by omega) hx rec k hk, hp]; rfl
  · simp only [List.length_range] at hi
    simp only [List.getElem_range] at hp
    simp only
    rw [implNode xs i (by omega) hx rec k hk, hp]; rfl
  · simp only [List.length_range, impl_TreeOk.s0, iLt_eq, brB_dec, rLen_eq]
    rw [if_neg (by omega)]
theorem tree_len {xs : List (Int × Int × Int)} (h : treeB xs = true) : 1 ≤ xs.length ∧ xs.length ≤ 12 := by
  simp only [treeB, Bool.and_eq_true, decide_eq_true_eq] at h
  omega
def mix (l : List Int) (i : Nat) : List Int := (List.range l.length).map fun j => if j < i ∨ l.length ≤ j + i then l.getD (l.length - 1 - j) 0 else l.getD j 0
theorem mix_len (l : List Int) (i : Nat) : (mix l i).length = l.length := by simp [mix]
theorem mix_get (l : List Int) (i : Nat) {j : Nat} (h : j < l.length) : (mix l i).getD j 0 = if j < i ∨ l.length ≤ j + i then l.getD (l.length - 1 - j) 0 else l.getD j 0 := range_get l.length h
theorem getD_ext {l m : List Int} (hl : l.length = m.length) (h : ∀ j, j < l.length → l.getD j 0 = m.getD j 0) : l = m := by
  apply List.ext_getElem hl
  intro j h1 h2
  have := h j h1
  rwa [getD_lt 0 l h1, getD_lt 0 m h2] at this
theorem getD_set_if {α : Type} (d : α) (l : List α) (i j : Nat) (v : α) (h : i < l.length) : (l.set i v).getD j d = if j = i then v else l.getD j d := by
  rw [List.getD_eq_getElem?_getD, List.getD_eq_getElem?_getD, List.getElem?_set]
  by_cases e : j = i
  · subst e; rw [if_pos rfl, if_pos rfl, if_pos h]; rfl
  · rw [if_neg e, if_neg (by omega)]
theorem mix_zero (l : List Int) : mix l 0 = l := by
  refine getD_ext (mix_len l 0) fun j hj => ?_
  rw [mix_len] at hj
  rw [mix_get l 0 hj, if_neg (by omega)]
theorem mix_step (l : List Int) {i : Nat} (h : i + i + 1 < l.length) : ((mix l i).set i ((mix l i).getD (l.length - 1 - i) 0)).set (l.length - 1 - i) ((mix l i).getD i 0) = mix l (i + 1) := by
  refine getD_ext (by simp [mix_len]) fun j hj => ?_
  simp only [List.length_set, mix_len] at hj
  rw [getD_set_if _ _ _ _ _ (by simp [mix_len]; omega), getD_set_if _ _ _ _ _ (by simp [mix_len]; omega), mix_get l (i + 1) hj, mix_get l i (by omega), mix_get l i (by omega), mix_get l i hj]
  by_cases h1 : j = l.length - 1 - i
  · rw [if_pos h1, if_neg (by omega), if_pos (by omega)]
    congr 1; omega
  · rw [if_neg h1]
    by_cases h2 : j = i
    · rw [if_pos h2, if_neg (by omega), if_pos (by omega)]
      congr 1; omega
    · rw [if_neg h2]
      by_cases h3 : j < i ∨ l.length ≤ j + i
      · rw [if_pos h3, if_pos (by omega)]
      · rw [if_neg h3, if_neg (by omega)]
theorem mix_end (l : List Int) {i : Nat} (h : l.length ≤ i + i + 1) : mix l i = l.reverse := by
  refine getD_ext (by simp [mix_len]) fun j hj => ?_
  rw [mix_len] at hj
  have e : l.reverse.getD j 0 = l.getD (l.length - 1 - j) 0 := by
    rw [List.getD_eq_getElem?_getD, List.getD_eq_getElem?_getD, List.getElem?_reverse hj]
  rw [mix_get l i hj, e]
  split
  · rfl
  · congr 1; omega
theorem reverse_ev (l : List Int) (hl : l.length ≤ 1048576) (k : Nat) (hk : l.length < k) : slices_Reverse_int.f k l = some l.reverse := by
  simp only [slices_Reverse_int.f, slices_Reverse_int.l0, rLen_eq]
  rw [iSub_id (by omega) (by omega)]
  have h := iter_upto (f := fun (rec : (List Int × Int × Int) → Option (List Int)) (x : List Int × Int × Int) => slices_Reverse_int.s0 k rec x.1 x.2.1 x.2.2)
    (fun i => (mix l i, (i : Int), (l.length : Int) - 1 - (i : Int))) (l.length / 2) (r := l.reverse) (fun rec i hi => ?_) (fun rec => ?_) (n := k) (by omega)
  · rw [mix_zero] at h; simpa using h
  · have e : (l.length : Int) - 1 - (i : Int) = ((l.length - 1 - i : Nat) : Int) := by omega
    simp only [slices_Reverse_int.s0, e, iLt_eq, brB_dec, chk_idx, rLen_eq, rGet_nat, rSet_nat, List.length_set, mix_len]
    rw [if_pos (by omega), if_idx (by omega), if_idx (by omega), if_idx (by omega), if_idx (by omega), mix_step l (by omega), next_id (i := i) (n := l.length) (by omega) (by omega), iSub_id (by omega) (by omega)]
    congr 3
    omega
  · simp only [slices_Reverse_int.s0, iLt_eq, brB_dec]
    rw [if_neg (by omega), mix_end l (by omega)]
/-- From a node to the root. -/
def upL (xs : List (Int × Int × Int)) : Nat → Int → List Int
  | 0, _ => []
  | f + 1, n => if 0 ≤ n then n :: upL xs f (nd xs n.toNat).1 else []
/-- Each parent comes before its child. -/
def TreeP (xs : List (Int × Int × Int)) : Prop := ∀ i : Nat, i < xs.length → (nd xs i).1 < (i : Int) ∧ (0 < i → 0 ≤ (nd xs i).1)
theorem treeP_of {xs : List (Int × Int × Int)} (h : treeB xs = true) : TreeP xs := by
  intro i hi
  simp only [treeB, Bool.and_eq_true, rootB, decide_eq_true_eq, List.all_eq_true, List.mem_range] at h
  cases i with
  | zero => have := h.2.1.1; exact ⟨by omega, fun h => by omega⟩
  | succ i =>
    have := h.2.2 i (by omega)
    simp only [nodeB, Bool.and_eq_true, decide_eq_true_eq] at this
    exact ⟨by omega, fun _ => this.1.1⟩
/-- From the root to a node. -/
def pathT (xs : List (Int × Int × Int)) (n : Int) : List Int := if treeB xs && decide (0 ≤ n ∧ n ≤ (xs.length : Int) - 1) then (upL xs xs.length n).reverse else []
theorem l19Ok_ev (xs : List (Int × Int × Int)) (n : Int) (hx : xs.length ≤ 1048576) (k : Nat) (hk : xs.length < k) : spec_l19Ok.f k xs n = some (treeB xs && decide (0 ≤ n ∧ n ≤ (xs.length : Int) - 1)) := by
  simp only [spec_l19Ok.f, specTreeOk_ev xs hx k hk, l01In_eq, bnd_one, rLen_eq]
  rw [iSub_id (by omega) (by omega)]
  exact brB_and rfl
theorem isNode_ev (xs : List (Int × Int × Int)) (n : Int) (hx : xs.length ≤ 1048576) (k : Nat) (hk : xs.length < k) : impl_isNode.f k xs n = some (treeB xs && decide (0 ≤ n ∧ n ≤ (xs.length : Int) - 1)) := by
  simp only [impl_isNode.f, implTreeOk_ev xs hx k hk, within_eq, bnd_one, rLen_eq]
  rw [iSub_id (by omega) (by omega)]
  exact brB_and rfl
noncomputable def ipF (k : Nat) (rec : (List (Int × Int × Int) × Int × List Int) → Option (List Int)) (x : List (Int × Int × Int) × Int × List Int) : Option (List Int) := impl_PathTo.s0 k rec x.1 x.2.1 x.2.2
theorem implUp (xs : List (Int × Int × Int)) (hT : TreeP xs) (k : Nat) (hk : xs.length < k) (hx : xs.length ≤ 12) : ∀ (f : Nat) (n : Int) (out : List Int) (K : Nat), f < K → n < (f : Int) → n < xs.length → out.length + f ≤ xs.length →
    iter (ipF k) K (xs, n, out) = some ((out ++ upL xs f n).reverse)
  | f, n, out, 0, hK, _, _, _ => by omega
  | 0, n, out, K + 1, hK, h1, h2, h3 => by
    show impl_PathTo.s0 k _ xs n out = _
    generalize iter (ipF k) K = rec
    simp only [impl_PathTo.s0, iLe_eq, brB_dec, upL, List.append_nil]
    rw [if_neg (by omega), reverse_ev out (by omega) k (by omega)]; rfl
  | f + 1, n, out, K + 1, hK, h1, h2, h3 => by
    have ih : 0 ≤ n → iter (ipF k) K (xs, (nd xs n.toNat).1, out ++ [n]) = some (((out ++ [n]) ++ upL xs f (nd xs n.toNat).1).reverse) := fun c =>
      have hp := hT n.toNat (by omega)
      implUp xs hT k hk hx f (nd xs n.toNat).1 (out ++ [n]) K (by omega) (by omega) (by omega) (by simp only [List.length_append, List.length_cons, List.length_nil]; omega)
    show impl_PathTo.s0 k (iter (ipF k) K) xs n out = _
    generalize iter (ipF k) K = rec at ih ⊢
    simp only [impl_PathTo.s0, iLe_eq, brB_dec, upL, chk_len, chk_idx, rApp_eq, rLen_eq]
    by_cases c : 0 ≤ n
    · rw [if_pos c, if_pos c, if_pos (by simp only [List.length_append, List.length_cons, List.length_nil]; omega), if_pos (by omega)]
      have e : rGet (0, 0, 0) xs n = nd xs n.toNat := rfl
      rw [e, ih c]
      simp
    · rw [if_neg c, if_neg c, List.append_nil, reverse_ev out (by omega) k (by omega)]; rfl
theorem implPathTo_ev (xs : List (Int × Int × Int)) (n : Int) (hx : xs.length ≤ 1048576) (k : Nat) (hk : xs.length < k) : impl_PathTo.f k xs n = some (pathT xs n) := by
  simp only [impl_PathTo.f, isNode_ev xs n hx k hk, bnd_one, bNot_eq, brB_nb, pathT]
  cases h : treeB xs && decide (0 ≤ n ∧ n ≤ (xs.length : Int) - 1) with
  | false => rfl
  | true =>
    simp only [Bool.and_eq_true, decide_eq_true_eq] at h
    have hl := tree_len h.1
    have := implUp xs (treeP_of h.1) k hk hl.2 xs.length n [] k (by omega) (by omega) (by omega) (by simp)
    simp only [brB_true, if_true]
    rw [List.nil_append] at this
    exact this

def okN (xs : List (Int × Int × Int)) (n : Int) : Bool := treeB xs && decide (0 ≤ n ∧ n ≤ (xs.length : Int) - 1)
theorem iBit_and255 (x : Int) : 0 ≤ iBit .and .i64 x 255 ∧ iBit .and .i64 x 255 ≤ 255 := by
  have h : (BitVec.ofInt IntKind.i64.bits x &&& BitVec.ofInt IntKind.i64.bits 255).toNat ≤ 255 := by
    rw [BitVec.toNat_and]
    refine Nat.le_trans Nat.and_le_right ?_
    decide
  simp only [iBit]
  rw [wrap64, w64_id (by omega) (by omega)]
  omega
noncomputable def lnF (k : Nat) (rec : (List Int × Int × Int) → Option (List Int × Int × Int)) (x : List Int × Int × Int) : Option (List Int × Int × Int) := spec_l01New.s0 k rec x.1 x.2.1 x.2.2
theorem l01New_ev (c : List Int) (k : Nat) (hk : 4000 < k) : ∃ s, spec_l01New.f k c = some (c, 0, s) := by
  suffices H : ∀ (n i : Nat) (x : Int) (K : Nat), i + n = 4000 → n < K → ∃ s, iter (lnF k) K (c, x, (i : Int)) = some (c, 0, s) from H 4000 0 (iAdd .i64 98663 (rLen c)) k (by omega) hk
  intro n
  induction n with
  | zero =>
    intro i x K hi hK
    obtain ⟨m, rfl⟩ : ∃ m, K = m + 1 := ⟨K - 1, by omega⟩
    refine ⟨x, ?_⟩
    show spec_l01New.s0 k (iter (lnF k) m) c x (i : Int) = _
    generalize iter (lnF k) m = rec
    simp only [spec_l01New.s0, iLt_eq, iLe_eq, iEq_eq, iNe_eq, bNot_eq, bEq_eq, bNe_eq, brB_nb, brB_dec, brB_true, brB_false, chk_idx, chk_len, chk_make, chk_sub, bnd_one, rLen_eq, rGet_nat, rSet_nat, rApp_eq, ↓reduceIte]
    by_cases h : (i : Int) < (c.length : Int)
    · rw [if_pos h, if_neg (by omega)]
    · rw [if_neg h]
  | succ n ih =>
    intro i x K hi hK
    obtain ⟨m, rfl⟩ : ∃ m, K = m + 1 := ⟨K - 1, by omega⟩
    by_cases h : (i : Int) < (c.length : Int)
    · obtain ⟨s, hs⟩ := ih (i + 1) (iBit .and .i64 (iAdd .i64 (iAdd .i64 (iMul .i64 x 131) (iCnv .i64 (c.getD i 0))) 7) 1073741823) m (by omega) (by omega)
      refine ⟨s, ?_⟩
      show spec_l01New.s0 k (iter (lnF k) m) c x (i : Int) = _
      generalize iter (lnF k) m = rec at hs ⊢
      simp only [spec_l01New.s0, iLt_eq, iLe_eq, iEq_eq, iNe_eq, bNot_eq, bEq_eq, bNe_eq, brB_nb, brB_dec, brB_true, brB_false, chk_idx, chk_len, chk_make, chk_sub, bnd_one, rLen_eq, rGet_nat, rSet_nat, rApp_eq, ↓reduceIte]
      rw [if_pos h, if_pos (by omega), if_pos (by omega), next_id (n := 4000) (by omega) (by omega), hs]
    · refine ⟨x, ?_⟩
      show spec_l01New.s0 k (iter (lnF k) m) c x (i : Int) = _
      generalize iter (lnF k) m = rec
      simp only [spec_l01New.s0, iLt_eq, iLe_eq, iEq_eq, iNe_eq, bNot_eq, bEq_eq, bNe_eq, brB_nb, brB_dec, brB_true, brB_false, chk_idx, chk_len, chk_make, chk_sub, bnd_one, rLen_eq, rGet_nat, rSet_nat, rApp_eq, ↓reduceIte]
      rw [if_neg h]
theorem l01Byte_some (k : Nat) (c : List Int) (hc : c.length ≤ 2000000) (p s : Int) (hp : 0 ≤ p) : ∃ b p' s', spec_l01Byte.f k c p s = some (b, c, p', s') ∧ 0 ≤ b ∧ b ≤ 255 ∧ 0 ≤ p' := by
  simp only [spec_l01Byte.f, chk_nn, iLt_eq, brB_dec, chk_idx, rLen_eq]
  rw [if_pos (by omega), if_pos (by omega)]
  by_cases h : p < (c.length : Int)
  · rw [if_pos h, if_pos (by omega)]
    exact ⟨_, _, _, rfl, (iBit_and255 _).1, (iBit_and255 _).2, by rw [iAdd_id (by omega) (by omega)]; omega⟩
  · rw [if_neg h]
    exact ⟨_, _, _, rfl, (iBit_and255 _).1, (iBit_and255 _).2, hp⟩
theorem l01Below_some (k : Nat) (c : List Int) (hc : c.length ≤ 2000000) (p s n : Int) (hp : 0 ≤ p) (hn : 0 < n) : ∃ v p' s', spec_l01Below.f k n c p s = some (v, c, p', s') ∧ 0 ≤ v ∧ v < n ∧ 0 ≤ p' := by
  obtain ⟨b1, p1, s1, e1, h1, g1, q1⟩ := l01Byte_some k c hc p s hp
  obtain ⟨b2, p2, s2, e2, h2, g2, q2⟩ := l01Byte_some k c hc p1 s1 q1
  obtain ⟨b3, p3, s3, e3, h3, g3, q3⟩ := l01Byte_some k c hc p2 s2 q2
  obtain ⟨b4, p4, s4, e4, h4, g4, q4⟩ := l01Byte_some k c hc p3 s3 q3
  simp only [spec_l01Below.f, iLe_eq, brB_dec, e1, e2, e3, e4, bnd_one, chk_nz]
  rw [if_neg (by omega)]
  by_cases h : n ≤ 256
  · rw [if_pos h, if_neg (by omega)]
    exact ⟨_, _, _, rfl, Int.tmod_nonneg _ h1, Int.tmod_lt_of_pos _ hn, q1⟩
  · rw [if_neg h, if_neg (by omega)]
    have e : iAdd .i64 (iAdd .i64 (iAdd .i64 (iMul .i64 b1 16777216) (iMul .i64 b2 65536)) (iMul .i64 b3 256)) b4 = b1 * 16777216 + b2 * 65536 + b3 * 256 + b4 := by
      simp only [iAdd_w, iMul_w, w64]; omega
    rw [e]
    exact ⟨_, _, _, rfl, Int.tmod_nonneg _ (by omega), Int.tmod_lt_of_pos _ hn, q4⟩
theorem l01PickInt_some (k : Nat) (l c : List Int) (hc : c.length ≤ 2000000) (p s : Int) (hp : 0 ≤ p) (hl : 0 < l.length) : ∃ v p' s', spec_l01PickInt.f k l c p s = some (v, c, p', s') ∧ v ∈ l ∧ 0 ≤ p' := by
  obtain ⟨v, p1, s1, e1, h1, g1, q1⟩ := l01Below_some k c hc p s (l.length : Int) hp (by omega)
  simp only [spec_l01PickInt.f, rLen_eq, e1, bnd_one, chk_idx]
  rw [if_pos ⟨h1, g1⟩, rGet_in _ _ h1, getD_lt 0 l (by omega)]
  exact ⟨_, _, _, rfl, List.getElem_mem _, q1⟩
noncomputable def dpF (k : Nat) (rec : (List Int × Int × List Int × Int × Int) → Option (List Int)) (x : List Int × Int × List Int × Int × Int) : Option (List Int) := spec_DrawPlaces.s0 k rec x.1 x.2.1 x.2.2.1 x.2.2.2.1 x.2.2.2.2
/-- Twelve places. -/
theorem drawPlaces_ev (c : List Int) (hc : c.length ≤ 2000000) (k : Nat) (hk : 4000 < k) : ∃ l : List Int, spec_DrawPlaces.f k c = some l ∧ l.length = 12 ∧ ∀ x ∈ l, 0 ≤ x ∧ x < 10000 := by
  obtain ⟨s0, h0⟩ := l01New_ev c k hk
  suffices H : ∀ (n i : Nat) (x : List Int) (p s : Int) (K : Nat), i + n = 12 → n < K → x.length = i → 0 ≤ p → (∀ y ∈ x, 0 ≤ y ∧ y < 10000) → ∃ l : List Int, iter (dpF k) K (x, (i : Int), c, p, s) = some l ∧ l.length = 12 ∧ ∀ x ∈ l, 0 ≤ x ∧ x < 10000 by
    obtain ⟨l, h, hl⟩ := H 12 0 [] 0 s0 k (by omega) (by omega) rfl (by omega) (fun y hy => by cases hy)
    refine ⟨l, ?_, hl⟩
    simp only [spec_DrawPlaces.f, h0, bnd_one]
    exact h
  intro n
  induction n with
  | zero =>
    intro i x p s K hi hK hx hp hxs
    obtain ⟨m, rfl⟩ : ∃ m, K = m + 1 := ⟨K - 1, by omega⟩
    refine ⟨x, ?_, by omega, hxs⟩
    show spec_DrawPlaces.s0 k (iter (dpF k) m) x (i : Int) c p s = _
    generalize iter (dpF k) m = rec
    simp only [spec_DrawPlaces.s0, iLt_eq, brB_dec]
    rw [if_neg (by omega)]
  | succ n ih =>
    intro i x p s K hi hK hx hp hxs
    obtain ⟨m, rfl⟩ : ∃ m, K = m + 1 := ⟨K - 1, by omega⟩
    obtain ⟨v, p1, s1, e1, h1, g1, q1⟩ := l01Below_some k c hc p s 10000 hp (by omega)
    obtain ⟨l, h, hl⟩ := ih (i + 1) (x ++ [v]) p1 s1 m (by omega) (by omega) (by simp [hx]) q1 (fun y hy => by
      rcases List.mem_append.1 hy with hy | hy
      · exact hxs y hy
      · simp at hy; subst hy; exact ⟨h1, g1⟩)
    refine ⟨l, ?_, hl⟩
    show spec_DrawPlaces.s0 k (iter (dpF k) m) x (i : Int) c p s = _
    generalize iter (dpF k) m = rec at h ⊢
    simp only [spec_DrawPlaces.s0, iLt_eq, brB_dec, e1, bnd_one, chk_len, rLen_eq, rApp_eq]
    rw [if_pos (by omega), if_pos (by simp only [List.length_append, List.length_cons, List.length_nil]; omega), next_id (n := 12) (by omega) (by omega), h]
theorem sameInts_refl (xs : List Int) (hn : xs.length ≤ 4611686018427387904) (k : Nat) (hk : xs.length < k) : laws_sameInts.f k xs xs = some true := by
  simp only [laws_sameInts.f, laws_sameInts.l0, iLt_eq, iLe_eq, iEq_eq, iNe_eq, bNot_eq, bEq_eq, bNe_eq, brB_nb, brB_dec, brB_true, brB_false, chk_idx, chk_len, chk_make, chk_sub, bnd_one, rLen_eq, rGet_nat, rSet_nat, rApp_eq, ↓reduceIte]
  refine iter_upto (f := fun (rec : (List Int × List Int × Int) → Option Bool) (x : List Int × List Int × Int) => laws_sameInts.s0 k rec x.1 x.2.1 x.2.2) (fun i => (xs, xs, (i : Int))) xs.length (fun rec i hi => ?_) (fun rec => ?_) hk
  · simp only [laws_sameInts.s0, iLt_eq, iLe_eq, iEq_eq, iNe_eq, bNot_eq, bEq_eq, bNe_eq, brB_nb, brB_dec, brB_true, brB_false, chk_idx, chk_len, chk_make, chk_sub, bnd_one, rLen_eq, rGet_nat, rSet_nat, rApp_eq, ↓reduceIte]
    rw [if_pos (by omega), if_idx hi, if_idx hi, next_id hi hn]
  · simp only [laws_sameInts.s0, iLt_eq, iLe_eq, iEq_eq, iNe_eq, bNot_eq, bEq_eq, bNe_eq, brB_nb, brB_dec, brB_true, brB_false, chk_idx, chk_len, chk_make, chk_sub, bnd_one, rLen_eq, rGet_nat, rSet_nat, rApp_eq, ↓reduceIte]
    rw [if_neg (by omega)]

/-- It gives something that is so. -/
def Yd {R : Type} (x : Option R) (Q : R → Prop) : Prop := ∃ r, x = some r ∧ Q r
theorem Yd.one {R : Type} {r : R} {Q : R → Prop} (h : Q r) : Yd (some r) Q := ⟨r, rfl, h⟩
theorem Yd.bnd {A R : Type} {x : Option A} {f : A → Option R} {P : A → Prop} {Q : R → Prop} (h : Yd x P) (hf : ∀ a, P a → Yd (f a) Q) : Yd (bnd x f) Q := by
  obtain ⟨a, e, ha⟩ := h
  subst e
  exact hf a ha
theorem Yd.br {R : Type} {b : Bool} {x y : Option R} {Q : R → Prop} (hx : b = true → Yd x Q) (hy : b = false → Yd y Q) : Yd (brB b x y) Q := by
  cases b with
  | true => exact hx rfl
  | false => exact hy rfl
theorem Yd.eq {R : Type} {a b : Int} {x y : Option R} {Q : R → Prop} (hx : a = b → Yd x Q) (hy : ¬ a = b → Yd y Q) : Yd (brB (iEq a b) x y) Q := by
  rw [iEq_eq, brB_dec]; split
  · exact hx ‹_›
  · exact hy ‹_›
theorem Yd.lt {R : Type} {a b : Int} {x y : Option R} {Q : R → Prop} (hx : a < b → Yd x Q) (hy : ¬ a < b → Yd y Q) : Yd (brB (iLt a b) x y) Q := by
  rw [iLt_eq, brB_dec]; split
  · exact hx ‹_›
  · exact hy ‹_›
theorem Yd.imp {R : Type} {x : Option R} {P Q : R → Prop} (h : Yd x P) (hi : ∀ r, P r → Q r) : Yd x Q := by
  obtain ⟨r, e, hr⟩ := h
  exact ⟨r, e, hi r hr⟩
theorem Yd.len {R : Type} {n b : Int} {x : Option R} {Q : R → Prop} (h : n * b ≤ 35184372088832) (hx : Yd x Q) : Yd (chk (cLen n b) x) Q := by rw [chk_len, if_pos h]; exact hx
theorem Yd.idx {R : Type} {i n : Int} {x : Option R} {Q : R → Prop} (h : 0 ≤ i ∧ i < n) (hx : Yd x Q) : Yd (chk (cIdx i n) x) Q := by rw [chk_idx, if_pos h]; exact hx
theorem below_bnd {R : Type} {k : Nat} {c : List Int} {p s n : Int} {f : Int × List Int × Int × Int → Option R} {Q : R → Prop} (hc : c.length ≤ 2000000) (hp : 0 ≤ p) (hn : 0 < n)
    (h : ∀ v p' s', 0 ≤ v → v < n → 0 ≤ p' → Yd (f (v, c, p', s')) Q) : Yd (bnd (spec_l01Below.f k n c p s) f) Q := by
  obtain ⟨v, p1, s1, e1, h1, g1, q1⟩ := l01Below_some k c hc p s n hp hn
  rw [e1]
  exact h v p1 s1 h1 g1 q1
theorem pick_bnd {R : Type} {k : Nat} {l c : List Int} {p s : Int} {f : Int × List Int × Int × Int → Option R} {Q : R → Prop} (hc : c.length ≤ 2000000) (hp : 0 ≤ p) (hl : 0 < l.length)
    (h : ∀ v p' s', v ∈ l → 0 ≤ p' → Yd (f (v, c, p', s')) Q) : Yd (bnd (spec_l01PickInt.f k l c p s) f) Q := by
  obtain ⟨v, p1, s1, e1, m1, q1⟩ := l01PickInt_some k l c hc p s hp hl
  rw [e1]
  exact h v p1 s1 m1 q1
/-- A loop that makes something of its state in at most N rounds. -/
theorem iter_yd {X R : Type} {f : (X → Option R) → X → Option R} {I : Nat → X → Prop} {Q : R → Prop} (N : Nat)
    (step : ∀ rec i x, i ≤ N → I i x → (∀ x', i < N → I (i + 1) x' → ∃ r, rec x' = some r ∧ Q r) → ∃ r, f rec x = some r ∧ Q r) {n : Nat} (hn : N < n) {x : X} (hx : I 0 x) : ∃ r, iter f n x = some r ∧ Q r := by
  suffices H : ∀ d i n x, i + d = N → d < n → I i x → ∃ r, iter f n x = some r ∧ Q r from H N 0 n x (by omega) hn hx
  intro d
  induction d with
  | zero =>
    intro i n x hi hn hx
    obtain ⟨m, rfl⟩ : ∃ m, n = m + 1 := ⟨n - 1, by omega⟩
    exact step _ i x (by omega) hx fun x' h => by omega
  | succ d ih =>
    intro i n x hi hn hx
    obtain ⟨m, rfl⟩ : ∃ m, n = m + 1 := ⟨n - 1, by omega⟩
    exact step _ i x (by omega) hx fun x' _ hx' => ih (i + 1) m x' (by omega) (by omega) hx'
/-- A drawn tree is valid. -/
theorem l19Tree_yd (k : Nat) (hk : 4000 < k) (c : List Int) (hc : c.length ≤ 2000000) (p s : Int) (hp : 0 ≤ p) : Yd (spec_l19Tree.f k c p s) fun r => r.2.1 = c ∧ 0 ≤ r.2.2.1 ∧ treeB r.1 = true := by
  refine iter_yd (f := fun (rec : ((List (Int × Int × Int)) × Int × List Int × Int × Int) → Option (List (Int × Int × Int) × List Int × Int × Int)) (x : (List (Int × Int × Int)) × Int × List Int × Int × Int) => spec_l19Tree.s0 k rec x.1 x.2.1 x.2.2.1 x.2.2.2.1 x.2.2.2.2)
    (I := fun i x => treeB x.1 = true ∧ x.2.1 = (i : Int) ∧ x.2.2.1 = c ∧ 0 ≤ x.2.2.2.1) (Q := fun r : List (Int × Int × Int) × List Int × Int × Int => r.2.1 = c ∧ 0 ≤ r.2.2.1 ∧ treeB r.1 = true) 11 (fun rec i x hi hx hr => ?_) (by omega) ⟨(by decide : treeB [(-1, 0, 0)] = true), rfl, rfl, hp⟩
  obtain ⟨t, j, c', p', s'⟩ := x
  obtain ⟨ht, hj, hc', hp'⟩ := hx
  simp only at ht hj hc' hp'
  subst hj hc'
  have hl := tree_len ht
  show Yd (spec_l19Tree.s0 k rec t (i : Int) c' p' s') _
  unfold spec_l19Tree.s0
  refine below_bnd hc hp' (by omega) fun y0 p1 s1 g0 g1 q1 => ?_
  dsimp only
  refine Yd.lt (fun h => ?_) fun h => Yd.one ⟨rfl, q1, ht⟩
  rw [iAdd_id (by omega) (by omega)] at h
  refine below_bnd hc q1 (by rw [rLen_eq]; omega) fun y4 p2 s2 g2 g3 q2 => ?_
  dsimp only
  refine below_bnd hc q2 (by omega) fun y8 p3 s3 g4 g5 q3 => ?_
  dsimp only
  refine pick_bnd hc q3 (by simp) fun y12 p4 s4 g6 q4 => ?_
  dsimp only
  simp only [rApp_eq, List.nil_append, rLen_eq, List.length_append, List.length_cons, List.length_nil]
  refine Yd.len (by omega) (Yd.len (by omega) ?_)
  rw [specTreeOk_ev _ (by simp only [List.length_append, List.length_cons, List.length_nil]; omega) k (by simp only [List.length_append, List.length_cons, List.length_nil]; omega), bnd_one]
  rw [next_id (i := i) (n := 12) (by omega) (by omega)]
  refine Yd.br (fun e => hr _ (by omega) ⟨e, rfl, rfl, q4⟩) fun _ => hr _ (by omega) ⟨ht, rfl, rfl, q4⟩
/-- The place of a node among its siblings. -/
def dev (xs : List (Int × Int × Int)) (c : Int) : Int := (nd xs c.toNat).2.1
theorem sorted_uniq {key : Int → Int} : ∀ {l m : List Int}, l.Pairwise (fun a b => key a < key b) → m.Pairwise (fun a b => key a < key b) → (∀ x, x ∈ l ↔ x ∈ m) → l = m
  | [], [], _, _, _ => rfl
  | [], b :: m, _, _, h => by have := (h b).2 (by simp); simp at this
  | a :: l, [], _, _, h => by have := (h a).1 (by simp); simp at this
  | a :: l, b :: m, hl, hm, h => by
    obtain ⟨l1, l2⟩ := List.pairwise_cons.1 hl
    obtain ⟨m1, m2⟩ := List.pairwise_cons.1 hm
    have e : a = b := by
      rcases List.mem_cons.1 ((h a).1 (by simp)) with e | ha
      · exact e
      · rcases List.mem_cons.1 ((h b).2 (by simp)) with e | hb
        · exact e.symm
        · have h1 := m1 a ha; have h2 := l1 b hb; omega
    subst e
    congr 1
    refine sorted_uniq l2 m2 fun x => ⟨fun hx => ?_, fun hx => ?_⟩
    · rcases List.mem_cons.1 ((h x).1 (by simp [hx])) with e | hx'
      · subst e; have := l1 x hx; omega
      · exact hx'
    · rcases List.mem_cons.1 ((h x).2 (by simp [hx])) with e | hx'
      · subst e; have := m1 x hx; omega
      · exact hx'
theorem compare_ev (k : Nat) (a b : Int) : ∃ v, cmp_Compare_Compare_int.f k a b = some v ∧ (v < 0 ↔ a < b) := by
  simp only [cmp_Compare_Compare_int.f, cmp_isNaN_isNaN_int.f, bnd_one, iNe_eq, decide_true, Bool.not_true, brB_false, iLt_eq, brB_dec]
  by_cases h : a < b
  · rw [if_pos h]; exact ⟨_, rfl, by omega⟩
  · rw [if_neg h]
    by_cases h' : b < a
    · rw [if_pos h']; exact ⟨_, rfl, by omega⟩
    · rw [if_neg h']; exact ⟨_, rfl, by omega⟩
theorem childCmp_ev (k : Nat) (xs : List (Int × Int × Int)) (a b : Int) (ha : 0 ≤ a ∧ a < xs.length) (hb : 0 ≤ b ∧ b < xs.length) : ∃ v, impl_ChildrenOf_1.f k a b xs = some (v, xs) ∧ (v < 0 ↔ dev xs a < dev xs b) := by
  obtain ⟨v, hv, h⟩ := compare_ev k (dev xs a) (dev xs b)
  refine ⟨v, ?_, h⟩
  simp only [impl_ChildrenOf_1.f, chk_idx, rLen_eq]
  rw [if_pos ha, if_pos hb, show (rGet (0, 0, 0) xs a).2.1 = dev xs a from rfl, show (rGet (0, 0, 0) xs b).2.1 = dev xs b from rfl, hv]
  rfl
theorem get_at (A : List Int) (x : Int) (R : List Int) : rGet 0 (A ++ x :: R) (A.length : Int) = x := by
  rw [rGet_nat, List.getD_eq_getElem?_getD, List.getElem?_append_right (Nat.le_refl _)]; simp
theorem set_at (A : List Int) (x y : Int) (R : List Int) : (A ++ x :: R).set A.length y = A ++ y :: R := by
  rw [List.set_append_right _ _ (Nat.le_refl _)]; simp
theorem insIn (k : Nat) (xs : List (Int × Int × Int)) (post : List Int) (n : Nat) (hn : n ≤ 100) (i : Nat) (res : Option (List (Int × Int × Int) × List Int)) (rec0 : ((List Int) × Int × Int × Int × List (Int × Int × Int)) → Option ((List (Int × Int × Int)) × List Int)) :
    ∀ (A C : List Int) (x : Int) (K : Nat), A.length < K → (A ++ x :: C ++ post).length = n → (∀ y ∈ A ++ x :: C ++ post, 0 ≤ y ∧ y < xs.length) →
      (A ++ C).Pairwise (fun a b => dev xs a < dev xs b) → (∀ c ∈ C, dev xs x < dev xs c) → (∀ a ∈ A, dev xs a ≠ dev xs x) →
      (∀ S : List Int, S.Pairwise (fun a b => dev xs a < dev xs b) → S.Perm (A ++ x :: C) → rec0 (S ++ post, 0, (n : Int), iAdd .i64 (i : Int) 1, xs) = res) →
      iter (fun (rec : (List Int × Int × Int × Int × Int × (List (Int × Int × Int))) → Option (List (Int × Int × Int) × List Int)) (x : List Int × Int × Int × Int × Int × (List (Int × Int × Int))) => slices_insertionSortCmpFunc_insertionSortCmpFunc_int_impl_ChildrenOf_1.s1 k rec0 rec x.1 x.2.1 x.2.2.1 x.2.2.2.1 x.2.2.2.2.1 x.2.2.2.2.2) K (A ++ x :: C ++ post, 0, (n : Int), (i : Int), (A.length : Int), xs) = res := by
  intro A
  generalize hm : A.length = m
  induction m generalizing A with
  | zero =>
    intro C x K hK hlen hin hs hx hd hres
    obtain ⟨K', rfl⟩ : ∃ K', K = K' + 1 := ⟨K - 1, by omega⟩
    have hA : A = [] := List.length_eq_zero_iff.1 hm
    subst hA
    show slices_insertionSortCmpFunc_insertionSortCmpFunc_int_impl_ChildrenOf_1.s1 k rec0 (iter _ K') ([] ++ x :: C ++ post) 0 (n : Int) (i : Int) ((0 : Nat) : Int) xs = res
    generalize iter _ K' = rec1
    simp only [slices_insertionSortCmpFunc_insertionSortCmpFunc_int_impl_ChildrenOf_1.s1, iLt_eq, brB_dec]
    rw [if_neg (by omega)]
    exact hres ([] ++ x :: C) (List.pairwise_cons.2 ⟨hx, by simpa using hs⟩) (List.Perm.refl _)
  | succ m ih =>
    intro C x K hK hlen hin hs hx hd hres
    obtain ⟨K', rfl⟩ : ∃ K', K = K' + 1 := ⟨K - 1, by omega⟩
    obtain ⟨A', a, rfl⟩ : ∃ A' a, A = A' ++ [a] := by
      refine ⟨A.dropLast, A.getLast (fun e => by subst e; simp at hm), (List.dropLast_concat_getLast _).symm⟩
    have hm' : A'.length = m := by simpa using hm
    have e1 : A' ++ [a] ++ x :: C ++ post = A' ++ a :: (x :: (C ++ post)) := by simp
    have e2 : A' ++ [a] ++ x :: C ++ post = (A' ++ [a]) ++ x :: (C ++ post) := by simp
    have g1 : rGet 0 (A' ++ [a] ++ x :: C ++ post) ((m + 1 : Nat) : Int) = x := by rw [e2, ← hm]; exact get_at _ _ _
    have g2 : rGet 0 (A' ++ [a] ++ x :: C ++ post) (m : Int) = a := by rw [e1, ← hm']; exact get_at _ _ _
    have ha := hin a (by simp)
    have hx' := hin x (by simp)
    obtain ⟨v, hv, hvlt⟩ := childCmp_ev k xs x a hx' ha
    have hlen' : ((A' ++ [a] ++ x :: C ++ post).length : Int) = n := by omega
    have hmn : m + 1 < n := by
      rw [← hlen]; simp only [List.length_append, List.length_cons, List.length_nil]; omega
    have es : ((A' ++ [a] ++ x :: C ++ post).set (m + 1) a).set m x = A' ++ x :: (a :: C) ++ post := by
      rw [e2, ← hm, set_at]
      rw [show A' ++ [a] ++ a :: (C ++ post) = A' ++ a :: (a :: (C ++ post)) by simp, ← hm', set_at]
      simp
    have ihh := ih A' hm' (a :: C) x K' (by omega) (by simp only [List.length_append, List.length_cons, List.length_nil] at hlen ⊢; omega)
      (fun y hy => hin y (by simp only [List.mem_append, List.mem_cons, List.not_mem_nil, or_false] at hy ⊢; rcases hy with (h | h | h | h) | h <;> simp [h]))
      (by simpa using hs)
    show slices_insertionSortCmpFunc_insertionSortCmpFunc_int_impl_ChildrenOf_1.s1 k rec0 (iter _ K') (A' ++ [a] ++ x :: C ++ post) 0 (n : Int) (i : Int) ((m + 1 : Nat) : Int) xs = res
    generalize iter _ K' = rec1 at ihh ⊢
    have es1 : iSub .i64 ((m + 1 : Nat) : Int) 1 = (m : Int) := by rw [iSub_id (by omega) (by omega)]; omega
    simp only [slices_insertionSortCmpFunc_insertionSortCmpFunc_int_impl_ChildrenOf_1.s1, es1, g1, g2, hv, iLt_eq, brB_dec, chk_idx, rLen_eq, bnd_one, rSet_nat, List.length_set, hlen', es]
    rw [if_pos (by omega), if_pos (by omega), if_pos (by omega)]
    obtain ⟨p1, p2, p3⟩ := List.pairwise_append.1 hs
    obtain ⟨p4, p5, p6⟩ := List.pairwise_append.1 p1
    by_cases hlt : v < 0
    · rw [if_pos hlt, if_pos (by omega), if_pos (by omega), if_pos (by omega), if_pos (by omega)]
      have hxa := hvlt.1 hlt
      refine ihh (fun c hc => ?_) (fun y hy => hd y (by simp [hy])) fun S hS hp => hres S hS (hp.trans ?_)
      · rcases List.mem_cons.1 hc with rfl | hc
        · exact hxa
        · exact hx c hc
      · have : A' ++ [a] ++ x :: C = A' ++ (a :: x :: C) := by simp
        rw [this]
        exact List.Perm.append_left _ (List.Perm.swap _ _ _)
    · rw [if_neg hlt]
      have hxa : dev xs a < dev xs x := by
        have h1 := hd a (by simp)
        have h2 : ¬ dev xs x < dev xs a := fun h => hlt (hvlt.2 h)
        omega
      have := hres (A' ++ [a] ++ x :: C) (List.pairwise_append.2 ⟨p1, List.pairwise_cons.2 ⟨hx, p2⟩, fun y hy z hz => ?_⟩) (List.Perm.refl _)
      · exact this
      · have hyx : dev xs y < dev xs x := by
          rcases List.mem_append.1 hy with hy | hy
          · have := p6 y hy a (by simp); omega
          · simp at hy; subst hy; exact hxa
        rcases List.mem_cons.1 hz with rfl | hz
        · exact hyx
        · have := hx z hz; omega
theorem insOut (k : Nat) (hk : 200 < k) (xs : List (Int × Int × Int)) (n : Nat) (hn : n ≤ 100) (L : List Int) (hL : L.length = n) (hin : ∀ y ∈ L, 0 ≤ y ∧ y < xs.length) (hd : L.Pairwise (fun a b => dev xs a ≠ dev xs b)) :
    ∀ (d i : Nat) (S post : List Int) (K : Nat), i + d = n → d < K → S.length = i → S.Pairwise (fun a b => dev xs a < dev xs b) → (S ++ post).Perm L →
      ∃ T : List Int, iter (fun (rec : (List Int × Int × Int × Int × (List (Int × Int × Int))) → Option (List (Int × Int × Int) × List Int)) (x : List Int × Int × Int × Int × (List (Int × Int × Int))) => slices_insertionSortCmpFunc_insertionSortCmpFunc_int_impl_ChildrenOf_1.s0 k rec x.1 x.2.1 x.2.2.1 x.2.2.2.1 x.2.2.2.2) K (S ++ post, 0, (n : Int), (i : Int), xs) = some (xs, T) ∧ T.Pairwise (fun a b => dev xs a < dev xs b) ∧ T.Perm L := by
  intro d
  induction d with
  | zero =>
    intro i S post K hi hK hS hs hp
    obtain ⟨K', rfl⟩ : ∃ K', K = K' + 1 := ⟨K - 1, by omega⟩
    have hpost : post = [] := by
      have := hp.length_eq
      rw [List.length_append, hL] at this
      exact List.length_eq_zero_iff.1 (by omega)
    subst hpost
    rw [List.append_nil] at hp ⊢
    refine ⟨S, ?_, hs, hp⟩
    show slices_insertionSortCmpFunc_insertionSortCmpFunc_int_impl_ChildrenOf_1.s0 k (iter _ K') S 0 (n : Int) (i : Int) xs = _
    generalize iter _ K' = rec
    simp only [slices_insertionSortCmpFunc_insertionSortCmpFunc_int_impl_ChildrenOf_1.s0, iLt_eq, brB_dec]
    rw [if_neg (by omega)]
  | succ d ih =>
    intro i S post K hi hK hS hs hp
    obtain ⟨K', rfl⟩ : ∃ K', K = K' + 1 := ⟨K - 1, by omega⟩
    have hlen := hp.length_eq
    rw [List.length_append, hL] at hlen
    cases post with
    | nil => simp at hlen; omega
    | cons x post =>
      have hd' : (S ++ x :: post).Pairwise (fun a b => dev xs a ≠ dev xs b) := (List.Perm.pairwise_iff (fun h => Ne.symm h) hp).2 hd
      obtain ⟨d1, d2, d3⟩ := List.pairwise_append.1 hd'
      have step : ∀ rec, slices_insertionSortCmpFunc_insertionSortCmpFunc_int_impl_ChildrenOf_1.s0 k rec (S ++ x :: post) 0 (n : Int) (i : Int) xs = slices_insertionSortCmpFunc_insertionSortCmpFunc_int_impl_ChildrenOf_1.l1 k k rec (S ++ x :: post) 0 (n : Int) (i : Int) (i : Int) xs := fun rec => by
        simp only [slices_insertionSortCmpFunc_insertionSortCmpFunc_int_impl_ChildrenOf_1.s0, iLt_eq, brB_dec]
        rw [if_pos (by omega)]
      -- what the inner loop comes to
      have main : ∀ rec : ((List Int) × Int × Int × Int × List (Int × Int × Int)) → Option ((List (Int × Int × Int)) × List Int), (∀ S' : List Int, S'.length = i + 1 → S'.Pairwise (fun a b => dev xs a < dev xs b) → (S' ++ post).Perm L → ∃ T, rec (S' ++ post, 0, (n : Int), ((i + 1 : Nat) : Int), xs) = some (xs, T) ∧ T.Pairwise (fun a b => dev xs a < dev xs b) ∧ T.Perm L) →
          ∃ T, slices_insertionSortCmpFunc_insertionSortCmpFunc_int_impl_ChildrenOf_1.l1 k k rec (S ++ x :: post) 0 (n : Int) (i : Int) (i : Int) xs = some (xs, T) ∧ T.Pairwise (fun a b => dev xs a < dev xs b) ∧ T.Perm L := by
        intro rec hrec
        -- the sorted rows are one
        have huniq : ∀ S1 S2 : List Int, S1.Pairwise (fun a b => dev xs a < dev xs b) → S2.Pairwise (fun a b => dev xs a < dev xs b) → S1.Perm (S ++ [x]) → S2.Perm (S ++ [x]) → S1 = S2 := fun S1 S2 h1 h2 q1 q2 => sorted_uniq (key := dev xs) h1 h2 fun y => (q1.mem_iff).trans (q2.mem_iff).symm
        -- there is one: the inner loop makes it
        have hex : ∃ S1 : List Int, S1.Pairwise (fun a b => dev xs a < dev xs b) ∧ S1.Perm (S ++ [x]) := by
          have ins : ∀ (S : List Int), S.Pairwise (fun a b => dev xs a < dev xs b) → (∀ a ∈ S, dev xs a ≠ dev xs x) → ∃ S1 : List Int, S1.Pairwise (fun a b => dev xs a < dev xs b) ∧ S1.Perm (S ++ [x]) := by
            intro S
            induction S with
            | nil => exact fun _ _ => ⟨[x], by simp, List.Perm.refl _⟩
            | cons a S ihS =>
              intro hs hne
              obtain ⟨a1, a2⟩ := List.pairwise_cons.1 hs
              by_cases h : dev xs x < dev xs a
              · refine ⟨x :: a :: S, List.pairwise_cons.2 ⟨fun y hy => ?_, hs⟩, ?_⟩
                · rcases List.mem_cons.1 hy with rfl | hy
                  · exact h
                  · have := a1 y hy; omega
                · exact (List.perm_append_comm (l₁ := [x]) (l₂ := a :: S))
              · obtain ⟨S1, q1, q2⟩ := ihS a2 (fun y hy => hne y (by simp [hy]))
                refine ⟨a :: S1, List.pairwise_cons.2 ⟨fun y hy => ?_, q1⟩, List.Perm.cons _ q2⟩
                have hy' := (q2.mem_iff).1 hy
                rcases List.mem_append.1 hy' with hy' | hy'
                · exact a1 y hy'
                · simp at hy'; subst hy'
                  have := hne a (by simp); omega
          exact ins S hs fun a ha => d3 a ha x (by simp)
        obtain ⟨S1, q1, q2⟩ := hex
        have hl1 : S1.length = i + 1 := by rw [q2.length_eq, List.length_append, hS]; rfl
        have hperm : (S1 ++ post).Perm L := by
          refine (List.Perm.append_right post q2).trans ?_
          rw [List.append_assoc]; exact hp
        obtain ⟨T, t1, t2, t3⟩ := hrec S1 hl1 q1 hperm
        refine ⟨T, ?_, t2, t3⟩
        have hI := insIn k xs post n hn i (some (xs, T)) rec S [] x k (by omega) (by rw [List.append_assoc]; simp only [List.length_append, List.length_cons, List.length_nil] at hlen ⊢; omega)
          (fun y hy => hin y ((hp.mem_iff).1 (by simpa using hy))) (by simpa using hs) (fun c hc => by cases hc) (fun a ha => d3 a ha x (by simp))
          (fun S' hS' hp' => by
            rw [huniq S' S1 hS' q1 hp' q2, next_id (i := i) (n := 1000) (by omega) (by omega)]
            exact t1)
        rw [List.append_assoc, hS] at hI
        exact hI
      obtain ⟨T, t1, t2, t3⟩ := main (iter (fun (rec : (List Int × Int × Int × Int × (List (Int × Int × Int))) → Option (List (Int × Int × Int) × List Int)) (x : List Int × Int × Int × Int × (List (Int × Int × Int))) => slices_insertionSortCmpFunc_insertionSortCmpFunc_int_impl_ChildrenOf_1.s0 k rec x.1 x.2.1 x.2.2.1 x.2.2.2.1 x.2.2.2.2) K') fun S' h1 h2 h3 => ih (i + 1) S' post K' (by omega) (by omega) h1 h2 h3
      exact ⟨T, (step _).trans t1, t2, t3⟩
theorem bitsLen_small (k n : Nat) (hn : n ≤ 12) : ∃ v, bits_Len.f k (iCnv .u64 (n : Int)) = some v := by
  have : n = 0 ∨ n = 1 ∨ n = 2 ∨ n = 3 ∨ n = 4 ∨ n = 5 ∨ n = 6 ∨ n = 7 ∨ n = 8 ∨ n = 9 ∨ n = 10 ∨ n = 11 ∨ n = 12 := by omega
  rcases this with rfl | rfl | rfl | rfl | rfl | rfl | rfl | rfl | rfl | rfl | rfl | rfl | rfl <;> exact ⟨_, rfl⟩
noncomputable def pdF (k : Nat) (rec : (List Int × Int × Int × Int × Bool × Bool × (List (Int × Int × Int))) → Option (List (Int × Int × Int) × List Int)) (x : List Int × Int × Int × Int × Bool × Bool × (List (Int × Int × Int))) : Option (List (Int × Int × Int) × List Int) := slices_pdqsortCmpFunc_pdqsortCmpFunc_int_impl_ChildrenOf_1.s0 k rec x.1 x.2.1 x.2.2.1 x.2.2.2.1 x.2.2.2.2.1 x.2.2.2.2.2.1 x.2.2.2.2.2.2
/-- Sorting the children. -/
theorem sortChildren (k : Nat) (hk : 200 < k) (xs : List (Int × Int × Int)) (L : List Int) (hL : L.length ≤ 12) (hin : ∀ y ∈ L, 0 ≤ y ∧ y < xs.length) (hd : L.Pairwise (fun a b => dev xs a ≠ dev xs b)) :
    ∃ T : List Int, slices_SortFunc_int_impl_ChildrenOf_1.f k L xs = some (xs, T) ∧ T.Pairwise (fun a b => dev xs a < dev xs b) ∧ T.Perm L := by
  obtain ⟨v, hv⟩ := bitsLen_small k L.length hL
  obtain ⟨k', hk'⟩ : ∃ k', k = k' + 1 := ⟨k - 1, by omega⟩
  cases hL0 : L with
  | nil =>
    refine ⟨[], ?_, List.Pairwise.nil, List.Perm.refl _⟩
    rw [hL0] at hv
    have e0 : slices_insertionSortCmpFunc_insertionSortCmpFunc_int_impl_ChildrenOf_1.f k [] 0 0 xs = some (xs, []) := by subst hk'; rfl
    simp only [slices_SortFunc_int_impl_ChildrenOf_1.f, rLen_eq, hv, bnd_one]
    have e1 : slices_pdqsortCmpFunc_pdqsortCmpFunc_int_impl_ChildrenOf_1.f k [] 0 ((List.length ([] : List Int) : Nat) : Int) v xs = some (xs, []) := by
      have : ∀ j, j = k' + 1 → slices_pdqsortCmpFunc_pdqsortCmpFunc_int_impl_ChildrenOf_1.l0 k j [] 0 0 v true true xs = some (xs, []) := by
        intro j hj
        subst hj
        show slices_pdqsortCmpFunc_pdqsortCmpFunc_int_impl_ChildrenOf_1.s0 k (iter (pdF k) k') [] 0 0 v true true xs = _
        generalize iter (pdF k) k' = rec
        simp only [slices_pdqsortCmpFunc_pdqsortCmpFunc_int_impl_ChildrenOf_1.s0, iLe_eq, brB_dec, e0, bnd_one]
        rw [if_pos (by rw [iSub_id (by omega) (by omega)]; omega)]
      first | exact this k hk' | (subst hk'; exact this _ rfl)
    rw [e1]; rfl
  | cons x0 L0 =>
    rw [← hL0]
    have hpos : 1 ≤ L.length := by rw [hL0]; simp
    obtain ⟨T, t1, t2, t3⟩ := insOut k hk xs L.length (by omega) L rfl hin hd (L.length - 1) 1 [x0] L0 k (by omega) (by omega) rfl (by simp) (by rw [hL0]; exact List.Perm.refl _)
    rw [show [x0] ++ L0 = L by rw [hL0]; rfl] at t1
    refine ⟨T, ?_, t2, t3⟩
    have e0 : slices_insertionSortCmpFunc_insertionSortCmpFunc_int_impl_ChildrenOf_1.f k L 0 (L.length : Int) xs = some (xs, T) := t1
    have e1 : slices_pdqsortCmpFunc_pdqsortCmpFunc_int_impl_ChildrenOf_1.f k L 0 (L.length : Int) v xs = some (xs, T) := by
      have : ∀ j, j = k' + 1 → slices_pdqsortCmpFunc_pdqsortCmpFunc_int_impl_ChildrenOf_1.l0 k j L 0 (L.length : Int) v true true xs = some (xs, T) := by
        intro j hj
        subst hj
        show slices_pdqsortCmpFunc_pdqsortCmpFunc_int_impl_ChildrenOf_1.s0 k (iter (pdF k) k') L 0 (L.length : Int) v true true xs = _
        generalize iter (pdF k) k' = rec
        simp only [slices_pdqsortCmpFunc_pdqsortCmpFunc_int_impl_ChildrenOf_1.s0, iLe_eq, brB_dec, e0, bnd_one]
        rw [if_pos (by rw [iSub_id (by omega) (by omega)]; omega)]
      first | exact this k hk' | (subst hk'; exact this _ rfl)
    simp only [slices_SortFunc_int_impl_ChildrenOf_1.f, rLen_eq, hv, bnd_one, e1]
/-- The nodes below a node, in the order of the text. -/
def chF (xs : List (Int × Int × Int)) (n : Int) (i : Nat) : List Int := ((List.range i).filter fun (j : Nat) => decide ((nd xs j).1 = n)).map fun (j : Nat) => (j : Int)
/-- The nodes below a node, at one place. -/
def chD (xs : List (Int × Int × Int)) (n d : Int) (i : Nat) : List Int := ((List.range i).filter fun (j : Nat) => decide ((nd xs j).1 = n) && decide ((nd xs j).2.1 = d)).map fun (j : Nat) => (j : Int)
/-- The nodes below a node, by their places. -/
def chS (xs : List (Int × Int × Int)) (n : Int) (d : Nat) : List Int := (List.range d).flatMap fun (e : Nat) => chD xs n (e : Int) xs.length
theorem chF_succ (xs : List (Int × Int × Int)) (n : Int) (i : Nat) : chF xs n (i + 1) = if (nd xs i).1 = n then chF xs n i ++ [(i : Int)] else chF xs n i := by
  simp only [chF, List.range_succ, List.filter_append, List.map_append, List.filter_cons, List.filter_nil]
  by_cases h : (nd xs i).1 = n <;> simp [h]
theorem chD_succ (xs : List (Int × Int × Int)) (n d : Int) (i : Nat) : chD xs n d (i + 1) = if (nd xs i).1 = n then (if (nd xs i).2.1 = d then chD xs n d i ++ [(i : Int)] else chD xs n d i) else chD xs n d i := by
  simp only [chD, List.range_succ, List.filter_append, List.map_append, List.filter_cons, List.filter_nil]
  by_cases h : (nd xs i).1 = n <;> by_cases h' : (nd xs i).2.1 = d <;> simp [h, h']
theorem chF_len (xs : List (Int × Int × Int)) (n : Int) (i : Nat) : (chF xs n i).length ≤ i := by
  have := List.length_filter_le (fun (j : Nat) => decide ((nd xs j).1 = n)) (List.range i)
  simpa [chF] using this
theorem chD_len (xs : List (Int × Int × Int)) (n d : Int) (i : Nat) : (chD xs n d i).length ≤ i := by
  have := List.length_filter_le (fun (j : Nat) => decide ((nd xs j).1 = n) && decide ((nd xs j).2.1 = d)) (List.range i)
  simpa [chD] using this
theorem mem_chF {xs : List (Int × Int × Int)} {n : Int} {i : Nat} {x : Int} : x ∈ chF xs n i ↔ 0 ≤ x ∧ x < i ∧ (nd xs x.toNat).1 = n := by
  simp only [chF, List.mem_map, List.mem_filter, List.mem_range, decide_eq_true_eq]
  constructor
  · rintro ⟨j, ⟨h1, h2⟩, rfl⟩
    exact ⟨by omega, by omega, by simpa using h2⟩
  · rintro ⟨h1, h2, h3⟩
    exact ⟨x.toNat, ⟨by omega, h3⟩, by omega⟩
theorem mem_chD {xs : List (Int × Int × Int)} {n d : Int} {i : Nat} {x : Int} : x ∈ chD xs n d i ↔ 0 ≤ x ∧ x < i ∧ (nd xs x.toNat).1 = n ∧ dev xs x = d := by
  simp only [chD, List.mem_map, List.mem_filter, List.mem_range, Bool.and_eq_true, decide_eq_true_eq, dev]
  constructor
  · rintro ⟨j, ⟨h1, h2, h3⟩, rfl⟩
    exact ⟨by omega, by omega, by simpa using h2, by simpa using h3⟩
  · rintro ⟨h1, h2, h3, h4⟩
    exact ⟨x.toNat, ⟨by omega, h3, h4⟩, by omega⟩
theorem node_of {xs : List (Int × Int × Int)} (h : treeB xs = true) {i : Nat} (h0 : 0 < i) (hi : i < xs.length) : nodeB xs i = true := by
  simp only [treeB, Bool.and_eq_true, List.all_eq_true, List.mem_range] at h
  have := h.2.2 (i - 1) (by omega)
  rwa [show i - 1 + 1 = i by omega] at this
/-- Siblings have places of their own. -/
theorem dev_ne {xs : List (Int × Int × Int)} (h : treeB xs = true) {n x y : Int} (hn : 0 ≤ n) (hx : x ∈ chF xs n xs.length) (hy : y ∈ chF xs n xs.length) (hne : x < y) : dev xs x ≠ dev xs y := by
  obtain ⟨x1, x2, x3⟩ := mem_chF.1 hx
  obtain ⟨y1, y2, y3⟩ := mem_chF.1 hy
  have hb := node_of h (i := y.toNat) (by omega) (by omega)
  simp only [nodeB, Bool.and_eq_true, List.all_eq_true, List.mem_range] at hb
  have := hb.2.2.2.2 x.toNat (by omega)
  simp only [sameB, Bool.not_eq_true', Bool.and_eq_false_iff, decide_eq_false_iff_not] at this
  rcases this with h' | h'
  · exact absurd (x3.trans y3.symm) h'
  · exact h'
theorem chF_lt (xs : List (Int × Int × Int)) (n : Int) (i : Nat) : (chF xs n i).Pairwise (· < ·) := by
  unfold chF
  rw [List.pairwise_map]
  refine List.Pairwise.filter _ ?_
  exact List.pairwise_lt_range.imp fun h => by omega
theorem chF_dev {xs : List (Int × Int × Int)} (h : treeB xs = true) {n : Int} (hn : 0 ≤ n) : (chF xs n xs.length).Pairwise (fun a b => dev xs a ≠ dev xs b) :=
  (chF_lt xs n xs.length).imp_of_mem fun hx hy hlt => dev_ne h hn hx hy hlt
theorem chS_sorted {xs : List (Int × Int × Int)} (h : treeB xs = true) {n : Int} (hn : 0 ≤ n) (d : Nat) : (chS xs n d).Pairwise (fun a b => dev xs a < dev xs b) := by
  unfold chS
  rw [List.pairwise_flatMap]
  refine ⟨fun e he => ?_, ?_⟩
  · have hlt : (chD xs n (e : Int) xs.length).Pairwise (· < ·) := by
      unfold chD
      rw [List.pairwise_map]
      refine List.Pairwise.filter _ ?_
      exact List.pairwise_lt_range.imp fun h => by omega
    refine hlt.imp_of_mem fun hx hy hlt => ?_
    obtain ⟨x1, x2, x3, x4⟩ := mem_chD.1 hx
    obtain ⟨y1, y2, y3, y4⟩ := mem_chD.1 hy
    exact absurd (x4.trans y4.symm) (dev_ne h hn (mem_chF.2 ⟨x1, x2, x3⟩) (mem_chF.2 ⟨y1, y2, y3⟩) hlt)
  · refine List.pairwise_lt_range.imp fun hlt => ?_
    intro x hx y hy
    have h1 := (mem_chD.1 hx).2.2.2
    have h2 := (mem_chD.1 hy).2.2.2
    omega
theorem mem_chS {xs : List (Int × Int × Int)} (h : treeB xs = true) {n : Int} (hn : 0 ≤ n) {x : Int} : x ∈ chS xs n 4 ↔ x ∈ chF xs n xs.length := by
  simp only [chS, List.mem_flatMap, List.mem_range, mem_chD, mem_chF]
  constructor
  · rintro ⟨e, _, h1, h2, h3, _⟩
    exact ⟨h1, h2, h3⟩
  · rintro ⟨h1, h2, h3⟩
    have hpos : 0 < x.toNat := by
      rcases Nat.eq_zero_or_pos x.toNat with e | e
      · have hr := h
        simp only [treeB, rootB, Bool.and_eq_true, decide_eq_true_eq] at hr
        rw [e] at h3
        have := hr.2.1.1
        omega
      · exact e
    have hb := node_of h hpos (by omega)
    simp only [nodeB, Bool.and_eq_true, decide_eq_true_eq] at hb
    have hd := hb.2.2.1
    exact ⟨(dev xs x).toNat, by unfold dev; omega, h1, h2, h3, by unfold dev; omega⟩
theorem chS_perm {xs : List (Int × Int × Int)} (h : treeB xs = true) {n : Int} (hn : 0 ≤ n) : (chS xs n 4).Perm (chF xs n xs.length) := by
  have hl := tree_len h
  obtain ⟨T, t1, t2, t3⟩ := sortChildren 1000 (by omega) xs (chF xs n xs.length) (by have := chF_len xs n xs.length; omega) (fun y hy => by obtain ⟨a, b, _⟩ := mem_chF.1 hy; exact ⟨a, b⟩) (chF_dev h hn)
  have eT : T = chS xs n 4 := sorted_uniq (key := dev xs) t2 (chS_sorted h hn 4) fun x => (t3.mem_iff).trans (mem_chS h hn).symm
  rwa [eT] at t3
/-- The nodes below a node. -/
def chT (xs : List (Int × Int × Int)) (n : Int) : List Int := if okN xs n = true then chS xs n 4 else []
theorem chT_len (xs : List (Int × Int × Int)) (n : Int) : (chT xs n).length ≤ 12 := by
  unfold chT
  split
  · rename_i h
    simp only [okN, Bool.and_eq_true, decide_eq_true_eq] at h
    have hl := tree_len h.1
    have h1 := chF_len xs n xs.length
    have := (chS_perm h.1 (show 0 ≤ n by omega)).length_eq
    omega
  · simp
theorem chT_mem {xs : List (Int × Int × Int)} {n x : Int} (h : x ∈ chT xs n) : n < x ∧ 0 ≤ n ∧ x < xs.length ∧ treeB xs = true ∧ (nd xs x.toNat).1 = n := by
  unfold chT at h
  split at h
  · rename_i hk
    simp only [okN, Bool.and_eq_true, decide_eq_true_eq] at hk
    obtain ⟨h1, h2, h3⟩ := mem_chF.1 ((mem_chS hk.1 (by omega)).1 h)
    have := (treeP_of hk.1) x.toNat (by omega)
    exact ⟨by omega, by omega, h2, hk.1, h3⟩
  · simp at h
theorem implChildren_ev (xs : List (Int × Int × Int)) (n : Int) (hx : xs.length ≤ 1048576) (k : Nat) (hk : xs.length + 300 < k) : impl_ChildrenOf.f k xs n = some (chT xs n) := by
  simp only [impl_ChildrenOf.f, isNode_ev xs n hx k (by omega), bnd_one, bNot_eq, brB_nb, chT]
  cases h : okN xs n with
  | false => rw [show (treeB xs && decide (0 ≤ n ∧ n ≤ (xs.length : Int) - 1)) = false from h]; rfl
  | true =>
    rw [show (treeB xs && decide (0 ≤ n ∧ n ≤ (xs.length : Int) - 1)) = true from h, brB_true]
    simp only [okN, Bool.and_eq_true, decide_eq_true_eq] at h
    have hl := tree_len h.1
    have hn : 0 ≤ n := by omega
    obtain ⟨T, t1, t2, t3⟩ := sortChildren k (by omega) xs (chF xs n xs.length) (by have := chF_len xs n xs.length; omega) (fun y hy => by obtain ⟨a, b, _⟩ := mem_chF.1 hy; exact ⟨a, b⟩) (chF_dev h.1 hn)
    have eT : T = chS xs n 4 := sorted_uniq (key := dev xs) t2 (chS_sorted h.1 hn 4) fun x => (t3.mem_iff).trans (mem_chS h.1 hn).symm
    rw [eT] at t1
    have hh := iter_upto (f := fun (rec : (Int × List Int × (List (Int × Int × Int)) × Int × Int × (List (Int × Int × Int))) → Option (List Int)) (x : Int × List Int × (List (Int × Int × Int)) × Int × Int × (List (Int × Int × Int))) => impl_ChildrenOf.s0 k rec x.1 x.2.1 x.2.2.1 x.2.2.2.1 x.2.2.2.2.1 x.2.2.2.2.2) (fun i => (n, chF xs n i, xs, (xs.length : Int), (i : Int), xs)) xs.length (r := chS xs n 4) (fun rec i hi => ?_) (fun rec => ?_) (n := k) (by omega)
    · exact hh
    · have hc := chF_len xs n i
      simp only [impl_ChildrenOf.s0, rGet_nd, iLt_eq, iEq_eq, brB_dec, chk_idx, chk_len, rLen_eq, rApp_eq, chF_succ]
      rw [if_pos (by omega), if_idx hi, next_id hi (by omega)]
      by_cases c : (nd xs i).1 = n
      · rw [if_pos c, if_pos c, if_pos (by simp only [List.length_append, List.length_cons, List.length_nil]; omega)]
      · rw [if_neg c, if_neg c]
    · simp only [impl_ChildrenOf.s0, iLt_eq, brB_dec, t1, bnd_one]
      rw [if_neg (by omega)]
theorem chD_one (xs : List (Int × Int × Int)) (n d : Int) (hr : (nd xs 0).1 ≠ n) : chD xs n d 1 = [] := by
  rw [chD_succ, if_neg hr]; rfl
theorem specRow (k : Nat) (xs : List (Int × Int × Int)) (n : Int) (d : Int) (out : List Int) (hr : (nd xs 0).1 ≠ n) (hx : 1 ≤ xs.length ∧ xs.length ≤ 12) (ho : out.length ≤ 100) (hk : xs.length < k) (rec0 : ((List (Int × Int × Int)) × Int × (List Int) × Int) → Option (List Int)) :
    spec_ChildrenOf.l1 k k rec0 xs n out d 1 = rec0 (xs, n, out ++ chD xs n d xs.length, iAdd .i64 d 1) := by
  have suff : ∀ r, rec0 (xs, n, out ++ chD xs n d xs.length, iAdd .i64 d 1) = r → spec_ChildrenOf.l1 k k rec0 xs n out d 1 = r := by
    intro r hres
    suffices H : ∀ (m i : Nat) (K : Nat), i + m = xs.length → m < K → 1 ≤ i → iter (fun (rec : ((List (Int × Int × Int)) × Int × List Int × Int × Int) → Option (List Int)) (x : (List (Int × Int × Int)) × Int × List Int × Int × Int) => spec_ChildrenOf.s1 k rec0 rec x.1 x.2.1 x.2.2.1 x.2.2.2.1 x.2.2.2.2) K (xs, n, out ++ chD xs n d i, d, (i : Int)) = r by
      have := H (xs.length - 1) 1 k (by omega) (by omega) (by omega)
      rw [chD_one xs n d hr, List.append_nil] at this
      exact this
    intro m
    induction m with
    | zero =>
      intro i K hi hK h1
      obtain ⟨K', rfl⟩ : ∃ K', K = K' + 1 := ⟨K - 1, by omega⟩
      obtain rfl : i = xs.length := by omega
      show spec_ChildrenOf.s1 k rec0 (iter _ K') xs n (out ++ chD xs n d xs.length) d (xs.length : Int) = r
      generalize iter _ K' = rec
      simp only [spec_ChildrenOf.s1, iLt_eq, brB_dec, rLen_eq]
      rw [if_neg (by omega)]
      exact hres
    | succ m ih =>
      intro i K hi hK h1
      obtain ⟨K', rfl⟩ : ∃ K', K = K' + 1 := ⟨K - 1, by omega⟩
      have ihh := ih (i + 1) K' (by omega) (by omega) (by omega)
      have hc := chD_len xs n d i
      show spec_ChildrenOf.s1 k rec0 (iter _ K') xs n (out ++ chD xs n d i) d (i : Int) = r
      generalize iter _ K' = rec at ihh ⊢
      simp only [spec_ChildrenOf.s1, rGet_nd, iLt_eq, iEq_eq, brB_dec, chk_idx, chk_len, rLen_eq, rApp_eq]
      rw [if_pos (by omega), if_idx (by omega), next_id (i := i) (n := xs.length) (by omega) (by omega)]
      rw [chD_succ] at ihh
      by_cases c1 : (nd xs i).1 = n
      · rw [if_pos c1] at ihh ⊢
        rw [if_idx (by omega)]
        by_cases c2 : (nd xs i).2.1 = d
        · rw [if_pos c2] at ihh ⊢
          rw [if_pos (by simp only [List.length_append, List.length_cons, List.length_nil]; omega), List.append_assoc]; exact ihh
        · rw [if_neg c2] at ihh ⊢; exact ihh
      · rw [if_neg c1] at ihh ⊢; exact ihh
  exact suff _ rfl
theorem specChildren_ev (xs : List (Int × Int × Int)) (n : Int) (hx : xs.length ≤ 1048576) (k : Nat) (hk : xs.length + 300 < k) : spec_ChildrenOf.f k xs n = some (chT xs n) := by
  simp only [spec_ChildrenOf.f, l19Ok_ev xs n hx k (by omega), bnd_one, bNot_eq, brB_nb, chT]
  cases h : okN xs n with
  | false => rw [show (treeB xs && decide (0 ≤ n ∧ n ≤ (xs.length : Int) - 1)) = false from h]; rfl
  | true =>
    rw [show (treeB xs && decide (0 ≤ n ∧ n ≤ (xs.length : Int) - 1)) = true from h, brB_true]
    simp only [okN, Bool.and_eq_true, decide_eq_true_eq] at h
    have hl := tree_len h.1
    have hr : (nd xs 0).1 ≠ n := by
      have hr := h.1
      simp only [treeB, rootB, Bool.and_eq_true, decide_eq_true_eq] at hr
      have := hr.2.1.1
      omega
    have hlen : ∀ d, d ≤ 4 → (chS xs n d).length ≤ 12 * d := by
      intro d
      induction d with
      | zero => intro _; simp [chS]
      | succ d ih =>
        intro hd
        have := ih (by omega)
        have h2 := chD_len xs n (d : Int) xs.length
        have e : chS xs n (d + 1) = chS xs n d ++ chD xs n (d : Int) xs.length := by simp [chS, List.range_succ]
        rw [e, List.length_append]; omega
    have hh := iter_upto (f := fun (rec : ((List (Int × Int × Int)) × Int × List Int × Int) → Option (List Int)) (x : (List (Int × Int × Int)) × Int × List Int × Int) => spec_ChildrenOf.s0 k rec x.1 x.2.1 x.2.2.1 x.2.2.2) (fun d => (xs, n, chS xs n d, (d : Int))) 4 (r := chS xs n 4) (fun rec d hd => ?_) (fun rec => ?_) (n := k) (by omega)
    · exact hh
    · have := hlen d (by omega)
      have e : chS xs n (d + 1) = chS xs n d ++ chD xs n (d : Int) xs.length := by simp [chS, List.range_succ]
      simp only [spec_ChildrenOf.s0, iLe_eq, brB_dec, specRow k xs n (d : Int) (chS xs n d) hr hl (by omega) (by omega) rec]
      rw [if_pos (by omega), e, next_id hd (by omega)]
    · simp only [spec_ChildrenOf.s0, iLe_eq, brB_dec]
      rw [if_neg (by omega)]

/-- A window covers an address. -/
def covB (s b a : Int) : Bool := decide (0 < s) && (decide (b ≤ a) && iLt (iSub .u64 (iCnv .u64 a) (iCnv .u64 b)) (iCnv .u64 s))
theorem implCov_eq (k : Nat) (s b a : Int) : impl_Bar__covers.f k s b a = some (covB s b a) := by
  simp only [impl_Bar__covers.f, iLt_eq, iLe_eq, brB_dec, covB]
  exact if_and (if_and rfl)
def covN (ws : List (Int × Int)) (a c : Int) : Bool := covB (rGet (0, 0) ws c).1 (rGet (0, 0) ws c).2 a
theorem find_idx (p : Int → Bool) (l : List Int) : l.find? p = (l.findIdx? p).map fun i => l.getD i 0 := by
  cases h : l.findIdx? p with
  | none =>
    rw [List.findIdx?_eq_none_iff] at h
    simp only [Option.map_none, List.find?_eq_none]
    intro x hx
    have := h x hx
    simp [this]
  | some i =>
    rw [List.findIdx?_eq_some_iff_getElem] at h
    obtain ⟨h1, h2, h3⟩ := h
    simp only [Option.map_some]
    rw [List.find?_eq_some_iff_getElem, getD_lt 0 l h1]
    exact ⟨h2, i, h1, rfl, fun j hj => by have := h3 j hj; simpa using this⟩
theorem indexCov_ev (ch : List Int) (ws : List (Int × Int)) (a : Int) (hin : ∀ c ∈ ch, 0 ≤ c ∧ c < ws.length) (hl : ch.length ≤ 100) (k : Nat) (hk : 200 < k) :
    slices_IndexFunc_int_impl_downFrom_1.f k ch ws a = some ((match ch.findIdx? (covN ws a) with | some i => (i : Int) | none => -1), ws, a) := by
  have h := iter_find (f := fun (rec : (List Int × Int × Int × (List (Int × Int)) × Int) → Option (Int × List (Int × Int) × Int)) (x : List Int × Int × Int × (List (Int × Int)) × Int) => slices_IndexFunc_int_impl_downFrom_1.s0 k rec x.1 x.2.1 x.2.2.1 x.2.2.2.1 x.2.2.2.2) (fun i => (ch, (ch.length : Int), (i : Int), ws, a)) ch (fun c => !covN ws a c) (-1, ws, a) (fun i => ((i : Int), ws, a))
    (fun rec i hi hp => ?_) (fun rec i hi hp => ?_) (fun rec => ?_) (n := k) (by omega)
  · refine Eq.trans h ?_
    simp only [Bool.not_not]
    cases ch.findIdx? (covN ws a) <;> rfl
  · have hc := hin _ (List.getElem_mem hi)
    simp only [slices_IndexFunc_int_impl_downFrom_1.s0, impl_downFrom_1.f, implCov_eq, iLt_eq, brB_dec, chk_idx, rLen_eq, rGet_nat, getD_lt _ _ hi]
    rw [if_pos (by omega), if_idx hi, if_pos hc, bnd_one, bnd_one, show covB (rGet (0, 0) ws ch[i]).1 (rGet (0, 0) ws ch[i]).2 a = covN ws a ch[i] from rfl]
    rw [show covN ws a ch[i] = false by simpa using hp, next_id hi (by omega)]; rfl
  · have hc := hin _ (List.getElem_mem hi)
    simp only [slices_IndexFunc_int_impl_downFrom_1.s0, impl_downFrom_1.f, implCov_eq, iLt_eq, brB_dec, chk_idx, rLen_eq, rGet_nat, getD_lt _ _ hi]
    rw [if_pos (by omega), if_idx hi, if_pos hc, bnd_one, bnd_one, show covB (rGet (0, 0) ws ch[i]).1 (rGet (0, 0) ws ch[i]).2 a = covN ws a ch[i] from rfl]
    rw [show covN ws a ch[i] = true by simpa using hp]; rfl
  · simp only [slices_IndexFunc_int_impl_downFrom_1.s0, iLt_eq, brB_dec]
    rw [if_neg (by omega)]
/-- The way down to the device that covers an address. -/
def downL (xs : List (Int × Int × Int)) (ws : List (Int × Int)) (a : Int) : Nat → Int → List Int → List Int
  | 0, _, _ => []
  | f + 1, n, out => if (nd xs n.toNat).2.2 = 0 then (match (chT xs n).find? (covN ws a) with | none => [] | some c => downL xs ws a f c (out ++ [c])) else out
theorem downL_len (xs : List (Int × Int × Int)) (ws : List (Int × Int)) (a : Int) : ∀ (f : Nat) (n : Int) (out : List Int), (downL xs ws a f n out).length ≤ out.length + f
  | 0, _, _ => by simp [downL]
  | f + 1, n, out => by
    simp only [downL]
    split
    · split
      · simp
      · rename_i c _
        have := downL_len xs ws a f c (out ++ [c])
        simp only [List.length_append, List.length_cons, List.length_nil] at this
        omega
    · omega
noncomputable def idF (k : Nat) (rec : ((List (Int × Int × Int)) × Int × List Int × (List (Int × Int)) × Int) → Option (List Int)) (x : (List (Int × Int × Int)) × Int × List Int × (List (Int × Int)) × Int) : Option (List Int) := impl_downFrom.s0 k rec x.1 x.2.1 x.2.2.1 x.2.2.2.1 x.2.2.2.2
theorem implDown (xs : List (Int × Int × Int)) (ht : treeB xs = true) (ws : List (Int × Int)) (hw : ws.length = xs.length) (a : Int) (k : Nat) (hk : 400 < k) : ∀ (f : Nat) (n : Int) (out : List Int) (K : Nat), 0 ≤ n → n < xs.length → (xs.length : Int) ≤ f + n → f < K → out.length + f ≤ 100 →
    iter (idF k) K (xs, n, out, ws, a) = some (downL xs ws a f n out)
  | f, n, out, 0, _, _, _, hK, _ => by omega
  | 0, n, out, K + 1, h0, h1, h2, hK, ho => by omega
  | f + 1, n, out, K + 1, h0, h1, h2, hK, ho => by
    have hl := tree_len ht
    have hcl := chT_len xs n
    have hin : ∀ c ∈ chT xs n, 0 ≤ c ∧ c < ws.length := fun c hc => by have := chT_mem hc; omega
    have ih : ∀ c, c ∈ chT xs n → iter (idF k) K (xs, c, out ++ [c], ws, a) = some (downL xs ws a f c (out ++ [c])) := fun c hc => by
      have := chT_mem hc
      exact implDown xs ht ws hw a k hk f c (out ++ [c]) K (by omega) (by omega) (by omega) (by omega) (by simp only [List.length_append, List.length_cons, List.length_nil]; omega)
    show impl_downFrom.s0 k (iter (idF k) K) xs n out ws a = _
    generalize iter (idF k) K = rec at ih ⊢
    have e : rGet (0, 0, 0) xs n = nd xs n.toNat := rfl
    simp only [impl_downFrom.s0, impl_isBridge.f, implChildren_ev xs n (by omega) k (by omega), indexCov_ev (chT xs n) ws a hin (by omega) k (by omega), e, chk_idx, rLen_eq, iEq_eq, iLt_eq, bnd_one, downL]
    rw [if_pos (by omega), bnd_one, brB_dec]
    by_cases hb : (nd xs n.toNat).2.2 = 0
    · rw [if_pos hb, if_pos hb, find_idx, brB_dec]
      cases hf : (chT xs n).findIdx? (covN ws a) with
      | none => dsimp only; rw [if_pos (by omega)]; rfl
      | some i =>
        have hi : i < (chT xs n).length := by
          rw [List.findIdx?_eq_some_iff_getElem] at hf
          exact hf.1
        simp only [Option.map_some, rGet_nat, rApp_eq, chk_len, rLen_eq]
        rw [if_neg (by omega), if_idx hi, if_pos (by simp only [List.length_append, List.length_cons, List.length_nil]; omega)]
        exact ih _ (by rw [getD_lt 0 _ hi]; exact List.getElem_mem hi)
    · rw [if_neg hb, if_neg hb]
/-- The way from the root to the device of an address. -/
def downT (xs : List (Int × Int × Int)) (ws : List (Int × Int)) (a : Int) : List Int := if treeB xs = true ∧ ws.length = xs.length then downL xs ws a xs.length 0 [0] else []
theorem downT_len (xs : List (Int × Int × Int)) (ws : List (Int × Int)) (a : Int) : (downT xs ws a).length ≤ 13 := by
  unfold downT
  split
  · rename_i h
    have := tree_len h.1
    have := downL_len xs ws a xs.length 0 [0]
    simp only [List.length_cons, List.length_nil] at this
    omega
  · simp
theorem implDownFrom_ev {xs : List (Int × Int × Int)} (ht : treeB xs = true) {ws : List (Int × Int)} (hw : ws.length = xs.length) (a n : Int) (h0 : 0 ≤ n) (h1 : n < xs.length) (k : Nat) (hk : 400 < k) : impl_downFrom.f k xs ws n a = some (downL xs ws a xs.length n [n]) := by
  have hl := tree_len ht
  exact implDown xs ht ws hw a k hk xs.length n [n] k h0 h1 (by omega) (by omega) (by simp only [List.length_cons, List.length_nil]; omega)
theorem areWindows_ev (xs : List (Int × Int × Int)) (ws : List (Int × Int)) (hx : xs.length ≤ 1048576) (k : Nat) (hk : xs.length < k) : impl_areWindows.f k xs ws = some (decide (treeB xs = true ∧ ws.length = xs.length)) := by
  simp only [impl_areWindows.f, implTreeOk_ev xs hx k hk, bnd_one, iEq_eq, rLen_eq]
  cases treeB xs with
  | false => simp [brB]
  | true => rw [brB_true]; congr 1; rw [Bool.eq_iff_iff]; simp; omega
theorem implDownTo_ev (xs : List (Int × Int × Int)) (ws : List (Int × Int)) (a : Int) (hx : xs.length ≤ 1048576) (k : Nat) (hk : xs.length + 400 < k) : impl_DownToAddress.f k xs ws a = some (downT xs ws a) := by
  simp only [impl_DownToAddress.f, areWindows_ev xs ws hx k (by omega), bnd_one, bNot_eq, brB_nb, brB_dec, downT]
  by_cases h : treeB xs = true ∧ ws.length = xs.length
  · have hl := tree_len h.1
    rw [if_pos h, if_pos h, implDownFrom_ev h.1 h.2 a 0 (by omega) (by omega) k (by omega), bnd_one]
  · rw [if_neg h, if_neg h]
/-- The way up and down. -/
def routeL (xs : List (Int × Int × Int)) (ws : List (Int × Int)) (a : Int) : Nat → Int → List Int → List Int
  | 0, _, _ => []
  | f + 1, n, out => if n = 0 ∨ ((nd xs n.toNat).2.2 = 0 ∧ covN ws a n = true) then (if (downL xs ws a xs.length n [n]).length = 0 then [] else out ++ downL xs ws a xs.length n [n]) else routeL xs ws a f (nd xs n.toNat).1 (out ++ [n])
theorem routeL_len (xs : List (Int × Int × Int)) (ws : List (Int × Int)) (a : Int) : ∀ (f : Nat) (n : Int) (out : List Int), (routeL xs ws a f n out).length ≤ out.length + f + xs.length + 1
  | 0, _, _ => by simp [routeL]
  | f + 1, n, out => by
    simp only [routeL]
    split
    · split
      · simp
      · have := downL_len xs ws a xs.length n [n]
        simp only [List.length_append, List.length_cons, List.length_nil] at this ⊢
        omega
    · have := routeL_len xs ws a f (nd xs n.toNat).1 (out ++ [n])
      simp only [List.length_append, List.length_cons, List.length_nil] at this
      omega
theorem fn_nonneg {xs : List (Int × Int × Int)} (h : treeB xs = true) {n : Int} (h0 : 0 < n) (h1 : n < xs.length) : 0 ≤ (nd xs n.toNat).2.2 ∧ 0 ≤ (nd xs n.toNat).1 ∧ (nd xs n.toNat).1 < n := by
  have hb := node_of h (i := n.toNat) (by omega) (by omega)
  simp only [nodeB, Bool.and_eq_true, decide_eq_true_eq] at hb
  have h2 := hb.2.2.2.1
  have h3 := hb.1
  omega
noncomputable def irF (k : Nat) (rec : ((List (Int × Int × Int)) × (List (Int × Int)) × Int × List Int × Int) → Option (List Int)) (x : (List (Int × Int × Int)) × (List (Int × Int)) × Int × List Int × Int) : Option (List Int) := impl_RouteToAddress.s0 k rec x.1 x.2.1 x.2.2.1 x.2.2.2.1 x.2.2.2.2
theorem implRoute (xs : List (Int × Int × Int)) (ht : treeB xs = true) (ws : List (Int × Int)) (hw : ws.length = xs.length) (a : Int) (k : Nat) (hk : 400 < k) : ∀ (f : Nat) (n : Int) (out : List Int) (K : Nat), 0 ≤ n → n < xs.length → n < f → f < K → out.length + f ≤ 100 →
    iter (irF k) K (xs, ws, a, out, n) = some (routeL xs ws a f n out)
  | f, n, out, 0, _, _, _, hK, _ => by omega
  | 0, n, out, K + 1, h0, h1, h2, hK, ho => by omega
  | f + 1, n, out, K + 1, h0, h1, h2, hK, ho => by
    have hl := tree_len ht
    have ih : 0 < n → iter (irF k) K (xs, ws, a, out ++ [n], (nd xs n.toNat).1) = some (routeL xs ws a f (nd xs n.toNat).1 (out ++ [n])) := fun hn => by
      have := fn_nonneg ht hn h1
      exact implRoute xs ht ws hw a k hk f _ (out ++ [n]) K (by omega) (by omega) (by omega) (by omega) (by simp only [List.length_append, List.length_cons, List.length_nil]; omega)
    have hd := downL_len xs ws a xs.length n [n]
    simp only [List.length_cons, List.length_nil] at hd
    show impl_RouteToAddress.s0 k (iter (irF k) K) xs ws a out n = _
    generalize iter (irF k) K = rec at ih ⊢
    have e : rGet (0, 0, 0) xs n = nd xs n.toNat := rfl
    simp only [impl_RouteToAddress.s0, impl_isBridge.f, implCov_eq, implDownFrom_ev ht hw a n h0 h1 k hk, e, chk_idx, chk_len, rLen_eq, rApp_eq, iEq_eq, iNe_eq, bNot_eq, brB_nb, brB_dec, bnd_one, routeL]
    rw [show covB (rGet (0, 0) ws n).1 (rGet (0, 0) ws n).2 a = covN ws a n from rfl]
    have fin : (if ((downL xs ws a xs.length n [n]).length : Int) = 0 then some [] else if ((out ++ downL xs ws a xs.length n [n]).length : Int) * 8 ≤ 35184372088832 then some (out ++ downL xs ws a xs.length n [n]) else none) = some (if (downL xs ws a xs.length n [n]).length = 0 then [] else out ++ downL xs ws a xs.length n [n]) := by
      by_cases hz : (downL xs ws a xs.length n [n]).length = 0
      · rw [if_pos (by omega), if_pos hz]
      · rw [if_neg (by omega), if_neg hz, if_pos (by rw [List.length_append]; omega)]
    by_cases hn : n = 0
    · have hP : n = 0 ∨ ((nd xs n.toNat).2.2 = 0 ∧ covN ws a n = true) := Or.inl hn
      rw [if_pos hn, if_pos hP]; exact fin
    · rw [if_neg hn, if_pos (show 0 ≤ n ∧ n < (xs.length : Int) by omega), bnd_one, brB_dec]
      by_cases hb : (nd xs n.toNat).2.2 = 0
      · rw [if_pos hb, if_pos (show 0 ≤ n ∧ n < (ws.length : Int) by omega), brB_if]
        by_cases hc : covN ws a n = true
        · have hP : n = 0 ∨ ((nd xs n.toNat).2.2 = 0 ∧ covN ws a n = true) := Or.inr ⟨hb, hc⟩
          rw [if_pos hc, if_pos hP]; exact fin
        · have hP : ¬ (n = 0 ∨ ((nd xs n.toNat).2.2 = 0 ∧ covN ws a n = true)) := fun h => h.elim hn fun h => hc h.2
          rw [if_neg hc, if_neg hP, if_pos (by simp only [List.length_append, List.length_cons, List.length_nil]; omega), if_pos (show 0 ≤ n ∧ n < (xs.length : Int) by omega)]
          exact ih (by omega)
      · have hP : ¬ (n = 0 ∨ ((nd xs n.toNat).2.2 = 0 ∧ covN ws a n = true)) := fun h => h.elim hn fun h => hb h.1
        rw [if_neg hb, if_neg hP, if_pos (by simp only [List.length_append, List.length_cons, List.length_nil]; omega), if_pos (show 0 ≤ n ∧ n < (xs.length : Int) by omega)]
        exact ih (by omega)
/-- The way from a node to the device of an address. -/
def routeT (xs : List (Int × Int × Int)) (ws : List (Int × Int)) (m a : Int) : List Int := if (downT xs ws a).length ≠ 0 ∧ (0 ≤ m ∧ m ≤ (xs.length : Int) - 1) then routeL xs ws a xs.length m [] else []
theorem downT_ok {xs : List (Int × Int × Int)} {ws : List (Int × Int)} {a : Int} (h : (downT xs ws a).length ≠ 0) : treeB xs = true ∧ ws.length = xs.length := by
  unfold downT at h
  split at h
  · rename_i h'; exact h'
  · simp at h
theorem routeT_len (xs : List (Int × Int × Int)) (ws : List (Int × Int)) (m a : Int) : (routeT xs ws m a).length ≤ 25 := by
  unfold routeT
  split
  · rename_i h
    have := tree_len (downT_ok h.1).1
    have := routeL_len xs ws a xs.length m []
    simp only [List.length_nil] at this
    omega
  · simp
theorem implRouteTo_ev (xs : List (Int × Int × Int)) (ws : List (Int × Int)) (m a : Int) (hx : xs.length ≤ 1048576) (k : Nat) (hk : xs.length + 400 < k) : impl_RouteToAddress.f k xs ws m a = some (routeT xs ws m a) := by
  simp only [impl_RouteToAddress.f, implDownTo_ev xs ws a hx k hk, within_eq, bnd_one, bNot_eq, brB_nb, iEq_eq, brB_dec, rLen_eq, routeT]
  by_cases h : (downT xs ws a).length = 0
  · rw [if_pos (by omega), if_neg (fun h' => h'.1 h)]
  · obtain ⟨ht, hw⟩ := downT_ok h
    have hl := tree_len ht
    rw [if_neg (by omega), iSub_id (by omega) (by omega)]
    by_cases hm : 0 ≤ m ∧ m ≤ (xs.length : Int) - 1
    · rw [if_pos hm, if_pos ⟨h, hm⟩]
      exact implRoute xs ht ws hw a k (by omega) xs.length m [] k hm.1 (by omega) (by omega) (by omega) (by simp only [List.length_nil]; omega)
    · rw [if_neg hm, if_neg (fun h' => hm h'.2)]
theorem swap_perm (l : List Int) (j : Nat) (h : j + 1 < l.length) : (rSet (rSet l ((j + 1 : Nat) : Int) (rGet 0 l (j : Int))) (j : Int) (rGet 0 l ((j + 1 : Nat) : Int))).Perm l := by
  obtain ⟨A, a, b, R, hA, rfl⟩ : ∃ (A : List Int) (a b : Int) (R : List Int), A.length = j ∧ l = A ++ a :: b :: R := by
    refine ⟨l.take j, l[j], l[j + 1], l.drop (j + 2), by rw [List.length_take]; omega, ?_⟩
    rw [← List.drop_eq_getElem_cons h, ← List.drop_eq_getElem_cons (by omega), List.take_append_drop]
  subst hA
  have e1 : rGet 0 (A ++ a :: b :: R) (A.length : Int) = a := get_at A a (b :: R)
  have e2 : rGet 0 (A ++ a :: b :: R) ((A.length + 1 : Nat) : Int) = b := by
    have := get_at (A ++ [a]) b R
    rw [List.append_assoc, List.length_append] at this
    exact this
  rw [e1, e2, rSet_nat, rSet_nat]
  have e3 : (A ++ a :: b :: R).set (A.length + 1) a = A ++ a :: a :: R := by
    have := set_at (A ++ [a]) b a R
    rw [List.append_assoc, List.append_assoc, List.length_append] at this
    exact this
  rw [e3, set_at]
  exact List.Perm.append_left A (List.Perm.swap a b R)
theorem or_ev (k : Nat) (hk : 10 < k) (a b : Int) : ∃ v, cmp_Or_Or_int.f k [a, b] = some v := by
  obtain ⟨m, rfl⟩ : ∃ m, k = m + 3 := ⟨k - 3, by omega⟩
  by_cases ha : a = 0
  · by_cases hb : b = 0
    · subst ha hb; exact ⟨0, rfl⟩
    · subst ha
      refine ⟨b, ?_⟩
      have h1 : iNe b 0 = true := by simp [iNe, hb]
      show brB (iNe b 0) (some b) _ = _
      rw [h1]; rfl
  · refine ⟨a, ?_⟩
    have h1 : iNe a 0 = true := by simp [iNe, ha]
    show brB (iNe a 0) (some a) _ = _
    rw [h1]; rfl
theorem allocCmp_ev (k : Nat) (hk : 10 < k) (ws : List (Int × Int)) (a b : Int) (ha : 0 ≤ a ∧ a < ws.length) (hb : 0 ≤ b ∧ b < ws.length) : ∃ v, impl_allocate_1.f k a b ws = some (v, ws) := by
  obtain ⟨v1, h1, _⟩ := compare_ev k ((rGet (0, 0) ws b).1) ((rGet (0, 0) ws a).1)
  obtain ⟨v2, h2, _⟩ := compare_ev k a b
  obtain ⟨v, h3⟩ := or_ev k hk v1 v2
  refine ⟨v, ?_⟩
  simp only [impl_allocate_1.f, chk_idx, rLen_eq]
  rw [if_pos hb, if_pos ha, h1, bnd_one, h2, bnd_one, h3, bnd_one]
theorem insIn2 (k : Nat) (hk : 200 < k) (ws : List (Int × Int)) (L : List Int) (hL : L.length ≤ 12) (hin : ∀ y ∈ L, 0 ≤ y ∧ y < ws.length) (n i : Nat) (hn : n = L.length) (hi : i < 12) (rec0 : ((List Int) × Int × Int × Int × List (Int × Int)) → Option ((List (Int × Int)) × List Int))
    (hrec : ∀ l' : List Int, l'.Perm L → Yd (rec0 (l', 0, (n : Int), ((i + 1 : Nat) : Int), ws)) fun r => r.1 = ws ∧ r.2.Perm L) :
    ∀ (j : Nat) (l : List Int) (K : Nat), j < K → l.Perm L → j < n → Yd (iter (fun (rec : (List Int × Int × Int × Int × Int × (List (Int × Int))) → Option (List (Int × Int) × List Int)) (x : List Int × Int × Int × Int × Int × (List (Int × Int))) => slices_insertionSortCmpFunc_insertionSortCmpFunc_int_impl_allocate_1.s1 k rec0 rec x.1 x.2.1 x.2.2.1 x.2.2.2.1 x.2.2.2.2.1 x.2.2.2.2.2) K (l, 0, (n : Int), (i : Int), (j : Int), ws)) fun r => r.1 = ws ∧ r.2.Perm L
  | j, l, 0, hK, _, _ => by omega
  | 0, l, K + 1, hK, hp, hj => by
    show Yd (slices_insertionSortCmpFunc_insertionSortCmpFunc_int_impl_allocate_1.s1 k rec0 (iter _ K) l 0 (n : Int) (i : Int) ((0 : Nat) : Int) ws) _
    generalize iter _ K = rec1
    unfold slices_insertionSortCmpFunc_insertionSortCmpFunc_int_impl_allocate_1.s1
    rw [next_id (i := i) (n := 12) hi (by omega)]
    exact Yd.lt (fun h => absurd h (by omega)) fun _ => hrec l hp
  | j + 1, l, K + 1, hK, hp, hj => by
    have ih := insIn2 k hk ws L hL hin n i hn hi rec0 hrec j
    show Yd (slices_insertionSortCmpFunc_insertionSortCmpFunc_int_impl_allocate_1.s1 k rec0 (iter (fun (rec : (List Int × Int × Int × Int × Int × (List (Int × Int))) → Option (List (Int × Int) × List Int)) (x : List Int × Int × Int × Int × Int × (List (Int × Int))) => slices_insertionSortCmpFunc_insertionSortCmpFunc_int_impl_allocate_1.s1 k rec0 rec x.1 x.2.1 x.2.2.1 x.2.2.2.1 x.2.2.2.2.1 x.2.2.2.2.2) K) l 0 (n : Int) (i : Int) ((j + 1 : Nat) : Int) ws) _
    have ih' := fun l' (h : l'.Perm L) => ih l' K (by omega) h (by omega)
    generalize iter _ K = rec1 at ih' ⊢
    have hl : l.length = n := by rw [hp.length_eq, hn]
    unfold slices_insertionSortCmpFunc_insertionSortCmpFunc_int_impl_allocate_1.s1
    rw [next_id (i := i) (n := 12) hi (by omega), iSub_id (a := ((j + 1 : Nat) : Int)) (by omega) (by omega), show ((j + 1 : Nat) : Int) - 1 = (j : Int) by omega]
    have hrs : ∀ (d : Int) (q : Nat), rLen (rSet l (q : Int) d) = (n : Int) := fun d q => by rw [rSet_nat, rLen_eq, List.length_set, hl]
    have hg : ∀ q : Nat, q < n → 0 ≤ rGet 0 l (q : Int) ∧ rGet 0 l (q : Int) < ws.length := fun q hq => by
      have e : rGet 0 l (q : Int) = l[q] := getD_lt 0 l (by omega)
      rw [e]
      exact hin _ (hp.mem_iff.1 (List.getElem_mem _))
    refine Yd.lt (fun _ => Yd.idx (by rw [rLen_eq, hl]; omega) (Yd.idx (by rw [rLen_eq, hl]; omega) ?_)) fun _ => hrec l hp
    obtain ⟨v, hv⟩ := allocCmp_ev k (by omega) ws (rGet 0 l ((j + 1 : Nat) : Int)) (rGet 0 l (j : Int)) (hg _ hj) (hg _ (by omega))
    rw [hv, bnd_one]
    dsimp only
    refine Yd.lt (fun _ => Yd.idx (by rw [rLen_eq, hl]; omega) (Yd.idx (by rw [rLen_eq, hl]; omega) (Yd.idx (by rw [rLen_eq, hl]; omega) (Yd.idx (by rw [hrs]; omega) ?_)))) fun _ => hrec l hp
    exact ih' _ ((swap_perm l j (by omega)).trans hp)
theorem insOut2 (k : Nat) (hk : 200 < k) (ws : List (Int × Int)) (L : List Int) (hL : L.length ≤ 12) (hin : ∀ y ∈ L, 0 ≤ y ∧ y < ws.length) : Yd (slices_insertionSortCmpFunc_insertionSortCmpFunc_int_impl_allocate_1.f k L 0 (L.length : Int) ws) fun r => r.1 = ws ∧ r.2.Perm L := by
  unfold slices_insertionSortCmpFunc_insertionSortCmpFunc_int_impl_allocate_1.f slices_insertionSortCmpFunc_insertionSortCmpFunc_int_impl_allocate_1.l0
  rw [show iAdd .i64 0 1 = 1 by rw [iAdd_id (by omega) (by omega)]; rfl]
  refine iter_yd (I := fun i x => x.1.Perm L ∧ x.2.1 = 0 ∧ x.2.2.1 = (L.length : Int) ∧ x.2.2.2.1 = ((i + 1 : Nat) : Int) ∧ x.2.2.2.2 = ws) 11 (fun rec i x hi hx hr => ?_) (by omega) ⟨List.Perm.refl _, rfl, rfl, rfl, rfl⟩
  obtain ⟨l, z, n, i', ws'⟩ := x
  obtain ⟨h1, h2, h3, h4, h5⟩ := hx
  simp only at h1 h2 h3 h4 h5
  subst h2 h3 h4 h5
  show Yd (slices_insertionSortCmpFunc_insertionSortCmpFunc_int_impl_allocate_1.s0 k rec l 0 (L.length : Int) ((i + 1 : Nat) : Int) ws') _
  unfold slices_insertionSortCmpFunc_insertionSortCmpFunc_int_impl_allocate_1.s0
  refine Yd.lt (fun h => ?_) fun _ => Yd.one ⟨rfl, h1⟩
  exact insIn2 k hk ws' L hL hin L.length (i + 1) rfl (by omega) rec (fun l' hp => hr _ (by omega) ⟨hp, rfl, rfl, rfl, rfl⟩) (i + 1) l k (by omega) h1 (by omega)
noncomputable def pdF2 (k : Nat) (rec : (List Int × Int × Int × Int × Bool × Bool × (List (Int × Int))) → Option (List (Int × Int) × List Int)) (x : List Int × Int × Int × Int × Bool × Bool × (List (Int × Int))) : Option (List (Int × Int) × List Int) := slices_pdqsortCmpFunc_pdqsortCmpFunc_int_impl_allocate_1.s0 k rec x.1 x.2.1 x.2.2.1 x.2.2.2.1 x.2.2.2.2.1 x.2.2.2.2.2.1 x.2.2.2.2.2.2
/-- The children of a node, in some order. -/
theorem sortAlloc (k : Nat) (hk : 200 < k) (ws : List (Int × Int)) (L : List Int) (hL : L.length ≤ 12) (hin : ∀ y ∈ L, 0 ≤ y ∧ y < ws.length) : ∃ T : List Int, slices_SortFunc_int_impl_allocate_1.f k L ws = some (ws, T) ∧ T.Perm L := by
  obtain ⟨v, hv⟩ := bitsLen_small k L.length hL
  obtain ⟨k', hk'⟩ : ∃ k', k = k' + 1 := ⟨k - 1, by omega⟩
  obtain ⟨⟨w, T⟩, e0, rfl, hT⟩ := insOut2 k hk ws L hL hin
  simp only at hT
  refine ⟨T, ?_, hT⟩
  have e1 : slices_pdqsortCmpFunc_pdqsortCmpFunc_int_impl_allocate_1.f k L 0 (L.length : Int) v w = some (w, T) := by
    have : ∀ j, j = k' + 1 → slices_pdqsortCmpFunc_pdqsortCmpFunc_int_impl_allocate_1.l0 k j L 0 (L.length : Int) v true true w = some (w, T) := by
      intro j hj
      subst hj
      show slices_pdqsortCmpFunc_pdqsortCmpFunc_int_impl_allocate_1.s0 k (iter (pdF2 k) k') L 0 (L.length : Int) v true true w = _
      generalize iter (pdF2 k) k' = rec
      simp only [slices_pdqsortCmpFunc_pdqsortCmpFunc_int_impl_allocate_1.s0, iLe_eq, brB_dec, e0, bnd_one]
      rw [if_pos (by rw [iSub_id (by omega) (by omega)]; omega)]
    rw [hk'] at this ⊢
    exact this (k' + 1) rfl
  simp only [slices_SortFunc_int_impl_allocate_1.f, rLen_eq, hv, bnd_one, e1]

def iSum : List Int → Int
  | [] => 0
  | x :: l => x + iSum l
theorem iSum_app : ∀ (l m : List Int), iSum (l ++ m) = iSum l + iSum m
  | [], m => by simp [iSum]
  | x :: l, m => by simp only [List.cons_append, iSum, iSum_app l m]; omega
theorem iSum_perm {l m : List Int} (h : l.Perm m) : iSum l = iSum m := by
  induction h with
  | nil => rfl
  | cons x _ ih => simp only [iSum, ih]
  | swap x y l => simp only [iSum]; omega
  | trans _ _ h1 h2 => exact h1.trans h2
theorem iSum_nonneg : ∀ {l : List Int}, (∀ x ∈ l, 0 ≤ x) → 0 ≤ iSum l
  | [], _ => by simp [iSum]
  | x :: l, h => by
    have := iSum_nonneg (l := l) (fun y hy => h y (by simp [hy]))
    have := h x (by simp)
    simp only [iSum]; omega
/-- Has a node no functions? -/
def fnc (xs : List (Int × Int × Int)) (n : Int) : Int := (nd xs n.toNat).2.2
def pw : Nat → Int → Int → Int
  | 0, p, _ => p
  | f + 1, p, s => if p < s then pw f (p * 2) s else p
theorem pw_facts : ∀ (f : Nat) (p s : Int), 1 ≤ p → s ≤ p * 2 ^ f → s ≤ pw f p s ∧ 1 ≤ pw f p s ∧ (pw f p s ≤ p ∨ pw f p s < 2 * s)
  | 0, p, s, h1, h2 => by simp only [Int.pow_zero, Int.mul_one] at h2; exact ⟨h2, h1, .inl (Int.le_refl _)⟩
  | f + 1, p, s, h1, h2 => by
    simp only [pw]
    by_cases h : p < s
    · rw [if_pos h]
      obtain ⟨q1, q2, q3⟩ := pw_facts f (p * 2) s (by omega) (by rw [Int.mul_assoc, ← Int.pow_succ']; exact h2)
      exact ⟨q1, q2, .inr (by omega)⟩
    · rw [if_neg h]; exact ⟨by omega, h1, .inl (Int.le_refl _)⟩
/-- A window's size. -/
def wS (xs : List (Int × Int × Int)) (sz : List Int) : Nat → Int → Int
  | 0, _ => 0
  | d + 1, n => if fnc xs n = 0 then (if iSum ((chT xs n).map (wS xs sz d)) = 0 then 0 else pw 40 1 (iSum ((chT xs n).map (wS xs sz d)))) else sz.getD n.toNat 0
/-- Sizes that fit to a tree. -/
structure SizP (xs : List (Int × Int × Int)) (sz : List Int) : Prop where
  len : sz.length = xs.length
  rng : ∀ i : Nat, i < sz.length → 0 ≤ sz.getD i 0 ∧ sz.getD i 0 ≤ 4096
  br : ∀ i : Nat, i < sz.length → (nd xs i).2.2 = 0 → sz.getD i 0 = 0
def b3 (n : Int) : Int := 3 ^ (11 - n).toNat
theorem b3_sum : ∀ (l : List Int) (n : Int), 0 ≤ n → n ≤ 11 → l.Pairwise (· < ·) → (∀ x ∈ l, n < x ∧ x ≤ 11) → 2 * iSum (l.map b3) ≤ b3 n - 1
  | [], n, h0, h1, _, _ => by
    have : (1 : Int) ≤ b3 n := by unfold b3; exact_mod_cast Nat.one_le_pow _ _ (by omega)
    simp only [List.map_nil, iSum]; omega
  | x :: l, n, h0, h1, hp, hx => by
    obtain ⟨p1, p2⟩ := List.pairwise_cons.1 hp
    have hx0 := hx x (by simp)
    have ih := b3_sum l x (by omega) (by omega) p2 (fun y hy => ⟨p1 y hy, (hx y (by simp [hy])).2⟩)
    have hm : 3 * b3 x ≤ b3 n := by
      unfold b3
      have : (11 - n).toNat = (11 - x).toNat + 1 + ((x - n).toNat - 1) := by omega
      rw [this, Int.pow_add, Int.pow_succ]
      have hpos : (0 : Int) < 3 ^ (11 - x).toNat := Int.pow_pos (by omega)
      have h1p : (1 : Int) ≤ 3 ^ ((x - n).toNat - 1) := by
        have := Int.pow_pos (n := 3) (m := (x - n).toNat - 1) (by omega)
        omega
      have := Int.mul_le_mul_of_nonneg_left h1p (show 0 ≤ (3 : Int) ^ (11 - x).toNat * 3 by omega)
      omega
    simp only [List.map_cons, iSum]
    omega
theorem b3_le {n : Int} (h : 0 ≤ n) : 1 ≤ b3 n ∧ b3 n ≤ 177147 := by
  unfold b3
  have h1 : (11 - n).toNat ≤ 11 := by omega
  have := Nat.pow_le_pow_right (n := 3) (by omega) h1
  have h2 : 1 ≤ 3 ^ (11 - n).toNat := Nat.one_le_pow _ _ (by omega)
  have h3 : 3 ^ 11 = 177147 := by decide
  rw [h3] at this
  rw [show ((3 : Int) ^ (11 - n).toNat) = ((3 ^ (11 - n).toNat : Nat) : Int) by norm_cast]
  generalize 3 ^ (11 - n).toNat = q at this h2
  omega
theorem chT_sum {xs : List (Int × Int × Int)} (ht : treeB xs = true) {n : Int} (h0 : 0 ≤ n) (h1 : n < xs.length) (f : Int → Int) : iSum ((chT xs n).map f) = iSum ((chF xs n xs.length).map f) := by
  have hok : okN xs n = true := by
    simp only [okN, ht, Bool.true_and, decide_eq_true_eq]; omega
  unfold chT
  rw [if_pos hok]
  exact iSum_perm ((chS_perm ht h0).map f)
theorem iSum_le {f g : Int → Int} : ∀ {l : List Int}, (∀ x ∈ l, f x ≤ g x) → iSum (l.map f) ≤ iSum (l.map g)
  | [], _ => Int.le_refl _
  | x :: l, h => by
    have := iSum_le (l := l) (fun y hy => h y (by simp [hy]))
    have := h x (by simp)
    simp only [List.map_cons, iSum]; omega
theorem iSum_mul (c : Int) (f : Int → Int) : ∀ (l : List Int), iSum (l.map fun x => c * f x) = c * iSum (l.map f)
  | [] => by simp [iSum]
  | x :: l => by simp only [List.map_cons, iSum, iSum_mul c f l, Int.mul_add]
/-- Windows are not negative, and not too great. -/
theorem wS_bound {xs : List (Int × Int × Int)} {sz : List Int} (ht : treeB xs = true) (hs : SizP xs sz) : ∀ (d : Nat) (n : Int), 0 ≤ n → n < xs.length → 0 ≤ wS xs sz d n ∧ wS xs sz d n ≤ 4096 * b3 n ∧ (0 ≤ iSum ((chT xs n).map (wS xs sz d)) ∧ 2 * iSum ((chT xs n).map (wS xs sz d)) ≤ 4096 * b3 n) := by
  have hl := tree_len ht
  have hsum : ∀ (d : Nat), (∀ n : Int, 0 ≤ n → n < xs.length → 0 ≤ wS xs sz d n ∧ wS xs sz d n ≤ 4096 * b3 n) → ∀ n : Int, 0 ≤ n → n < xs.length → 0 ≤ iSum ((chT xs n).map (wS xs sz d)) ∧ 2 * iSum ((chT xs n).map (wS xs sz d)) ≤ 4096 * b3 n := by
    intro d ih n h0 h1
    constructor
    · refine iSum_nonneg fun x hx => ?_
      obtain ⟨c, hc, rfl⟩ := List.mem_map.1 hx
      obtain ⟨q1, q2, q3, _⟩ := chT_mem hc
      exact (ih c (by omega) q3).1
    · rw [chT_sum ht h0 h1]
      have hm : ∀ x ∈ chF xs n xs.length, n < x ∧ x < xs.length := fun x hx => by
        obtain ⟨m1, m2, m3⟩ := mem_chF.1 hx
        have hx0 : 0 < x := by
          rcases Int.lt_or_eq_of_le m1 with h | h
          · exact h
          · exfalso
            subst h
            have hr : (nd xs 0).1 = -1 := by
              simp only [treeB, rootB, Bool.and_eq_true, decide_eq_true_eq] at ht
              exact ht.2.1.1
            have : (nd xs 0).1 = n := m3
            omega
        have := fn_nonneg ht hx0 (by omega)
        omega
      have h2 : iSum ((chF xs n xs.length).map (wS xs sz d)) ≤ iSum ((chF xs n xs.length).map fun x => 4096 * b3 x) := iSum_le fun x hx => (ih x (by have := hm x hx; omega) (hm x hx).2).2
      rw [iSum_mul] at h2
      have h3 := b3_sum (chF xs n xs.length) n h0 (by omega) (chF_lt xs n xs.length) (fun x hx => by have := hm x hx; omega)
      omega
  have hmain : ∀ (d : Nat) (n : Int), 0 ≤ n → n < xs.length → 0 ≤ wS xs sz d n ∧ wS xs sz d n ≤ 4096 * b3 n := by
    intro d
    induction d with
    | zero => intro n h0 _; have := b3_le h0; simp only [wS]; omega
    | succ d ih =>
      intro n h0 h1
      obtain ⟨s1, s2⟩ := hsum d ih n h0 h1
      have hb := b3_le h0
      simp only [wS]
      split
      · split
        · omega
        · rename_i hz
          have hp : (2 : Int) ^ 40 = 1099511627776 := by decide
          obtain ⟨p1, p2, p3⟩ := pw_facts 40 1 (iSum ((chT xs n).map (wS xs sz d))) (by omega) (by rw [hp]; omega)
          omega
      · obtain ⟨r1, r2⟩ := hs.rng n.toNat (by rw [hs.len]; omega)
        omega
  intro d n h0 h1
  obtain ⟨q1, q2⟩ := hmain d n h0 h1
  exact ⟨q1, q2, hsum d (hmain d) n h0 h1⟩
noncomputable def wlF (k : Nat) (rec : (Int × Int) → Option (Int)) (x : Int × Int) : Option (Int) := impl_windowSize.s1 k rec x.1 x.2
theorem implPow (k : Nat) (s : Int) (hs : s ≤ 1099511627776) : ∀ (f : Nat) (p : Int) (K : Nat), f < K → 1 ≤ p → p * 2 ^ f ≤ 1099511627776 → s ≤ p * 2 ^ f → iter (wlF k) K (s, p) = some (pw f p s)
  | f, p, 0, hK, _, _, _ => by omega
  | 0, p, K + 1, hK, h1, h2, h3 => by
    show impl_windowSize.s1 k (iter (wlF k) K) s p = _
    generalize iter (wlF k) K = rec
    simp only [Int.pow_zero, Int.mul_one] at h3
    exact brF_to (iLt_no h3) rfl
  | f + 1, p, K + 1, hK, h1, h2, h3 => by
    have ih := implPow k s hs f (p * 2) K (by omega) (by omega) (by rw [Int.mul_assoc, ← Int.pow_succ']; exact h2) (by rw [Int.mul_assoc, ← Int.pow_succ']; exact h3)
    show impl_windowSize.s1 k (iter (wlF k) K) s p = _
    generalize iter (wlF k) K = rec at ih ⊢
    simp only [pw]
    have hp : p * 2 ≤ p * 2 ^ (f + 1) := by
      rw [Int.pow_succ, Int.mul_comm (2 ^ f) 2, ← Int.mul_assoc]
      have : (1 : Int) ≤ 2 ^ f := by have := Int.pow_pos (n := 2) (m := f) (by omega); omega
      have := Int.mul_le_mul_of_nonneg_left this (show 0 ≤ p * 2 by omega)
      omega
    by_cases h : p < s
    · rw [if_pos h]
      refine brT_to (iLt_yes h) ?_
      rw [show iMul .i64 p 2 = p * 2 by rw [iMul_w, w64_id (by omega) (by omega)]]
      exact ih
    · rw [if_neg h]; exact brF_to (iLt_no (by omega)) rfl
theorem implWin_ev {xs : List (Int × Int × Int)} {sz : List Int} (ht : treeB xs = true) (hs : SizP xs sz) (k : Nat) (hk : 400 < k) : ∀ (d : Nat) (n : Int), 0 ≤ n → n < xs.length → (xs.length : Int) ≤ d + n → impl_windowSize.g k d xs sz n = some (wS xs sz d n)
  | 0, n, h0, h1, hd => by omega
  | d + 1, n, h0, h1, hd => by
    have hl := tree_len ht
    show impl_windowSize.f1 k (impl_windowSize.g k d) xs sz n = _
    have ih : ∀ c ∈ chT xs n, impl_windowSize.g k d xs sz c = some (wS xs sz d c) := fun c hc => by
      obtain ⟨q1, q2, q3, _⟩ := chT_mem hc
      exact implWin_ev ht hs k hk d c (by omega) q3 (by omega)
    generalize impl_windowSize.g k d = gd at ih ⊢
    have hbr : impl_isBridge.f k xs n = some (decide (fnc xs n = 0)) := by
      simp only [impl_isBridge.f, chk_idx, rLen_eq]
      rw [if_pos ⟨h0, h1⟩, iEq_eq]; rfl
    obtain ⟨_, _, s1, s2⟩ := wS_bound ht hs d n h0 h1
    have hb3 := b3_le h0
    have hch := chT_len xs n
    unfold impl_windowSize.f1
    refine bnd_to hbr ?_
    by_cases hf : fnc xs n = 0
    · rw [decide_eq_true hf]
      refine brF_to rfl (bnd_to (implChildren_ev xs n (by omega) k (by omega)) ?_)
      simp only [wS, if_pos hf]
      unfold impl_windowSize.l0
      rw [rLen_eq]
      refine iter_from (fun i => (xs, sz, iSum (((chT xs n).take i).map (wS xs sz d)), chT xs n, ((chT xs n).length : Int), (i : Int))) (chT xs n).length rfl (fun rec i hi => ?_) (fun rec => ?_) (n := k) (by omega)
      · have hget : rGet 0 (chT xs n) (i : Int) = (chT xs n)[i] := getD_lt 0 _ hi
        have hmem : (chT xs n)[i] ∈ chT xs n := List.getElem_mem _
        unfold impl_windowSize.s0
        rw [hget]
        refine brT_to (iLt_yes (show (i : Int) < ((chT xs n).length : Int) by omega)) (chk_to (cIdx_yes (show 0 ≤ (i : Int) ∧ (i : Int) < rLen (chT xs n) by rw [rLen_eq]; omega)) (bnd_to (ih _ hmem) ?_))
        rw [next_id hi (by omega), List.take_succ_eq_append_getElem hi, List.map_append, iSum_app]
        have hpart : ∀ (l : List Int), (∀ c ∈ l, c ∈ chT xs n) → 0 ≤ iSum (l.map (wS xs sz d)) := fun l hl' => iSum_nonneg fun x hx => by
          obtain ⟨c, hc, rfl⟩ := List.mem_map.1 hx
          obtain ⟨q1, q2, q3, _⟩ := chT_mem (hl' c hc)
          exact (wS_bound ht hs d c (by omega) q3).1
        have e0 : iSum ((chT xs n).map (wS xs sz d)) = iSum (((chT xs n).take i).map (wS xs sz d)) + (wS xs sz d (chT xs n)[i] + iSum (((chT xs n).drop (i + 1)).map (wS xs sz d))) := by
          have : chT xs n = (chT xs n).take i ++ (chT xs n)[i] :: (chT xs n).drop (i + 1) := by rw [← List.drop_eq_getElem_cons hi, List.take_append_drop]
          conv => lhs; rw [this]
          rw [List.map_append, iSum_app, List.map_cons]; rfl
        have p1 := hpart ((chT xs n).take i) fun c hc => List.mem_of_mem_take hc
        have p2 := hpart ((chT xs n).drop (i + 1)) fun c hc => List.mem_of_mem_drop hc
        have p3 := hpart [(chT xs n)[i]] fun c hc => by rw [List.mem_singleton] at hc; rw [hc]; exact hmem
        simp only [List.map_cons, List.map_nil, iSum, Int.add_zero] at p3 ⊢
        rw [iAdd_id (by omega) (by omega)]
      · unfold impl_windowSize.s0
        rw [List.take_length]
        refine brF_to (iLt_no (Int.le_refl _)) ?_
        by_cases hz : iSum ((chT xs n).map (wS xs sz d)) = 0
        · rw [if_pos hz, hz]; exact brT_to rfl rfl
        · rw [if_neg hz]
          refine brF_to (by simp only [iEq]; exact beq_false_of_ne hz) ?_
          have h40 : (1 : Int) * 2 ^ 40 = 1099511627776 := by decide
          exact implPow k _ (show iSum ((chT xs n).map (wS xs sz d)) ≤ 1099511627776 by omega) 40 1 k (by omega) (by omega) (by rw [h40]; omega) (show iSum ((chT xs n).map (wS xs sz d)) ≤ 1 * 2 ^ 40 by rw [h40]; omega)
    · rw [decide_eq_false hf]
      simp only [wS, if_neg hf]
      refine brT_to rfl (chk_to (cIdx_yes (by rw [rLen_eq, hs.len]; omega)) ?_)
      rw [show n = ((n.toNat : Nat) : Int) by omega, rGet_nat]
      rw [show ((n.toNat : Nat) : Int).toNat = n.toNat by omega]
noncomputable def wlF2 (k : Nat) (rec : (Int × Int) → Option (Int)) (x : Int × Int) : Option (Int) := spec_l24Window.s1 k rec x.1 x.2
theorem specPow (k : Nat) (s : Int) (hs : s ≤ 1099511627776) : ∀ (f : Nat) (p : Int) (K : Nat), f < K → 1 ≤ p → p * 2 ^ f ≤ 1099511627776 → s ≤ p * 2 ^ f → iter (wlF2 k) K (s, p) = some (iMin (pw f p s) (iMul .i64 s (pw f p s)))
  | f, p, 0, hK, _, _, _ => by omega
  | 0, p, K + 1, hK, h1, h2, h3 => by
    show spec_l24Window.s1 k (iter (wlF2 k) K) s p = _
    generalize iter (wlF2 k) K = rec
    simp only [Int.pow_zero, Int.mul_one] at h3
    exact brF_to (iLt_no h3) rfl
  | f + 1, p, K + 1, hK, h1, h2, h3 => by
    have ih := specPow k s hs f (p * 2) K (by omega) (by omega) (by rw [Int.mul_assoc, ← Int.pow_succ']; exact h2) (by rw [Int.mul_assoc, ← Int.pow_succ']; exact h3)
    show spec_l24Window.s1 k (iter (wlF2 k) K) s p = _
    generalize iter (wlF2 k) K = rec at ih ⊢
    simp only [pw]
    have hp : p * 2 ≤ p * 2 ^ (f + 1) := by
      rw [Int.pow_succ, Int.mul_comm (2 ^ f) 2, ← Int.mul_assoc]
      have : (1 : Int) ≤ 2 ^ f := by have := Int.pow_pos (n := 2) (m := f) (by omega); omega
      have := Int.mul_le_mul_of_nonneg_left this (show 0 ≤ p * 2 by omega)
      omega
    by_cases h : p < s
    · rw [if_pos h]
      refine brT_to (iLt_yes h) ?_
      rw [show iMul .i64 p 2 = p * 2 by rw [iMul_w, w64_id (by omega) (by omega)]]
      exact ih
    · rw [if_neg h]; exact brF_to (iLt_no (by omega)) rfl
theorem minPow {s : Int} (h0 : 0 ≤ s) (h1 : s ≤ 400000000) : iMin (pw 40 1 s) (iMul .i64 s (pw 40 1 s)) = if s = 0 then 0 else pw 40 1 s := by
  have h40 : (1 : Int) * 2 ^ 40 = 1099511627776 := by decide
  obtain ⟨p1, p2, p3⟩ := pw_facts 40 1 s (by omega) (by rw [h40]; omega)
  generalize pw 40 1 s = p at p1 p2 p3
  have hle : s * p ≤ 400000000 * 800000000 := Int.mul_le_mul h1 (by omega) (by omega) (by omega)
  have hge : 0 ≤ s * p := Int.mul_nonneg h0 (by omega)
  rw [iMul_w, w64_id (by omega) (by omega)]
  by_cases hz : s = 0
  · subst hz
    rw [if_pos rfl, Int.zero_mul]
    unfold iMin; rw [if_pos (by omega)]
  · rw [if_neg hz]
    have : 1 * p ≤ s * p := Int.mul_le_mul_of_nonneg_right (by omega) (by omega)
    unfold iMin; rw [if_neg (by omega)]
theorem specWin_ev {xs : List (Int × Int × Int)} {sz : List Int} (ht : treeB xs = true) (hs : SizP xs sz) (k : Nat) (hk : 400 < k) : ∀ (d : Nat) (n : Int), 0 ≤ n → n < xs.length → (xs.length : Int) ≤ d + n → spec_l24Window.g k d xs sz n = some (wS xs sz d n)
  | 0, n, h0, h1, hd => by omega
  | d + 1, n, h0, h1, hd => by
    have hl := tree_len ht
    show spec_l24Window.f1 k (spec_l24Window.g k d) xs sz n = _
    have ih : ∀ c ∈ chT xs n, spec_l24Window.g k d xs sz c = some (wS xs sz d c) := fun c hc => by
      obtain ⟨q1, q2, q3, _⟩ := chT_mem hc
      exact specWin_ev ht hs k hk d c (by omega) q3 (by omega)
    generalize spec_l24Window.g k d = gd at ih ⊢
    have hfn : 0 ≤ fnc xs n := by
      by_cases hz : n = 0
      · subst hz
        simp only [treeB, rootB, Bool.and_eq_true, decide_eq_true_eq] at ht
        have := ht.2.1.2.2.1
        show 0 ≤ (nd xs (0 : Int).toNat).2.2
        rw [show (0 : Int).toNat = 0 from rfl]; omega
      · exact (fn_nonneg ht (by omega) h1).1
    obtain ⟨_, _, s1, s2⟩ := wS_bound ht hs d n h0 h1
    have hb3 := b3_le h0
    have hch := chT_len xs n
    unfold spec_l24Window.f1
    refine chk_to (cIdx_yes (by rw [rLen_eq]; omega)) ?_
    have hfe : ((rGet (0, 0, 0) xs n).2).2 = fnc xs n := rfl
    rw [hfe]
    by_cases hf : fnc xs n = 0
    · refine brF_to (iLt_no (by omega)) (bnd_to (specChildren_ev xs n (by omega) k (by omega)) ?_)
      simp only [wS, if_pos hf]
      rw [← minPow s1 (by omega)]
      unfold spec_l24Window.l0
      refine iter_from (fun i => (xs, sz, chT xs n, iSum (((chT xs n).take i).map (wS xs sz d)), (i : Int))) (chT xs n).length rfl (fun rec i hi => ?_) (fun rec => ?_) (n := k) (by omega)
      · have hget : rGet 0 (chT xs n) (i : Int) = (chT xs n)[i] := getD_lt 0 _ hi
        have hmem : (chT xs n)[i] ∈ chT xs n := List.getElem_mem _
        unfold spec_l24Window.s0
        rw [hget]
        refine brT_to (iLt_yes (show (i : Int) < rLen (chT xs n) by rw [rLen_eq]; omega)) (chk_to (cIdx_yes (show 0 ≤ (i : Int) ∧ (i : Int) < rLen (chT xs n) by rw [rLen_eq]; omega)) (bnd_to (ih _ hmem) ?_))
        rw [next_id hi (by omega), List.take_succ_eq_append_getElem hi, List.map_append, iSum_app]
        have hpart : ∀ (l : List Int), (∀ c ∈ l, c ∈ chT xs n) → 0 ≤ iSum (l.map (wS xs sz d)) := fun l hl' => iSum_nonneg fun x hx => by
          obtain ⟨c, hc, rfl⟩ := List.mem_map.1 hx
          obtain ⟨q1, q2, q3, _⟩ := chT_mem (hl' c hc)
          exact (wS_bound ht hs d c (by omega) q3).1
        have e0 : iSum ((chT xs n).map (wS xs sz d)) = iSum (((chT xs n).take i).map (wS xs sz d)) + (wS xs sz d (chT xs n)[i] + iSum (((chT xs n).drop (i + 1)).map (wS xs sz d))) := by
          have : chT xs n = (chT xs n).take i ++ (chT xs n)[i] :: (chT xs n).drop (i + 1) := by rw [← List.drop_eq_getElem_cons hi, List.take_append_drop]
          conv => lhs; rw [this]
          rw [List.map_append, iSum_app, List.map_cons]; rfl
        have p1 := hpart ((chT xs n).take i) fun c hc => List.mem_of_mem_take hc
        have p2 := hpart ((chT xs n).drop (i + 1)) fun c hc => List.mem_of_mem_drop hc
        have p3 := hpart [(chT xs n)[i]] fun c hc => by rw [List.mem_singleton] at hc; rw [hc]; exact hmem
        simp only [List.map_cons, List.map_nil, iSum, Int.add_zero] at p3 ⊢
        rw [iAdd_id (by omega) (by omega)]
      · unfold spec_l24Window.s0
        rw [List.take_length]
        refine brF_to (iLt_no (by rw [rLen_eq]; exact Int.le_refl _)) ?_
        have h40 : (1 : Int) * 2 ^ 40 = 1099511627776 := by decide
        exact specPow k _ (show iSum ((chT xs n).map (wS xs sz d)) ≤ 1099511627776 by omega) 40 1 k (by omega) (by omega) (by rw [h40]; omega) (show iSum ((chT xs n).map (wS xs sz d)) ≤ 1 * 2 ^ 40 by rw [h40]; omega)
    · simp only [wS, if_neg hf]
      refine brT_to (iLt_yes (by omega)) (chk_to (cIdx_yes (by rw [rLen_eq, hs.len]; omega)) ?_)
      rw [show n = ((n.toNat : Nat) : Int) by omega, rGet_nat]
      rw [show ((n.toNat : Nat) : Int).toNat = n.toNat by omega]
/-- The sizes that are drawn. -/
def sizL : List Int := [16, 64, 256, 4096, 0]
structure DrawP (xs : List (Int × Int × Int)) (sz : List Int) : Prop where
  len : sz.length = xs.length
  mem : ∀ x ∈ sz, x ∈ sizL
  br : ∀ i : Nat, i < sz.length → (nd xs i).2.2 = 0 → sz.getD i 0 = 0
theorem DrawP.siz {xs : List (Int × Int × Int)} {sz : List Int} (h : DrawP xs sz) : SizP xs sz :=
  ⟨h.len, fun i hi => by
    have hm := h.mem sz[i] (List.getElem_mem hi)
    rw [getD_lt 0 sz hi]
    simp only [sizL, List.mem_cons, List.not_mem_nil, or_false] at hm
    omega, h.br⟩
theorem l24Sizes_yd (k : Nat) (hk : 4000 < k) (xs : List (Int × Int × Int)) (hx : xs.length ≤ 12) (c : List Int) (hc : c.length ≤ 2000000) (p s : Int) (hp : 0 ≤ p) : Yd (spec_l24Sizes.f k xs c p s) fun r => DrawP xs r.1 := by
  unfold spec_l24Sizes.f spec_l24Sizes.l0
  refine iter_yd (I := fun i x => x.1 = xs ∧ x.2.1.length = i ∧ x.2.2.1 = (i : Int) ∧ x.2.2.2.1 = c ∧ 0 ≤ x.2.2.2.2.1 ∧ i ≤ xs.length ∧ (∀ y ∈ x.2.1, y ∈ sizL) ∧ ∀ j : Nat, j < x.2.1.length → (nd xs j).2.2 = 0 → x.2.1.getD j 0 = 0) xs.length (fun rec i x hi hx' hr => ?_) (by omega) ⟨rfl, rfl, rfl, rfl, hp, Nat.zero_le _, fun y hy => (by cases hy), fun j hj => by simp at hj⟩
  obtain ⟨xs', l, j, c', p', s'⟩ := x
  obtain ⟨h1, h2, h3, h4, h5, h6, h7, h8⟩ := hx'
  simp only at h1 h2 h3 h4 h5 h7 h8
  subst h1 h3 h4
  show Yd (spec_l24Sizes.s0 k rec xs' l (i : Int) c' p' s') _
  unfold spec_l24Sizes.s0
  refine Yd.lt (fun h => ?_) fun h => Yd.one ⟨by rw [rLen_eq] at h; show l.length = xs'.length; omega, h7, h8⟩
  rw [rLen_eq] at h
  refine pick_bnd hc h5 (by simp) fun v p1 s1 hv q1 => ?_
  dsimp only
  have hv' : v ∈ sizL := by
    simp only [sizL, List.mem_cons, List.not_mem_nil, or_false] at hv ⊢; omega
  have hf : (((rGet (0, 0, 0) xs' (i : Int)).2).2) = (nd xs' i).2.2 := rfl
  rw [hf, next_id (i := i) (n := 13) (by omega) (by omega)]
  simp only [rApp_eq, rLen_eq, List.length_append, List.length_cons, List.length_nil, h2]
  have hget : ∀ (y : Int) (j : Nat), j < i → (l ++ [y]).getD j 0 = l.getD j 0 := fun y j hj => by
    simp only [List.getD_eq_getElem?_getD]; rw [List.getElem?_append_left (by omega)]
  have hlast : ∀ y : Int, (l ++ [y]).getD i 0 = y := fun y => by
    simp only [List.getD_eq_getElem?_getD]; rw [List.getElem?_append_right (by omega), h2, Nat.sub_self]; rfl
  refine Yd.idx (by omega) (Yd.eq (fun e => Yd.len (by omega) ?_) fun e => Yd.len (by omega) ?_)
  · refine hr _ (by omega) ⟨rfl, by simp [h2], rfl, rfl, q1, by omega, fun y hy => ?_, fun j hj hz => ?_⟩
    · rcases List.mem_append.1 hy with hy | hy
      · exact h7 y hy
      · rw [List.mem_singleton] at hy; subst hy; simp [sizL]
    · simp only [List.length_append, List.length_cons, List.length_nil] at hj
      by_cases hji : j = i
      · subst hji; exact hlast 0
      · show (l ++ [0]).getD j 0 = 0
        rw [hget 0 j (by omega)]; exact h8 j (by omega) hz
  · refine hr _ (by omega) ⟨rfl, by simp [h2], rfl, rfl, q1, by omega, fun y hy => ?_, fun j hj hz => ?_⟩
    · rcases List.mem_append.1 hy with hy | hy
      · exact h7 y hy
      · rw [List.mem_singleton] at hy; subst hy; exact hv'
    · simp only [List.length_append, List.length_cons, List.length_nil] at hj
      by_cases hji : j = i
      · subst hji; exact absurd hz e
      · show (l ++ [v]).getD j 0 = 0
        rw [hget v j (by omega)]; exact h8 j (by omega) hz
theorem drawSizes_ev (k : Nat) (hk : 4000 < k) (c : List Int) (hc : c.length ≤ 2000000) : ∃ (xs : List (Int × Int × Int)) (sz : List Int), spec_DrawSizes.f k c = some (xs, sz) ∧ treeB xs = true ∧ DrawP xs sz := by
  obtain ⟨s0, h0⟩ := l01New_ev c k hk
  obtain ⟨⟨t, c1, p1, s1⟩, e1, q1, q2, q3⟩ := l19Tree_yd k hk c hc 0 s0 (by omega)
  simp only at q1 q2 q3
  subst q1
  have hl := tree_len q3
  obtain ⟨⟨sz, c2, p2, s2⟩, e2, r1⟩ := l24Sizes_yd k hk t hl.2 c1 hc p1 s1 q2
  simp only at r1
  refine ⟨t, sz, ?_, q3, r1⟩
  simp only [spec_DrawSizes.f, h0, e1, e2, bnd_one]
theorem implIsPower_ev (k : Nat) {v : Int} (h : v = 16 ∨ v = 64 ∨ v = 256 ∨ v = 4096) : impl_IsPower.f k v = some true := by
  have hk : ∀ x : Int, bits_OnesCount.f k x = bits_OnesCount.f 0 x := fun _ => rfl
  rcases h with rfl | rfl | rfl | rfl <;> (unfold impl_IsPower.f; refine bnd_to (within_eq k _ 1 1048576) (brT_to (by decide) ?_); rw [hk]; clear hk; revert k; intro _; decide +kernel)
theorem specIsPower_ev (k : Nat) (hk : 30 < k) {v : Int} (h : v = 16 ∨ v = 64 ∨ v = 256 ∨ v = 4096) : spec_IsPower.f k v = some true := by
  obtain ⟨m, rfl⟩ : ∃ m, k = m + 14 := ⟨k - 14, by omega⟩
  rcases h with rfl | rfl | rfl | rfl <;> rfl
theorem size_cases {xs : List (Int × Int × Int)} {sz : List Int} (h : DrawP xs sz) {i : Nat} (hi : i < sz.length) : sz[i] = 0 ∨ ((nd xs i).2.2 ≠ 0 ∧ (sz[i] = 16 ∨ sz[i] = 64 ∨ sz[i] = 256 ∨ sz[i] = 4096)) := by
  have hm := h.mem sz[i] (List.getElem_mem hi)
  simp only [sizL, List.mem_cons, List.not_mem_nil, or_false] at hm
  by_cases hz : (nd xs i).2.2 = 0
  · left
    have := h.br i hi hz
    rwa [getD_lt 0 sz hi] at this
  · rcases hm with hm | hm | hm | hm | hm
    · exact .inr ⟨hz, .inl hm⟩
    · exact .inr ⟨hz, .inr (.inl hm)⟩
    · exact .inr ⟨hz, .inr (.inr (.inl hm))⟩
    · exact .inr ⟨hz, .inr (.inr (.inr hm))⟩
    · exact .inl hm
theorem implSizesOk_ev {xs : List (Int × Int × Int)} {sz : List Int} (ht : treeB xs = true) (h : DrawP xs sz) (k : Nat) (hk : 400 < k) : impl_SizesOk.f k xs sz = some true := by
  have hl := tree_len ht
  have hto := implTreeOk_ev xs (by omega) k (by omega)
  rw [ht] at hto
  unfold impl_SizesOk.f
  refine bnd_to hto (brF_to bNot_t (brF_to (iNe_no (by rw [rLen_eq, rLen_eq, h.len])) ?_))
  unfold impl_SizesOk.l0
  rw [rLen_eq]
  refine iter_from (fun i => (xs, sz, (sz.length : Int), (i : Int))) sz.length rfl (fun rec i hi => ?_) (fun rec => ?_) (n := k) (by rw [h.len]; omega)
  · have hget : rGet 0 sz (i : Int) = sz[i] := getD_lt 0 _ hi
    unfold impl_SizesOk.s0
    rw [hget, next_id hi (by rw [h.len]; omega)]
    refine brT_to (iLt_yes (show (i : Int) < (sz.length : Int) by omega)) (chk_to (cIdx_yes (show 0 ≤ (i : Int) ∧ (i : Int) < rLen sz by rw [rLen_eq]; omega)) ?_)
    rcases size_cases h hi with hz | ⟨hn, hv⟩
    · exact brF_to (iNe_no hz) rfl
    · have hbr : impl_isBridge.f k xs (i : Int) = some false := by
        simp only [impl_isBridge.f, chk_idx, rLen_eq]
        rw [if_pos ⟨by omega, by rw [← h.len]; omega⟩]
        show some (iEq (nd xs i).2.2 0) = some false
        simp only [iEq]; rw [beq_false_of_ne hn]
      refine brT_to (by simp only [iNe]; exact bne_iff_ne.2 (by omega)) (bnd_to hbr (brF_to rfl (bnd_to (implIsPower_ev k hv) (brF_to bNot_t (bnd_to (within_eq k _ 16 4096) (brF_to ?_ rfl))))))
      rw [decide_eq_true (show 16 ≤ sz[i] ∧ sz[i] ≤ 4096 by omega)]; rfl
  · unfold impl_SizesOk.s0
    exact brF_to (iLt_no (Int.le_refl _)) rfl
theorem specSizesOk_ev {xs : List (Int × Int × Int)} {sz : List Int} (ht : treeB xs = true) (h : DrawP xs sz) (k : Nat) (hk : 400 < k) : spec_SizesOk.f k xs sz = some true := by
  have hl := tree_len ht
  have hto := specTreeOk_ev xs (by omega) k (by omega)
  rw [ht] at hto
  unfold spec_SizesOk.f
  refine bnd_to hto (brF_to bNot_t (brF_to (iNe_no (by rw [rLen_eq, rLen_eq, h.len])) ?_))
  unfold spec_SizesOk.l0
  refine iter_from (fun i => (xs, sz, (i : Int))) sz.length rfl (fun rec i hi => ?_) (fun rec => ?_) (n := k) (by rw [h.len]; omega)
  · have hget : rGet 0 sz (i : Int) = sz[i] := getD_lt 0 _ hi
    have ix : cIdx (i : Int) (rLen sz) = true := cIdx_yes (by rw [rLen_eq]; omega)
    have ix2 : cIdx (i : Int) (rLen xs) = true := cIdx_yes (by rw [rLen_eq, ← h.len]; omega)
    unfold spec_SizesOk.s0
    rw [hget, next_id hi (by rw [h.len]; omega)]
    refine brT_to (iLt_yes (show (i : Int) < rLen xs by rw [rLen_eq, ← h.len]; omega)) (chk_to ix ?_)
    rcases size_cases h hi with hz | ⟨hn, hv⟩
    · exact brF_to (iNe_no hz) rfl
    · refine brT_to (by simp only [iNe]; exact bne_iff_ne.2 (by omega)) (chk_to ix2 (brF_to ?_ (chk_to ix (bnd_to (specIsPower_ev k (by omega) hv) (brF_to bNot_t (chk_to ix (bnd_to (l01In_eq k _ 16 4096) (brF_to ?_ rfl))))))))
      · show iEq (nd xs i).2.2 0 = false
        simp only [iEq]; exact beq_false_of_ne hn
      · rw [decide_eq_true (show 16 ≤ sz[i] ∧ sz[i] ≤ 4096 by omega)]; rfl
  · unfold spec_SizesOk.s0
    exact brF_to (iLt_no (by rw [rLen_eq, h.len]; exact Int.le_refl _)) rfl

/-- The node above. -/
def par (xs : List (Int × Int × Int)) (x : Int) : Int := (nd xs x.toNat).1
def anc (xs : List (Int × Int × Int)) : Nat → Int → Int
  | 0, m => m
  | i + 1, m => anc xs i (par xs m)
/-- Strictly below a node. -/
def Below (xs : List (Int × Int × Int)) (n m : Int) : Prop := ∃ i, anc xs (i + 1) m = n
theorem par_lt {xs : List (Int × Int × Int)} (ht : treeB xs = true) {m : Int} (h0 : 0 ≤ m) (h1 : m < xs.length) : par xs m < m ∧ -1 ≤ par xs m := by
  by_cases hz : m = 0
  · subst hz
    have hr : (nd xs 0).1 = -1 := by
      simp only [treeB, rootB, Bool.and_eq_true, decide_eq_true_eq] at ht
      exact ht.2.1.1
    show (nd xs (0 : Int).toNat).1 < 0 ∧ -1 ≤ (nd xs (0 : Int).toNat).1
    rw [show (0 : Int).toNat = 0 from rfl, hr]; omega
  · have := fn_nonneg ht (n := m) (by omega) h1
    show (nd xs m.toNat).1 < m ∧ -1 ≤ (nd xs m.toNat).1
    omega
theorem anc_neg {xs : List (Int × Int × Int)} (ht : treeB xs = true) : ∀ (i : Nat), anc xs i (-1) = -1
  | 0 => rfl
  | i + 1 => by
    have hr : (nd xs 0).1 = -1 := by
      simp only [treeB, rootB, Bool.and_eq_true, decide_eq_true_eq] at ht
      exact ht.2.1.1
    show anc xs i (nd xs (-1 : Int).toNat).1 = -1
    rw [show (-1 : Int).toNat = 0 from rfl, hr]
    exact anc_neg ht i
theorem anc_le {xs : List (Int × Int × Int)} (ht : treeB xs = true) : ∀ (i : Nat) (m : Int), -1 ≤ m → m < xs.length → anc xs i m ≤ m
  | 0, m, _, _ => Int.le_refl _
  | i + 1, m, h0, h1 => by
    by_cases hm : m = -1
    · subst hm; rw [anc_neg ht]; omega
    · have := par_lt ht (m := m) (by omega) h1
      have := anc_le ht i (par xs m) this.2 (by omega)
      show anc xs i (par xs m) ≤ m
      omega
theorem anc_add (xs : List (Int × Int × Int)) : ∀ (i j : Nat) (m : Int), anc xs (i + j) m = anc xs i (anc xs j m)
  | i, 0, m => rfl
  | i, j + 1, m => by
    show anc xs (i + j) (par xs m) = anc xs i (anc xs j (par xs m))
    exact anc_add xs i j (par xs m)
theorem anc_ge {xs : List (Int × Int × Int)} (ht : treeB xs = true) : ∀ (i : Nat) (m : Int), -1 ≤ m → m < xs.length → -1 ≤ anc xs i m
  | 0, m, h, _ => h
  | i + 1, m, h0, h1 => by
    by_cases hm : m = -1
    · subst hm; rw [anc_neg ht]; omega
    · have := par_lt ht (m := m) (by omega) h1
      exact anc_ge ht i (par xs m) this.2 (by omega)
/-- A node or what lies below it. -/
def In (xs : List (Int × Int × Int)) (n m : Int) : Prop := m = n ∨ Below xs n m
theorem in_anc {xs : List (Int × Int × Int)} {n m : Int} (h : In xs n m) : ∃ i, anc xs i m = n := by
  rcases h with h | ⟨i, h⟩
  · exact ⟨0, h⟩
  · exact ⟨i + 1, h⟩
theorem anc_in {xs : List (Int × Int × Int)} {n m : Int} {i : Nat} (h : anc xs i m = n) : In xs n m := by
  cases i with
  | zero => exact .inl h
  | succ i => exact .inr ⟨i, h⟩
theorem in_up {xs : List (Int × Int × Int)} {n c m : Int} (h : In xs c m) (hc : par xs c = n) : Below xs n m := by
  obtain ⟨i, h⟩ := in_anc h
  refine ⟨i, ?_⟩
  rw [Nat.add_comm, anc_add, h]; exact hc
theorem mem_chT {xs : List (Int × Int × Int)} (ht : treeB xs = true) {n x : Int} (h0 : 0 ≤ n) (h1 : n < xs.length) : x ∈ chT xs n ↔ 0 ≤ x ∧ x < xs.length ∧ par xs x = n := by
  have hok : okN xs n = true := by
    simp only [okN, ht, Bool.true_and, decide_eq_true_eq]; omega
  unfold chT
  rw [if_pos hok, mem_chS ht h0, mem_chF]; rfl
theorem chT_nodup (xs : List (Int × Int × Int)) (n : Int) : (chT xs n).Nodup := by
  unfold chT
  split
  · rename_i h
    simp only [okN, Bool.and_eq_true, decide_eq_true_eq] at h
    exact (chS_sorted h.1 h.2.1 4).imp fun hab e => by subst e; omega
  · exact List.nodup_nil
theorem below_split {xs : List (Int × Int × Int)} (ht : treeB xs = true) {n m : Int} (h0 : 0 ≤ n) (h1 : n < xs.length) (m0 : 0 ≤ m) (m1 : m < xs.length) (h : Below xs n m) : ∃ c, c ∈ chT xs n ∧ In xs c m := by
  obtain ⟨i, h⟩ := h
  rw [Nat.add_comm, anc_add] at h
  have g1 := anc_ge ht i m (by omega) m1
  have g2 := anc_le ht i m (by omega) m1
  refine ⟨anc xs i m, (mem_chT ht h0 h1).2 ⟨?_, by omega, h⟩, anc_in rfl⟩
  rcases Int.lt_or_eq_of_le g1 with g | g
  · omega
  · exfalso
    rw [← g] at h
    have := anc_neg ht 1
    have e : anc xs 1 (-1) = n := h
    omega
theorem below_lt {xs : List (Int × Int × Int)} (ht : treeB xs = true) {n m : Int} (m0 : 0 ≤ m) (m1 : m < xs.length) (h : Below xs n m) : n < m := by
  obtain ⟨i, h⟩ := h
  have := par_lt ht m0 m1
  have := anc_le ht i (par xs m) this.2 (by omega)
  have e : anc xs i (par xs m) = n := h
  omega
theorem in_same {xs : List (Int × Int × Int)} (ht : treeB xs = true) {n c c' m : Int} (h0 : 0 ≤ n) (h1 : n < xs.length) (hc : c ∈ chT xs n) (hc' : c' ∈ chT xs n) (h : In xs c m) (h' : In xs c' m) : c = c' := by
  have key : ∀ (c c' : Int) (i d : Nat), c ∈ chT xs n → c' ∈ chT xs n → anc xs i m = c → anc xs (i + d) m = c' → c = c' := by
    intro c c' i d hc hc' e e'
    rw [Nat.add_comm, anc_add, e] at e'
    cases d with
    | zero => exact e'
    | succ d =>
      exfalso
      have p1 := (mem_chT ht h0 h1).1 hc
      have p2 := chT_mem hc'
      have e2 : anc xs d (par xs c) = c' := e'
      rw [p1.2.2] at e2
      have := anc_le ht d n (by omega) h1
      omega
  obtain ⟨i, e⟩ := in_anc h
  obtain ⟨j, e'⟩ := in_anc h'
  rcases Nat.le_total i j with hij | hij
  · obtain ⟨d, rfl⟩ := Nat.exists_eq_add_of_le hij
    exact key c c' i d hc hc' e e'
  · obtain ⟨d, rfl⟩ := Nat.exists_eq_add_of_le hij
    exact (key c' c j d hc' hc e' e).symm
theorem in_dev {xs : List (Int × Int × Int)} (ht : treeB xs = true) {n m : Int} (h0 : 0 ≤ n) (m0 : 0 ≤ m) (m1 : m < xs.length) (hf : fnc xs n ≠ 0) (h : In xs n m) : m = n := by
  rcases h with h | h
  · exact h
  · exfalso
    have hlt := below_lt ht m0 m1 h
    obtain ⟨c, hc, _⟩ := below_split ht h0 (by omega) m0 m1 h
    obtain ⟨q1, q2, q3, _, q5⟩ := chT_mem hc
    have hb := node_of ht (i := c.toNat) (by omega) (by omega)
    simp only [nodeB, Bool.and_eq_true, decide_eq_true_eq] at hb
    rw [q5] at hb
    exact hf hb.2.1
def bas (ws : List (Int × Int)) (c : Int) : Int := (rGet (0, 0) ws c).2
def siz (ws : List (Int × Int)) (c : Int) : Int := (rGet (0, 0) ws c).1
/-- The windows below a bridge lie one behind the other. -/
def Laid (xs : List (Int × Int × Int)) (W : Int → Int) (ws : List (Int × Int)) (m : Int) : Prop :=
  ∃ T : List Int, T.Perm (chT xs m) ∧ ∀ (j : Nat) (h : j < T.length), 0 < W T[j] → bas ws T[j] = bas ws m + iSum ((T.take j).map W)
theorem laid_of {xs : List (Int × Int × Int)} (ht : treeB xs = true) {W : Int → Int} {ws ws' : List (Int × Int)} {m : Int} (m0 : 0 ≤ m) (m1 : m < xs.length) (h : Laid xs W ws m) (hm : bas ws' m = bas ws m) (hc : ∀ c, c ∈ chT xs m → bas ws' c = bas ws c) : Laid xs W ws' m := by
  obtain ⟨T, hT, hl⟩ := h
  refine ⟨T, hT, fun j hj hw => ?_⟩
  rw [hc _ (hT.mem_iff.1 (List.getElem_mem hj)), hm]
  exact hl j hj hw
theorem wS_stable {xs : List (Int × Int × Int)} (sz : List Int) : ∀ (d : Nat) (n : Int), n < xs.length → (xs.length : Int) ≤ d + n → wS xs sz (d + 1) n = wS xs sz d n
  | 0, n, h1, hd => by omega
  | d + 1, n, h1, hd => by
    have e : (chT xs n).map (wS xs sz (d + 1)) = (chT xs n).map (wS xs sz d) := List.map_congr_left fun c hc => by
      obtain ⟨q1, q2, q3, _⟩ := chT_mem hc
      exact wS_stable sz d c q3 (by omega)
    show (if fnc xs n = 0 then (if iSum ((chT xs n).map (wS xs sz (d + 1))) = 0 then 0 else pw 40 1 (iSum ((chT xs n).map (wS xs sz (d + 1))))) else sz.getD n.toNat 0) = _
    rw [e]; rfl
theorem wS_sum {xs : List (Int × Int × Int)} {sz : List Int} (ht : treeB xs = true) (hs : SizP xs sz) (d : Nat) (n : Int) (h0 : 0 ≤ n) (h1 : n < xs.length) (hd : (xs.length : Int) ≤ d + n) (hf : fnc xs n = 0) : iSum ((chT xs n).map (wS xs sz d)) ≤ wS xs sz d n := by
  rw [← wS_stable sz d n h1 hd]
  obtain ⟨_, _, s1, s2⟩ := wS_bound ht hs d n h0 h1
  have hb := b3_le h0
  simp only [wS, if_pos hf]
  have hp : (2 : Int) ^ 40 = 1099511627776 := by decide
  split
  · omega
  · exact (pw_facts 40 1 (iSum ((chT xs n).map (wS xs sz d))) (by omega) (by rw [hp]; omega)).1
/-- Windows that are nested and apart. -/
structure Win (xs : List (Int × Int × Int)) (W : Int → Int) (ws : List (Int × Int)) : Prop where
  len : ws.length = xs.length
  siz : ∀ c, 0 ≤ c → c < (xs.length : Int) → siz ws c = W c
  rng : ∀ c, 0 ≤ c → c < (xs.length : Int) → 0 ≤ bas ws c ∧ 0 ≤ W c ∧ bas ws c + W c ≤ 1000000000
  nest : ∀ m c, 0 ≤ m → m < (xs.length : Int) → c ∈ chT xs m → 0 < W c → bas ws m ≤ bas ws c ∧ bas ws c + W c ≤ bas ws m + W m
  apart : ∀ m c c', 0 ≤ m → m < (xs.length : Int) → c ∈ chT xs m → c' ∈ chT xs m → c ≠ c' → 0 < W c → 0 < W c' → bas ws c + W c ≤ bas ws c' ∨ bas ws c' + W c' ≤ bas ws c
theorem take_sum {T : List Int} {W : Int → Int} (h0 : ∀ c ∈ T, 0 ≤ W c) {j : Nat} (hj : j < T.length) : 0 ≤ iSum ((T.take j).map W) ∧ iSum ((T.take j).map W) + W T[j] ≤ iSum (T.map W) := by
  have e0 : iSum (T.map W) = iSum ((T.take j).map W) + (W T[j] + iSum ((T.drop (j + 1)).map W)) := by
    have : T = T.take j ++ T[j] :: T.drop (j + 1) := by rw [← List.drop_eq_getElem_cons hj, List.take_append_drop]
    conv => lhs; rw [this]
    rw [List.map_append, iSum_app, List.map_cons]; rfl
  have p1 : 0 ≤ iSum ((T.take j).map W) := iSum_nonneg fun x hx => by
    obtain ⟨c, hc, rfl⟩ := List.mem_map.1 hx
    exact h0 c (List.mem_of_mem_take hc)
  have p2 : 0 ≤ iSum ((T.drop (j + 1)).map W) := iSum_nonneg fun x hx => by
    obtain ⟨c, hc, rfl⟩ := List.mem_map.1 hx
    exact h0 c (List.mem_of_mem_drop hc)
  omega
theorem take_sum2 {T : List Int} {W : Int → Int} (h0 : ∀ c ∈ T, 0 ≤ W c) {i j : Nat} (hij : i < j) (hj : j < T.length) : iSum ((T.take i).map W) + W (T[i]'(by omega)) ≤ iSum ((T.take j).map W) := by
  have := take_sum (T := T.take j) (fun c hc => h0 c (List.mem_of_mem_take hc)) (j := i) (by rw [List.length_take]; omega)
  rw [List.take_take, Nat.min_eq_left (by omega), List.getElem_take] at this
  exact this.2
theorem win_of {xs : List (Int × Int × Int)} (ht : treeB xs = true) {W : Int → Int} {ws : List (Int × Int)} (hlen : ws.length = xs.length) (hsiz : ∀ c, 0 ≤ c → c < (xs.length : Int) → siz ws c = W c)
    (hrng : ∀ c, 0 ≤ c → c < (xs.length : Int) → 0 ≤ bas ws c ∧ 0 ≤ W c ∧ bas ws c + W c ≤ 1000000000)
    (hsum : ∀ n, 0 ≤ n → n < (xs.length : Int) → fnc xs n = 0 → iSum ((chT xs n).map W) ≤ W n)
    (hl : ∀ m, 0 ≤ m → m < (xs.length : Int) → fnc xs m = 0 → Laid xs W ws m) : Win xs W ws := by
  have hfn : ∀ m c, 0 ≤ m → m < (xs.length : Int) → c ∈ chT xs m → fnc xs m = 0 := fun m c m0 m1 hc => by
    obtain ⟨q1, q2, q3, _, q5⟩ := chT_mem hc
    have hb := node_of ht (i := c.toNat) (by omega) (by omega)
    simp only [nodeB, Bool.and_eq_true, decide_eq_true_eq] at hb
    rw [q5] at hb
    exact hb.2.1
  have hw : ∀ m c, c ∈ chT xs m → 0 ≤ W c := fun m c hc => by
    obtain ⟨q1, q2, q3, _⟩ := chT_mem hc
    exact (hrng c (by omega) q3).2.1
  refine ⟨hlen, hsiz, hrng, fun m c m0 m1 hc hp => ?_, fun m c c' m0 m1 hc hc' hne hp hp' => ?_⟩
  · obtain ⟨T, hT, h⟩ := hl m m0 m1 (hfn m c m0 m1 hc)
    obtain ⟨j, hj, rfl⟩ := List.mem_iff_getElem.1 (hT.mem_iff.2 hc)
    have hb := h j hj hp
    have ts := take_sum (T := T) (W := W) (fun c hc => hw m c (hT.mem_iff.1 hc)) hj
    have e := iSum_perm (hT.map W)
    have := hsum m m0 m1 (hfn m _ m0 m1 hc)
    omega
  · obtain ⟨T, hT, h⟩ := hl m m0 m1 (hfn m c m0 m1 hc)
    obtain ⟨j, hj, rfl⟩ := List.mem_iff_getElem.1 (hT.mem_iff.2 hc)
    obtain ⟨i, hi, rfl⟩ := List.mem_iff_getElem.1 (hT.mem_iff.2 hc')
    have hb := h j hj hp
    have hb' := h i hi hp'
    have hw' : ∀ c ∈ T, 0 ≤ W c := fun c hc => hw m c (hT.mem_iff.1 hc)
    rcases Nat.lt_trichotomy i j with hij | hij | hij
    · have := take_sum2 hw' hij hj; omega
    · subst hij; exact absurd rfl hne
    · have := take_sum2 hw' hij hi; omega
theorem bas_set {ws : List (Int × Int)} {c m s b : Int} (c0 : 0 ≤ c) (c1 : c < ws.length) (m0 : 0 ≤ m) : bas (rSet ws c (s, b)) m = if m = c then b else bas ws m := by
  unfold bas rGet rSet
  by_cases h : m = c
  · subst h
    rw [if_pos rfl, List.getD_eq_getElem?_getD, List.getElem?_set_self (by omega)]; rfl
  · rw [if_neg h, List.getD_eq_getElem?_getD, List.getElem?_set_ne (by omega), ← List.getD_eq_getElem?_getD]
theorem siz_set {ws : List (Int × Int)} {c m b : Int} (c0 : 0 ≤ c) (c1 : c < ws.length) (m0 : 0 ≤ m) : siz (rSet ws c ((rGet (0, 0) ws c).1, b)) m = siz ws m := by
  unfold siz
  by_cases h : m = c
  · subst h
    show (List.getD (List.set ws m.toNat _) m.toNat (0, 0)).1 = _
    rw [List.getD_eq_getElem?_getD, List.getElem?_set_self (by omega)]; rfl
  · show (List.getD (List.set ws c.toNat _) m.toNat (0, 0)).1 = _
    rw [List.getD_eq_getElem?_getD, List.getElem?_set_ne (by omega), ← List.getD_eq_getElem?_getD]; rfl
theorem in_child {xs : List (Int × Int × Int)} {c m y : Int} (h : In xs c m) (hy : par xs y = m) : In xs c y := by
  obtain ⟨i, e⟩ := in_anc h
  refine anc_in (i := i + 1) ?_
  show anc xs i (par xs y) = c
  rw [hy, e]
/-- What laying below a node leaves. -/
structure Lad (xs : List (Int × Int × Int)) (W : Int → Int) (ws : List (Int × Int)) (n : Int) (ws' : List (Int × Int)) : Prop where
  len : ws'.length = xs.length
  siz : ∀ c, 0 ≤ c → c < (xs.length : Int) → siz ws' c = W c
  out : ∀ m, 0 ≤ m → m < (xs.length : Int) → ¬ Below xs n m → bas ws' m = bas ws m
  laid : ∀ m, 0 ≤ m → m < (xs.length : Int) → In xs n m → fnc xs m = 0 → Laid xs W ws' m
  rng : ∀ m, 0 ≤ m → m < (xs.length : Int) → In xs n m → 0 ≤ bas ws' m ∧ bas ws' m + W m ≤ 1000000000
/-- On the way: the first i children are laid. -/
structure LadI (xs : List (Int × Int × Int)) (W : Int → Int) (ws0 : List (Int × Int)) (n : Int) (T : List Int) (i : Nat) (ws : List (Int × Int)) : Prop where
  len : ws.length = xs.length
  siz : ∀ c, 0 ≤ c → c < (xs.length : Int) → siz ws c = W c
  out : ∀ m, 0 ≤ m → m < (xs.length : Int) → (∀ c ∈ T.take i, ¬ In xs c m) → bas ws m = bas ws0 m
  put : ∀ (j : Nat) (h : j < T.length), j < i → 0 < W T[j] → bas ws T[j] = bas ws0 n + iSum ((T.take j).map W)
  laid : ∀ c ∈ T.take i, ∀ m, 0 ≤ m → m < (xs.length : Int) → In xs c m → fnc xs m = 0 → Laid xs W ws m
  rng : ∀ m, 0 ≤ m → m < (xs.length : Int) → In xs n m → 0 ≤ bas ws m ∧ bas ws m + W m ≤ 1000000000
theorem ladI_next {xs : List (Int × Int × Int)} (ht : treeB xs = true) {W : Int → Int} {ws0 ws ws1 ws2 : List (Int × Int)} {n : Int} (n0 : 0 ≤ n) (n1 : n < xs.length) {T : List Int} (hT : T.Perm (chT xs n)) {i : Nat} (hi : i < T.length) (h : LadI xs W ws0 n T i ws)
    (h1 : ∀ m, 0 ≤ m → m < (xs.length : Int) → bas ws1 m = if m = T[i] ∧ 0 < W T[i] then bas ws0 n + iSum ((T.take i).map W) else bas ws m) (h2 : Lad xs W ws1 T[i] ws2) : LadI xs W ws0 n T (i + 1) ws2 := by
  have hmem : ∀ {j : Nat} (hj : j < T.length), T[j] ∈ chT xs n := fun hj => hT.mem_iff.1 (List.getElem_mem hj)
  have hc := hmem hi
  have hnd : T.Nodup := hT.nodup_iff.2 (chT_nodup xs n)
  obtain ⟨q1, q2, q3, _, _⟩ := chT_mem hc
  have htk : ∀ c, c ∈ T.take (i + 1) → c ∈ T.take i ∨ c = T[i] := fun c hc' => by
    rw [List.take_succ_eq_append_getElem hi] at hc'
    rcases List.mem_append.1 hc' with h | h
    · exact .inl h
    · exact .inr (List.mem_singleton.1 h)
  have htk' : ∀ c, c ∈ T.take i → c ∈ T.take (i + 1) := fun c hc' => by
    rw [List.take_succ_eq_append_getElem hi]; exact List.mem_append_left _ hc'
  have hlast : T[i] ∈ T.take (i + 1) := by
    rw [List.take_succ_eq_append_getElem hi]; exact List.mem_append_right _ (List.mem_singleton.2 rfl)
  have hne : ∀ c ∈ T.take i, c ≠ T[i] := fun c hc' e => by
    obtain ⟨j, hj, e'⟩ := List.mem_iff_getElem.1 hc'
    rw [List.length_take] at hj
    rw [List.getElem_take] at e'
    have := (List.getElem_inj (h₀ := by omega) (h₁ := hi) hnd).1 (e'.trans e)
    omega
  have hfar : ∀ m, 0 ≤ m → m < (xs.length : Int) → ¬ In xs T[i] m → bas ws2 m = bas ws m := fun m m0 m1 hm => by
    rw [h2.out m m0 m1 fun hb => hm (.inr hb), h1 m m0 m1, if_neg fun e => hm (.inl e.1)]
  have hoth : ∀ c ∈ T.take i, ∀ m, In xs c m → ¬ In xs T[i] m := fun c hc' m hm hm' =>
    hne c hc' (in_same ht n0 n1 (hT.mem_iff.1 (List.mem_of_mem_take hc')) hc hm hm')
  refine ⟨h2.len, h2.siz, fun m m0 m1 hm => ?_, fun j hj hji hw => ?_, fun c hc' m m0 m1 hm hf => ?_, fun m m0 m1 hm => ?_⟩
  · rw [hfar m m0 m1 (hm _ hlast)]
    exact h.out m m0 m1 fun c hc' => hm c (htk' c hc')
  · obtain ⟨r1, r2, r3, _, _⟩ := chT_mem (hmem hj)
    by_cases hj' : j = i
    · subst hj'
      rw [h2.out _ (by omega) q3 (fun hb => by have := below_lt ht (by omega) q3 hb; omega), h1 _ (by omega) q3, if_pos ⟨rfl, hw⟩]
    · have hm : T[j] ∈ T.take i := by
        rw [List.mem_take_iff_getElem]
        exact ⟨j, by omega, rfl⟩
      rw [hfar _ (by omega) r3 (hoth _ hm _ (.inl rfl))]
      exact h.put j hj (by omega) hw
  · rcases htk c hc' with hc' | rfl
    · refine laid_of ht m0 m1 (h.laid c hc' m m0 m1 hm hf) (hfar m m0 m1 (hoth c hc' m hm)) fun y hy => ?_
      obtain ⟨r1, r2, r3, _, r5⟩ := chT_mem hy
      exact hfar y (by omega) r3 (hoth c hc' y (in_child hm r5))
    · exact h2.laid m m0 m1 hm hf
  · by_cases hm' : In xs T[i] m
    · exact h2.rng m m0 m1 hm'
    · rw [hfar m m0 m1 hm']; exact h.rng m m0 m1 hm
theorem ladI_end {xs : List (Int × Int × Int)} (ht : treeB xs = true) {W : Int → Int} {ws0 ws : List (Int × Int)} {n : Int} (n0 : 0 ≤ n) (n1 : n < xs.length) {T : List Int} (hT : T.Perm (chT xs n)) (h : LadI xs W ws0 n T T.length ws) : Lad xs W ws0 n ws := by
  have hout : ∀ m, 0 ≤ m → m < (xs.length : Int) → ¬ Below xs n m → bas ws m = bas ws0 m := fun m m0 m1 hm => by
    refine h.out m m0 m1 fun c hc hc' => hm ?_
    rw [List.take_length] at hc
    obtain ⟨_, _, _, _, r5⟩ := chT_mem (hT.mem_iff.1 hc)
    exact in_up hc' r5
  refine ⟨h.len, h.siz, hout, fun m m0 m1 hm hf => ?_, h.rng⟩
  rcases hm with rfl | hm
  · refine ⟨T, hT, fun j hj hw => ?_⟩
    rw [hout m m0 m1 fun hb => by have := below_lt ht m0 m1 hb; omega]
    exact h.put j hj hj hw
  · obtain ⟨c, hc, hm'⟩ := below_split ht n0 n1 m0 m1 hm
    refine h.laid c ?_ m m0 m1 hm' hf
    rw [List.take_length]
    exact hT.mem_iff.2 hc
/-- Laying the windows below a bridge. -/
theorem implAlloc {xs : List (Int × Int × Int)} (ht : treeB xs = true) {W : Int → Int} (hW : ∀ c, 0 ≤ c → c < (xs.length : Int) → 0 ≤ W c) (hsum : ∀ n, 0 ≤ n → n < (xs.length : Int) → fnc xs n = 0 → iSum ((chT xs n).map W) ≤ W n) (k : Nat) (hk : 400 < k) : ∀ (d : Nat) (n : Int) (ws : List (Int × Int)), 0 ≤ n → n < xs.length → (xs.length : Int) ≤ d + n → fnc xs n = 0 → ws.length = xs.length → (∀ c, 0 ≤ c → c < (xs.length : Int) → siz ws c = W c) →
    (∀ m, 0 ≤ m → m < (xs.length : Int) → In xs n m → 0 ≤ bas ws m ∧ bas ws m + W m ≤ 1000000000) → Yd (impl_allocate.g k d xs ws n) fun ws' => Lad xs W ws n ws'
  | 0, n, ws, n0, n1, hd, _, _, _, _ => by omega
  | d + 1, n, ws0, n0, n1, hd, hf, hl0, hs0, hr0 => by
    have hl := tree_len ht
    have hch := chT_len xs n
    have ih : ∀ c ∈ chT xs n, ∀ ws, fnc xs c = 0 → ws.length = xs.length → (∀ c, 0 ≤ c → c < (xs.length : Int) → siz ws c = W c) → (∀ m, 0 ≤ m → m < (xs.length : Int) → In xs c m → 0 ≤ bas ws m ∧ bas ws m + W m ≤ 1000000000) → Yd (impl_allocate.g k d xs ws c) fun ws' => Lad xs W ws c ws' := fun c hc ws h1 h2 h3 h4 => by
      obtain ⟨q1, q2, q3, _⟩ := chT_mem hc
      exact implAlloc ht hW hsum k hk d c ws (by omega) q3 (by omega) h1 h2 h3 h4
    show Yd (impl_allocate.f1 k (impl_allocate.g k d) xs ws0 n) _
    generalize impl_allocate.g k d = gd at ih ⊢
    have hin : ∀ y ∈ chT xs n, 0 ≤ y ∧ y < ws0.length := fun y hy => by
      obtain ⟨q1, q2, q3, _⟩ := chT_mem hy
      rw [hl0]; omega
    obtain ⟨T, eT, hT⟩ := sortAlloc k (by omega) ws0 (chT xs n) hch hin
    have hTl : T.length = (chT xs n).length := hT.length_eq
    unfold impl_allocate.f1
    rw [implChildren_ev xs n (by omega) k (by omega), bnd_one, eT, bnd_one]
    dsimp only
    refine Yd.idx (by rw [rLen_eq, hl0]; omega) ?_
    rw [rLen_eq]
    have hb0 : ((rGet (0, 0) ws0 n).2) = bas ws0 n := rfl
    have hWc : ∀ c ∈ T, 0 ≤ W c := fun c hc => by
      obtain ⟨q1, q2, q3, _⟩ := chT_mem (hT.mem_iff.1 hc)
      exact hW c (by omega) q3
    have hst := hsum n n0 n1 hf
    rw [← iSum_perm (hT.map W)] at hst
    have hrn := hr0 n n0 n1 (.inl rfl)
    unfold impl_allocate.l0
    refine iter_yd (I := fun i x => ∃ ws, x = (xs, bas ws0 n + iSum ((T.take i).map W), T, (T.length : Int), (i : Int), ws) ∧ i ≤ T.length ∧ LadI xs W ws0 n T i ws) T.length (fun rec i x hi hx hr => ?_) (by omega)
      ⟨ws0, by rw [hb0]; simp [iSum], Nat.zero_le _, hl0, hs0, fun m _ _ _ => rfl, fun j hj hji => by omega, fun c hc => by simp at hc, hr0⟩
    obtain ⟨ws, rfl, hil, hI⟩ := hx
    show Yd (impl_allocate.s0 k gd rec xs (bas ws0 n + iSum ((T.take i).map W)) T (T.length : Int) (i : Int) ws) _
    unfold impl_allocate.s0
    refine Yd.lt (fun hlt => ?_) fun hge => ?_
    · have hi' : i < T.length := by omega
      have hget : rGet 0 T (i : Int) = T[i] := getD_lt 0 _ hi'
      have hmem := hT.mem_iff.1 (List.getElem_mem hi')
      obtain ⟨q1, q2, q3, _, q5⟩ := chT_mem hmem
      have ts := take_sum hWc hi'
      have hw0 := hWc _ (List.getElem_mem hi')
      have hsz : (rGet (0, 0) ws T[i]).1 = W T[i] := hI.siz _ (by omega) q3
      have hbr : impl_isBridge.f k xs T[i] = some (decide (fnc xs T[i] = 0)) := by
        simp only [impl_isBridge.f, chk_idx, rLen_eq]
        rw [if_pos ⟨by omega, q3⟩, iEq_eq]; rfl
      have hup : ∀ m, In xs T[i] m → In xs n m := fun m hm => .inr (in_up hm q5)
      have hsucc : bas ws0 n + iSum ((T.take (i + 1)).map W) = bas ws0 n + iSum ((T.take i).map W) + W T[i] := by
        rw [List.take_succ_eq_append_getElem hi', List.map_append, iSum_app]
        simp only [List.map_cons, List.map_nil, iSum]; omega
      -- what laying the child makes
      have fin : ∀ (ws1 : List (Int × Int)), ws1.length = xs.length → (∀ c, 0 ≤ c → c < (xs.length : Int) → siz ws1 c = W c) →
          (∀ m, 0 ≤ m → m < (xs.length : Int) → bas ws1 m = if m = T[i] ∧ 0 < W T[i] then bas ws0 n + iSum ((T.take i).map W) else bas ws m) →
          Yd (brB (decide (fnc xs T[i] = 0)) (bnd (gd xs ws1 T[i]) fun y => rec (xs, bas ws0 n + iSum ((T.take (i + 1)).map W), T, (T.length : Int), ((i + 1 : Nat) : Int), y)) (rec (xs, bas ws0 n + iSum ((T.take (i + 1)).map W), T, (T.length : Int), ((i + 1 : Nat) : Int), ws1))) fun ws' => Lad xs W ws0 n ws' := by
        intro ws1 e1 e2 e3
        have hr1 : ∀ m, 0 ≤ m → m < (xs.length : Int) → In xs T[i] m → 0 ≤ bas ws1 m ∧ bas ws1 m + W m ≤ 1000000000 := fun m m0 m1 hm => by
          rw [e3 m m0 m1]
          split
          · rename_i hc; rw [hc.1]; omega
          · exact hI.rng m m0 m1 (hup m hm)
        by_cases hfc : fnc xs T[i] = 0
        · rw [decide_eq_true hfc, brB_true]
          refine Yd.bnd (ih _ hmem ws1 hfc e1 e2 hr1) fun ws2 h2 => ?_
          exact hr _ hi' ⟨ws2, rfl, hi', ladI_next ht n0 n1 hT hi' hI e3 h2⟩
        · rw [decide_eq_false hfc, brB_false]
          have h2 : Lad xs W ws1 T[i] ws1 := ⟨e1, e2, fun _ _ _ _ => rfl, fun m m0 m1 hm hf' => by
            have := in_dev ht (by omega) m0 m1 hfc hm
            rw [this] at hf'
            exact absurd hf' hfc, hr1⟩
          exact hr _ hi' ⟨ws1, rfl, hi', ladI_next ht n0 n1 hT hi' hI e3 h2⟩
      rw [hget, next_id hi' (by omega), hbr, bnd_one, hsz]
      have hix : 0 ≤ T[i] ∧ T[i] < rLen ws := by rw [rLen_eq, hI.len]; omega
      refine Yd.idx (by rw [rLen_eq]; omega) (Yd.idx hix ?_)
      refine Yd.lt (fun hp => ?_) fun hp => ?_
      · have hl2 : (rSet ws T[i] (W T[i], bas ws0 n + iSum ((T.take i).map W))).length = xs.length := by
          unfold rSet; rw [List.length_set]; exact hI.len
        have hs2 : ∀ c, 0 ≤ c → c < (xs.length : Int) → siz (rSet ws T[i] (W T[i], bas ws0 n + iSum ((T.take i).map W))) c = W c := fun c c0 c1 => by
          have := siz_set (ws := ws) (c := T[i]) (m := c) (b := bas ws0 n + iSum ((T.take i).map W)) (by omega) (by rw [hI.len]; exact q3) c0
          rw [hsz] at this
          rw [this]; exact hI.siz c c0 c1
        have hsz2 : (rGet (0, 0) (rSet ws T[i] (W T[i], bas ws0 n + iSum ((T.take i).map W))) T[i]).1 = W T[i] := hs2 _ (by omega) q3
        have hfin := fin (rSet ws T[i] (W T[i], bas ws0 n + iSum ((T.take i).map W))) hl2 hs2 fun m m0 m1 => by
          rw [bas_set (by omega) (by rw [hI.len]; exact q3) m0]
          by_cases hm : m = T[i]
          · rw [if_pos hm, if_pos ⟨hm, hp⟩]
          · rw [if_neg hm, if_neg fun h => hm h.1]
        rw [hsz2, iAdd_id (by omega) (by omega), ← hsucc]
        refine Yd.idx hix (Yd.idx (by rw [rLen_eq, hl2]; omega) ?_)
        exact hfin
      · have hz : W T[i] = 0 := by omega
        have hfin := fin ws hI.len hI.siz fun m m0 m1 => by rw [if_neg fun h => hp h.2]
        rw [hsucc, hz, Int.add_zero] at hfin
        exact hfin
    · have : i = T.length := by omega
      subst this
      exact Yd.one (ladI_end ht n0 n1 hT hI)

theorem covN_iff {ws : List (Int × Int)} {c x : Int} (h0 : 0 ≤ bas ws c ∧ bas ws c ≤ 1000000000) (h1 : 0 ≤ siz ws c ∧ siz ws c ≤ 1000000000) (hx : 0 ≤ x ∧ x ≤ 1000000000) : covN ws x c = true ↔ bas ws c ≤ x ∧ x < bas ws c + siz ws c := by
  have hu : ∀ y : Int, 0 ≤ y → y ≤ 2000000000 → iCnv .u64 y = y := fun y y0 y1 => by
    show IntKind.wrap .u64 y = y
    unfold IntKind.wrap
    rw [show ((2 : Int) ^ IntKind.u64.bits) = 18446744073709551616 from rfl, show IntKind.u64.signed = false from rfl]
    simp only [Bool.false_and, Bool.false_eq_true, if_false]
    omega
  show (decide (0 < siz ws c) && (decide (bas ws c ≤ x) && iLt (iSub .u64 (iCnv .u64 x) (iCnv .u64 (bas ws c))) (iCnv .u64 (siz ws c)))) = true ↔ _
  rw [hu x (by omega) (by omega), hu _ h0.1 (by omega), hu _ h1.1 (by omega)]
  simp only [Bool.and_eq_true, decide_eq_true_eq, iLt]
  constructor
  · rintro ⟨h2, h3, h4⟩
    rw [show iSub .u64 x (bas ws c) = x - bas ws c from hu _ (by omega) (by omega)] at h4
    omega
  · rintro ⟨h2, h3⟩
    rw [show iSub .u64 x (bas ws c) = x - bas ws c from hu _ (by omega) (by omega)]
    omega
theorem win_cov {xs : List (Int × Int × Int)} {W : Int → Int} {ws : List (Int × Int)} (h : Win xs W ws) {x c : Int} (hx : 0 ≤ x ∧ x ≤ 1000000000) (c0 : 0 ≤ c) (c1 : c < (xs.length : Int)) : covN ws x c = true ↔ bas ws c ≤ x ∧ x < bas ws c + W c := by
  have hr := h.rng c c0 c1
  have hs := h.siz c c0 c1
  rw [covN_iff (by omega) (by omega) hx, hs]
theorem win_up {xs : List (Int × Int × Int)} {W : Int → Int} {ws : List (Int × Int)} (h : Win xs W ws) {x c m : Int} (hx : 0 ≤ x ∧ x ≤ 1000000000) (hc : c ∈ chT xs m) (hv : covN ws x c = true) : covN ws x m = true := by
  obtain ⟨q1, q2, q3, _⟩ := chT_mem hc
  rw [win_cov h hx (by omega) q3] at hv
  rw [win_cov h hx (by omega) (by omega)]
  have := h.nest m c (by omega) (by omega) hc (by omega)
  omega
theorem win_one {xs : List (Int × Int × Int)} {W : Int → Int} {ws : List (Int × Int)} (h : Win xs W ws) {x c c' m : Int} (hx : 0 ≤ x ∧ x ≤ 1000000000) (hc : c ∈ chT xs m) (hc' : c' ∈ chT xs m) (hv : covN ws x c = true) (hv' : covN ws x c' = true) : c = c' := by
  obtain ⟨q1, q2, q3, _⟩ := chT_mem hc
  obtain ⟨r1, r2, r3, _⟩ := chT_mem hc'
  rw [win_cov h hx (by omega) q3] at hv
  rw [win_cov h hx (by omega) r3] at hv'
  apply Classical.byContradiction
  intro hne
  have := h.apart m c c' (by omega) (by omega) hc hc' hne (by omega) (by omega)
  omega
theorem win_find {xs : List (Int × Int × Int)} {W : Int → Int} {ws : List (Int × Int)} (h : Win xs W ws) {x c m : Int} (hx : 0 ≤ x ∧ x ≤ 1000000000) (hc : c ∈ chT xs m) (hv : covN ws x c = true) : (chT xs m).find? (covN ws x) = some c := by
  cases hf : (chT xs m).find? (covN ws x) with
  | none =>
    rw [List.find?_eq_none] at hf
    exact absurd hv (hf c hc)
  | some c' =>
    rw [win_one h hx hc (List.mem_of_find?_eq_some hf) hv (List.find?_some hf)]
theorem anc_succ (xs : List (Int × Int × Int)) (i : Nat) (m : Int) : anc xs (i + 1) m = par xs (anc xs i m) := by
  rw [Nat.add_comm, anc_add]; rfl
theorem anc_mem {xs : List (Int × Int × Int)} (ht : treeB xs = true) {i : Nat} {m : Int} (m0 : 0 ≤ m) (m1 : m < xs.length) (h0 : 0 ≤ anc xs (i + 1) m) : anc xs i m ∈ chT xs (anc xs (i + 1) m) ∧ 0 ≤ anc xs i m := by
  have g1 := anc_ge ht i m (by omega) m1
  have g2 := anc_le ht i m (by omega) m1
  have g3 := anc_le ht (i + 1) m (by omega) m1
  have hi : 0 ≤ anc xs i m := by
    rcases Int.lt_or_eq_of_le g1 with g | g
    · omega
    · exfalso
      rw [anc_succ, ← g] at h0
      have e : anc xs 1 (-1) = par xs (-1) := rfl
      rw [anc_neg ht 1] at e
      omega
  exact ⟨(mem_chT ht h0 (by omega)).2 ⟨hi, by omega, (anc_succ xs i m).symm⟩, hi⟩
theorem win_anc {xs : List (Int × Int × Int)} (ht : treeB xs = true) {W : Int → Int} {ws : List (Int × Int)} (h : Win xs W ws) {x m : Int} (hx : 0 ≤ x ∧ x ≤ 1000000000) (m0 : 0 ≤ m) (m1 : m < xs.length) (hv : covN ws x m = true) : ∀ i : Nat, 0 ≤ anc xs i m → covN ws x (anc xs i m) = true
  | 0, _ => hv
  | i + 1, h0 => by
    obtain ⟨hc, hi⟩ := anc_mem ht m0 m1 h0
    exact win_up h hx hc (win_anc ht h hx m0 m1 hv i hi)
/-- The nodes from one above to a node, without the first. -/
def wayD (xs : List (Int × Int × Int)) (m : Int) : Nat → List Int
  | 0 => []
  | i + 1 => anc xs i m :: wayD xs m i
theorem win_down {xs : List (Int × Int × Int)} (ht : treeB xs = true) {W : Int → Int} {ws : List (Int × Int)} (h : Win xs W ws) {x m : Int} (hx : 0 ≤ x ∧ x ≤ 1000000000) (m0 : 0 ≤ m) (m1 : m < xs.length) (hf : fnc xs m ≠ 0) (hv : covN ws x m = true) : ∀ (i f : Nat) (out : List Int), i < f → 0 ≤ anc xs i m → downL xs ws x f (anc xs i m) out = out ++ wayD xs m i
  | i, 0, out, hi, _ => by omega
  | 0, f + 1, out, _, _ => by
    show (if fnc xs m = 0 then _ else out) = _
    rw [if_neg hf]; simp [wayD]
  | i + 1, f + 1, out, hi, h0 => by
    obtain ⟨hc, hi0⟩ := anc_mem ht m0 m1 h0
    have hfn : fnc xs (anc xs (i + 1) m) = 0 := by
      obtain ⟨q1, q2, q3, _, q5⟩ := chT_mem hc
      have hb := node_of ht (i := (anc xs i m).toNat) (by omega) (by omega)
      simp only [nodeB, Bool.and_eq_true, decide_eq_true_eq] at hb
      rw [q5] at hb
      exact hb.2.1
    show (if fnc xs (anc xs (i + 1) m) = 0 then _ else out) = _
    rw [if_pos hfn, win_find h hx hc (win_anc ht h hx m0 m1 hv i hi0)]
    show downL xs ws x f (anc xs i m) (out ++ [anc xs i m]) = _
    rw [win_down ht h hx m0 m1 hf hv i f _ (by omega) hi0, List.append_assoc]; rfl
theorem root_in {xs : List (Int × Int × Int)} (ht : treeB xs = true) : ∀ (d : Nat) (m : Int), 0 ≤ m → m < xs.length → m ≤ d → ∃ i : Nat, anc xs i m = 0 ∧ i ≤ d
  | 0, m, m0, m1, hd => ⟨0, by show m = 0; omega, Nat.le_refl _⟩
  | d + 1, m, m0, m1, hd => by
    by_cases hm : m = 0
    · exact ⟨0, hm, by omega⟩
    · have := fn_nonneg ht (n := m) (by omega) m1
      have hp : par xs m = (nd xs m.toNat).1 := rfl
      obtain ⟨i, e, hi⟩ := root_in ht d (par xs m) (by omega) (by omega) (by omega)
      exact ⟨i + 1, e, by omega⟩
/-- The way down leads to the device that covers the address. -/
theorem win_downT {xs : List (Int × Int × Int)} (ht : treeB xs = true) {W : Int → Int} {ws : List (Int × Int)} (h : Win xs W ws) {x m : Int} (hx : 0 ≤ x ∧ x ≤ 1000000000) (m0 : 0 ≤ m) (m1 : m < xs.length) (hf : fnc xs m ≠ 0) (hv : covN ws x m = true) : ∃ i : Nat, i < xs.length ∧ anc xs i m = 0 ∧ downT xs ws x = 0 :: wayD xs m i := by
  obtain ⟨i, e, hi⟩ := root_in ht (xs.length - 1) m m0 m1 (by omega)
  refine ⟨i, by omega, e, ?_⟩
  have hd := win_down ht h hx m0 m1 hf hv i xs.length [0] (by omega) (by omega)
  unfold downT
  rw [if_pos ⟨ht, h.len⟩]
  rw [e] at hd
  exact hd
/-- Of two that cover an address one is below the other. -/
theorem win_line {xs : List (Int × Int × Int)} (ht : treeB xs = true) {W : Int → Int} {ws : List (Int × Int)} (h : Win xs W ws) {x n m : Int} (hx : 0 ≤ x ∧ x ≤ 1000000000) (n0 : 0 ≤ n) (n1 : n < xs.length) (m0 : 0 ≤ m) (m1 : m < xs.length) (hn : covN ws x n = true) (hm : covN ws x m = true) : ∀ (i j : Nat), anc xs i n = anc xs j m → 0 ≤ anc xs i n → (∃ d, d ≤ j ∧ anc xs d m = n) ∨ ∃ d, anc xs d n = m
  | 0, j, e, _ => .inl ⟨j, Nat.le_refl _, e.symm⟩
  | i + 1, 0, e, _ => .inr ⟨i + 1, e⟩
  | i + 1, j + 1, e, h0 => by
    obtain ⟨hc, hi⟩ := anc_mem ht n0 n1 h0
    obtain ⟨hc', hj⟩ := anc_mem ht m0 m1 (i := j) (by rw [← e]; exact h0)
    rw [← e] at hc'
    have := win_one h hx hc hc' (win_anc ht h hx n0 n1 hn i hi) (win_anc ht h hx m0 m1 hm j hj)
    rcases win_line ht h hx n0 n1 m0 m1 hn hm i j this hi with ⟨d, hd, e'⟩ | ⟨d, e'⟩
    · exact .inl ⟨d, by omega, e'⟩
    · exact .inr ⟨d, e'⟩
theorem win_dev {xs : List (Int × Int × Int)} (ht : treeB xs = true) {W : Int → Int} {ws : List (Int × Int)} (h : Win xs W ws) {x n m : Int} (hx : 0 ≤ x ∧ x ≤ 1000000000) (n0 : 0 ≤ n) (n1 : n < xs.length) (m0 : 0 ≤ m) (m1 : m < xs.length) (hf : fnc xs m ≠ 0) (hn : covN ws x n = true) (hm : covN ws x m = true) : ∃ d, d < xs.length ∧ anc xs d m = n := by
  obtain ⟨i, e, hi⟩ := root_in ht (xs.length - 1) n n0 n1 (by omega)
  obtain ⟨j, e', hj⟩ := root_in ht (xs.length - 1) m m0 m1 (by omega)
  rcases win_line ht h hx n0 n1 m0 m1 hn hm i j (by rw [e, e']) (by omega) with ⟨d, hd, e2⟩ | ⟨d, e2⟩
  · exact ⟨d, by omega, e2⟩
  · have := in_dev ht m0 n0 n1 hf (anc_in e2)
    exact ⟨0, by omega, this.symm⟩
theorem wayD_last (xs : List (Int × Int × Int)) (m : Int) : ∀ (i : Nat) (n : Int), anc xs i m = n → (n :: wayD xs m i).getLast? = some m
  | 0, n, e => by have : m = n := e; subst this; rfl
  | i + 1, n, e => by
    show (n :: anc xs i m :: wayD xs m i).getLast? = some m
    rw [List.getLast?_cons_cons]
    exact wayD_last xs m i _ rfl
/-- A way leads from its node to the device. -/
theorem win_route {xs : List (Int × Int × Int)} (ht : treeB xs = true) {W : Int → Int} {ws : List (Int × Int)} (h : Win xs W ws) {x m : Int} (hx : 0 ≤ x ∧ x ≤ 1000000000) (m0 : 0 ≤ m) (m1 : m < xs.length) (hf : fnc xs m ≠ 0) (hv : covN ws x m = true) : ∀ (f : Nat) (n : Int) (out : List Int), 0 ≤ n → n < xs.length → n < f → ∃ l : List Int, routeL xs ws x f n out = out ++ (n :: l) ∧ (n :: l).getLast? = some m
  | 0, n, out, n0, n1, hn => by omega
  | f + 1, n, out, n0, n1, hn => by
    by_cases hs : n = 0 ∨ ((nd xs n.toNat).2.2 = 0 ∧ covN ws x n = true)
    · have hd : ∃ d, d < xs.length ∧ anc xs d m = n := by
        rcases hs with e | ⟨_, hc⟩
        · obtain ⟨i, e', hi⟩ := root_in ht (xs.length - 1) m m0 m1 (by omega)
          exact ⟨i, by omega, by rw [e', e]⟩
        · exact win_dev ht h hx n0 n1 m0 m1 hf hc hv
      obtain ⟨d, hd, e⟩ := hd
      have hdn := win_down ht h hx m0 m1 hf hv d xs.length [n] hd (by omega)
      rw [e] at hdn
      refine ⟨wayD xs m d, ?_, wayD_last xs m d n e⟩
      simp only [routeL]
      rw [if_pos hs, hdn, if_neg (by simp)]; rfl
    · have hp := fn_nonneg ht (n := n) (by omega) n1
      obtain ⟨l, e1, e2⟩ := win_route ht h hx m0 m1 hf hv f (nd xs n.toNat).1 (out ++ [n]) (by omega) (by omega) (by omega)
      refine ⟨(nd xs n.toNat).1 :: l, ?_, ?_⟩
      · simp only [routeL]
        rw [if_neg hs, e1, List.append_assoc]; rfl
      · rw [List.getLast?_cons_cons]; exact e2

theorem yd_chk {R : Type} {b : Bool} {x : Option R} {Q : R → Prop} (h : b = true) (hx : Yd x Q) : Yd (chk b x) Q := by subst h; exact hx
theorem set_len (ws : List (Int × Int)) (c : Int) (y : Int × Int) : (rSet ws c y).length = ws.length := by unfold rSet; rw [List.length_set]
theorem specPlace_yd {xs : List (Int × Int × Int)} (ht : treeB xs = true) (k : Nat) (hk : 400 < k) : ∀ (d : Nat) (n : Int) (ws : List (Int × Int)), 0 ≤ n → n < xs.length → (xs.length : Int) ≤ d + n → ws.length = xs.length → Yd (spec_l24Place.g k d xs ws n) fun ws' => ws'.length = xs.length
  | 0, n, ws, n0, n1, hd, _ => by omega
  | d + 1, n, ws0, n0, n1, hd, hl0 => by
    have hl := tree_len ht
    have ih : ∀ (c : Int) ws, n < c → c < xs.length → ws.length = xs.length → Yd (spec_l24Place.g k d xs ws c) fun ws' => ws'.length = xs.length := fun c ws h1 h2 h3 => specPlace_yd ht k hk d c ws (by omega) h2 (by omega) h3
    show Yd (spec_l24Place.f1 k (spec_l24Place.g k d) xs ws0 n) _
    generalize spec_l24Place.g k d = gd at ih ⊢
    unfold spec_l24Place.f1
    refine Yd.idx (by rw [rLen_eq, hl0]; omega) ?_
    unfold spec_l24Place.l0
    generalize ((rGet (0, 0) ws0 n).2) = at0
    refine iter_yd (I := fun i x => ∃ ws at' z, x = (xs, ws, n, at', z) ∧ ws.length = xs.length ∧ 0 ≤ z ∧ z * 2 ^ i ≤ 65536) 17 (fun rec i x hi hx hr => ?_) (by omega) ⟨ws0, at0, 65536, rfl, hl0, by omega, by decide⟩
    obtain ⟨ws, at', z, rfl, hw, hz, hzi⟩ := hx
    show Yd (spec_l24Place.s0 k gd rec xs ws n at' z) _
    unfold spec_l24Place.s0
    refine Yd.lt (fun h => ?_) fun h => ?_
    · have hi' : i < 17 := by
        rcases Nat.lt_or_ge i 17 with h' | h'
        · exact h'
        · exfalso
          have e : i = 17 := by omega
          subst e
          rw [show (2 : Int) ^ 17 = 131072 by decide] at hzi
          omega
      unfold spec_l24Place.l1
      refine iter_yd (I := fun j x => ∃ ws at', x = (xs, ws, n, at', z, ((j + 1 : Nat) : Int)) ∧ ws.length = xs.length) xs.length (fun rec1 j x hj hx hr1 => ?_) (by omega) ⟨ws, at', rfl, hw⟩
      obtain ⟨ws', at2, rfl, hw'⟩ := hx
      show Yd (spec_l24Place.s1 k rec rec1 xs ws' n at2 z ((j + 1 : Nat) : Int)) _
      unfold spec_l24Place.s1
      refine Yd.lt (fun h2 => ?_) fun h2 => ?_
      · rw [rLen_eq] at h2
        have nx : iAdd .i64 ((j + 1 : Nat) : Int) 1 = ((j + 1 + 1 : Nat) : Int) := next_id (n := xs.length) (by omega) (by omega)
        rw [nx]
        refine Yd.idx (by rw [rLen_eq]; omega) (Yd.eq (fun _ => Yd.idx (by rw [rLen_eq]; omega) (Yd.eq (fun _ => Yd.idx (by rw [rLen_eq]; omega) ?_) fun _ => ?_)) fun _ => ?_)
        · exact hr1 _ (by omega) ⟨_, _, rfl, by rw [set_len]; exact hw'⟩
        · exact hr1 _ (by omega) ⟨_, _, rfl, hw'⟩
        · exact hr1 _ (by omega) ⟨_, _, rfl, hw'⟩
      · refine yd_chk rfl ?_
        have hpos : (0 : Int) < 2 ^ i := Int.pow_pos (by omega)
        have hle : z ≤ 65536 := by
          have := Int.mul_le_mul_of_nonneg_left (show (1 : Int) ≤ 2 ^ i by omega) hz
          omega
        have e : iQuo .i64 z 2 = z / 2 := by
          show IntKind.wrap .i64 (z.tdiv 2) = _
          rw [Int.tdiv_eq_ediv_of_nonneg hz, wrap64, w64_id (by omega) (by omega)]
        rw [e]
        refine hr _ hi' ⟨_, _, _, rfl, hw', by omega, ?_⟩
        have h3 : 2 * (z / 2) ≤ z := by omega
        have h4 := Int.mul_le_mul_of_nonneg_right h3 (show (0 : Int) ≤ 2 ^ i by omega)
        rw [Int.pow_succ, ← Int.mul_assoc, Int.mul_right_comm]
        rw [Int.mul_comm 2 (z / 2)] at h4
        omega
    · unfold spec_l24Place.l2
      refine iter_yd (I := fun j x => ∃ ws, x = (xs, ws, n, ((j + 1 : Nat) : Int)) ∧ ws.length = xs.length) xs.length (fun rec2 j x hj hx hr2 => ?_) (by omega) ⟨ws, rfl, hw⟩
      obtain ⟨ws', rfl, hw'⟩ := hx
      show Yd (spec_l24Place.s2 k gd rec2 xs ws' n ((j + 1 : Nat) : Int)) _
      unfold spec_l24Place.s2
      refine Yd.lt (fun h2 => ?_) fun h2 => Yd.one hw'
      rw [rLen_eq] at h2
      have nx : iAdd .i64 ((j + 1 : Nat) : Int) 1 = ((j + 1 + 1 : Nat) : Int) := next_id (n := xs.length) (by omega) (by omega)
      rw [nx]
      have ix : 0 ≤ ((j + 1 : Nat) : Int) ∧ ((j + 1 : Nat) : Int) < rLen xs := by rw [rLen_eq]; omega
      refine Yd.idx ix (Yd.eq (fun hp => Yd.idx ix (Yd.eq (fun _ => Yd.idx (by rw [rLen_eq]; omega) (Yd.lt (fun _ => ?_) fun _ => ?_)) fun _ => ?_)) fun _ => ?_)
      · have hp' : (nd xs (((j + 1 : Nat) : Int)).toNat).1 = n := hp
        have := fn_nonneg ht (n := ((j + 1 : Nat) : Int)) (by omega) (by omega)
        refine Yd.bnd (ih _ ws' (by omega) (by omega) hw') fun y hy => hr2 _ (by omega) ⟨y, rfl, hy⟩
      · exact hr2 _ (by omega) ⟨_, rfl, hw'⟩
      · exact hr2 _ (by omega) ⟨_, rfl, hw'⟩
      · exact hr2 _ (by omega) ⟨_, rfl, hw'⟩
theorem specAllocate_ev {xs : List (Int × Int × Int)} {sz : List Int} (ht : treeB xs = true) (hd : DrawP xs sz) (k : Nat) (hk : 400 < k) : ∃ a, spec_Allocate.f k xs sz = some (a, decide (wS xs sz k 0 ≤ 65536)) := by
  have hl := tree_len ht
  have hs := hd.siz
  unfold spec_Allocate.f
  rw [specSizesOk_ev ht hd k (by omega), bnd_one, bNot_t, brB_false, show spec_l24Window.f k xs sz 0 = some (wS xs sz k 0) from specWin_ev ht hs k hk k 0 (by omega) (by omega) (by omega), bnd_one]
  by_cases h : 65536 < wS xs sz k 0
  · rw [iLt_yes h, brB_true, decide_eq_false (by omega)]
    exact ⟨_, rfl⟩
  · rw [iLt_no (by omega), brB_false, decide_eq_true (by omega)]
    unfold spec_Allocate.l0
    have key : Yd (iter (fun (rec : ((List (Int × Int × Int)) × List Int × (List (Int × Int)) × Int) → Option (List (Int × Int) × Bool)) (x : (List (Int × Int × Int)) × List Int × (List (Int × Int)) × Int) => spec_Allocate.s0 k rec x.1 x.2.1 x.2.2.1 x.2.2.2) k (xs, sz, [], 0)) fun r => r.2 = true := by
      refine iter_yd (I := fun i x => ∃ ws, x = (xs, sz, ws, (i : Int)) ∧ i ≤ xs.length ∧ ws.length = i) xs.length (fun rec i x hi hx hr => ?_) (by omega) ⟨[], rfl, Nat.zero_le _, rfl⟩
      obtain ⟨ws, rfl, hi', hw⟩ := hx
      show Yd (spec_Allocate.s0 k rec xs sz ws (i : Int)) _
      unfold spec_Allocate.s0
      refine Yd.lt (fun h2 => ?_) fun h2 => ?_
      · rw [rLen_eq] at h2
        rw [show spec_l24Window.f k xs sz (i : Int) = some (wS xs sz k (i : Int)) from specWin_ev ht hs k hk k (i : Int) (by omega) h2 (by omega), bnd_one, next_id (n := xs.length) (by omega) (by omega), rApp_eq, rLen_eq, List.length_append, hw]
        refine Yd.len (by simp only [List.length_cons, List.length_nil]; omega) (hr _ (by omega) ⟨_, rfl, by omega, by rw [List.length_append, hw]; rfl⟩)
      · rw [rLen_eq] at h2
        refine Yd.bnd (specPlace_yd ht k hk k 0 ws (by omega) (by omega) (by omega) (by omega)) fun y _ => Yd.one rfl
    obtain ⟨r, e, hr⟩ := key
    refine ⟨r.1, ?_⟩
    rw [e, ← hr]
theorem implAllocate_ev {xs : List (Int × Int × Int)} {sz : List Int} (ht : treeB xs = true) (hd : DrawP xs sz) (k : Nat) (hk : 400 < k) (h : wS xs sz k 0 ≤ 65536) : ∃ ws, impl_Allocate.f k xs sz = some (ws, true) ∧ Win xs (wS xs sz k) ws := by
  have hl := tree_len ht
  have hs := hd.siz
  have hwb : ∀ c, 0 ≤ c → c < (xs.length : Int) → 0 ≤ wS xs sz k c ∧ wS xs sz k c ≤ 1000000000 := fun c c0 c1 => by
    have := wS_bound ht hs k c c0 c1
    have := b3_le c0
    omega
  have hsum : ∀ n, 0 ≤ n → n < (xs.length : Int) → fnc xs n = 0 → iSum ((chT xs n).map (wS xs sz k)) ≤ wS xs sz k n := fun n n0 n1 hf => wS_sum ht hs k n n0 n1 (by omega) hf
  unfold impl_Allocate.f
  rw [implSizesOk_ev ht hd k (by omega), bnd_one, bNot_t, brB_false, show impl_windowSize.f k xs sz 0 = some (wS xs sz k 0) from implWin_ev ht hs k hk k 0 (by omega) (by omega) (by omega), bnd_one, iLt_no h, brB_false, rLen_eq]
  unfold impl_Allocate.l0
  suffices key : Yd (iter (fun (rec : ((List (Int × Int × Int)) × List Int × (List (Int × Int)) × Int × Int) → Option (List (Int × Int) × Bool)) (x : (List (Int × Int × Int)) × List Int × (List (Int × Int)) × Int × Int) => impl_Allocate.s0 k rec x.1 x.2.1 x.2.2.1 x.2.2.2.1 x.2.2.2.2) k (xs, sz, [], (xs.length : Int), 0)) fun r => r.2 = true ∧ Win xs (wS xs sz k) r.1 by
    obtain ⟨r, e, hr, hr2⟩ := key
    refine ⟨r.1, ?_, hr2⟩
    rw [e, ← hr]
  · refine iter_yd (I := fun i x => x = (xs, sz, (List.range i).map (fun (j : Nat) => (wS xs sz k (j : Int), (0 : Int))), (xs.length : Int), (i : Int)) ∧ i ≤ xs.length) xs.length (fun rec i x hi hx hr => ?_) (by omega) ⟨rfl, Nat.zero_le _⟩
    obtain ⟨rfl, hi'⟩ := hx
    show Yd (impl_Allocate.s0 k rec xs sz ((List.range i).map (fun (j : Nat) => (wS xs sz k (j : Int), (0 : Int)))) (xs.length : Int) (i : Int)) _
    unfold impl_Allocate.s0
    refine Yd.lt (fun h2 => ?_) fun h2 => ?_
    · rw [show impl_windowSize.f k xs sz (i : Int) = some (wS xs sz k (i : Int)) from implWin_ev ht hs k hk k (i : Int) (by omega) h2 (by omega), bnd_one, next_id (n := xs.length) (by omega) (by omega)]
      have e : rApp ((List.range i).map (fun (j : Nat) => (wS xs sz k (j : Int), (0 : Int)))) [(wS xs sz k (i : Int), 0)] = (List.range (i + 1)).map (fun (j : Nat) => (wS xs sz k (j : Int), (0 : Int))) := by
        rw [rApp_eq, List.range_succ, List.map_append]; rfl
      rw [e, rLen_eq, List.length_map, List.length_range]
      exact Yd.len (by omega) (hr _ (by omega) ⟨rfl, by omega⟩)
    · have hi2 : i = xs.length := by omega
      subst hi2
      have hget : ∀ c, 0 ≤ c → c < (xs.length : Int) → rGet (0, 0) ((List.range xs.length).map (fun (j : Nat) => (wS xs sz k (j : Int), (0 : Int)))) c = (wS xs sz k c, 0) := fun c c0 c1 => by
        obtain ⟨i, rfl⟩ : ∃ i : Nat, c = (i : Int) := ⟨c.toNat, by omega⟩
        have hi : i < ((List.range xs.length).map (fun (j : Nat) => (wS xs sz k (j : Int), (0 : Int)))).length := by rw [List.length_map, List.length_range]; omega
        rw [rGet_nat, getD_lt _ _ hi, List.getElem_map, List.getElem_range]
      refine Yd.bnd (implAlloc ht (fun c c0 c1 => (hwb c c0 c1).1) hsum k hk k 0 _ (by omega) (by omega) (by omega) (by
          simp only [treeB, rootB, Bool.and_eq_true, decide_eq_true_eq] at ht
          exact ht.2.1.2.2.1) (by rw [List.length_map, List.length_range]) (fun c c0 c1 => by unfold siz; rw [hget c c0 c1]) (fun m m0 m1 _ => by unfold bas; rw [hget m m0 m1]; have := hwb m m0 m1; show 0 ≤ (0 : Int) ∧ 0 + wS xs sz k m ≤ 1000000000; omega)) fun y hy => Yd.one ⟨rfl, ?_⟩
      have hin : ∀ m, 0 ≤ m → m < (xs.length : Int) → In xs 0 m := fun m m0 m1 => by
        obtain ⟨i, e, _⟩ := root_in ht (xs.length - 1) m m0 m1 (by omega)
        exact anc_in e
      exact win_of ht hy.len hy.siz (fun c c0 c1 => ⟨(hy.rng c c0 c1 (hin c c0 c1)).1, (hwb c c0 c1).1, (hy.rng c c0 c1 (hin c c0 c1)).2⟩) hsum (fun m m0 m1 hf => hy.laid m m0 m1 (hin m m0 m1) hf)
theorem implOwner_ev {xs : List (Int × Int × Int)} (ht : treeB xs = true) {ws : List (Int × Int)} (hw : ws.length = xs.length) (x : Int) (k : Nat) (hk : 400 < k) : Yd (impl_OwnerOfAddress.f k xs ws x) fun r => (r = -1 ∧ ∀ m, 0 ≤ m → m < (xs.length : Int) → fnc xs m ≠ 0 → covN ws x m = false) ∨ (0 ≤ r ∧ r < (xs.length : Int) ∧ fnc xs r ≠ 0 ∧ covN ws x r = true) := by
  have hl := tree_len ht
  unfold impl_OwnerOfAddress.f
  rw [areWindows_ev xs ws (by omega) k (by omega), bnd_one, decide_eq_true (⟨ht, hw⟩ : treeB xs = true ∧ ws.length = xs.length), bNot_t, brB_false, rLen_eq]
  unfold impl_OwnerOfAddress.l0
  refine iter_yd (I := fun i y => y = (xs, ws, x, (xs.length : Int), (i : Int)) ∧ i ≤ xs.length ∧ ∀ m : Int, 0 ≤ m → m < (i : Int) → fnc xs m ≠ 0 → covN ws x m = false) xs.length (fun rec i y hi hy hr => ?_) (by omega) ⟨rfl, Nat.zero_le _, fun m m0 m1 => by omega⟩
  obtain ⟨rfl, hi', hno⟩ := hy
  show Yd (impl_OwnerOfAddress.s0 k rec xs ws x (xs.length : Int) (i : Int)) _
  unfold impl_OwnerOfAddress.s0
  refine Yd.lt (fun h2 => ?_) fun h2 => Yd.one (.inl ⟨rfl, fun m m0 m1 => hno m m0 (by omega)⟩)
  have hbr : impl_isBridge.f k xs (i : Int) = some (decide (fnc xs (i : Int) = 0)) := by
    simp only [impl_isBridge.f, chk_idx, rLen_eq]
    rw [if_pos ⟨by omega, h2⟩, iEq_eq]; rfl
  rw [hbr, bnd_one, next_id (n := xs.length) (by omega) (by omega)]
  have hnext : ∀ (_ : fnc xs (i : Int) ≠ 0 → covN ws x (i : Int) = false), Yd (rec (xs, ws, x, (xs.length : Int), ((i + 1 : Nat) : Int))) fun r => (r = -1 ∧ ∀ m, 0 ≤ m → m < (xs.length : Int) → fnc xs m ≠ 0 → covN ws x m = false) ∨ (0 ≤ r ∧ r < (xs.length : Int) ∧ fnc xs r ≠ 0 ∧ covN ws x r = true) := fun hc =>
    hr _ (by omega) ⟨rfl, by omega, fun m m0 m1 hf => by
      by_cases hm : m = (i : Int)
      · rw [hm] at hf ⊢; exact hc hf
      · exact hno m m0 (by omega) hf⟩
  by_cases hf : fnc xs (i : Int) = 0
  · rw [decide_eq_true hf, bNot_t, brB_false]
    exact hnext fun h => absurd hf h
  · rw [decide_eq_false hf, bNot_f, brB_true]
    refine Yd.idx (by rw [rLen_eq, hw]; omega) ?_
    rw [implCov_eq, bnd_one, show covB (rGet (0, 0) ws (i : Int)).1 (rGet (0, 0) ws (i : Int)).2 x = covN ws x (i : Int) from rfl]
    refine Yd.br (fun hc => Yd.one (.inr ⟨by omega, h2, hf, hc⟩)) fun hc => hnext fun _ => hc
theorem wayD_par (xs : List (Int × Int × Int)) (m : Int) : ∀ i : Nat, wayD xs m (i + 1) = wayD xs (par xs m) i ++ [m]
  | 0 => rfl
  | i + 1 => by
    show anc xs (i + 1) m :: wayD xs m (i + 1) = (anc xs i (par xs m) :: wayD xs (par xs m) i) ++ [m]
    rw [wayD_par xs m i]; rfl
theorem way_up {xs : List (Int × Int × Int)} (ht : treeB xs = true) : ∀ (i f : Nat) (m : Int), 0 ≤ m → m < xs.length → i < f → anc xs i m = 0 → (upL xs f m).reverse = 0 :: wayD xs m i
  | i, 0, m, _, _, hi, _ => by omega
  | 0, f + 1, m, m0, m1, hi, e => by
    have e' : m = 0 := e
    subst e'
    have hr : (nd xs (0 : Int).toNat).1 = -1 := by
      simp only [treeB, rootB, Bool.and_eq_true, decide_eq_true_eq] at ht
      exact ht.2.1.1
    have e2 : upL xs f (-1) = [] := by
      cases f with
      | zero => rfl
      | succ f => simp only [upL]; rw [if_neg (by omega)]
    show (if 0 ≤ (0 : Int) then 0 :: upL xs f (nd xs (0 : Int).toNat).1 else []).reverse = _
    rw [if_pos (by omega), hr, e2]; rfl
  | i + 1, f + 1, m, m0, m1, hi, e => by
    have hp := par_lt ht m0 m1
    have e1 : anc xs i (par xs m) = 0 := e
    have hp0 : 0 ≤ par xs m := by
      rcases Int.lt_or_eq_of_le hp.2 with h | h
      · omega
      · rw [← h, anc_neg ht] at e1; omega
    show (if 0 ≤ m then m :: upL xs f (par xs m) else []).reverse = _
    rw [if_pos m0, List.reverse_cons, way_up ht i f (par xs m) hp0 (by omega) (by omega) e1, wayD_par]; rfl
theorem implOffset_ev {xs : List (Int × Int × Int)} (ws : List (Int × Int)) (m x : Int) (hl : ws.length ≤ 1048576) (m0 : 0 ≤ m) (m1 : m < ws.length) (hc : covN ws x m = true) (k : Nat) : impl_OffsetOf.f k ws m x = some (iSub .i64 x (bas ws m)) := by
  unfold impl_OffsetOf.f
  refine bnd_to (within_eq k _ _ _) (brF_to ?_ (chk_to (cIdx_yes (by rw [rLen_eq]; omega)) (bnd_to (implCov_eq k _ _ _) (brF_to ?_ (chk_to (cIdx_yes (by rw [rLen_eq]; omega)) rfl)))))
  · rw [rLen_eq, iSub_id (by omega) (by omega), decide_eq_true (show 0 ≤ m ∧ m ≤ (ws.length : Int) - 1 by omega)]; rfl
  · rw [show covB (rGet (0, 0) ws m).1 (rGet (0, 0) ws m).2 x = true from hc]; rfl

theorem laws_FnAddressRoutes.loop (k : Nat) (hk : 4000 < k) {xs : List (Int × Int × Int)} {sz : List Int} (ht : treeB xs = true) (hd : DrawP xs sz) {ws : List (Int × Int)} (h : Win xs (wS xs sz k) ws) (p : List Int) (hp : p.length = 12) (hb : ∀ x ∈ p, 0 ≤ x ∧ x < 10000) : laws_FnAddressRoutes.l0 k k xs sz ws p 1 = some true := by
  have hl := tree_len ht
  have hsl := hd.len
  unfold laws_FnAddressRoutes.l0
  refine iter_from (fun i => (xs, sz, ws, p, ((i + 1 : Nat) : Int))) (xs.length - 1) rfl (fun rec i hi => ?_) (fun rec => ?_) (n := k) (by omega)
  · obtain ⟨v, hv⟩ : ∃ v : Nat, v = i + 1 := ⟨_, rfl⟩
    show laws_FnAddressRoutes.s0 k rec xs sz ws p ((i + 1 : Nat) : Int) = rec (xs, sz, ws, p, ((i + 1 + 1 : Nat) : Int))
    rw [← hv]
    have hv1 : v < xs.length := by omega
    unfold laws_FnAddressRoutes.s0
    have hix : cIdx (v : Int) (rLen sz) = true := cIdx_yes (by rw [rLen_eq]; omega)
    refine brT_to (iLt_yes (by rw [rLen_eq]; omega)) (chk_to hix ?_)
    rw [next_id hv1 (by omega)]
    have hget : rGet 0 sz (v : Int) = sz[v] := getD_lt 0 _ (by omega)
    rw [hget]
    rcases size_cases hd (i := v) (by omega) with hz | ⟨hf, hz⟩
    · exact brT_to (by rw [hz]; rfl) rfl
    · have hzr : 16 ≤ sz[v] ∧ sz[v] ≤ 4096 := by omega
      have hff : fnc xs (v : Int) ≠ 0 := hf
      have hW : wS xs sz k (v : Int) = sz[v] := by
        obtain ⟨d, rfl⟩ : ∃ d, k = d + 1 := ⟨k - 1, by omega⟩
        simp only [wS, if_neg hff]
        rw [show ((v : Nat) : Int).toNat = v by omega, getD_lt 0 sz (by omega)]
      generalize sz[v] = z at hz hzr hW
      have hr12 : ∀ a : Int, 0 ≤ a → 0 ≤ iRem a 12 ∧ iRem a 12 < 12 := fun a h0 => ⟨Int.tmod_nonneg _ h0, Int.tmod_lt_of_pos _ (by omega)⟩
      have hpg : ∀ a : Int, 0 ≤ a → a < 12 → 0 ≤ rGet 0 p a ∧ rGet 0 p a < 10000 := fun a h0 h1 => by
        obtain ⟨i, rfl⟩ : ∃ i : Nat, a = (i : Int) := ⟨a.toNat, by omega⟩
        rw [rGet_nat, getD_lt 0 p (by omega)]
        exact hb _ (List.getElem_mem _)
      have hi1 := hr12 (v : Int) (by omega)
      have hg1 := hpg _ hi1.1 hi1.2
      have hc1 : cIdx (iRem (v : Int) 12) (rLen p) = true := cIdx_yes (by rw [rLen_eq, hp]; exact hi1)
      have hi2 := hr12 (iAdd .i64 (v : Int) 5) (by rw [iAdd_id (by omega) (by omega)]; omega)
      have hg2 := hpg _ hi2.1 hi2.2
      have hc2 : cIdx (iRem (iAdd .i64 (v : Int) 5) 12) (rLen p) = true := cIdx_yes (by rw [rLen_eq, hp]; exact hi2)
      generalize rGet 0 p (iRem (v : Int) 12) = p1 at hg1
      generalize rGet 0 p (iRem (iAdd .i64 (v : Int) 5) 12) = p2 at hg2
      have hq : 0 ≤ iRem p1 z ∧ iRem p1 z < z := ⟨Int.tmod_nonneg _ hg1.1, Int.tmod_lt_of_pos _ (by omega)⟩
      have hfr : 0 ≤ iRem p2 (rLen xs) ∧ iRem p2 (rLen xs) < xs.length := ⟨Int.tmod_nonneg _ hg2.1, Int.tmod_lt_of_pos _ (by rw [rLen_eq]; omega)⟩
      generalize iRem p1 z = q at hq
      generalize iRem p2 (rLen xs) = fr at hfr
      have hbs : ((rGet (0, 0) ws (v : Int)).2) = bas ws (v : Int) := rfl
      have hrng := h.rng (v : Int) (by omega) (by omega)
      rw [hW] at hrng
      rw [hbs, iAdd_id (a := bas ws (v : Int)) (b := q) (by omega) (by omega)]
      have hx : 0 ≤ bas ws (v : Int) + q ∧ bas ws (v : Int) + q ≤ 1000000000 := by omega
      have hcv : covN ws (bas ws (v : Int) + q) (v : Int) = true := (win_cov h hx (by omega) (by omega)).2 (by rw [hW]; omega)
      generalize hxe : bas ws (v : Int) + q = x at hx hcv
      have hzn : cNz z = true := by simp only [cNz]; exact bne_iff_ne.2 (by omega)
      have hix2 : cIdx (v : Int) (rLen ws) = true := cIdx_yes (by rw [rLen_eq, h.len]; omega)
      obtain ⟨r, eo, hr⟩ := implOwner_ev ht h.len x k (by omega)
      have hrv : r = (v : Int) := by
        rcases hr with ⟨_, hno⟩ | ⟨r0, r1, hfr, hcr⟩
        · rw [hno (v : Int) (by omega) (by omega) hff] at hcv; cases hcv
        · obtain ⟨d, _, e⟩ := win_dev ht h hx r0 r1 (by omega) (by omega) hff hcr hcv
          exact (in_dev ht r0 (by omega) (by omega) hfr (anc_in e)).symm
      subst hrv
      obtain ⟨d, hdl, ed, edn⟩ := win_downT ht h hx (m := (v : Int)) (by omega) (by omega) hff hcv
      have epath : pathT xs (v : Int) = downT xs ws x := by
        rw [edn]
        unfold pathT
        rw [ht, decide_eq_true (show 0 ≤ (v : Int) ∧ (v : Int) ≤ (xs.length : Int) - 1 by omega), if_pos (show (true && true) = true from rfl)]
        exact way_up ht d xs.length (v : Int) (by omega) (by omega) hdl ed
      have hdlen := downT_len xs ws x
      obtain ⟨l, el, elast⟩ := win_route ht h hx (m := (v : Int)) (by omega) (by omega) hff hcv xs.length fr [] hfr.1 hfr.2 hfr.2
      have eroute : routeT xs ws fr x = fr :: l := by
        unfold routeT
        rw [if_pos ⟨by rw [edn]; simp, by omega, by omega⟩, el]; rfl
      have hrl : (routeT xs ws fr x).length ≤ 25 := routeT_len xs ws fr x
      rw [eroute, List.length_cons] at hrl
      refine brF_to (by simp only [iEq]; exact beq_false_of_ne (by omega)) (chk_to hix2 (chk_to rfl (chk_to hc1 (chk_to hix (chk_to hzn (bnd_to eo (brF_to (iNe_self _) (bnd_to (implDownTo_ev xs ws x (by omega) k (by omega)) (bnd_to (implPathTo_ev xs (v : Int) (by omega) k (by omega)) ?_)))))))))
      rw [epath]
      refine bnd_to (sameInts_refl _ (by omega) k (by omega)) (brF_to bNot_t (bnd_to (implOffset_ev (xs := xs) ws (v : Int) x (by rw [h.len]; omega) (by omega) (by rw [h.len]; omega) hcv k) ?_))
      rw [iSub_id (a := x) (b := bas ws (v : Int)) (by omega) (by omega)]
      refine chk_to rfl (chk_to hc1 (chk_to hix (chk_to hzn (brF_to (iNe_no (by omega)) (chk_to rfl (chk_to hc2 (chk_to (by simp only [cNz, rLen_eq]; exact bne_iff_ne.2 (by omega)) (bnd_to (implRouteTo_ev xs ws fr x (by omega) k (by omega)) ?_))))))))
      rw [eroute]
      have hlen : rLen (fr :: l) = ((l.length + 1 : Nat) : Int) := by rw [rLen_eq, List.length_cons]
      rw [hlen, iSub_id (by omega) (by omega)]
      refine brF_to (by simp only [iEq]; exact beq_false_of_ne (by omega)) (chk_to (cIdx_yes (by omega)) (brF_to (iNe_no rfl) (chk_to (cIdx_yes (by omega)) (brF_to (iNe_no ?_) ?_))))
      · have e3 : (fr :: l)[l.length]? = some (v : Int) := by
          rw [List.getLast?_eq_getElem?, List.length_cons, show l.length + 1 - 1 = l.length by omega] at elast
          exact elast
        rw [show ((l.length + 1 : Nat) : Int) - 1 = (l.length : Int) by omega, rGet_nat, List.getD_eq_getElem?_getD, e3]; rfl
      · rfl
  · unfold laws_FnAddressRoutes.s0
    exact brF_to (iLt_no (by rw [rLen_eq]; show (xs.length : Int) ≤ ((xs.length - 1 + 1 : Nat) : Int); omega)) rfl
theorem laws_FnAddressRoutes.main (c : List Int) : ∃ k, laws_FnAddressRoutes.f k c = some true := by
  refine ⟨5000, ?_⟩
  generalize hk : 5000 = k
  by_cases hc : 1048576 < (c.length : Int)
  · have hb : laws_big.f k c = some true := by
      simp only [laws_big.f, rLen_eq]; rw [iLt_yes (by omega)]
    exact bnd_to hb (brT_to rfl rfl)
  · have hb : laws_big.f k c = some false := by
      simp only [laws_big.f, rLen_eq]; rw [iLt_no (by omega)]
    obtain ⟨xs, sz, ed, ht, hd⟩ := drawSizes_ev k (by omega) c (by omega)
    obtain ⟨a, ea⟩ := specAllocate_ev ht hd k (by omega)
    obtain ⟨p, ep, lp, bp⟩ := drawPlaces_ev c (by omega) k (by omega)
    refine bnd_to hb (brF_to rfl (bnd_to ed (bnd_to ea ?_)))
    by_cases h : wS xs sz k 0 ≤ 65536
    · obtain ⟨ws, ei, hw⟩ := implAllocate_ev ht hd k (by omega) h
      refine brF_to (by dsimp only; rw [decide_eq_true h]; rfl) (bnd_to ei (bnd_to ep (brF_to rfl (brF_to (iNe_no (by rw [rLen_eq, rLen_eq]; exact congrArg Int.ofNat hw.len)) ?_))))
      exact laws_FnAddressRoutes.loop k (by omega) ht hd hw p lp bp
    · exact brT_to (by dsimp only; rw [decide_eq_false h]; rfl) rfl
theorem laws_FnAddressRoutes.pure : ∀ x : laws_FnAddressRoutes.sig.inTy.T, Good laws_FnAddressRoutes.sig.inTy x → ∃ k, laws_FnAddressRoutes.spec.fn k x = some true := by
  rintro c ⟨hc, _⟩
  exact laws_FnAddressRoutes.main c
end Go.Proofs.YtpggnojbbibnnaaT

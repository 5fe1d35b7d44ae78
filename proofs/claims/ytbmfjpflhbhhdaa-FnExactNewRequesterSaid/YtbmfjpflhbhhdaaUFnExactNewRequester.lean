/- What the functions of FnExactNewRequester give, in plain terms. -/
import Derived.Test.YtbmfjpflhbhhdaaFFnExactNewRequester
import Derived.Test.YtbmfjpflhbhhdaaTiPL
set_option linter.unusedVariables false
set_option linter.unusedSimpArgs false
set_option maxRecDepth 100000
namespace Go.Proofs.YtbmfjpflhbhhdaaT
open Go
theorem iLe_eq (a b : Int) : iLe a b = decide (a ≤ b) := rfl
theorem iLt_eq (a b : Int) : iLt a b = decide (a < b) := rfl
theorem iEq_eq (a b : Int) : iEq a b = decide (a = b) := by by_cases h : a = b <;> simp [iEq, h]
theorem iNe_eq (a b : Int) : iNe a b = !decide (a = b) := by by_cases h : a = b <;> simp [iNe, h]
theorem bNot_eq (a : Bool) : bNot a = !a := rfl
theorem getD_lt {α : Type} (d : α) (xs : List α) {i : Nat} (h : i < xs.length) : xs.getD i d = xs[i] := by
  rw [List.getD_eq_getElem?_getD, List.getElem?_eq_getElem h]; rfl
theorem bEq_eq (a b : Bool) : bEq a b = decide (a = b) := by cases a <;> cases b <;> rfl
theorem bNe_eq (a b : Bool) : bNe a b = !decide (a = b) := by cases a <;> cases b <;> rfl
theorem brB_nb {R : Type} (b : Bool) (x y : Option R) : brB (!b) x y = brB b y x := by cases b <;> rfl
theorem brB_dec {R : Type} (p : Prop) [Decidable p] (x y : Option R) : brB (decide p) x y = if p then x else y := by by_cases h : p <;> simp [h, brB]
theorem if_idx {R : Type} {i n : Nat} {x : Option R} (h : i < n) : (if 0 ≤ (i : Int) ∧ (i : Int) < (n : Int) then x else none) = x := if_pos (by omega)
theorem eqIntS_refl (xs : List Int) (hn : xs.length ≤ 4611686018427387904) (k : Nat) (hk : xs.length < k) : laws_eqIntS.f k xs xs = some true := by
  simp only [laws_eqIntS.f, laws_eqIntS.l0, iLt_eq, iLe_eq, iEq_eq, iNe_eq, bNot_eq, bEq_eq, bNe_eq, brB_nb, brB_dec, brB_true, brB_false, chk_idx, chk_len, chk_make, chk_sub, bnd_one, rLen_eq, rGet_nat, rSet_nat, rApp_eq, ↓reduceIte]
  refine iter_upto (f := fun (rec : (List Int × List Int × Int) → Option Bool) (x : List Int × List Int × Int) => laws_eqIntS.s0 k rec x.1 x.2.1 x.2.2) (fun i => (xs, xs, (i : Int))) xs.length (fun rec i hi => ?_) (fun rec => ?_) hk
  · simp only [laws_eqIntS.s0, iLt_eq, iLe_eq, iEq_eq, iNe_eq, bNot_eq, bEq_eq, bNe_eq, brB_nb, brB_dec, brB_true, brB_false, chk_idx, chk_len, chk_make, chk_sub, bnd_one, rLen_eq, rGet_nat, rSet_nat, rApp_eq, ↓reduceIte]
    rw [if_pos (by omega), if_idx hi, if_idx hi, next_id hi hn]
  · simp only [laws_eqIntS.s0, iLt_eq, iLe_eq, iEq_eq, iNe_eq, bNot_eq, bEq_eq, bNe_eq, brB_nb, brB_dec, brB_true, brB_false, chk_idx, chk_len, chk_make, chk_sub, bnd_one, rLen_eq, rGet_nat, rSet_nat, rApp_eq, ↓reduceIte]
    rw [if_neg (by omega)]
/-- The marks of a row of numbers. -/
def marks (m : Int) (n : Nat) : List Int := (List.range n).map fun (j : Nat) => m + (j : Int)
theorem eqGather_refl (a b c : Int) (l : List Int) (e : Int) (hl : l.length ≤ 4611686018427387904) (k : Nat) (hk : l.length < k) : laws_eqGather.f k a b c l e a b c l e = some true := by
  simp only [laws_eqGather.f, eqIntS_refl l hl k hk, iLt_eq, iLe_eq, iEq_eq, iNe_eq, bNot_eq, bEq_eq, bNe_eq, brB_nb, brB_dec, brB_true, brB_false, chk_idx, chk_len, chk_make, chk_sub, bnd_one, rLen_eq, rGet_nat, rSet_nat, rApp_eq, ↓reduceIte, decide_true]
theorem eqBoolS_refl (xs : List Bool) (hn : xs.length ≤ 4611686018427387904) (k : Nat) (hk : xs.length < k) : laws_eqBoolS.f k xs xs = some true := by
  simp only [laws_eqBoolS.f, laws_eqBoolS.l0, iLt_eq, iLe_eq, iEq_eq, iNe_eq, bNot_eq, bEq_eq, bNe_eq, brB_nb, brB_dec, brB_true, brB_false, chk_idx, chk_len, chk_make, chk_sub, bnd_one, rLen_eq, rGet_nat, rSet_nat, rApp_eq, ↓reduceIte]
  refine iter_upto (f := fun (rec : (List Bool × List Bool × Int) → Option Bool) (x : List Bool × List Bool × Int) => laws_eqBoolS.s0 k rec x.1 x.2.1 x.2.2) (fun i => (xs, xs, (i : Int))) xs.length (fun rec i hi => ?_) (fun rec => ?_) hk
  · simp only [laws_eqBoolS.s0, iLt_eq, iLe_eq, iEq_eq, iNe_eq, bNot_eq, bEq_eq, bNe_eq, brB_nb, brB_dec, brB_true, brB_false, chk_idx, chk_len, chk_make, chk_sub, bnd_one, rLen_eq, rGet_nat, rSet_nat, rApp_eq, ↓reduceIte]
    rw [if_pos (by omega), if_idx hi, if_idx hi, next_id hi hn]
  · simp only [laws_eqBoolS.s0, iLt_eq, iLe_eq, iEq_eq, iNe_eq, bNot_eq, bEq_eq, bNe_eq, brB_nb, brB_dec, brB_true, brB_false, chk_idx, chk_len, chk_make, chk_sub, bnd_one, rLen_eq, rGet_nat, rSet_nat, rApp_eq, ↓reduceIte]
    rw [if_neg (by omega)]
/-- The marks of a row of answers. -/
def bmarks (m : Int) (n : Nat) : List Bool := (List.range n).map fun (j : Nat) => decide (iRem (m + (j : Int)) 3 = 0)
theorem bmarks_len (m : Int) (n : Nat) : (bmarks m n).length = n := by simp [bmarks]
theorem markBoolS_ev (xs : List Bool) (m : Int) (hn : xs.length ≤ 1000000000000) (h0 : 0 ≤ m) (h1 : m ≤ 1000000000000) (k : Nat) (hk : xs.length < k) : laws_markBoolS.f k xs m = some (m + xs.length, bmarks m xs.length) := by
  simp only [laws_markBoolS.f, laws_markBoolS.l0]
  have h := iter_upto (f := fun (rec : (List Bool × Int × Int) → Option (Int × List Bool)) (x : List Bool × Int × Int) => laws_markBoolS.s0 k rec x.1 x.2.1 x.2.2)
    (fun i => (fill (fun (j : Nat) => decide (iRem (m + (j : Int)) 3 = 0)) xs i, m + (i : Int), (i : Int))) xs.length (r := (m + xs.length, bmarks m xs.length)) (fun rec i hi => ?_) (fun rec => ?_) hk
  · rw [fill_zero] at h; simpa using h
  · simp only [laws_markBoolS.s0, fill_len (Nat.le_of_lt hi), chk_nz, Int.reduceEq, iLt_eq, iLe_eq, iEq_eq, iNe_eq, bNot_eq, bEq_eq, bNe_eq, brB_nb, brB_dec, brB_true, brB_false, chk_idx, chk_len, chk_make, chk_sub, bnd_one, rLen_eq, rGet_nat, rSet_nat, rApp_eq, ↓reduceIte]
    rw [if_pos (by omega), if_idx hi, fill_set hi, next_id hi (by omega), iAdd_id (by omega) (by omega)]
    congr 3
    omega
  · simp only [laws_markBoolS.s0, fill_end, List.length_map, List.length_range, iLt_eq, iLe_eq, iEq_eq, iNe_eq, bNot_eq, bEq_eq, bNe_eq, brB_nb, brB_dec, brB_true, brB_false, chk_idx, chk_len, chk_make, chk_sub, bnd_one, rLen_eq, rGet_nat, rSet_nat, rApp_eq, ↓reduceIte]
    rw [if_neg (by omega)]
    rfl
theorem heldBoolS_ev (n : Nat) (m : Int) (hn : n ≤ 1000000000000) (h0 : 0 ≤ m) (h1 : m ≤ 1000000000000) (k : Nat) (hk : n < k) : laws_heldBoolS.f k (bmarks m n) m = some (m + n) := by
  simp only [laws_heldBoolS.f, laws_heldBoolS.l0]
  have h := iter_upto (f := fun (rec : (List Bool × Int × Int) → Option Int) (x : List Bool × Int × Int) => laws_heldBoolS.s0 k rec x.1 x.2.1 x.2.2)
    (fun i => (bmarks m n, m + (i : Int), (i : Int))) n (r := m + n) (fun rec i hi => ?_) (fun rec => ?_) hk
  · simpa using h
  · simp only [laws_heldBoolS.s0, bmarks_len, chk_nz, Int.reduceEq, iLt_eq, iLe_eq, iEq_eq, iNe_eq, bNot_eq, bEq_eq, bNe_eq, brB_nb, brB_dec, brB_true, brB_false, chk_idx, chk_len, chk_make, chk_sub, bnd_one, rLen_eq, rGet_nat, rSet_nat, rApp_eq, ↓reduceIte]
    rw [if_pos (by omega), if_idx hi, bmarks, range_get n hi, if_pos rfl, next_id hi (by omega), iAdd_id (by omega) (by omega)]
    congr 3
    omega
  · simp only [laws_heldBoolS.s0, bmarks_len, iLt_eq, iLe_eq, iEq_eq, iNe_eq, bNot_eq, bEq_eq, bNe_eq, brB_nb, brB_dec, brB_true, brB_false, chk_idx, chk_len, chk_make, chk_sub, bnd_one, rLen_eq, rGet_nat, rSet_nat, rApp_eq, ↓reduceIte]
    rw [if_neg (by omega)]
/-- How many numbers nested rows have. -/
def rSum {α : Type} (z : α → Nat) (l : List α) : Nat := (l.map z).sum
theorem rSum_cons {α : Type} (z : α → Nat) (x : α) (l : List α) : rSum z (x :: l) = z x + rSum z l := by simp [rSum]
theorem rSum_le {α : Type} {z : α → Nat} {l : List α} {x : α} (h : x ∈ l) : z x ≤ rSum z l := by
  induction l with
  | nil => cases h
  | cons y l ih =>
    rw [rSum_cons]
    rcases List.mem_cons.1 h with rfl | h
    · omega
    · have := ih h; omega
def gGot (g : Int × Int × Int × List Int × Int) : Nat := g.2.2.2.1.length
def wGot (w : Int × Int × Int × List Int × Int × Int) : Nat := w.2.2.2.1.length
/-- The size of a requester. -/
def rqSize (b : List Bool) (o : List (Int × Int × Int × List Int × Int × Int)) (e : List (Int × Int × Int × List Int × Int)) : Int := (b.length : Int) + (o.length + rSum wGot o) + (e.length + rSum gGot e)
theorem eqGatherS_refl (xs : List (Int × Int × Int × List Int × Int)) (hn : xs.length ≤ 1048576) (hz : ∀ x ∈ xs, gGot x ≤ 1048576) (k : Nat) (hk : xs.length + 1048576 < k) : laws_eqGatherS.f k xs xs = some true := by
  simp only [laws_eqGatherS.f, laws_eqGatherS.l0, iNe_eq, decide_true, Bool.not_true, brB_false]
  refine iter_upto (f := fun (rec : ((List (Int × Int × Int × (List Int) × Int)) × (List (Int × Int × Int × (List Int) × Int)) × Int) → Option (Bool)) (x : (List (Int × Int × Int × (List Int) × Int)) × (List (Int × Int × Int × (List Int) × Int)) × Int) => laws_eqGatherS.s0 k rec x.1 x.2.1 x.2.2) (fun i => (xs, xs, (i : Int))) xs.length (fun rec i hi => ?_) (fun rec => ?_) (by omega)
  · have e : rGet (0, 0, 0, [], 0) xs (i : Int) = xs[i] := getD_lt _ _ hi
    have hg := hz _ (List.getElem_mem hi)
    simp only [laws_eqGatherS.s0, e, iLt_eq, brB_dec, chk_idx, rLen_eq]
    rw [if_pos (by omega), if_idx hi, if_idx hi, eqGather_refl _ _ _ _ _ (by unfold gGot at hg; omega) k (by unfold gGot at hg; omega), next_id hi (by omega)]; rfl
  · simp only [laws_eqGatherS.s0, iLt_eq, brB_dec, rLen_eq]
    rw [if_neg (by omega)]
theorem eqWaitingS_refl (xs : List (Int × Int × Int × List Int × Int × Int)) (hn : xs.length ≤ 1048576) (hz : ∀ x ∈ xs, wGot x ≤ 1048576) (k : Nat) (hk : xs.length + 1048576 < k) : laws_eqWaitingS.f k xs xs = some true := by
  simp only [laws_eqWaitingS.f, laws_eqWaitingS.l0, iNe_eq, decide_true, Bool.not_true, brB_false]
  refine iter_upto (f := fun (rec : ((List (Int × Int × Int × (List Int) × Int × Int)) × (List (Int × Int × Int × (List Int) × Int × Int)) × Int) → Option (Bool)) (x : (List (Int × Int × Int × (List Int) × Int × Int)) × (List (Int × Int × Int × (List Int) × Int × Int)) × Int) => laws_eqWaitingS.s0 k rec x.1 x.2.1 x.2.2) (fun i => (xs, xs, (i : Int))) xs.length (fun rec i hi => ?_) (fun rec => ?_) (by omega)
  · have e : rGet (0, 0, 0, [], 0, 0) xs (i : Int) = xs[i] := getD_lt _ _ hi
    have hg := hz _ (List.getElem_mem hi)
    simp only [laws_eqWaitingS.s0, laws_eqWaiting.f, e, iLt_eq, iNe_eq, decide_true, Bool.not_true, brB_false, brB_dec, chk_idx, rLen_eq]
    rw [if_pos (by omega), if_idx hi, if_idx hi, eqGather_refl _ _ _ _ _ (by unfold wGot at hg; omega) k (by unfold wGot at hg; omega), next_id hi (by omega)]; rfl
  · simp only [laws_eqWaitingS.s0, iLt_eq, brB_dec, rLen_eq]
    rw [if_neg (by omega)]
theorem eqRequester_refl (id : Int) (b : List Bool) (o : List (Int × Int × Int × List Int × Int × Int)) (e : List (Int × Int × Int × List Int × Int)) (h : rqSize b o e ≤ 1048576) (k : Nat) (hk : 3000000 < k) : laws_eqRequester.f k id b o e id b o e = some true := by
  unfold rqSize at h
  simp only [laws_eqRequester.f, laws_eqTags.f, eqBoolS_refl b (by omega) k (by omega), eqWaitingS_refl o (by omega) (fun x hx => by have := rSum_le (z := wGot) hx; omega) k (by omega), eqGatherS_refl e (by omega) (fun x hx => by have := rSum_le (z := gGot) hx; omega) k (by omega), bnd_one, iNe_eq, decide_true, bNot_eq, Bool.not_true, brB_false]
theorem laws_FnExactNewRequester.main (id : Int) : ∃ k, laws_FnExactNewRequester.f k id = some true := by
  refine ⟨3000001, ?_⟩
  generalize hk : 3000001 = k
  have n1 : impl_NewTags.f k = some (List.replicate 8 false) := by
    simp only [impl_NewTags.f, chk_make]
    rw [if_pos (by omega)]; rfl
  have n2 : spec_NewTags.f k = some (List.replicate 8 false) := by
    simp only [spec_NewTags.f, chk_make]
    rw [if_pos (by omega)]; rfl
  have i1 : impl_NewRequester.f k id = some (id, List.replicate 8 false, [], []) := by simp only [impl_NewRequester.f, n1, bnd_one]
  have i2 : spec_NewRequester.f k id = some (id, List.replicate 8 false, [], []) := by simp only [spec_NewRequester.f, n2, bnd_one]
  have q := eqRequester_refl id (List.replicate 8 false) [] [] (by decide) k (by omega)
  have mb := markBoolS_ev (List.replicate 8 false) 1 (by simp) (by omega) (by omega) k (by simp; omega)
  have hb := heldBoolS_ev 8 1 (by omega) (by omega) (by omega) k (by omega)
  obtain ⟨k', hk'⟩ : ∃ k', k = k' + 1 := ⟨k - 1, by omega⟩
  have w1 : ∀ m, laws_markWaitingS.f k [] m = some (m, []) := fun m => by rw [hk']; rfl
  have w2 : ∀ m, laws_markGatherS.f k [] m = some (m, []) := fun m => by rw [hk']; rfl
  have w3 : ∀ m, laws_heldWaitingS.f k [] m = some m := fun m => by rw [hk']; rfl
  have w4 : ∀ m, laws_heldGatherS.f k [] m = some m := fun m => by rw [hk']; rfl
  rw [List.length_replicate] at mb
  have m1 : laws_markRequester.f k id (List.replicate 8 false) [] [] 1 = some (9, bmarks 1 8, [], []) := by
    simp only [laws_markRequester.f, laws_markTags.f, mb, w1, w2, bnd_one]; rfl
  have h1 : laws_heldRequester.f k id (bmarks 1 8) [] [] 1 = some 9 := by
    simp only [laws_heldRequester.f, laws_heldTags.f, hb, w3, w4, bnd_one, iLt_eq, brB_dec]
    rfl
  simp only [laws_FnExactNewRequester.f, i1, i2, q, m1, h1, bnd_one, iLt_eq, iNe_eq, bNot_eq, Bool.not_true, brB_false, decide_true]
  rfl
theorem laws_FnExactNewRequester.pure : ∀ x : laws_FnExactNewRequester.sig.inTy.T, Good laws_FnExactNewRequester.sig.inTy x → ∃ k, laws_FnExactNewRequester.spec.fn k x = some true :=
  fun id _ => laws_FnExactNewRequester.main id
end Go.Proofs.YtbmfjpflhbhhdaaT

/- What the functions of FnExactSeenBefore give, in plain terms. -/
import Derived.Test.YtmbmapbdbbnaeaaFFnExactSeenBefore
import Derived.Test.YtmbmapbdbbnaeaaTiPL
set_option linter.unusedVariables false
set_option linter.unusedSimpArgs false
set_option maxRecDepth 100000
namespace Go.Proofs.YtmbmapbdbbnaeaaT
open Go
theorem bnd_to {A R : Type} {x : Option A} {a : A} {f : A → Option R} {r : Option R} (h : x = some a) (g : f a = r) : bnd x f = r := by rw [h]; exact g
theorem brF_to {R : Type} {b : Bool} {x y r : Option R} (h : b = false) (g : y = r) : brB b x y = r := by rw [h]; exact g
theorem brT_to {R : Type} {b : Bool} {x y r : Option R} (h : b = true) (g : x = r) : brB b x y = r := by rw [h]; exact g
theorem iNe_self (a : Int) : iNe a a = false := by simp [iNe]
theorem bNot_t : bNot true = false := rfl
theorem iLt_no {a b : Int} (h : b ≤ a) : iLt a b = false := by simp [iLt, h]
theorem iLt_yes {a b : Int} (h : a < b) : iLt a b = true := by simp [iLt, h]
theorem iLe_eq (a b : Int) : iLe a b = decide (a ≤ b) := rfl
theorem iLt_eq (a b : Int) : iLt a b = decide (a < b) := rfl
theorem iEq_eq (a b : Int) : iEq a b = decide (a = b) := by by_cases h : a = b <;> simp [iEq, h]
theorem iNe_eq (a b : Int) : iNe a b = !decide (a = b) := by by_cases h : a = b <;> simp [iNe, h]
theorem bNot_eq (a : Bool) : bNot a = !a := rfl
theorem getD_lt {α : Type} (d : α) (xs : List α) {i : Nat} (h : i < xs.length) : xs.getD i d = xs[i] := by
  rw [List.getD_eq_getElem?_getD, List.getElem?_eq_getElem h]; rfl
theorem bEq_eq (a b : Bool) : bEq a b = decide (a = b) := by cases a <;> cases b <;> rfl
theorem bNe_eq (a b : Bool) : bNe a b = !decide (a = b) := by cases a <;> cases b <;> rfl
theorem brB_nb {R : Type} (b : Bool) (x y : Option R) : brB (!b) x y = brB b y x := by cases b <;> rfl
theorem brB_dec {R : Type} (p : Prop) [Decidable p] (x y : Option R) : brB (decide p) x y = if p then x else y := by by_cases h : p <;> simp [h, brB]
theorem if_idx {R : Type} {i n : Nat} {x : Option R} (h : i < n) : (if 0 ≤ (i : Int) ∧ (i : Int) < (n : Int) then x else none) = x := if_pos (by omega)
theorem szIntS_eq (k : Nat) (l : List Int) (n : Int) (hl : l.length ≤ 9223372036854775807) (h0 : 0 ≤ n) (h1 : n ≤ 1048576) : laws_szIntS.f k l n = some (if (l.length : Int) ≤ n then n - l.length else -1) := by
  simp only [laws_szIntS.f, iLt_eq, iLe_eq, iEq_eq, iNe_eq, bNot_eq, bEq_eq, bNe_eq, brB_nb, brB_dec, brB_true, brB_false, chk_idx, chk_len, chk_make, chk_sub, bnd_one, rLen_eq, rGet_nat, rSet_nat, rApp_eq, ↓reduceIte]
  rw [iSub_id (by omega) (by omega)]
  by_cases h : (l.length : Int) ≤ n
  · rw [if_neg (by omega), if_pos h]
  · rw [if_pos (by omega), if_neg h]
theorem toIntS_ev (xs : List Int) (hn : xs.length ≤ 1048576) (k : Nat) (hk : xs.length < k) : laws_toIntS.f k xs = some xs := by
  simp only [laws_toIntS.f, laws_toIntS.l0, iLt_eq, iLe_eq, iEq_eq, iNe_eq, bNot_eq, bEq_eq, bNe_eq, brB_nb, brB_dec, brB_true, brB_false, chk_idx, chk_len, chk_make, chk_sub, bnd_one, rLen_eq, rGet_nat, rSet_nat, rApp_eq, ↓reduceIte]
  rw [if_pos (by omega), rRep_nat]
  have h := iter_upto (f := fun (rec : (List Int × List Int × Int) → Option (List Int)) (x : List Int × List Int × Int) => laws_toIntS.s0 k rec x.1 x.2.1 x.2.2)
    (fun i => (xs, fill (fun j => xs.getD j 0) (List.replicate xs.length 0) i, (i : Int))) xs.length (r := xs) (fun rec i hi => ?_) (fun rec => ?_) hk
  · rw [fill_zero] at h; exact h
  · simp only [laws_toIntS.s0, fill_len (show i ≤ (List.replicate xs.length (0:Int)).length by simp; omega), List.length_replicate, iLt_eq, iLe_eq, iEq_eq, iNe_eq, bNot_eq, bEq_eq, bNe_eq, brB_nb, brB_dec, brB_true, brB_false, chk_idx, chk_len, chk_make, chk_sub, bnd_one, rLen_eq, rGet_nat, rSet_nat, rApp_eq, ↓reduceIte]
    rw [if_pos (by omega), if_idx hi, if_idx hi, fill_set (by simpa using hi), next_id hi (by omega)]
  · have h2 := fill_end (g := fun j => xs.getD j 0) (xs := List.replicate xs.length (0 : Int))
    rw [List.length_replicate] at h2
    simp only [laws_toIntS.s0, h2, range_getD, iLt_eq, iLe_eq, iEq_eq, iNe_eq, bNot_eq, bEq_eq, bNe_eq, brB_nb, brB_dec, brB_true, brB_false, chk_idx, chk_len, chk_make, chk_sub, bnd_one, rLen_eq, rGet_nat, rSet_nat, rApp_eq, ↓reduceIte]
    rw [if_neg (by omega)]
theorem eqIntS_refl (xs : List Int) (hn : xs.length ≤ 4611686018427387904) (k : Nat) (hk : xs.length < k) : laws_eqIntS.f k xs xs = some true := by
  simp only [laws_eqIntS.f, laws_eqIntS.l0, iLt_eq, iLe_eq, iEq_eq, iNe_eq, bNot_eq, bEq_eq, bNe_eq, brB_nb, brB_dec, brB_true, brB_false, chk_idx, chk_len, chk_make, chk_sub, bnd_one, rLen_eq, rGet_nat, rSet_nat, rApp_eq, ↓reduceIte]
  refine iter_upto (f := fun (rec : (List Int × List Int × Int) → Option Bool) (x : List Int × List Int × Int) => laws_eqIntS.s0 k rec x.1 x.2.1 x.2.2) (fun i => (xs, xs, (i : Int))) xs.length (fun rec i hi => ?_) (fun rec => ?_) hk
  · simp only [laws_eqIntS.s0, iLt_eq, iLe_eq, iEq_eq, iNe_eq, bNot_eq, bEq_eq, bNe_eq, brB_nb, brB_dec, brB_true, brB_false, chk_idx, chk_len, chk_make, chk_sub, bnd_one, rLen_eq, rGet_nat, rSet_nat, rApp_eq, ↓reduceIte]
    rw [if_pos (by omega), if_idx hi, if_idx hi, next_id hi hn]
  · simp only [laws_eqIntS.s0, iLt_eq, iLe_eq, iEq_eq, iNe_eq, bNot_eq, bEq_eq, bNe_eq, brB_nb, brB_dec, brB_true, brB_false, chk_idx, chk_len, chk_make, chk_sub, bnd_one, rLen_eq, rGet_nat, rSet_nat, rApp_eq, ↓reduceIte]
    rw [if_neg (by omega)]
/-- The marks of a row of numbers. -/
def marks (m : Int) (n : Nat) : List Int := (List.range n).map fun (j : Nat) => m + (j : Int)
theorem marks_len (m : Int) (n : Nat) : (marks m n).length = n := by simp [marks]
theorem markIntS_ev (xs : List Int) (m : Int) (hn : xs.length ≤ 1000000000000) (h0 : 0 ≤ m) (h1 : m ≤ 1000000000000) (k : Nat) (hk : xs.length < k) : laws_markIntS.f k xs m = some (m + xs.length, marks m xs.length) := by
  simp only [laws_markIntS.f, laws_markIntS.l0]
  have h := iter_upto (f := fun (rec : (List Int × Int × Int) → Option (Int × List Int)) (x : List Int × Int × Int) => laws_markIntS.s0 k rec x.1 x.2.1 x.2.2)
    (fun i => (fill (fun (j : Nat) => m + (j : Int)) xs i, m + (i : Int), (i : Int))) xs.length (r := (m + xs.length, marks m xs.length)) (fun rec i hi => ?_) (fun rec => ?_) hk
  · rw [fill_zero] at h; simpa using h
  · simp only [laws_markIntS.s0, fill_len (Nat.le_of_lt hi), iLt_eq, iLe_eq, iEq_eq, iNe_eq, bNot_eq, bEq_eq, bNe_eq, brB_nb, brB_dec, brB_true, brB_false, chk_idx, chk_len, chk_make, chk_sub, bnd_one, rLen_eq, rGet_nat, rSet_nat, rApp_eq, ↓reduceIte]
    rw [if_pos (by omega), if_idx hi, fill_set hi, next_id hi (by omega), iAdd_id (by omega) (by omega)]
    congr 3
    omega
  · simp only [laws_markIntS.s0, fill_end, List.length_map, List.length_range, iLt_eq, iLe_eq, iEq_eq, iNe_eq, bNot_eq, bEq_eq, bNe_eq, brB_nb, brB_dec, brB_true, brB_false, chk_idx, chk_len, chk_make, chk_sub, bnd_one, rLen_eq, rGet_nat, rSet_nat, rApp_eq, ↓reduceIte]
    rw [if_neg (by omega)]
    rfl
theorem heldIntS_ev (n : Nat) (m : Int) (hn : n ≤ 1000000000000) (h0 : 0 ≤ m) (h1 : m ≤ 1000000000000) (k : Nat) (hk : n < k) : laws_heldIntS.f k (marks m n) m = some (m + n) := by
  simp only [laws_heldIntS.f, laws_heldIntS.l0]
  have h := iter_upto (f := fun (rec : (List Int × Int × Int) → Option Int) (x : List Int × Int × Int) => laws_heldIntS.s0 k rec x.1 x.2.1 x.2.2)
    (fun i => (marks m n, m + (i : Int), (i : Int))) n (r := m + n) (fun rec i hi => ?_) (fun rec => ?_) hk
  · simpa using h
  · simp only [laws_heldIntS.s0, marks_len, iLt_eq, iLe_eq, iEq_eq, iNe_eq, bNot_eq, bEq_eq, bNe_eq, brB_nb, brB_dec, brB_true, brB_false, chk_idx, chk_len, chk_make, chk_sub, bnd_one, rLen_eq, rGet_nat, rSet_nat, rApp_eq, ↓reduceIte]
    rw [if_pos (by omega), if_idx hi, marks, range_get n hi, if_pos rfl, next_id hi (by omega), iAdd_id (by omega) (by omega)]
    congr 3
    omega
  · simp only [laws_heldIntS.s0, marks_len, iLt_eq, iLe_eq, iEq_eq, iNe_eq, bNot_eq, bEq_eq, bNe_eq, brB_nb, brB_dec, brB_true, brB_false, chk_idx, chk_len, chk_make, chk_sub, bnd_one, rLen_eq, rGet_nat, rSet_nat, rApp_eq, ↓reduceIte]
    rw [if_neg (by omega)]
theorem szPacket_eq (k : Nat) (a0 a1 a2 a3 a4 a5 a6 : Int) (l : List Int) (n : Int) (hl : l.length ≤ 9223372036854775807) (h0 : 0 ≤ n) (h1 : n ≤ 1048576) : laws_szPacket.f k a0 a1 a2 a3 a4 a5 a6 l n = some (if (l.length : Int) ≤ n then n - l.length else -1) := by
  simp only [laws_szPacket.f, szIntS_eq k l n hl h0 h1, iLt_eq, iLe_eq, iEq_eq, iNe_eq, bNot_eq, bEq_eq, bNe_eq, brB_nb, brB_dec, brB_true, brB_false, chk_idx, chk_len, chk_make, chk_sub, bnd_one, rLen_eq, rGet_nat, rSet_nat, rApp_eq, ↓reduceIte]
  (repeat' split) <;> first | rfl | omega
theorem toPacket_ev (a0 a1 a2 a3 a4 a5 a6 : Int) (l : List Int) (hl : l.length ≤ 1048576) (k : Nat) (hk : l.length < k) : laws_toPacket.f k a0 a1 a2 a3 a4 a5 a6 l = some (a0, a1, a2, a3, a4, a5, a6, l) := by
  simp only [laws_toPacket.f, toIntS_ev l hl k hk, bnd_one]
theorem eqPacket_refl (a0 a1 a2 a3 a4 a5 a6 : Int) (l : List Int) (hl : l.length ≤ 4611686018427387904) (k : Nat) (hk : l.length < k) : laws_eqPacket.f k a0 a1 a2 a3 a4 a5 a6 l a0 a1 a2 a3 a4 a5 a6 l = some true := by
  simp only [laws_eqPacket.f, eqIntS_refl l hl k hk, iLt_eq, iLe_eq, iEq_eq, iNe_eq, bNot_eq, bEq_eq, bNe_eq, brB_nb, brB_dec, brB_true, brB_false, chk_idx, chk_len, chk_make, chk_sub, bnd_one, rLen_eq, rGet_nat, rSet_nat, rApp_eq, ↓reduceIte, decide_true]
theorem markPacket_ev (a0 a1 a2 a3 a4 a5 a6 : Int) (l : List Int) (m : Int) (hn : l.length ≤ 1000000000000) (h0 : 0 ≤ m) (h1 : m ≤ 1000000000000) (k : Nat) (hk : l.length < k) : laws_markPacket.f k a0 a1 a2 a3 a4 a5 a6 l m = some (m + l.length, marks m l.length) := by
  simp only [laws_markPacket.f, markIntS_ev l m hn h0 h1 k hk, bnd_one]
/-- A loop that looks for an element without a quality. -/
theorem iter_all {R : Type} {α : Type} {X : Type} {f : (X → Option R) → X → Option R} (s : Nat → X) (xs : List α) (p : α → Bool) (r e : Option R)
    (go : ∀ rec (i : Nat) (h : i < xs.length), p xs[i] = true → f rec (s i) = rec (s (i + 1))) (stop : ∀ rec (i : Nat) (h : i < xs.length), p xs[i] = false → f rec (s i) = e) (done : ∀ rec, f rec (s xs.length) = r) {n : Nat} (hn : xs.length < n) :
    iter f n (s 0) = brB (xs.all p) r e := by
  suffices H : ∀ d i n, i + d = xs.length → d < n → iter f n (s i) = brB ((xs.drop i).all p) r e from by
    have := H xs.length 0 n (by omega) hn
    simpa using this
  intro d
  induction d with
  | zero =>
    intro i n hi hn
    obtain ⟨m, rfl⟩ : ∃ m, n = m + 1 := ⟨n - 1, by omega⟩
    obtain rfl : i = xs.length := by omega
    rw [List.drop_length]
    exact done _
  | succ d ih =>
    intro i n hi hn
    obtain ⟨m, rfl⟩ : ∃ m, n = m + 1 := ⟨n - 1, by omega⟩
    show f (iter f m) (s i) = _
    have hlt : i < xs.length := by omega
    rw [List.drop_eq_getElem_cons hlt, List.all_cons]
    cases hq : p xs[i] with
    | false => rw [stop _ i hlt hq]; rfl
    | true => rw [go _ i hlt hq, ih (i + 1) m (by omega) (by omega), Bool.true_and]
/-- How many numbers nested rows have. -/
def rSum {α : Type} (z : α → Nat) (l : List α) : Nat := (l.map z).sum
theorem rSum_cons {α : Type} (z : α → Nat) (x : α) (l : List α) : rSum z (x :: l) = z x + rSum z l := by simp [rSum]
theorem rSum_le {α : Type} {z : α → Nat} {l : List α} {x : α} (h : x ∈ l) : z x ≤ rSum z l := by
  induction l with
  | nil => cases h
  | cons y l ih =>
    rw [rSum_cons]
    rcases List.mem_cons.1 h with rfl | h
    · omega
    · have := ih h; omega
theorem iter_size {X : Type} {α : Type} {f : (X → Option Int) → X → Option Int} (l : List α) (z : α → Nat) (s : Int → Nat → X)
    (go : ∀ rec (i : Nat) (left : Int) (h : i < l.length), 0 ≤ left → left ≤ 1048576 → f rec (s left i) = if (z l[i] : Int) ≤ left then rec (s (left - z l[i]) (i + 1)) else some (-1))
    (done : ∀ rec left, f rec (s left l.length) = some left) {n : Nat} (hn : l.length < n) {left : Int} (h0 : 0 ≤ left) (h1 : left ≤ 1048576) :
    iter f n (s left 0) = some (if (rSum z l : Int) ≤ left then left - rSum z l else -1) := by
  suffices H : ∀ (d i n : Nat) (left : Int), i + d = l.length → d < n → 0 ≤ left → left ≤ 1048576 → iter f n (s left i) = some (if (rSum z (l.drop i) : Int) ≤ left then left - rSum z (l.drop i) else -1) from H l.length 0 n left (by omega) hn h0 h1
  intro d
  induction d with
  | zero =>
    intro i n left hi hn h0 h1
    obtain ⟨m, rfl⟩ : ∃ m, n = m + 1 := ⟨n - 1, by omega⟩
    obtain rfl : i = l.length := by omega
    rw [List.drop_length]
    simp only [rSum, List.map_nil, List.sum_nil]
    rw [if_pos (by omega)]
    refine (done _ left).trans ?_
    congr 1; omega
  | succ d ih =>
    intro i n left hi hn h0 h1
    obtain ⟨m, rfl⟩ : ∃ m, n = m + 1 := ⟨n - 1, by omega⟩
    have hlt : i < l.length := by omega
    show f (iter f m) (s left i) = _
    rw [go _ i left hlt h0 h1, List.drop_eq_getElem_cons hlt, rSum_cons]
    by_cases c : (z l[i] : Int) ≤ left
    · rw [if_pos c, ih (i + 1) m (left - z l[i]) (by omega) (by omega) (by omega) (by omega)]
      congr 1
      by_cases c2 : (rSum z (l.drop (i + 1)) : Int) ≤ left - z l[i]
      · rw [if_pos c2, if_pos (by omega)]; omega
      · rw [if_neg c2, if_neg (by omega)]
    · rw [if_neg c, if_neg (by omega)]
theorem rGet_rSet {α : Type} (d : α) {l : List α} {i : Nat} (h : i < l.length) (x : α) : rGet d (rSet l (i : Int) x) (i : Int) = x := by
  rw [rGet_nat, rSet_nat]; simp [h]
theorem rSet_rSet {α : Type} (l : List α) (i : Int) (x y : α) : rSet (rSet l i x) i y = rSet l i y := by simp [rSet]
theorem rLen_rSet {α : Type} (l : List α) (i : Int) (x : α) : rLen (rSet l i x) = rLen l := by simp [rLen, rSet]
theorem len_rSet {α : Type} (l : List α) (i : Int) (x : α) : (rSet l i x).length = l.length := by simp [rSet]
theorem nam_eq {A R : Type} (x : A) (f : A → Option R) : nam x f = f x := rfl
def offs {α : Type} (w : α → Nat) (xs : List α) (s : Int) (i : Nat) : Int := s + (rSum w (xs.take i) : Nat)
theorem offs_zero {α : Type} (w : α → Nat) (xs : List α) (s : Int) : offs w xs s 0 = s := by simp [offs, rSum]
theorem offs_succ {α : Type} (w : α → Nat) (xs : List α) (s : Int) {i : Nat} (h : i < xs.length) : offs w xs s (i + 1) = offs w xs s i + w xs[i] := by
  have : rSum w (xs.take (i + 1)) = rSum w (xs.take i) + w xs[i] := by
    unfold rSum
    rw [List.take_succ_eq_append_getElem h, List.map_append, List.sum_append]
    simp
  simp only [offs, this]
  omega
theorem offs_le {α : Type} (w : α → Nat) : ∀ (xs : List α) (s : Int) (i : Nat), offs w xs s i ≤ s + (rSum w xs : Nat)
  | [], s, i => by simp [offs, rSum]
  | x :: xs, s, 0 => by simp [offs, rSum]; omega
  | x :: xs, s, i + 1 => by
    have := offs_le w xs s i
    simp only [offs, List.take_succ_cons, rSum_cons] at this ⊢
    omega
theorem offs_ge {α : Type} (w : α → Nat) (xs : List α) (s : Int) (i : Nat) : s ≤ offs w xs s i := by simp only [offs]; omega
theorem take_step {α : Type} (l : List α) {i : Nat} (h : i < l.length) : l.take i ++ [l[i]] = l.take (i + 1) := by rw [List.take_succ_eq_append_getElem h]
def pGot (p : Int × Int × Int × Int × Int × Int × Int × List Int) : Nat := p.2.2.2.2.2.2.2.length
theorem szPacketS_eq (k : Nat) (l : List (Int × Int × Int × Int × Int × Int × Int × List Int)) (n : Int) (hl : l.length ≤ 9223372036854775807) (hz : ∀ x ∈ l, pGot x ≤ 9223372036854775807) (h0 : 0 ≤ n) (h1 : n ≤ 1048576) (hk : l.length < k) :
    laws_szPacketS.f k l n = some (if (l.length : Int) + rSum pGot l ≤ n then n - l.length - rSum pGot l else -1) := by
  simp only [laws_szPacketS.f, iLt_eq, brB_dec, rLen_eq]
  rw [iSub_id (by omega) (by omega)]
  by_cases c : (l.length : Int) ≤ n
  · rw [if_neg (by omega)]
    have h := iter_size (f := fun (rec : ((List (Int × Int × Int × Int × Int × Int × Int × List Int)) × Int × Int) → Option (Int)) (x : (List (Int × Int × Int × Int × Int × Int × Int × List Int)) × Int × Int) => laws_szPacketS.s0 k rec x.1 x.2.1 x.2.2) l pGot (fun left i => (l, left, (i : Int))) (fun rec i left hi q0 q1 => ?_) (fun rec left => ?_) (n := k) hk (left := n - l.length) (by omega) (by omega)
    · refine Eq.trans h ?_
      congr 1
      by_cases c2 : (rSum pGot l : Int) ≤ n - l.length
      · rw [if_pos c2, if_pos (by omega)]
      · rw [if_neg c2, if_neg (by omega)]
    · have e : rGet (0, 0, 0, 0, 0, 0, 0, []) l (i : Int) = l[i] := getD_lt _ _ hi
      have hg := hz _ (List.getElem_mem hi)
      simp only [laws_szPacketS.s0, e, iLt_eq, brB_dec, chk_idx, rLen_eq]
      generalize l[i] = g at *
      obtain ⟨a0, a1, a2, a3, a4, a5, a6, gl⟩ := g
      rw [if_pos (by omega), if_idx hi, szPacket_eq k a0 a1 a2 a3 a4 a5 a6 gl left hg q0 q1, bnd_one, next_id hi (by omega)]
      rw [show pGot (a0, a1, a2, a3, a4, a5, a6, gl) = gl.length from rfl]
      by_cases c3 : (gl.length : Int) ≤ left
      · rw [if_pos c3, if_neg (by omega), if_pos c3]
      · rw [if_neg c3, if_pos (by omega), if_neg c3]
    · simp only [laws_szPacketS.s0, iLt_eq, brB_dec, rLen_eq]
      rw [if_neg (by omega)]
  · rw [if_pos (by omega), if_neg (by omega)]
theorem toPacketS_ev (xs : List (Int × Int × Int × Int × Int × Int × Int × List Int)) (hn : xs.length ≤ 1048576) (hz : ∀ x ∈ xs, pGot x ≤ 1048576) (k : Nat) (hk : 3000000 < k) : laws_toPacketS.f k xs = some xs := by
  simp only [laws_toPacketS.f, laws_toPacketS.l0, chk_make, rLen_eq]
  rw [if_pos (by omega), rRep_nat]
  have h := iter_upto (f := fun (rec : ((List (Int × Int × Int × Int × Int × Int × Int × List Int)) × (List (Int × Int × Int × Int × Int × Int × Int × List Int)) × Int) → Option (List (Int × Int × Int × Int × Int × Int × Int × List Int))) (x : (List (Int × Int × Int × Int × Int × Int × Int × List Int)) × (List (Int × Int × Int × Int × Int × Int × Int × List Int)) × Int) => laws_toPacketS.s0 k rec x.1 x.2.1 x.2.2)
    (fun i => (xs, fill (fun j => xs.getD j (0, 0, 0, 0, 0, 0, 0, [])) (List.replicate xs.length (0, 0, 0, 0, 0, 0, 0, [])) i, (i : Int))) xs.length (r := xs) (fun rec i hi => ?_) (fun rec => ?_) (n := k) (by omega)
  · rw [fill_zero] at h; exact h
  · have e : rGet (0, 0, 0, 0, 0, 0, 0, []) xs (i : Int) = xs[i] := getD_lt _ _ hi
    have e' : xs.getD i (0, 0, 0, 0, 0, 0, 0, []) = xs[i] := getD_lt _ _ hi
    have hg := hz _ (List.getElem_mem hi)
    simp only [laws_toPacketS.s0, fill_len (show i ≤ (List.replicate xs.length ((0, 0, 0, 0, 0, 0, 0, []) : Int × Int × Int × Int × Int × Int × Int × List Int)).length by simp; omega), List.length_replicate, e, iLt_eq, brB_dec, chk_idx, rLen_eq, rSet_nat]
    rw [if_pos (by omega), if_idx hi, toPacket_ev _ _ _ _ _ _ _ _ hg k (by show _ < k; unfold pGot at hg; omega), bnd_one, if_idx hi, ← fill_set (by simpa using hi), e', next_id hi (by omega)]
    all_goals rfl
  · have h2 := fill_end (g := fun j => xs.getD j (0, 0, 0, 0, 0, 0, 0, [])) (xs := List.replicate xs.length ((0, 0, 0, 0, 0, 0, 0, []) : Int × Int × Int × Int × Int × Int × Int × List Int))
    rw [List.length_replicate] at h2
    simp only [laws_toPacketS.s0, h2, range_getD, iLt_eq, brB_dec, rLen_eq]
    rw [if_neg (by omega)]
theorem eqPacketS_refl (xs : List (Int × Int × Int × Int × Int × Int × Int × List Int)) (hn : xs.length ≤ 1048576) (hz : ∀ x ∈ xs, pGot x ≤ 1048576) (k : Nat) (hk : 3000000 < k) : laws_eqPacketS.f k xs xs = some true := by
  simp only [laws_eqPacketS.f, laws_eqPacketS.l0, iNe_eq, decide_true, Bool.not_true, brB_false]
  refine iter_upto (f := fun (rec : ((List (Int × Int × Int × Int × Int × Int × Int × List Int)) × (List (Int × Int × Int × Int × Int × Int × Int × List Int)) × Int) → Option (Bool)) (x : (List (Int × Int × Int × Int × Int × Int × Int × List Int)) × (List (Int × Int × Int × Int × Int × Int × Int × List Int)) × Int) => laws_eqPacketS.s0 k rec x.1 x.2.1 x.2.2) (fun i => (xs, xs, (i : Int))) xs.length (fun rec i hi => ?_) (fun rec => ?_) (by omega)
  · have e : rGet (0, 0, 0, 0, 0, 0, 0, []) xs (i : Int) = xs[i] := getD_lt _ _ hi
    have hg := hz _ (List.getElem_mem hi)
    simp only [laws_eqPacketS.s0, e, iLt_eq, brB_dec, chk_idx, rLen_eq]
    rw [if_pos (by omega), if_idx hi, if_idx hi, eqPacket_refl _ _ _ _ _ _ _ _ (by unfold pGot at hg; omega) k (by unfold pGot at hg; omega), next_id hi (by omega)]; rfl
  · simp only [laws_eqPacketS.s0, iLt_eq, brB_dec, rLen_eq]
    rw [if_neg (by omega)]
def pMark (x : Int × Int × Int × Int × Int × Int × Int × List Int) (s : Int) : Int × Int × Int × Int × Int × Int × Int × List Int := (s, s + 1, s + 2, s + 3, s + 4, s + 5, s + 6, marks (s + 7) x.2.2.2.2.2.2.2.length)
def pN (x : Int × Int × Int × Int × Int × Int × Int × List Int) : Nat := x.2.2.2.2.2.2.2.length + 7
theorem rSum_p (o : List (Int × Int × Int × Int × Int × Int × Int × List Int)) : rSum pN o = rSum pGot o + 7 * o.length := by
  induction o with
  | nil => rfl
  | cons x o ih => rw [rSum_cons, rSum_cons, ih, List.length_cons, pN, pGot]; omega
def pMarks (xs : List (Int × Int × Int × Int × Int × Int × Int × List Int)) (s : Int) : List (Int × Int × Int × Int × Int × Int × Int × List Int) := (List.range xs.length).map fun j => pMark (xs.getD j (0, 0, 0, 0, 0, 0, 0, [])) (offs pN xs s j)
theorem markPacketS_ev (xs : List (Int × Int × Int × Int × Int × Int × Int × List Int)) (s : Int) (hn : xs.length ≤ 1048576) (hz : ∀ x ∈ xs, pGot x ≤ 1048576) (h0 : 0 ≤ s) (hb : s + (rSum pN xs : Nat) ≤ 100000000000) (k : Nat) (hk : 3000000 < k) :
    laws_markPacketS.f k xs s = some (offs pN xs s xs.length, pMarks xs s) := by
  simp only [laws_markPacketS.f, laws_markPacketS.l0]
  have h := iter_upto (f := fun (rec : ((List (Int × Int × Int × Int × Int × Int × Int × List Int)) × Int × Int) → Option (Int × List (Int × Int × Int × Int × Int × Int × Int × List Int))) (x : (List (Int × Int × Int × Int × Int × Int × Int × List Int)) × Int × Int) => laws_markPacketS.s0 k rec x.1 x.2.1 x.2.2)
    (fun i => (fill (fun j => pMark (xs.getD j (0, 0, 0, 0, 0, 0, 0, [])) (offs pN xs s j)) xs i, offs pN xs s i, (i : Int))) xs.length (r := (offs pN xs s xs.length, pMarks xs s)) (fun rec i hi => ?_) (fun rec => ?_) (n := k) (by omega)
  · rw [fill_zero, offs_zero] at h; exact h
  · have e' : xs.getD i (0, 0, 0, 0, 0, 0, 0, []) = xs[i] := getD_lt _ _ hi
    have hg : pGot xs[i] ≤ 1048576 := hz _ (List.getElem_mem hi)
    unfold pGot at hg
    have a1 := offs_le pN xs s (i + 1)
    have a2 := offs_ge pN xs s i
    rw [offs_succ pN xs s hi] at a1 ⊢
    have hw : pN xs[i] = xs[i].2.2.2.2.2.2.2.length + 7 := rfl
    have hl : i < (fill (fun j => pMark (xs.getD j (0, 0, 0, 0, 0, 0, 0, [])) (offs pN xs s j)) xs i).length := by rw [fill_len (Nat.le_of_lt hi)]; exact hi
    have hget : rGet (0, 0, 0, 0, 0, 0, 0, []) (fill (fun j => pMark (xs.getD j (0, 0, 0, 0, 0, 0, 0, [])) (offs pN xs s j)) xs i) (i : Int) = xs[i] := by
      rw [rGet_nat, fill_get i (Nat.le_refl _), e']
    have hset := fill_set (g := fun j => pMark (xs.getD j (0, 0, 0, 0, 0, 0, 0, [])) (offs pN xs s j)) hi
    have hL := fill_len (g := fun j => pMark (xs.getD j (0, 0, 0, 0, 0, 0, 0, [])) (offs pN xs s j)) (xs := xs) (Nat.le_of_lt hi)
    generalize fill (fun j => pMark (xs.getD j (0, 0, 0, 0, 0, 0, 0, [])) (offs pN xs s j)) xs i = L at hl hget hset hL ⊢
    simp only [laws_markPacketS.s0, nam_eq, rGet_rSet _ hl, rSet_rSet, rLen_rSet, hget, iLt_eq, brB_dec, chk_idx, rLen_eq, len_rSet, hL]
    have q1 : iAdd .i64 (offs pN xs s i) 1 = offs pN xs s i + 1 := iAdd_id (by omega) (by omega)
    have q2 : iAdd .i64 (offs pN xs s i + 1) 1 = offs pN xs s i + 2 := by rw [iAdd_id (by omega) (by omega)]; omega
    have q3 : iAdd .i64 (offs pN xs s i + 2) 1 = offs pN xs s i + 3 := by rw [iAdd_id (by omega) (by omega)]; omega
    have q4 : iAdd .i64 (offs pN xs s i + 3) 1 = offs pN xs s i + 4 := by rw [iAdd_id (by omega) (by omega)]; omega
    have q5 : iAdd .i64 (offs pN xs s i + 4) 1 = offs pN xs s i + 5 := by rw [iAdd_id (by omega) (by omega)]; omega
    have q6 : iAdd .i64 (offs pN xs s i + 5) 1 = offs pN xs s i + 6 := by rw [iAdd_id (by omega) (by omega)]; omega
    have q7 : iAdd .i64 (offs pN xs s i + 6) 1 = offs pN xs s i + 7 := by rw [iAdd_id (by omega) (by omega)]; omega
    simp only [q1, q2, q3, q4, q5, q6, q7]
    rw [if_pos (by omega), if_idx hi, if_idx hi, if_idx hi, if_idx hi, if_idx hi, if_idx hi, if_idx hi, if_idx hi, markIntS_ev _ _ (by omega) (by omega) (by omega) k (by omega), bnd_one]
    dsimp only
    rw [next_id hi (by omega), rSet_nat, show offs pN xs s i + (pN xs[i] : Int) = offs pN xs s i + 7 + (xs[i].2.2.2.2.2.2.2.length : Int) by omega, ← hset, e']
    rfl
  · have h2 := fill_end (g := fun j => pMark (xs.getD j (0, 0, 0, 0, 0, 0, 0, [])) (offs pN xs s j)) (xs := xs)
    simp only [laws_markPacketS.s0, h2, iLt_eq, brB_dec, rLen_eq, List.length_map, List.length_range]
    rw [if_neg (by omega)]
    rfl
theorem pMarks_get (xs : List (Int × Int × Int × Int × Int × Int × Int × List Int)) (s : Int) {i : Nat} (hi : i < xs.length) : rGet (0, 0, 0, 0, 0, 0, 0, []) (pMarks xs s) (i : Int) = pMark xs[i] (offs pN xs s i) := by
  rw [rGet_nat]
  simp [pMarks, hi]
theorem pMarks_len (xs : List (Int × Int × Int × Int × Int × Int × Int × List Int)) (s : Int) : (pMarks xs s).length = xs.length := by simp [pMarks]
theorem heldPacketS_ev (xs : List (Int × Int × Int × Int × Int × Int × Int × List Int)) (s : Int) (hn : xs.length ≤ 1048576) (hz : ∀ x ∈ xs, pGot x ≤ 1048576) (h0 : 0 ≤ s) (hb : s + (rSum pN xs : Nat) ≤ 100000000000) (k : Nat) (hk : 3000000 < k) :
    laws_heldPacketS.f k (pMarks xs s) s = some (offs pN xs s xs.length) := by
  simp only [laws_heldPacketS.f, laws_heldPacketS.l0]
  have h := iter_upto (f := fun (rec : ((List (Int × Int × Int × Int × Int × Int × Int × List Int)) × Int × Int) → Option Int) (x : (List (Int × Int × Int × Int × Int × Int × Int × List Int)) × Int × Int) => laws_heldPacketS.s0 k rec x.1 x.2.1 x.2.2)
    (fun i => (pMarks xs s, offs pN xs s i, (i : Int))) xs.length (r := offs pN xs s xs.length) (fun rec i hi => ?_) (fun rec => ?_) (n := k) (by omega)
  · rw [offs_zero] at h; exact h
  · have hg : pGot xs[i] ≤ 1048576 := hz _ (List.getElem_mem hi)
    unfold pGot at hg
    have a1 := offs_le pN xs s (i + 1)
    have a2 := offs_ge pN xs s i
    rw [offs_succ pN xs s hi] at a1 ⊢
    have hw : pN xs[i] = xs[i].2.2.2.2.2.2.2.length + 7 := rfl
    have q1 : iAdd .i64 (offs pN xs s i) 1 = offs pN xs s i + 1 := iAdd_id (by omega) (by omega)
    have q2 : iAdd .i64 (offs pN xs s i + 1) 1 = offs pN xs s i + 2 := by rw [iAdd_id (by omega) (by omega)]; omega
    have q3 : iAdd .i64 (offs pN xs s i + 2) 1 = offs pN xs s i + 3 := by rw [iAdd_id (by omega) (by omega)]; omega
    have q4 : iAdd .i64 (offs pN xs s i + 3) 1 = offs pN xs s i + 4 := by rw [iAdd_id (by omega) (by omega)]; omega
    have q5 : iAdd .i64 (offs pN xs s i + 4) 1 = offs pN xs s i + 5 := by rw [iAdd_id (by omega) (by omega)]; omega
    have q6 : iAdd .i64 (offs pN xs s i + 5) 1 = offs pN xs s i + 6 := by rw [iAdd_id (by omega) (by omega)]; omega
    have q7 : iAdd .i64 (offs pN xs s i + 6) 1 = offs pN xs s i + 7 := by rw [iAdd_id (by omega) (by omega)]; omega
    simp only [laws_heldPacketS.s0, pMarks_get xs s hi, pMark, iLt_eq, iNe_eq, brB_nb, brB_dec, chk_idx, rLen_eq, pMarks_len, q1, q2, q3, q4, q5, q6, q7]
    rw [if_pos (by omega), if_idx hi, if_pos trivial, if_idx hi, if_pos trivial, if_idx hi, if_pos trivial, if_idx hi, if_pos trivial, if_idx hi, if_pos trivial, if_idx hi, if_pos trivial, if_idx hi, if_pos trivial, if_idx hi, heldIntS_ev _ _ (by omega) (by omega) (by omega) k (by omega), bnd_one,
      if_neg (by omega), next_id hi (by omega), show offs pN xs s i + 7 + (xs[i].2.2.2.2.2.2.2.length : Int) = offs pN xs s i + (pN xs[i] : Int) by omega]
  · simp only [laws_heldPacketS.s0, pMarks_len, iLt_eq, brB_dec, rLen_eq]
    rw [if_neg (by omega)]

/-- Two rows, element by element. -/
theorem eq_until {f : (List Int × List Int × Int → Option Bool) → List Int × List Int × Int → Option Bool} (a b : List Int)
    (hl : a.length = b.length) (hf : ∀ rec (i : Nat), i < a.length → f rec (a, b, (i : Int)) = if a.getD i 0 = b.getD i 0 then rec (a, b, ((i + 1 : Nat) : Int)) else some false) (hd : ∀ rec, f rec (a, b, (a.length : Int)) = some true) {n : Nat} (hn : a.length < n) :
    iter f n (a, b, 0) = some (decide (a = b)) := by
  suffices H : ∀ d i n, i + d = a.length → d < n → (a.take i = b.take i) → iter f n (a, b, (i : Int)) = some (decide (a = b)) from H a.length 0 n (by omega) hn rfl
  intro d
  induction d with
  | zero =>
    intro i n hi hn ht
    obtain ⟨m, rfl⟩ : ∃ m, n = m + 1 := ⟨n - 1, by omega⟩
    obtain rfl : i = a.length := by omega
    rw [List.take_length, hl, List.take_length] at ht
    rw [decide_eq_true ht]
    exact hd _
  | succ d ih =>
    intro i n hi hn ht
    obtain ⟨m, rfl⟩ : ∃ m, n = m + 1 := ⟨n - 1, by omega⟩
    show f (iter f m) (a, b, (i : Int)) = _
    have hia : i < a.length := by omega
    have hib : i < b.length := by omega
    rw [hf _ i hia, getD_lt 0 a hia, getD_lt 0 b hib]
    by_cases e : a[i] = b[i]
    · rw [if_pos e]
      refine ih (i + 1) m (by omega) (by omega) ?_
      rw [List.take_succ_eq_append_getElem hia, List.take_succ_eq_append_getElem hib, ht, e]
    · rw [if_neg e, decide_eq_false]
      intro h
      subst h
      exact e rfl
theorem specInts_ev (a b : List Int) (ha : a.length ≤ 1048576) (k : Nat) (hk : a.length < k) : spec_l04Ints.f k a b = some (decide (a = b)) := by
  simp only [spec_l04Ints.f, iNe_eq, brB_nb, brB_dec, rLen_eq]
  by_cases hl : a.length = b.length
  · rw [if_pos (by omega)]
    simp only [spec_l04Ints.l0]
    refine eq_until (f := fun (rec : (List Int × List Int × Int) → Option (Bool)) (x : List Int × List Int × Int) => spec_l04Ints.s0 k rec x.1 x.2.1 x.2.2) a b hl (fun rec i hi => ?_) (fun rec => ?_) hk
    · simp only [spec_l04Ints.s0, iLt_eq, iNe_eq, brB_nb, brB_dec, chk_idx, rLen_eq, rGet_nat]
      rw [if_pos (by omega), if_idx hi, if_idx (by omega), next_id hi (by omega)]
    · simp only [spec_l04Ints.s0, iLt_eq, brB_dec, rLen_eq]
      rw [if_neg (by omega)]
  · rw [if_neg (by omega), decide_eq_false (fun e => hl (by rw [e]))]
/-- Two packets are the same. -/
def pkSame (a b : Int × Int × Int × Int × Int × Int × Int × List Int) : Bool := decide (a.1 = b.1 ∧ a.2.1 = b.2.1 ∧ a.2.2.1 = b.2.2.1 ∧ a.2.2.2.1 = b.2.2.2.1 ∧ a.2.2.2.2.1 = b.2.2.2.2.1 ∧ a.2.2.2.2.2.1 = b.2.2.2.2.2.1 ∧ a.2.2.2.2.2.2.1 = b.2.2.2.2.2.2.1 ∧ a.2.2.2.2.2.2.2 = b.2.2.2.2.2.2.2)
theorem pkSame_eq (a0 a1 a2 a3 a4 a5 a6 : Int) (l : List Int) (b0 b1 b2 b3 b4 b5 b6 : Int) (m : List Int) :
    pkSame (a0, a1, a2, a3, a4, a5, a6, l) (b0, b1, b2, b3, b4, b5, b6, m) = decide (a0 = b0 ∧ a1 = b1 ∧ a2 = b2 ∧ a3 = b3 ∧ a4 = b4 ∧ a5 = b5 ∧ a6 = b6 ∧ l = m) := rfl
theorem specSame_ev (a0 a1 a2 a3 a4 a5 a6 : Int) (l : List Int) (b0 b1 b2 b3 b4 b5 b6 : Int) (m : List Int) (hl : l.length ≤ 1048576) (k : Nat) (hk : l.length < k) :
    spec_SamePacket.f k a0 a1 a2 a3 a4 a5 a6 l b0 b1 b2 b3 b4 b5 b6 m = some (pkSame (a0, a1, a2, a3, a4, a5, a6, l) (b0, b1, b2, b3, b4, b5, b6, m)) := by
  rw [pkSame_eq]
  simp only [spec_SamePacket.f, specInts_ev l m hl k hk, bnd_one, iEq_eq, brB_dec]
  (repeat' split) <;> simp_all
theorem equalInt_ev (a b : List Int) (ha : a.length ≤ 1048576) (k : Nat) (hk : a.length < k) : slices_Equal_int.f k a b = some (decide (a = b)) := by
  simp only [slices_Equal_int.f, iNe_eq, brB_nb, brB_dec, rLen_eq]
  by_cases hl : a.length = b.length
  · rw [if_pos (by omega)]
    have h := iter_all (f := fun (rec : (List Int × List Int × Int × Int) → Option (Bool)) (x : List Int × List Int × Int × Int) => slices_Equal_int.s0 k rec x.1 x.2.1 x.2.2.1 x.2.2.2) (fun i => (a, b, (a.length : Int), (i : Int))) (List.range a.length) (fun i => decide (a.getD i 0 = b.getD i 0)) (some true) (some false)
      (fun rec i hi hp => ?_) (fun rec i hi hp => ?_) (fun rec => ?_) (n := k) (by simpa using hk)
    · refine Eq.trans h ?_
      have e : (List.range a.length).all (fun i => decide (a.getD i 0 = b.getD i 0)) = decide (a = b) := by
        rw [Bool.eq_iff_iff, List.all_eq_true, decide_eq_true_eq]
        constructor
        · intro h
          apply List.ext_getElem hl
          intro i h1 h2
          have := h i (List.mem_range.2 h1)
          rw [decide_eq_true_eq, getD_lt 0 a h1, getD_lt 0 b h2] at this
          exact this
        · rintro rfl i _
          simp
      rw [e]
      cases decide (a = b) <;> rfl
    · simp only [List.length_range] at hi
      simp only [List.getElem_range, decide_eq_true_eq] at hp
      simp only [slices_Equal_int.s0, iLt_eq, iNe_eq, brB_nb, brB_dec, chk_idx, rLen_eq, rGet_nat, hp]
      rw [if_pos (by omega), if_idx hi, if_idx (by omega), if_pos trivial, next_id hi (by omega)]
    · simp only [List.length_range] at hi
      simp only [List.getElem_range, decide_eq_false_iff_not] at hp
      simp only [slices_Equal_int.s0, iLt_eq, iNe_eq, brB_nb, brB_dec, chk_idx, rLen_eq, rGet_nat]
      rw [if_pos (by omega), if_idx hi, if_idx (by omega), if_neg hp]
    · simp only [List.length_range, slices_Equal_int.s0, iLt_eq, brB_dec]
      rw [if_neg (by omega)]
  · rw [if_neg (by omega), decide_eq_false (fun e => hl (by rw [e]))]
theorem implSame_ev (a0 a1 a2 a3 a4 a5 a6 : Int) (l : List Int) (b0 b1 b2 b3 b4 b5 b6 : Int) (m : List Int) (hl : l.length ≤ 1048576) (k : Nat) (hk : l.length < k) :
    impl_SamePacket.f k a0 a1 a2 a3 a4 a5 a6 l b0 b1 b2 b3 b4 b5 b6 m = some (pkSame (a0, a1, a2, a3, a4, a5, a6, l) (b0, b1, b2, b3, b4, b5, b6, m)) := by
  rw [pkSame_eq]
  simp only [impl_SamePacket.f, equalInt_ev l m hl k hk, bnd_one, iEq_eq, brB_dec]
  (repeat' split) <;> simp_all
/-- What stands in front of a packet. -/
def upTo (c : Int × Int × Int × Int × Int × Int × Int × List Int) : List (Int × Int × Int × Int × Int × Int × Int × List Int) → List (Int × Int × Int × Int × Int × Int × Int × List Int)
  | [] => []
  | p :: l => if pkSame p c = true then [] else p :: upTo c l
theorem upTo_len (c : Int × Int × Int × Int × Int × Int × Int × List Int) : ∀ l, (upTo c l).length ≤ l.length
  | [] => Nat.le_refl _
  | p :: l => by
    simp only [upTo]
    split
    · simp
    · have := upTo_len c l; simp only [List.length_cons]; omega
theorem upTo_get (c : Int × Int × Int × Int × Int × Int × Int × List Int) : ∀ (l : List (Int × Int × Int × Int × Int × Int × Int × List Int)) (i : Nat) (h : i < l.length), i < (upTo c l).length → pkSame l[i] c = false
  | p :: l, i, h, hi => by
    simp only [upTo] at hi
    split at hi
    · simp at hi
    · rename_i hp
      cases i with
      | zero => simpa using hp
      | succ i => exact upTo_get c l i (by simpa using h) (by simpa using hi)
theorem upTo_at (c : Int × Int × Int × Int × Int × Int × Int × List Int) : ∀ (l : List (Int × Int × Int × Int × Int × Int × Int × List Int)) (h : (upTo c l).length < l.length), pkSame l[(upTo c l).length] c = true
  | p :: l, h => by
    by_cases hp : pkSame p c = true
    · have e : upTo c (p :: l) = [] := by simp only [upTo, if_pos hp]
      simp only [e, List.length_nil, List.getElem_cons_zero]
      exact hp
    · have e : upTo c (p :: l) = p :: upTo c l := by simp only [upTo, if_neg hp]
      simp only [e, List.length_cons, List.getElem_cons_succ]
      exact upTo_at c l (by rw [e] at h; simpa using h)
theorem upTo_take (c : Int × Int × Int × Int × Int × Int × Int × List Int) : ∀ l, l.take (upTo c l).length = upTo c l
  | [] => rfl
  | p :: l => by
    by_cases hp : pkSame p c = true
    · simp only [upTo, if_pos hp]; rfl
    · simp only [upTo, if_neg hp, List.length_cons, List.take_succ_cons, upTo_take c l]
theorem specSeen_ev (xs : List (Int × Int × Int × Int × Int × Int × Int × List Int)) (b0 b1 b2 b3 b4 b5 b6 : Int) (m : List Int) (hn : xs.length ≤ 1048576) (hz : ∀ x ∈ xs, pGot x ≤ 1048576) (k : Nat) (hk : 3000000 < k) :
    spec_SeenBefore.f k xs b0 b1 b2 b3 b4 b5 b6 m = some (upTo (b0, b1, b2, b3, b4, b5, b6, m) xs) := by
  simp only [spec_SeenBefore.f, spec_SeenBefore.l0]
  have hl := upTo_len (b0, b1, b2, b3, b4, b5, b6, m) xs
  have ht := upTo_take (b0, b1, b2, b3, b4, b5, b6, m) xs
  have hg := upTo_get (b0, b1, b2, b3, b4, b5, b6, m) xs
  have ha := upTo_at (b0, b1, b2, b3, b4, b5, b6, m) xs
  generalize upTo (b0, b1, b2, b3, b4, b5, b6, m) xs = U at hl ht hg ha ⊢
  refine iter_upto (f := fun (rec : ((List (Int × Int × Int × Int × Int × Int × Int × List Int)) × (List (Int × Int × Int × Int × Int × Int × Int × List Int)) × Int × Int × Int × Int × Int × Int × Int × Int × List Int) → Option (List (Int × Int × Int × Int × Int × Int × Int × List Int))) (x : (List (Int × Int × Int × Int × Int × Int × Int × List Int)) × (List (Int × Int × Int × Int × Int × Int × Int × List Int)) × Int × Int × Int × Int × Int × Int × Int × Int × List Int) => spec_SeenBefore.s0 k rec x.1 x.2.1 x.2.2.1 x.2.2.2.1 x.2.2.2.2.1 x.2.2.2.2.2.1 x.2.2.2.2.2.2.1 x.2.2.2.2.2.2.2.1 x.2.2.2.2.2.2.2.2.1 x.2.2.2.2.2.2.2.2.2.1 x.2.2.2.2.2.2.2.2.2.2)
    (fun i => (xs, xs.take i, (i : Int), b0, b1, b2, b3, b4, b5, b6, m)) U.length (fun rec i hi => ?_) (fun rec => ?_) (by omega)
  · have hix : i < xs.length := by omega
    have e : rGet (0, 0, 0, 0, 0, 0, 0, []) xs (i : Int) = xs[i] := getD_lt _ _ hix
    have hq := hz _ (List.getElem_mem hix)
    have hs := hg i hix hi
    have htl : (xs.take i ++ [xs[i]]).length = i + 1 := by simp; omega
    have hts := take_step xs hix
    simp only [spec_SeenBefore.s0, e, iLt_eq, brB_dec, chk_idx, chk_len, rLen_eq]
    generalize xs[i] = q at hq hs htl hts ⊢
    obtain ⟨q0, q1, q2, q3, q4, q5, q6, ql⟩ := q
    have hql : ql.length ≤ 1048576 := hq
    simp only [specSame_ev q0 q1 q2 q3 q4 q5 q6 ql b0 b1 b2 b3 b4 b5 b6 m hql k (by omega), hs, bnd_one, brB_false, spec_l04Copy.f, chk_len, rLen_eq, rApp_eq, List.nil_append]
    rw [if_pos (by omega), if_idx hix, if_idx hix, if_pos (by omega)]
    simp only [bnd_one, htl]
    rw [if_pos (by omega), next_id hix (by omega), hts]
  · simp only [spec_SeenBefore.s0, iLt_eq, brB_dec, rLen_eq, ht, chk_idx]
    by_cases hlt : U.length < xs.length
    · have hs := ha hlt
      have e : rGet (0, 0, 0, 0, 0, 0, 0, []) xs (U.length : Int) = xs[U.length] := getD_lt _ _ hlt
      have hq := hz _ (List.getElem_mem hlt)
      rw [if_pos (by omega), if_idx hlt, e]
      generalize xs[U.length] = q at hq hs ⊢
      obtain ⟨q0, q1, q2, q3, q4, q5, q6, ql⟩ := q
      have hql : ql.length ≤ 1048576 := hq
      rw [specSame_ev q0 q1 q2 q3 q4 q5 q6 ql b0 b1 b2 b3 b4 b5 b6 m hql k (by omega), hs, bnd_one, brB_true]
    · rw [if_neg (by omega)]
theorem copyPackets_ev (xs : List (Int × Int × Int × Int × Int × Int × Int × List Int)) (hn : xs.length ≤ 1048576) (hz : ∀ x ∈ xs, pGot x ≤ 1048576) (k : Nat) (hk : 3000000 < k) : impl_copyPackets.f k xs = some xs := by
  simp only [impl_copyPackets.f, impl_copyPackets.l0, rLen_eq]
  refine iter_upto (f := fun (rec : ((List (Int × Int × Int × Int × Int × Int × Int × List Int)) × (List (Int × Int × Int × Int × Int × Int × Int × List Int)) × Int × Int) → Option (List (Int × Int × Int × Int × Int × Int × Int × List Int))) (x : (List (Int × Int × Int × Int × Int × Int × Int × List Int)) × (List (Int × Int × Int × Int × Int × Int × Int × List Int)) × Int × Int) => impl_copyPackets.s0 k rec x.1 x.2.1 x.2.2.1 x.2.2.2)
    (fun i => (xs.take i, xs, (xs.length : Int), (i : Int))) xs.length (fun rec i hi => ?_) (fun rec => ?_) (by omega)
  · have e : rGet (0, 0, 0, 0, 0, 0, 0, []) xs (i : Int) = xs[i] := getD_lt _ _ hi
    have hq := hz _ (List.getElem_mem hi)
    have htl : (xs.take i ++ [xs[i]]).length = i + 1 := by simp; omega
    have hts := take_step xs hi
    simp only [impl_copyPackets.s0, impl_copyPacket.f, slices_Clone_int.f, e, iLt_eq, brB_dec, chk_idx, chk_len, rLen_eq, rApp_eq]
    generalize xs[i] = q at hq htl hts ⊢
    obtain ⟨q0, q1, q2, q3, q4, q5, q6, ql⟩ := q
    have hql : ql.length ≤ 1048576 := hq
    rw [if_pos (by omega), if_idx hi, if_pos (by simp only; omega)]
    simp only [bnd_one, htl]
    rw [if_pos (by omega), next_id hi (by omega), hts]
  · simp only [impl_copyPackets.s0, iLt_eq, brB_dec, List.take_length]
    rw [if_neg (by omega)]
theorem implSeen_ev (xs : List (Int × Int × Int × Int × Int × Int × Int × List Int)) (b0 b1 b2 b3 b4 b5 b6 : Int) (m : List Int) (hn : xs.length ≤ 1048576) (hz : ∀ x ∈ xs, pGot x ≤ 1048576) (k : Nat) (hk : 3000000 < k) :
    impl_SeenBefore.f k xs b0 b1 b2 b3 b4 b5 b6 m = some (upTo (b0, b1, b2, b3, b4, b5, b6, m) xs) := by
  have hl := upTo_len (b0, b1, b2, b3, b4, b5, b6, m) xs
  have ht := upTo_take (b0, b1, b2, b3, b4, b5, b6, m) xs
  have hg := upTo_get (b0, b1, b2, b3, b4, b5, b6, m) xs
  have ha := upTo_at (b0, b1, b2, b3, b4, b5, b6, m) xs
  generalize upTo (b0, b1, b2, b3, b4, b5, b6, m) xs = U at hl ht hg ha ⊢
  have hUz : ∀ x ∈ U, pGot x ≤ 1048576 := fun x hx => hz x (List.mem_of_mem_take (ht ▸ hx))
  have hix : slices_IndexFunc_Packet_impl_SeenBefore_1.f k xs b0 b1 b2 b3 b4 b5 b6 m = some (if U.length < xs.length then (U.length : Int) else -1, b0, b1, b2, b3, b4, b5, b6, m) := by
    simp only [slices_IndexFunc_Packet_impl_SeenBefore_1.f, slices_IndexFunc_Packet_impl_SeenBefore_1.l0, rLen_eq]
    refine iter_upto (f := fun (rec : ((List (Int × Int × Int × Int × Int × Int × Int × List Int)) × Int × Int × Int × Int × Int × Int × Int × Int × Int × List Int) → Option (Int × Int × Int × Int × Int × Int × Int × Int × List Int)) (x : (List (Int × Int × Int × Int × Int × Int × Int × List Int)) × Int × Int × Int × Int × Int × Int × Int × Int × Int × List Int) => slices_IndexFunc_Packet_impl_SeenBefore_1.s0 k rec x.1 x.2.1 x.2.2.1 x.2.2.2.1 x.2.2.2.2.1 x.2.2.2.2.2.1 x.2.2.2.2.2.2.1 x.2.2.2.2.2.2.2.1 x.2.2.2.2.2.2.2.2.1 x.2.2.2.2.2.2.2.2.2.1 x.2.2.2.2.2.2.2.2.2.2)
      (fun i => (xs, (xs.length : Int), (i : Int), b0, b1, b2, b3, b4, b5, b6, m)) U.length (fun rec i hi => ?_) (fun rec => ?_) (by omega)
    · have hix : i < xs.length := by omega
      have e : rGet (0, 0, 0, 0, 0, 0, 0, []) xs (i : Int) = xs[i] := getD_lt _ _ hix
      have hq := hz _ (List.getElem_mem hix)
      have hs := hg i hix hi
      simp only [slices_IndexFunc_Packet_impl_SeenBefore_1.s0, impl_SeenBefore_1.f, e, iLt_eq, brB_dec, chk_idx, rLen_eq]
      generalize xs[i] = q at hq hs ⊢
      obtain ⟨q0, q1, q2, q3, q4, q5, q6, ql⟩ := q
      have hql : ql.length ≤ 1048576 := hq
      simp only [implSame_ev q0 q1 q2 q3 q4 q5 q6 ql b0 b1 b2 b3 b4 b5 b6 m hql k (by omega), hs, bnd_one, brB_false]
      rw [if_pos (by omega), if_idx hix, next_id hix (by omega)]
    · simp only [slices_IndexFunc_Packet_impl_SeenBefore_1.s0, impl_SeenBefore_1.f, iLt_eq, brB_dec, chk_idx, rLen_eq]
      by_cases hlt : U.length < xs.length
      · have hs := ha hlt
        have e : rGet (0, 0, 0, 0, 0, 0, 0, []) xs (U.length : Int) = xs[U.length] := getD_lt _ _ hlt
        have hq := hz _ (List.getElem_mem hlt)
        rw [if_pos (by omega), if_idx hlt, e, if_pos hlt]
        generalize xs[U.length] = q at hq hs ⊢
        obtain ⟨q0, q1, q2, q3, q4, q5, q6, ql⟩ := q
        have hql : ql.length ≤ 1048576 := hq
        simp only [implSame_ev q0 q1 q2 q3 q4 q5 q6 ql b0 b1 b2 b3 b4 b5 b6 m hql k (by omega), hs, bnd_one, brB_true]
      · rw [if_neg (by omega), if_neg hlt]
  have hsub : ∀ n : Nat, rSub xs 0 (n : Int) = xs.take n := fun n => by simp [rSub]
  simp only [impl_SeenBefore.f, hix, bnd_one, iLt_eq, brB_dec, chk_sub, rLen_eq, hsub]
  by_cases hlt : U.length < xs.length
  · rw [if_pos hlt, if_neg (by omega), if_pos (by omega), hsub, ht, copyPackets_ev U (by omega) hUz k hk, bnd_one]
  · have e : U.length = xs.length := by omega
    rw [if_neg hlt, if_pos (by omega), if_pos (by omega), ← e, ht, copyPackets_ev U (by omega) hUz k hk, bnd_one]
theorem rSum_take {α : Type} (z : α → Nat) (l : List α) (i : Nat) : rSum z (l.take i) ≤ rSum z l := by
  have h : rSum z (l.take i ++ l.drop i) = rSum z l := by rw [List.take_append_drop]
  unfold rSum at h ⊢
  rw [List.map_append, List.sum_append] at h
  omega
theorem laws_FnExactSeenBefore.main (l : List (Int × Int × Int × Int × Int × Int × Int × List Int)) (b0 b1 b2 b3 b4 b5 b6 : Int) (m : List Int) (hl : l.length ≤ 9223372036854775807) (hl2 : ∀ x ∈ l, pGot x ≤ 9223372036854775807) (hm : m.length ≤ 9223372036854775807) : ∃ k, laws_FnExactSeenBefore.f k l b0 b1 b2 b3 b4 b5 b6 m = some true := by
  refine ⟨l.length + 3000001, ?_⟩
  generalize hk : l.length + 3000001 = k
  unfold laws_FnExactSeenBefore.f
  have sp := szPacketS_eq k l 1048576 hl hl2 (by omega) (by omega) (by omega)
  by_cases c2 : (l.length : Int) + rSum pGot l ≤ 1048576
  · rw [if_pos c2] at sp
    refine bnd_to sp (brF_to (iLt_no (by omega)) ?_)
    have sz := szPacket_eq k b0 b1 b2 b3 b4 b5 b6 m (1048576 - l.length - rSum pGot l) hm (by omega) (by omega)
    by_cases c : (m.length : Int) ≤ 1048576 - l.length - rSum pGot l
    · rw [if_pos c] at sz
      refine bnd_to sz (brF_to (iLt_no (by omega)) ?_)
      have hz : ∀ x ∈ l, pGot x ≤ 1048576 := fun x hx => by have := rSum_le (z := pGot) hx; omega
      have tp := toPacketS_ev l (by omega) hz k (by omega)
      have tc := toPacket_ev b0 b1 b2 b3 b4 b5 b6 m (by omega) k (by omega)
      have f1 := specSeen_ev l b0 b1 b2 b3 b4 b5 b6 m (by omega) hz k (by omega)
      have f2 := implSeen_ev l b0 b1 b2 b3 b4 b5 b6 m (by omega) hz k (by omega)
      have hr := upTo_len (b0, b1, b2, b3, b4, b5, b6, m) l
      have ht := upTo_take (b0, b1, b2, b3, b4, b5, b6, m) l
      generalize upTo (b0, b1, b2, b3, b4, b5, b6, m) l = r at f1 f2 hr ht
      have hrz : ∀ x ∈ r, pGot x ≤ 1048576 := fun x hx => hz x (List.mem_of_mem_take (ht ▸ hx))
      have hrs : rSum pGot r ≤ rSum pGot l := by rw [← ht]; exact rSum_take _ _ _
      have hp := rSum_p l
      have hpr := rSum_p r
      have q := eqPacketS_refl r (by omega) hrz k (by omega)
      have q0 := eqPacketS_refl l (by omega) hz k (by omega)
      have qc := eqPacket_refl b0 b1 b2 b3 b4 b5 b6 m (by omega) k (by omega)
      have m0 := markPacketS_ev l 1 (by omega) hz (by omega) (by omega) k (by omega)
      have g00 : 0 ≤ offs pN l 1 l.length := by have := offs_ge pN l 1 l.length; omega
      have g01 := offs_le pN l 1 l.length
      have m1 := markPacket_ev b0 b1 b2 b3 b4 b5 b6 m (offs pN l 1 l.length) (by omega) (by omega) (by omega) k (by omega)
      have m2 := markPacketS_ev r 1 (by omega) hrz (by omega) (by omega) k (by omega)
      have hd := heldPacketS_ev r 1 (by omega) hrz (by omega) (by omega) k (by omega)
      have g0 : 0 ≤ offs pN l 1 l.length + (m.length : Int) := by omega
      have g1 : 0 ≤ offs pN r 1 r.length := by have := offs_ge pN r 1 r.length; omega
      repeat (first
        | with_reducible refine bnd_to tp ?_
        | with_reducible refine bnd_to tc ?_
        | with_reducible refine bnd_to f1 ?_
        | with_reducible refine bnd_to f2 ?_
        | with_reducible refine bnd_to q ?_
        | with_reducible refine bnd_to q0 ?_
        | with_reducible refine bnd_to qc ?_
        | with_reducible refine bnd_to m0 ?_
        | with_reducible refine bnd_to m1 ?_
        | with_reducible refine bnd_to m2 ?_
        | with_reducible refine bnd_to hd ?_
        | with_reducible refine brF_to bNot_t ?_
        | with_reducible refine brF_to (iNe_self _) ?_
        | with_reducible refine brF_to (iLt_no g0) ?_
        | with_reducible refine brF_to (iLt_no g1) ?_)
      rfl
    · rw [if_neg c] at sz
      exact bnd_to sz (brT_to (iLt_yes (by omega)) rfl)
  · rw [if_neg c2] at sp
    exact bnd_to sp (brT_to (iLt_yes (by omega)) rfl)
theorem laws_FnExactSeenBefore.pure : ∀ x : laws_FnExactSeenBefore.sig.inTy.T, Good laws_FnExactSeenBefore.sig.inTy x → ∃ k, laws_FnExactSeenBefore.spec.fn k x = some true := by
  rintro ⟨l, b0, b1, b2, b3, b4, b5, b6, m⟩ ⟨⟨hl, hl2⟩, _, _, _, _, _, _, _, ⟨hm, _⟩⟩
  refine laws_FnExactSeenBefore.main l b0 b1 b2 b3 b4 b5 b6 m hl (fun x hx => ?_) hm
  obtain ⟨i, hi⟩ := List.getElem?_of_mem hx
  exact (hl2 i x hi).2.2.2.2.2.2.2.1
end Go.Proofs.YtmbmapbdbbnaeaaT

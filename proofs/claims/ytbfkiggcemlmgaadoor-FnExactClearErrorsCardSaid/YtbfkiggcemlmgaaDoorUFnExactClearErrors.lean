/- What the functions of FnExactClearErrors give, in plain terms. -/
import Derived.Test.YtbfkiggcemlmgaaDoorFFnExactClearErrors
import Derived.Test.YtbfkiggcemlmgaaDoorTiPL
set_option linter.unusedVariables false
set_option linter.unusedSimpArgs false
set_option maxRecDepth 100000
namespace Go.Proofs.YtbfkiggcemlmgaaDoorT
open Go
theorem bnd_to {A R : Type} {x : Option A} {a : A} {f : A → Option R} {r : Option R} (h : x = some a) (g : f a = r) : bnd x f = r := by rw [h]; exact g
theorem brF_to {R : Type} {b : Bool} {x y r : Option R} (h : b = false) (g : y = r) : brB b x y = r := by rw [h]; exact g
theorem brT_to {R : Type} {b : Bool} {x y r : Option R} (h : b = true) (g : x = r) : brB b x y = r := by rw [h]; exact g
theorem chk_to {R : Type} {b : Bool} {x r : Option R} (h : b = true) (g : x = r) : chk b x = r := by rw [h]; exact g
theorem iNe_self (a : Int) : iNe a a = false := by simp [iNe]
theorem bNot_t : bNot true = false := rfl
theorem iLt_no {a b : Int} (h : b ≤ a) : iLt a b = false := by simp [iLt, h]
theorem iLt_yes {a b : Int} (h : a < b) : iLt a b = true := by simp [iLt, h]
theorem iNe_no {a b : Int} (h : a = b) : iNe a b = false := by subst h; exact iNe_self a
theorem iter_from {X R : Type} {f : (X → Option R) → X → Option R} {x0 : X} (s : Nat → X) (N : Nat) {r : R} (h0 : x0 = s 0) (step : ∀ rec i, i < N → f rec (s i) = rec (s (i + 1))) (done : ∀ rec, f rec (s N) = some r) {n : Nat} (hn : N < n) :
    iter f n x0 = some r := by rw [h0]; exact iter_upto s N step done hn
theorem cTab_yes {i n : Int} (h : 0 ≤ i ∧ i < n) : cTab i n = true := @decide_eq_true _ (Classical.propDecidable _) h
theorem iLe_eq (a b : Int) : iLe a b = decide (a ≤ b) := rfl
theorem iLt_eq (a b : Int) : iLt a b = decide (a < b) := rfl
theorem iEq_eq (a b : Int) : iEq a b = decide (a = b) := by by_cases h : a = b <;> simp [iEq, h]
theorem iNe_eq (a b : Int) : iNe a b = !decide (a = b) := by by_cases h : a = b <;> simp [iNe, h]
theorem bNot_eq (a : Bool) : bNot a = !a := rfl
/-- A loop that looks for the first element with a quality. -/
theorem iter_find {R : Type} {α : Type} {X : Type} {f : (X → Option R) → X → Option R} (s : Nat → X) (xs : List α) (p : α → Bool) (r : R) (e : Nat → R)
    (go : ∀ rec (i : Nat) (h : i < xs.length), p xs[i] = true → f rec (s i) = rec (s (i + 1))) (stop : ∀ rec (i : Nat) (h : i < xs.length), p xs[i] = false → f rec (s i) = some (e i)) (done : ∀ rec, f rec (s xs.length) = some r) {n : Nat} (hn : xs.length < n) :
    iter f n (s 0) = some (match xs.findIdx? (fun x => !p x) with | some i => e i | none => r) := by
  suffices H : ∀ d i n, i + d = xs.length → d < n → (∀ j (h : j < xs.length), j < i → p xs[j] = true) → iter f n (s i) = some (match xs.findIdx? (fun x => !p x) with | some i => e i | none => r) from H xs.length 0 n (by omega) hn (fun j _ h => by omega)
  intro d
  induction d with
  | zero =>
    intro i n hi hn hp
    obtain ⟨m, rfl⟩ : ∃ m, n = m + 1 := ⟨n - 1, by omega⟩
    obtain rfl : i = xs.length := by omega
    have : xs.findIdx? (fun x => !p x) = none := by
      rw [List.findIdx?_eq_none_iff]
      intro x hx
      obtain ⟨j, hj, rfl⟩ := List.mem_iff_getElem.1 hx
      simp [hp j hj (by omega)]
    rw [this]
    exact done _
  | succ d ih =>
    intro i n hi hn hp
    obtain ⟨m, rfl⟩ : ∃ m, n = m + 1 := ⟨n - 1, by omega⟩
    show f (iter f m) (s i) = _
    have hlt : i < xs.length := by omega
    by_cases hq : p xs[i] = false
    · rw [stop _ i hlt hq]
      have : xs.findIdx? (fun x => !p x) = some i := by
        rw [List.findIdx?_eq_some_iff_getElem]
        exact ⟨hlt, by simp [hq], fun j hj => by simp [hp j (by omega) hj]⟩
      rw [this]
    · have hq : p xs[i] = true := by simpa using hq
      rw [go _ i hlt hq]
      refine ih (i + 1) m (by omega) (by omega) fun j h hj => ?_
      rcases Nat.lt_or_ge j i with h' | h'
      · exact hp j h h'
      · obtain rfl : j = i := by omega
        exact hq
theorem getD_lt {α : Type} (d : α) (xs : List α) {i : Nat} (h : i < xs.length) : xs.getD i d = xs[i] := by
  rw [List.getD_eq_getElem?_getD, List.getElem?_eq_getElem h]; rfl
theorem bEq_eq (a b : Bool) : bEq a b = decide (a = b) := by cases a <;> cases b <;> rfl
theorem bNe_eq (a b : Bool) : bNe a b = !decide (a = b) := by cases a <;> cases b <;> rfl
theorem brB_nb {R : Type} (b : Bool) (x y : Option R) : brB (!b) x y = brB b y x := by cases b <;> rfl
theorem brB_dec {R : Type} (p : Prop) [Decidable p] (x y : Option R) : brB (decide p) x y = if p then x else y := by by_cases h : p <;> simp [h, brB]
theorem if_idx {R : Type} {i n : Nat} {x : Option R} (h : i < n) : (if 0 ≤ (i : Int) ∧ (i : Int) < (n : Int) then x else none) = x := if_pos (by omega)
theorem l01In_eq (k : Nat) (x a b : Int) : spec_l01In.f k x a b = some (decide (a ≤ x ∧ x ≤ b)) := by
  simp only [spec_l01In.f, iLt_eq, iLe_eq, iEq_eq, iNe_eq, bNot_eq, bEq_eq, bNe_eq, brB_nb, brB_dec, brB_true, brB_false, chk_idx, chk_len, chk_make, chk_sub, bnd_one, rLen_eq, rGet_nat, rSet_nat, rApp_eq, ↓reduceIte]; split <;> rename_i h <;> simp [h]
theorem within_eq (k : Nat) (x a b : Int) : impl_within.f k x a b = some (decide (a ≤ x ∧ x ≤ b)) := by
  simp only [impl_within.f, iLt_eq, iLe_eq, iEq_eq, iNe_eq, bNot_eq, bEq_eq, bNe_eq, brB_nb, brB_dec, brB_true, brB_false, chk_idx, chk_len, chk_make, chk_sub, bnd_one, rLen_eq, rGet_nat, rSet_nat, rApp_eq, ↓reduceIte]; split <;> rename_i h <;> simp [h]
theorem szIntS_eq (k : Nat) (l : List Int) (n : Int) (hl : l.length ≤ 9223372036854775807) (h0 : 0 ≤ n) (h1 : n ≤ 1048576) : laws_szIntS.f k l n = some (if (l.length : Int) ≤ n then n - l.length else -1) := by
  simp only [laws_szIntS.f, iLt_eq, iLe_eq, iEq_eq, iNe_eq, bNot_eq, bEq_eq, bNe_eq, brB_nb, brB_dec, brB_true, brB_false, chk_idx, chk_len, chk_make, chk_sub, bnd_one, rLen_eq, rGet_nat, rSet_nat, rApp_eq, ↓reduceIte]
  rw [iSub_id (by omega) (by omega)]
  by_cases h : (l.length : Int) ≤ n
  · rw [if_neg (by omega), if_pos h]
  · rw [if_pos (by omega), if_neg h]
theorem toIntS_ev (xs : List Int) (hn : xs.length ≤ 1048576) (k : Nat) (hk : xs.length < k) : laws_toIntS.f k xs = some xs := by
  simp only [laws_toIntS.f, laws_toIntS.l0, iLt_eq, iLe_eq, iEq_eq, iNe_eq, bNot_eq, bEq_eq, bNe_eq, brB_nb, brB_dec, brB_true, brB_false, chk_idx, chk_len, chk_make, chk_sub, bnd_one, rLen_eq, rGet_nat, rSet_nat, rApp_eq, ↓reduceIte]
  rw [if_pos (by omega), rRep_nat]
  have h := iter_upto (f := fun (rec : (List Int × List Int × Int) → Option (List Int)) (x : List Int × List Int × Int) => laws_toIntS.s0 k rec x.1 x.2.1 x.2.2)
    (fun i => (xs, fill (fun j => xs.getD j 0) (List.replicate xs.length 0) i, (i : Int))) xs.length (r := xs) (fun rec i hi => ?_) (fun rec => ?_) hk
  · rw [fill_zero] at h; exact h
  · simp only [laws_toIntS.s0, fill_len (show i ≤ (List.replicate xs.length (0:Int)).length by simp; omega), List.length_replicate, iLt_eq, iLe_eq, iEq_eq, iNe_eq, bNot_eq, bEq_eq, bNe_eq, brB_nb, brB_dec, brB_true, brB_false, chk_idx, chk_len, chk_make, chk_sub, bnd_one, rLen_eq, rGet_nat, rSet_nat, rApp_eq, ↓reduceIte]
    rw [if_pos (by omega), if_idx hi, if_idx hi, fill_set (by simpa using hi), next_id hi (by omega)]
  · have h2 := fill_end (g := fun j => xs.getD j 0) (xs := List.replicate xs.length (0 : Int))
    rw [List.length_replicate] at h2
    simp only [laws_toIntS.s0, h2, range_getD, iLt_eq, iLe_eq, iEq_eq, iNe_eq, bNot_eq, bEq_eq, bNe_eq, brB_nb, brB_dec, brB_true, brB_false, chk_idx, chk_len, chk_make, chk_sub, bnd_one, rLen_eq, rGet_nat, rSet_nat, rApp_eq, ↓reduceIte]
    rw [if_neg (by omega)]
theorem eqIntS_refl (xs : List Int) (hn : xs.length ≤ 4611686018427387904) (k : Nat) (hk : xs.length < k) : laws_eqIntS.f k xs xs = some true := by
  simp only [laws_eqIntS.f, laws_eqIntS.l0, iLt_eq, iLe_eq, iEq_eq, iNe_eq, bNot_eq, bEq_eq, bNe_eq, brB_nb, brB_dec, brB_true, brB_false, chk_idx, chk_len, chk_make, chk_sub, bnd_one, rLen_eq, rGet_nat, rSet_nat, rApp_eq, ↓reduceIte]
  refine iter_upto (f := fun (rec : (List Int × List Int × Int) → Option Bool) (x : List Int × List Int × Int) => laws_eqIntS.s0 k rec x.1 x.2.1 x.2.2) (fun i => (xs, xs, (i : Int))) xs.length (fun rec i hi => ?_) (fun rec => ?_) hk
  · simp only [laws_eqIntS.s0, iLt_eq, iLe_eq, iEq_eq, iNe_eq, bNot_eq, bEq_eq, bNe_eq, brB_nb, brB_dec, brB_true, brB_false, chk_idx, chk_len, chk_make, chk_sub, bnd_one, rLen_eq, rGet_nat, rSet_nat, rApp_eq, ↓reduceIte]
    rw [if_pos (by omega), if_idx hi, if_idx hi, next_id hi hn]
  · simp only [laws_eqIntS.s0, iLt_eq, iLe_eq, iEq_eq, iNe_eq, bNot_eq, bEq_eq, bNe_eq, brB_nb, brB_dec, brB_true, brB_false, chk_idx, chk_len, chk_make, chk_sub, bnd_one, rLen_eq, rGet_nat, rSet_nat, rApp_eq, ↓reduceIte]
    rw [if_neg (by omega)]
/-- The marks of a row of numbers. -/
def marks (m : Int) (n : Nat) : List Int := (List.range n).map fun (j : Nat) => m + (j : Int)
theorem marks_len (m : Int) (n : Nat) : (marks m n).length = n := by simp [marks]
theorem markIntS_ev (xs : List Int) (m : Int) (hn : xs.length ≤ 1000000000000) (h0 : 0 ≤ m) (h1 : m ≤ 1000000000000) (k : Nat) (hk : xs.length < k) : laws_markIntS.f k xs m = some (m + xs.length, marks m xs.length) := by
  simp only [laws_markIntS.f, laws_markIntS.l0]
  have h := iter_upto (f := fun (rec : (List Int × Int × Int) → Option (Int × List Int)) (x : List Int × Int × Int) => laws_markIntS.s0 k rec x.1 x.2.1 x.2.2)
    (fun i => (fill (fun (j : Nat) => m + (j : Int)) xs i, m + (i : Int), (i : Int))) xs.length (r := (m + xs.length, marks m xs.length)) (fun rec i hi => ?_) (fun rec => ?_) hk
  · rw [fill_zero] at h; simpa using h
  · simp only [laws_markIntS.s0, fill_len (Nat.le_of_lt hi), iLt_eq, iLe_eq, iEq_eq, iNe_eq, bNot_eq, bEq_eq, bNe_eq, brB_nb, brB_dec, brB_true, brB_false, chk_idx, chk_len, chk_make, chk_sub, bnd_one, rLen_eq, rGet_nat, rSet_nat, rApp_eq, ↓reduceIte]
    rw [if_pos (by omega), if_idx hi, fill_set hi, next_id hi (by omega), iAdd_id (by omega) (by omega)]
    congr 3
    omega
  · simp only [laws_markIntS.s0, fill_end, List.length_map, List.length_range, iLt_eq, iLe_eq, iEq_eq, iNe_eq, bNot_eq, bEq_eq, bNe_eq, brB_nb, brB_dec, brB_true, brB_false, chk_idx, chk_len, chk_make, chk_sub, bnd_one, rLen_eq, rGet_nat, rSet_nat, rApp_eq, ↓reduceIte]
    rw [if_neg (by omega)]
    rfl
theorem heldIntS_ev (n : Nat) (m : Int) (hn : n ≤ 1000000000000) (h0 : 0 ≤ m) (h1 : m ≤ 1000000000000) (k : Nat) (hk : n < k) : laws_heldIntS.f k (marks m n) m = some (m + n) := by
  simp only [laws_heldIntS.f, laws_heldIntS.l0]
  have h := iter_upto (f := fun (rec : (List Int × Int × Int) → Option Int) (x : List Int × Int × Int) => laws_heldIntS.s0 k rec x.1 x.2.1 x.2.2)
    (fun i => (marks m n, m + (i : Int), (i : Int))) n (r := m + n) (fun rec i hi => ?_) (fun rec => ?_) hk
  · simpa using h
  · simp only [laws_heldIntS.s0, marks_len, iLt_eq, iLe_eq, iEq_eq, iNe_eq, bNot_eq, bEq_eq, bNe_eq, brB_nb, brB_dec, brB_true, brB_false, chk_idx, chk_len, chk_make, chk_sub, bnd_one, rLen_eq, rGet_nat, rSet_nat, rApp_eq, ↓reduceIte]
    rw [if_pos (by omega), if_idx hi, marks, range_get n hi, if_pos rfl, next_id hi (by omega), iAdd_id (by omega) (by omega)]
    congr 3
    omega
  · simp only [laws_heldIntS.s0, marks_len, iLt_eq, iLe_eq, iEq_eq, iNe_eq, bNot_eq, bEq_eq, bNe_eq, brB_nb, brB_dec, brB_true, brB_false, chk_idx, chk_len, chk_make, chk_sub, bnd_one, rLen_eq, rGet_nat, rSet_nat, rApp_eq, ↓reduceIte]
    rw [if_neg (by omega)]
theorem findIdx_all {α : Type} (l : List α) (p : α → Bool) : (match l.findIdx? (fun x => !p x) with | some _ => false | none => true) = l.all p := by
  cases h : l.findIdx? (fun x => !p x) with
  | none =>
    rw [List.findIdx?_eq_none_iff] at h
    symm
    rw [List.all_eq_true]
    intro x hx
    simpa using h x hx
  | some i =>
    rw [List.findIdx?_eq_some_iff_getElem] at h
    obtain ⟨hi, h1, _⟩ := h
    symm
    rw [← Bool.not_eq_true, List.all_eq_true]
    intro hall
    have := hall _ (List.getElem_mem hi)
    simp [this] at h1
theorem found_iff {α : Type} (l : List α) (p : α → Bool) : iLe 0 (match l.findIdx? (fun x => !p x) with | some i => (i : Int) | none => -1) = !l.all p := by
  rw [← findIdx_all]
  cases l.findIdx? (fun x => !p x) with
  | none => rfl
  | some i => simp [iLe]
theorem isWord_eq (k : Nat) (x : Int) : impl_isWord.f k x = some (decide (0 ≤ x ∧ x ≤ 65535)) := by simp only [impl_isWord.f, within_eq, bnd_one]
/-- The bits of one word that another one has not. -/
def nAn (a b : Nat) : Nat := a ^^^ (a &&& b)
theorem nAn_bit (a b i : Nat) : (nAn a b).testBit i = (a.testBit i && !b.testBit i) := by
  simp only [nAn, Nat.testBit_xor, Nat.testBit_and]
  cases a.testBit i <;> cases b.testBit i <;> rfl
theorem nAn_lt {a b : Nat} (ha : a < 65536) : nAn a b < 65536 := Nat.xor_lt_two_pow (n := 16) ha (Nat.lt_of_le_of_lt Nat.and_le_left ha)
theorem ofInt_nat {n : Nat} (h : n < 18446744073709551616) : (BitVec.ofInt 64 (n : Int)).toNat = n := by
  rw [BitVec.ofInt_natCast, BitVec.toNat_ofNat]; exact Nat.mod_eq_of_lt h
theorem bit_and {a b : Nat} (ha : a < 65536) (hb : b < 65536) : iBit .and .i64 (a : Int) (b : Int) = ((a &&& b : Nat) : Int) := by
  have hle : a &&& b ≤ a := Nat.and_le_left
  show IntKind.wrap .i64 (((BitVec.ofInt 64 (a : Int) &&& BitVec.ofInt 64 (b : Int)).toNat : Nat) : Int) = _
  rw [BitVec.toNat_and, ofInt_nat (by omega), ofInt_nat (by omega), wrap64, w64_id (by omega) (by omega)]
theorem bit_an {a b : Nat} (ha : a < 65536) (hb : b < 65536) : iBit .andNot .i64 (a : Int) (b : Int) = ((nAn a b : Nat) : Int) := by
  have hlt := nAn_lt (b := b) ha
  have e : (BitVec.ofInt 64 (a : Int) &&& ~~~(BitVec.ofInt 64 (b : Int))).toNat = nAn a b := by
    apply Nat.eq_of_testBit_eq
    intro i
    rw [nAn_bit, BitVec.toNat_and, Nat.testBit_and, ofInt_nat (by omega), BitVec.toNat_not, ofInt_nat (by omega)]
    rw [show 2 ^ 64 - 1 - b = 2 ^ 64 - (b + 1) by omega, Nat.testBit_two_pow_sub_succ (by omega)]
    by_cases hi : i < 64
    · simp [hi]
    · have : a.testBit i = false := Nat.testBit_lt_two_pow (Nat.lt_of_lt_of_le (show a < 2 ^ 16 by omega) (Nat.pow_le_pow_right (by omega) (by omega)))
      simp [this]
  show IntKind.wrap .i64 (((BitVec.ofInt 64 (a : Int) &&& ~~~(BitVec.ofInt 64 (b : Int))).toNat : Nat) : Int) = _
  rw [e, wrap64, w64_id (by omega) (by omega)]
theorem bit_set {a k : Nat} (ha : a < 65536) (hk : k ≤ 15) : iEq (iBit .and .i64 (iShr .i64 (a : Int) (k : Int)) 1) 1 = a.testBit k := by
  have e : iShr .i64 (a : Int) (k : Int) = ((a >>> k : Nat) : Int) := by
    show Int.fdiv (a : Int) (2 ^ (min (k : Int).toNat 64)) = _
    rw [show min (k : Int).toNat 64 = k by omega, Nat.shiftRight_eq_div_pow]
    rw [show ((2 : Int) ^ k) = ((2 ^ k : Nat) : Int) by norm_cast]
    exact (Int.ofNat_fdiv a (2 ^ k)).symm
  have hle : a >>> k ≤ a := by rw [Nat.shiftRight_eq_div_pow]; exact Nat.div_le_self _ _
  rw [e, show (1 : Int) = ((1 : Nat) : Int) from rfl, bit_and (by omega) (by omega)]
  simp only [iEq, Nat.testBit, Nat.and_comm 1]
  have h2 : (a >>> k) &&& 1 = (a >>> k) % 2 := Nat.and_one_is_mod _
  rw [h2]
  rcases Nat.mod_two_eq_zero_or_one (a >>> k) with h | h <;> rw [h] <;> rfl
/-- The lowest bit that is set, if there is one. -/
def lowB (n : Nat) (f : Int) : Nat → Int
  | 0 => f
  | i + 1 => if n.testBit (15 - i) = true then ((15 - i : Nat) : Int) else lowB n f i
theorem low_skip {n : Nat} {f : Int} : ∀ (d : Nat), d ≤ 16 → (∀ j, j < d → n.testBit j = false) → lowB n f 16 = lowB n f (16 - d)
  | 0, _, _ => rfl
  | d + 1, hd, h => by
    rw [low_skip d (by omega) (fun j hj => h j (by omega))]
    obtain ⟨i, hi⟩ : ∃ i, 16 - d = i + 1 := ⟨15 - d, by omega⟩
    rw [hi, lowB, show 15 - i = d by omega, h d (by omega), if_neg (by simp), show 16 - (d + 1) = i by omega]
theorem low_at {n t : Nat} {f : Int} (ht : t ≤ 15) (h1 : n.testBit t = true) (h0 : ∀ j, j < t → n.testBit j = false) : lowB n f 16 = (t : Int) := by
  rw [low_skip t (by omega) h0]
  obtain ⟨i, hi⟩ : ∃ i, 16 - t = i + 1 := ⟨15 - t, by omega⟩
  rw [hi, lowB, show 15 - i = t by omega, if_pos h1]
theorem low_ex {n : Nat} (hn : n < 65536) (h0 : n ≠ 0) : ∃ t, t ≤ 15 ∧ n.testBit t = true ∧ ∀ j, j < t → n.testBit j = false := by
  obtain ⟨i, hi⟩ := Nat.exists_testBit_of_ne_zero h0
  have hle : ∀ i, n.testBit i = true → i ≤ 15 := fun i hi => by
    rcases Nat.lt_or_ge i 16 with h | h
    · omega
    · have : n.testBit i = false := Nat.testBit_lt_two_pow (Nat.lt_of_lt_of_le (show n < 2 ^ 16 by omega) (Nat.pow_le_pow_right (by omega) h))
      rw [this] at hi; cases hi
  have key : ∀ m i, i ≤ m → n.testBit i = true → ∃ t, n.testBit t = true ∧ ∀ j, j < t → n.testBit j = false := by
    intro m
    induction m with
    | zero => intro i him hi; exact ⟨i, hi, fun j hj => by omega⟩
    | succ m ih =>
      intro i him hi
      by_cases hex : ∃ j, j < i ∧ n.testBit j = true
      · obtain ⟨j, hj, hj'⟩ := hex
        exact ih j (by omega) hj'
      · refine ⟨i, hi, fun j hj => ?_⟩
        cases hb : n.testBit j with
        | false => rfl
        | true => exact absurd ⟨j, hj, hb⟩ hex
  obtain ⟨t, h1, h2⟩ := key i i (Nat.le_refl _) hi
  exact ⟨t, hle t h1, h1, h2⟩
theorem low_iso {n t : Nat} (hn : n < 65536) (ht : t ≤ 15) (h1 : n.testBit t = true) (h0 : ∀ j, j < t → n.testBit j = false) : n &&& (18446744073709551616 - n) = 2 ^ t := by
  have hm : n % 2 ^ (t + 1) = 2 ^ t := by
    apply Nat.eq_of_testBit_eq
    intro i
    rw [Nat.testBit_mod_two_pow, Nat.testBit_two_pow]
    by_cases hi : i < t
    · rw [h0 i hi]; simp; omega
    · by_cases he : i = t
      · subst he; simp [h1]
      · rw [decide_eq_false (show ¬ i < t + 1 by omega), decide_eq_false (Ne.symm he)]; rfl
  have hd := Nat.div_add_mod n (2 ^ (t + 1))
  rw [hm] at hd
  generalize n / 2 ^ (t + 1) = q at hd
  have hp : 2 ^ t < 2 ^ (t + 1) := Nat.pow_lt_pow_right (by omega) (by omega)
  have hp2 : 2 ^ (t + 1) = 2 * 2 ^ t := by rw [Nat.pow_succ]; omega
  have h63 : 2 ^ (t + 1) * 2 ^ (63 - t) = 18446744073709551616 := by rw [← Nat.pow_add, show t + 1 + (63 - t) = 64 by omega]
  have hpos : 0 < 2 ^ t := Nat.pow_pos (by omega)
  have hq : q < 2 ^ (63 - t) := by
    apply Nat.lt_of_mul_lt_mul_left (a := 2 ^ (t + 1))
    omega
  have hs : 18446744073709551616 - n = 2 ^ (t + 1) * (2 ^ (63 - t) - (q + 1)) + 2 ^ t := by
    rw [Nat.mul_sub, h63, Nat.mul_add, Nat.mul_one]
    have : 2 ^ (t + 1) * (q + 1) ≤ 2 ^ (t + 1) * 2 ^ (63 - t) := Nat.mul_le_mul_left _ hq
    rw [h63, Nat.mul_add, Nat.mul_one] at this
    omega
  apply Nat.eq_of_testBit_eq
  intro i
  rw [Nat.testBit_and, hs, ← hd, Nat.testBit_two_pow_mul_add _ hp, Nat.testBit_two_pow_mul_add _ hp]
  by_cases hi : i < t + 1
  · rw [if_pos hi, if_pos hi, Bool.and_self]
  · rw [if_neg hi, if_neg hi, Nat.testBit_two_pow_sub_succ hq, Nat.testBit_two_pow]
    cases q.testBit (i - (t + 1)) <;> simp <;> omega
theorem tz_ev {n t : Nat} (k : Nat) (hn : n < 65536) (ht : t ≤ 15) (h1 : n.testBit t = true) (h0 : ∀ j, j < t → n.testBit j = false) : bits_TrailingZeros64.f k (n : Int) = some (t : Int) := by
  have hne : n ≠ 0 := fun e => by subst e; simp at h1
  have e1 : iSub .u64 0 (n : Int) = ((18446744073709551616 - n : Nat) : Int) := by
    show IntKind.wrap .u64 (0 - (n : Int)) = _
    simp only [IntKind.wrap]
    rw [show ((2 : Int) ^ IntKind.u64.bits) = 18446744073709551616 from rfl, show IntKind.u64.signed = false from rfl]
    simp only [Bool.false_and, Bool.false_eq_true, if_false]
    omega
  have e2 : iBit .and .u64 (n : Int) ((18446744073709551616 - n : Nat) : Int) = ((2 ^ t : Nat) : Int) := by
    show IntKind.wrap .u64 (((BitVec.ofInt 64 (n : Int) &&& BitVec.ofInt 64 ((18446744073709551616 - n : Nat) : Int)).toNat : Nat) : Int) = _
    rw [BitVec.toNat_and, ofInt_nat (by omega), ofInt_nat (by omega), low_iso hn ht h1 h0]
    have hlt : 2 ^ t ≤ 32768 := Nat.le_trans (Nat.pow_le_pow_right (by omega) ht) (show 2 ^ 15 ≤ 32768 by decide)
    generalize 2 ^ t = P at hlt ⊢
    simp only [IntKind.wrap]
    rw [show ((2 : Int) ^ IntKind.u64.bits) = 18446744073709551616 from rfl, show IntKind.u64.signed = false from rfl]
    simp only [Bool.false_and, Bool.false_eq_true, if_false]
    omega
  unfold bits_TrailingZeros64.f
  refine brF_to (by simp only [iEq]; exact beq_false_of_ne (by omega)) ?_
  rw [e1, e2]
  clear e1 e2 h1 h0
  have : t = 0 ∨ t = 1 ∨ t = 2 ∨ t = 3 ∨ t = 4 ∨ t = 5 ∨ t = 6 ∨ t = 7 ∨ t = 8 ∨ t = 9 ∨ t = 10 ∨ t = 11 ∨ t = 12 ∨ t = 13 ∨ t = 14 ∨ t = 15 := by omega
  rcases this with rfl | rfl | rfl | rfl | rfl | rfl | rfl | rfl | rfl | rfl | rfl | rfl | rfl | rfl | rfl | rfl <;>
    exact chk_to rfl (chk_to (cTab_yes (by decide +kernel)) (by decide +kernel))
def sevB (x : Int) : Bool := decide (0 ≤ x ∧ x ≤ 2)
def logB (s m f : Int) (v : List Int) : Bool :=
  decide (0 ≤ s ∧ s ≤ 65535) && (decide (0 ≤ m ∧ m ≤ 65535) && (decide ((v.length : Int) = 16) && (v.all sevB && (if s = 0 then decide (f = -1) else decide (0 ≤ f ∧ f ≤ 15) && s.toNat.testBit f.toNat))))
theorem cnv_small {x : Int} (h : 0 ≤ x ∧ x ≤ 65535) : iCnv .u64 x = x := by
  show IntKind.wrap .u64 x = x
  simp only [IntKind.wrap]
  rw [show ((2 : Int) ^ IntKind.u64.bits) = 18446744073709551616 from rfl, show IntKind.u64.signed = false from rfl]
  simp only [Bool.false_and, Bool.false_eq_true, if_false]
  omega
theorem bit_setI {s f : Int} (hs : 0 ≤ s ∧ s ≤ 65535) (hf : 0 ≤ f ∧ f ≤ 15) : iEq (iBit .and .i64 (iShr .i64 s f) 1) 1 = s.toNat.testBit f.toNat := by
  have := bit_set (a := s.toNat) (k := f.toNat) (by omega) (by omega)
  rw [show ((s.toNat : Nat) : Int) = s by omega, show ((f.toNat : Nat) : Int) = f by omega] at this
  exact this
theorem isSet_ev (k : Nat) {s f : Int} (hs : 0 ≤ s ∧ s ≤ 65535) (hf : 0 ≤ f ∧ f ≤ 15) : impl_isSet.f k s f = some (s.toNat.testBit f.toNat) := by
  simp only [impl_isSet.f, chk_nn]
  rw [cnv_small (by omega), if_pos hf.1, bit_setI hs hf]
theorem isError_ev (k : Nat) (x : Int) : impl_isError.f k x = some (decide (0 ≤ x ∧ x ≤ 15)) := by simp only [impl_isError.f, within_eq, bnd_one]
theorem indexNotSev (l : List Int) (hl : l.length ≤ 4611686018427387904) (k : Nat) (hk : l.length < k) : slices_IndexFunc_int_impl_LogOk_1.f k l = some (match l.findIdx? (fun x => !sevB x) with | some i => (i : Int) | none => -1) := by
  simp only [slices_IndexFunc_int_impl_LogOk_1.f, slices_IndexFunc_int_impl_LogOk_1.l0]
  refine iter_find (f := fun (rec : (List Int × Int × Int) → Option Int) (x : List Int × Int × Int) => slices_IndexFunc_int_impl_LogOk_1.s0 k rec x.1 x.2.1 x.2.2) (fun i => (l, rLen l, (i : Int))) l sevB (-1) (fun i => (i : Int)) (fun rec i hi hp => ?_) (fun rec i hi hp => ?_) (fun rec => ?_) hk
  · simp only [slices_IndexFunc_int_impl_LogOk_1.s0, impl_LogOk_1.f, impl_isSeverity.f, within_eq, getD_lt _ _ hi, iLt_eq, iLe_eq, iEq_eq, iNe_eq, bNot_eq, bEq_eq, bNe_eq, brB_nb, brB_dec, brB_true, brB_false, chk_idx, chk_len, chk_make, chk_sub, bnd_one, rLen_eq, rGet_nat, rSet_nat, rApp_eq, ↓reduceIte]
    rw [if_pos (by omega), if_idx hi, next_id hi hl]
    rw [if_pos (of_decide_eq_true hp)]
  · simp only [slices_IndexFunc_int_impl_LogOk_1.s0, impl_LogOk_1.f, impl_isSeverity.f, within_eq, getD_lt _ _ hi, iLt_eq, iLe_eq, iEq_eq, iNe_eq, bNot_eq, bEq_eq, bNe_eq, brB_nb, brB_dec, brB_true, brB_false, chk_idx, chk_len, chk_make, chk_sub, bnd_one, rLen_eq, rGet_nat, rSet_nat, rApp_eq, ↓reduceIte]
    rw [if_pos (by omega), if_idx hi]
    rw [if_neg (of_decide_eq_false hp)]
  · simp only [slices_IndexFunc_int_impl_LogOk_1.s0, iLt_eq, iLe_eq, iEq_eq, iNe_eq, bNot_eq, bEq_eq, bNe_eq, brB_nb, brB_dec, brB_true, brB_false, chk_idx, chk_len, chk_make, chk_sub, bnd_one, rLen_eq, rGet_nat, rSet_nat, rApp_eq, ↓reduceIte]
    rw [if_neg (by omega)]
theorem implLogOk_ev (s m f : Int) (v : List Int) (hv : v.length ≤ 1048576) (k : Nat) (hk : 3000000 < k) : impl_LogOk.f k s m f v = some (logB s m f v) := by
  unfold impl_LogOk.f logB
  refine bnd_to (isWord_eq k s) ?_
  by_cases hs : 0 ≤ s ∧ s ≤ 65535
  · rw [decide_eq_true hs]
    refine brF_to rfl (bnd_to (isWord_eq k m) ?_)
    by_cases hm : 0 ≤ m ∧ m ≤ 65535
    · rw [decide_eq_true hm]
      refine brF_to rfl ?_
      by_cases hl : (v.length : Int) = 16
      · rw [decide_eq_true hl]
        refine brF_to (iNe_no (by rw [rLen_eq]; exact hl)) ?_
        have hc : slices_ContainsFunc_int_impl_LogOk_1.f k v = some (!v.all sevB) := by
          simp only [slices_ContainsFunc_int_impl_LogOk_1.f, indexNotSev v (by omega) k (by omega), bnd_one, found_iff v sevB]
        refine bnd_to hc ?_
        cases v.all sevB with
        | false => rfl
        | true =>
          refine brF_to rfl ?_
          by_cases h0 : s = 0
          · subst h0
            exact brT_to rfl (by rw [if_pos rfl]; simp only [iEq, Bool.true_and]; rfl)
          · refine brF_to (by simp only [iEq]; exact beq_false_of_ne h0) (bnd_to (isError_ev k f) ?_)
            rw [if_neg h0]
            by_cases hf : 0 ≤ f ∧ f ≤ 15
            · rw [decide_eq_true hf]
              exact brT_to rfl (bnd_to (isSet_ev k hs hf) rfl)
            · rw [decide_eq_false hf]; exact brF_to rfl rfl
      · rw [decide_eq_false hl]
        exact brT_to (by simp only [iNe, rLen_eq]; exact bne_iff_ne.2 hl) rfl
    · rw [decide_eq_false hm]; exact brT_to rfl rfl
  · rw [decide_eq_false hs]; exact brT_to rfl rfl
theorem specLogOk_ev (s m f : Int) (v : List Int) (k : Nat) (hk : 3000000 < k) : spec_LogOk.f k s m f v = some (logB s m f v) := by
  unfold spec_LogOk.f logB
  refine bnd_to (l01In_eq k s 0 65535) ?_
  by_cases hs : 0 ≤ s ∧ s ≤ 65535
  · rw [decide_eq_true hs]
    refine brF_to rfl (bnd_to (l01In_eq k m 0 65535) ?_)
    by_cases hm : 0 ≤ m ∧ m ≤ 65535
    · rw [decide_eq_true hm]
      refine brF_to rfl ?_
      by_cases hl : (v.length : Int) = 16
      · rw [decide_eq_true hl]
        refine brF_to (iNe_no (by rw [rLen_eq]; exact hl)) ?_
        unfold spec_LogOk.l0
        have hl16 : v.length = 16 := by omega
        have h := iter_find (f := fun (rec : (Int × Int × Int × Int × List Int) → Option (Bool)) (x : Int × Int × Int × Int × List Int) => spec_LogOk.s0 k rec x.1 x.2.1 x.2.2.1 x.2.2.2.1 x.2.2.2.2) (fun i => ((i : Int), s, m, f, v)) v sevB (if s = 0 then decide (f = -1) else decide (0 ≤ f ∧ f ≤ 15) && s.toNat.testBit f.toNat) (fun _ => false)
          (fun rec i hi hp => ?_) (fun rec i hi hp => ?_) (fun rec => ?_) (n := k) (by omega)
        · refine h.trans (congrArg some ?_)
          have := findIdx_all v sevB
          cases hx : v.findIdx? (fun x => !sevB x) with
          | none => rw [hx] at this; simp only at this; rw [← this]; rfl
          | some j => rw [hx] at this; simp only at this; rw [← this]; rfl
        · simp only [spec_LogOk.s0, l01In_eq, getD_lt _ _ hi, iLt_eq, iLe_eq, iEq_eq, iNe_eq, bNot_eq, bEq_eq, bNe_eq, brB_nb, brB_dec, brB_true, brB_false, chk_idx, chk_len, chk_make, chk_sub, bnd_one, rLen_eq, rGet_nat, rSet_nat, rApp_eq, ↓reduceIte]
          rw [if_pos (by omega), if_idx hi, next_id hi (by omega)]
          rw [if_pos (of_decide_eq_true hp)]
        · simp only [spec_LogOk.s0, l01In_eq, getD_lt _ _ hi, iLt_eq, iLe_eq, iEq_eq, iNe_eq, bNot_eq, bEq_eq, bNe_eq, brB_nb, brB_dec, brB_true, brB_false, chk_idx, chk_len, chk_make, chk_sub, bnd_one, rLen_eq, rGet_nat, rSet_nat, rApp_eq, ↓reduceIte]
          rw [if_pos (by omega), if_idx hi]
          rw [if_neg (of_decide_eq_false hp)]
        · unfold spec_LogOk.s0
          refine brF_to (iLt_no (by omega)) ?_
          by_cases h0 : s = 0
          · subst h0
            exact brT_to rfl (by rw [if_pos rfl]; rfl)
          · refine brF_to (by simp only [iEq]; exact beq_false_of_ne h0) (bnd_to (l01In_eq k f 0 15) ?_)
            rw [if_neg h0]
            by_cases hf : 0 ≤ f ∧ f ≤ 15
            · rw [decide_eq_true hf]
              refine brT_to rfl ?_
              rw [chk_nn, if_pos hf.1, bit_setI hs hf]; rfl
            · rw [decide_eq_false hf]; exact brF_to rfl rfl
      · rw [decide_eq_false hl]
        exact brT_to (by simp only [iNe, rLen_eq]; exact bne_iff_ne.2 hl) rfl
    · rw [decide_eq_false hm]; exact brT_to rfl rfl
  · rw [decide_eq_false hs]; exact brT_to rfl rfl
/-- What clearing gives. -/
def clearB (s m f : Int) (v : List Int) (c : Int) : Int × Int × Int × List Int :=
  if logB s m f v = true ∧ (0 ≤ c ∧ c ≤ 65535) then
    if nAn s.toNat c.toNat = 0 then (0, m, -1, v)
    else ((nAn s.toNat c.toNat : Int), m, (if (nAn s.toNat c.toNat).testBit f.toNat = true then f else lowB (nAn s.toNat c.toNat) f 16), v)
  else (s, m, f, v)
theorem log_facts {s m f : Int} {v : List Int} (h : logB s m f v = true) : (0 ≤ s ∧ s ≤ 65535) ∧ (0 ≤ m ∧ m ≤ 65535) ∧ v.length = 16 ∧ v.all sevB = true ∧ (s = 0 → f = -1) ∧ (s ≠ 0 → (0 ≤ f ∧ f ≤ 15) ∧ s.toNat.testBit f.toNat = true) := by
  simp only [logB, Bool.and_eq_true, decide_eq_true_eq] at h
  obtain ⟨h1, h2, h3, h4, h5⟩ := h
  refine ⟨h1, h2, by omega, h4, fun e => ?_, fun e => ?_⟩
  · rw [if_pos e] at h5; exact of_decide_eq_true h5
  · rw [if_neg e, Bool.and_eq_true, decide_eq_true_eq] at h5; exact h5
theorem clear_bits {s c : Int} (hs : 0 ≤ s ∧ s ≤ 65535) (hc : 0 ≤ c ∧ c ≤ 65535) : iBit .andNot .i64 s c = ((nAn s.toNat c.toNat : Nat) : Int) ∧ nAn s.toNat c.toNat < 65536 := by
  have := bit_an (a := s.toNat) (b := c.toNat) (by omega) (by omega)
  rw [show ((s.toNat : Nat) : Int) = s by omega, show ((c.toNat : Nat) : Int) = c by omega] at this
  exact ⟨this, nAn_lt (by omega)⟩
theorem clear_ne {s c : Int} (h : nAn s.toNat c.toNat ≠ 0) : s ≠ 0 := fun e => h (by subst e; simp [nAn])
theorem implClear_ev (s m f : Int) (v : List Int) (c : Int) (hv : v.length ≤ 1048576) (k : Nat) (hk : 3000000 < k) : impl_ClearErrors.f k s m f v c = some (clearB s m f v c) := by
  unfold impl_ClearErrors.f clearB
  have hcp : impl_copyLog.f k s m f v = some (s, m, f, v) := by
    simp only [impl_copyLog.f, slices_Clone_int.f, chk_len, rLen_eq]; rw [if_pos (by omega)]; rfl
  refine bnd_to hcp (bnd_to (implLogOk_ev s m f v hv k hk) ?_)
  cases hl : logB s m f v with
  | false => exact brT_to rfl (by rw [if_neg (by simp)])
  | true =>
    obtain ⟨hs, hm, h16, hsv, h0, h1⟩ := log_facts hl
    refine brF_to rfl (bnd_to (isWord_eq k c) ?_)
    by_cases hc : 0 ≤ c ∧ c ≤ 65535
    · obtain ⟨e, hlt⟩ := clear_bits hs hc
      rw [decide_eq_true hc, if_pos ⟨rfl, hc⟩, e]
      refine brF_to rfl ?_
      by_cases hn : nAn s.toNat c.toNat = 0
      · rw [if_pos hn, hn]
        exact brT_to rfl rfl
      · rw [if_neg hn]
        obtain ⟨hf, hfb⟩ := h1 (clear_ne hn)
        refine brF_to (by simp only [iEq]; exact beq_false_of_ne (by omega)) ?_
        have hset := isSet_ev k (s := ((nAn s.toNat c.toNat : Nat) : Int)) (f := f) (by omega) hf
        refine bnd_to hset ?_
        rw [show (((nAn s.toNat c.toNat : Nat) : Int)).toNat = nAn s.toNat c.toNat by omega]
        cases hb : (nAn s.toNat c.toNat).testBit f.toNat with
        | true => exact brF_to rfl (by rw [if_pos rfl])
        | false =>
          obtain ⟨t, ht, ht1, ht0⟩ := low_ex hlt hn
          have htz : bits_TrailingZeros.f k (iCnv .u64 ((nAn s.toNat c.toNat : Nat) : Int)) = some (t : Int) := by
            rw [cnv_small (by omega)]
            exact bnd_to (tz_ev k hlt ht ht1 ht0) rfl
          refine brT_to rfl (bnd_to htz ?_)
          rw [if_neg (by simp), low_at ht ht1 ht0]
    · rw [decide_eq_false hc, if_neg (fun h => hc h.2)]
      exact brT_to rfl rfl
theorem specClear_ev (s m f : Int) (v : List Int) (c : Int) (hv : v.length ≤ 1048576) (k : Nat) (hk : 3000000 < k) : spec_ClearErrors.f k s m f v c = some (clearB s m f v c) := by
  unfold spec_ClearErrors.f clearB
  have hcp : spec_l32Copy.f k s m f v = some (s, m, f, v) := by
    simp only [spec_l32Copy.f, chk_len, rLen_eq, rApp_eq, List.nil_append]; rw [if_pos (by omega)]
  refine bnd_to hcp (bnd_to (specLogOk_ev s m f v k hk) ?_)
  cases hl : logB s m f v with
  | false => exact brT_to rfl (by rw [if_neg (by simp)])
  | true =>
    obtain ⟨hs, hm, h16, hsv, h0, h1⟩ := log_facts hl
    refine brF_to rfl (bnd_to (l01In_eq k c 0 65535) ?_)
    by_cases hc : 0 ≤ c ∧ c ≤ 65535
    · obtain ⟨e, hlt⟩ := clear_bits hs hc
      rw [decide_eq_true hc, if_pos ⟨rfl, hc⟩, e]
      refine brF_to rfl ?_
      by_cases hn : nAn s.toNat c.toNat = 0
      · rw [if_pos hn, hn]
        exact brT_to rfl rfl
      · rw [if_neg hn]
        obtain ⟨hf, hfb⟩ := h1 (clear_ne hn)
        refine brF_to (by simp only [iEq]; exact beq_false_of_ne (by omega)) ?_
        generalize nAn s.toNat c.toNat = n at *
        refine chk_to (by simp only [cNn]; exact decide_eq_true hf.1) ?_
        have hset : iEq (iBit .and .i64 (iShr .i64 (n : Int) f) 1) 1 = n.testBit f.toNat := by
          have := bit_set (a := n) (k := f.toNat) hlt (by omega)
          rwa [show ((f.toNat : Nat) : Int) = f by omega] at this
        rw [hset]
        cases hb : n.testBit f.toNat with
        | true => exact brT_to rfl (by rw [if_pos rfl])
        | false =>
          rw [if_neg (by simp)]
          refine brF_to rfl ?_
          unfold spec_ClearErrors.l0
          refine iter_from (fun i => (15 - (i : Int), 0, 0, 0, [], (n : Int), m, lowB n f i, v)) 16 (by rfl) (fun rec i hi => ?_) (fun rec => ?_) (n := k) (by omega)
          · have hbit : iEq (iBit .and .i64 (iShr .i64 (n : Int) (15 - (i : Int))) 1) 1 = n.testBit (15 - i) := by
              have := bit_set (a := n) (k := 15 - i) hlt (by omega)
              rwa [show ((15 - i : Nat) : Int) = 15 - (i : Int) by omega] at this
            unfold spec_ClearErrors.s0
            rw [hbit, iSub_id (a := 15 - (i : Int)) (b := 1) (by omega) (by omega), show 15 - (i : Int) - 1 = 15 - ((i + 1 : Nat) : Int) by omega]
            refine brT_to (by simp only [iLe]; exact decide_eq_true (by omega)) (chk_to (by simp only [cNn]; exact decide_eq_true (by omega)) ?_)
            simp only [lowB]
            cases hbb : n.testBit (15 - i) with
            | true => rw [brB_true, if_pos rfl, show ((15 - i : Nat) : Int) = 15 - (i : Int) by omega]
            | false => rw [brB_false, if_neg (by simp)]
          · unfold spec_ClearErrors.s0
            exact brF_to (by simp only [iLe]; exact decide_eq_false (by omega)) rfl
    · rw [decide_eq_false hc, if_neg (fun h => hc h.2)]
      exact brT_to rfl rfl
theorem clear_len (s m f : Int) (v : List Int) (c : Int) : (clearB s m f v c).2.2.2 = v := by
  unfold clearB; split
  · split <;> rfl
  · rfl
theorem szLog_ev (k : Nat) (s m f : Int) (v : List Int) (n : Int) (hl : v.length ≤ 9223372036854775807) (h0 : 0 ≤ n) (h1 : n ≤ 1048576) : laws_szLog.f k s m f v n = some (if (v.length : Int) ≤ n then n - v.length else -1) := by
  refine bnd_to (szIntS_eq k v n hl h0 h1) ?_
  split
  · exact brF_to (iLt_no (by omega)) rfl
  · exact brT_to (iLt_yes (by omega)) rfl
theorem toLog_ev (s m f : Int) (v : List Int) (hn : v.length ≤ 1048576) (k : Nat) (hk : v.length < k) : laws_toLog.f k s m f v = some (s, m, f, v) := bnd_to (toIntS_ev v hn k hk) rfl
theorem eqLog_refl (s m f : Int) (v : List Int) (hn : v.length ≤ 1048576) (k : Nat) (hk : v.length < k) : laws_eqLog.f k s m f v s m f v = some true :=
  brF_to (iNe_self _) (brF_to (iNe_self _) (brF_to (iNe_self _) (bnd_to (eqIntS_refl v (by omega) k hk) (brF_to bNot_t rfl))))
theorem markLog_ev (s m f : Int) (v : List Int) (hn : v.length ≤ 1048576) (k : Nat) (hk : v.length < k) : laws_markLog.f k s m f v 1 = some ((1 : Int) + v.length, marks 1 v.length) := bnd_to (markIntS_ev v 1 (by omega) (by omega) (by omega) k hk) rfl
theorem heldLog_ev (s m f : Int) (n : Nat) (hn : n ≤ 1048576) (k : Nat) (hk : n < k) : laws_heldLog.f k s m f (marks 1 n) 1 = some ((1 : Int) + n) := bnd_to (heldIntS_ev n 1 (by omega) (by omega) (by omega) k hk) (brF_to (iLt_no (by omega)) rfl)

theorem laws_FnExactClearErrors.main (s m f : Int) (v : List Int) (c : Int) (hv : v.length ≤ 9223372036854775807) : ∃ k, laws_FnExactClearErrors.f k s m f v c = some true := by
  refine ⟨v.length + 3000001, ?_⟩
  generalize hk : v.length + 3000001 = k
  have sz := szLog_ev k s m f v 1048576 hv (by omega) (by omega)
  unfold laws_FnExactClearErrors.f
  by_cases g : (v.length : Int) ≤ 1048576
  · rw [if_pos g] at sz
    refine bnd_to sz (brF_to (iLt_no (by omega)) ?_)
    have ti := toLog_ev s m f v (by omega) k (by omega)
    have f1 := specClear_ev s m f v c (by omega) k (by omega)
    have f2 := implClear_ev s m f v c (by omega) k (by omega)
    have hl := clear_len s m f v c
    generalize clearB s m f v c = r at f1 f2 hl
    obtain ⟨r0, r1, r2, rv⟩ := r
    simp only at hl
    subst hl
    have q := eqLog_refl r0 r1 r2 rv (by omega) k (by omega)
    have q0 := eqLog_refl s m f rv (by omega) k (by omega)
    have m0 := markLog_ev s m f rv (by omega) k (by omega)
    have m1 := markLog_ev r0 r1 r2 rv (by omega) k (by omega)
    have hd := heldLog_ev r0 r1 r2 rv.length (by omega) k (by omega)
    have g0 : 0 ≤ 1 + (rv.length : Int) := by omega
    repeat (first
      | with_reducible refine bnd_to ti ?_
      | with_reducible refine bnd_to f1 ?_
      | with_reducible refine bnd_to f2 ?_
      | with_reducible refine bnd_to q ?_
      | with_reducible refine bnd_to q0 ?_
      | with_reducible refine bnd_to m0 ?_
      | with_reducible refine bnd_to m1 ?_
      | with_reducible refine bnd_to hd ?_
      | with_reducible refine brF_to bNot_t ?_
      | with_reducible refine brF_to (iNe_self _) ?_
      | with_reducible refine brF_to (iLt_no g0) ?_)
    rfl
  · rw [if_neg g] at sz
    exact bnd_to sz (brT_to (iLt_yes (by omega)) rfl)
theorem laws_FnExactClearErrors.pure : ∀ x : laws_FnExactClearErrors.sig.inTy.T, Good laws_FnExactClearErrors.sig.inTy x → ∃ k, laws_FnExactClearErrors.spec.fn k x = some true := by
  rintro ⟨s, m, f, v, c⟩ ⟨_, _, _, ⟨hv, _⟩, _⟩
  exact laws_FnExactClearErrors.main s m f v c hv
end Go.Proofs.YtbfkiggcemlmgaaDoorT

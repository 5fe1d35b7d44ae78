/- What the functions of FnClears give, in plain terms. -/
import Derived.Test.YtbfkiggcemlmgaaDoorFFnClears
import Derived.Test.YtbfkiggcemlmgaaDoorTiPL
set_option linter.unusedVariables false
set_option linter.unusedSimpArgs false
set_option maxRecDepth 100000
namespace Go.Proofs.YtbfkiggcemlmgaaDoorT
open Go
theorem bnd_to {A R : Type} {x : Option A} {a : A} {f : A → Option R} {r : Option R} (h : x = some a) (g : f a = r) : bnd x f = r := by rw [h]; exact g
theorem brF_to {R : Type} {b : Bool} {x y r : Option R} (h : b = false) (g : y = r) : brB b x y = r := by rw [h]; exact g
theorem brT_to {R : Type} {b : Bool} {x y r : Option R} (h : b = true) (g : x = r) : brB b x y = r := by rw [h]; exact g
theorem chk_to {R : Type} {b : Bool} {x r : Option R} (h : b = true) (g : x = r) : chk b x = r := by rw [h]; exact g
theorem iNe_self (a : Int) : iNe a a = false := by simp [iNe]
theorem iLt_no {a b : Int} (h : b ≤ a) : iLt a b = false := by simp [iLt, h]
theorem iLt_yes {a b : Int} (h : a < b) : iLt a b = true := by simp [iLt, h]
theorem iNe_no {a b : Int} (h : a = b) : iNe a b = false := by subst h; exact iNe_self a
theorem iter_from {X R : Type} {f : (X → Option R) → X → Option R} {x0 : X} (s : Nat → X) (N : Nat) {r : R} (h0 : x0 = s 0) (step : ∀ rec i, i < N → f rec (s i) = rec (s (i + 1))) (done : ∀ rec, f rec (s N) = some r) {n : Nat} (hn : N < n) :
    iter f n x0 = some r := by rw [h0]; exact iter_upto s N step done hn
theorem cIdx_yes {i n : Int} (h : 0 ≤ i ∧ i < n) : cIdx i n = true := decide_eq_true h
theorem cTab_yes {i n : Int} (h : 0 ≤ i ∧ i < n) : cTab i n = true := @decide_eq_true _ (Classical.propDecidable _) h
theorem iLe_eq (a b : Int) : iLe a b = decide (a ≤ b) := rfl
theorem iLt_eq (a b : Int) : iLt a b = decide (a < b) := rfl
theorem iEq_eq (a b : Int) : iEq a b = decide (a = b) := by by_cases h : a = b <;> simp [iEq, h]
theorem iNe_eq (a b : Int) : iNe a b = !decide (a = b) := by by_cases h : a = b <;> simp [iNe, h]
theorem bNot_eq (a : Bool) : bNot a = !a := rfl
/-- A loop that looks for the first element with a quality. -/
theorem iter_find {R : Type} {α : Type} {X : Type} {f : (X → Option R) → X → Option R} (s : Nat → X) (xs : List α) (p : α → Bool) (r : R) (e : Nat → R)
    (go : ∀ rec (i : Nat) (h : i < xs.length), p xs[i] = true → f rec (s i) = rec (s (i + 1))) (stop : ∀ rec (i : Nat) (h : i < xs.length), p xs[i] = false → f rec (s i) = some (e i)) (done : ∀ rec, f rec (s xs.length) = some r) {n : Nat} (hn : xs.length < n) :
    iter f n (s 0) = some (match xs.findIdx? (fun x => !p x) with | some i => e i | none => r) := by
  suffices H : ∀ d i n, i + d = xs.length → d < n → (∀ j (h : j < xs.length), j < i → p xs[j] = true) → iter f n (s i) = some (match xs.findIdx? (fun x => !p x) with | some i => e i | none => r) from H xs.length 0 n (by omega) hn (fun j _ h => by omega)
  intro d
  induction d with
  | zero =>
    intro i n hi hn hp
    obtain ⟨m, rfl⟩ : ∃ m, n = m + 1 := ⟨n - 1, by omega⟩
    obtain rfl : i = xs.length := by omega
    have : xs.findIdx? (fun x => !p x) = none := by
      rw [List.findIdx?_eq_none_iff]
      intro x hx
      obtain ⟨j, hj, rfl⟩ := List.mem_iff_getElem.1 hx
      simp [hp j hj (by omega)]
    rw [this]
    exact done _
  | succ d ih =>
    intro i n hi hn hp
    obtain ⟨m, rfl⟩ : ∃ m, n = m + 1 := ⟨n - 1, by omega⟩
    show f (iter f m) (s i) = _
    have hlt : i < xs.length := by omega
    by_cases hq : p xs[i] = false
    · rw [stop _ i hlt hq]
      have : xs.findIdx? (fun x => !p x) = some i := by
        rw [List.findIdx?_eq_some_iff_getElem]
        exact ⟨hlt, by simp [hq], fun j hj => by simp [hp j (by omega) hj]⟩
      rw [this]
    · have hq : p xs[i] = true := by simpa using hq
      rw [go _ i hlt hq]
      refine ih (i + 1) m (by omega) (by omega) fun j h hj => ?_
      rcases Nat.lt_or_ge j i with h' | h'
      · exact hp j h h'
      · obtain rfl : j = i := by omega
        exact hq
theorem getD_lt {α : Type} (d : α) (xs : List α) {i : Nat} (h : i < xs.length) : xs.getD i d = xs[i] := by
  rw [List.getD_eq_getElem?_getD, List.getElem?_eq_getElem h]; rfl
theorem bEq_eq (a b : Bool) : bEq a b = decide (a = b) := by cases a <;> cases b <;> rfl
theorem bNe_eq (a b : Bool) : bNe a b = !decide (a = b) := by cases a <;> cases b <;> rfl
theorem brB_nb {R : Type} (b : Bool) (x y : Option R) : brB (!b) x y = brB b y x := by cases b <;> rfl
theorem brB_dec {R : Type} (p : Prop) [Decidable p] (x y : Option R) : brB (decide p) x y = if p then x else y := by by_cases h : p <;> simp [h, brB]
theorem if_idx {R : Type} {i n : Nat} {x : Option R} (h : i < n) : (if 0 ≤ (i : Int) ∧ (i : Int) < (n : Int) then x else none) = x := if_pos (by omega)
theorem l01In_eq (k : Nat) (x a b : Int) : spec_l01In.f k x a b = some (decide (a ≤ x ∧ x ≤ b)) := by
  simp only [spec_l01In.f, iLt_eq, iLe_eq, iEq_eq, iNe_eq, bNot_eq, bEq_eq, bNe_eq, brB_nb, brB_dec, brB_true, brB_false, chk_idx, chk_len, chk_make, chk_sub, bnd_one, rLen_eq, rGet_nat, rSet_nat, rApp_eq, ↓reduceIte]; split <;> rename_i h <;> simp [h]
theorem within_eq (k : Nat) (x a b : Int) : impl_within.f k x a b = some (decide (a ≤ x ∧ x ≤ b)) := by
  simp only [impl_within.f, iLt_eq, iLe_eq, iEq_eq, iNe_eq, bNot_eq, bEq_eq, bNe_eq, brB_nb, brB_dec, brB_true, brB_false, chk_idx, chk_len, chk_make, chk_sub, bnd_one, rLen_eq, rGet_nat, rSet_nat, rApp_eq, ↓reduceIte]; split <;> rename_i h <;> simp [h]
theorem findIdx_all {α : Type} (l : List α) (p : α → Bool) : (match l.findIdx? (fun x => !p x) with | some _ => false | none => true) = l.all p := by
  cases h : l.findIdx? (fun x => !p x) with
  | none =>
    rw [List.findIdx?_eq_none_iff] at h
    symm
    rw [List.all_eq_true]
    intro x hx
    simpa using h x hx
  | some i =>
    rw [List.findIdx?_eq_some_iff_getElem] at h
    obtain ⟨hi, h1, _⟩ := h
    symm
    rw [← Bool.not_eq_true, List.all_eq_true]
    intro hall
    have := hall _ (List.getElem_mem hi)
    simp [this] at h1
theorem found_iff {α : Type} (l : List α) (p : α → Bool) : iLe 0 (match l.findIdx? (fun x => !p x) with | some i => (i : Int) | none => -1) = !l.all p := by
  rw [← findIdx_all]
  cases l.findIdx? (fun x => !p x) with
  | none => rfl
  | some i => simp [iLe]
theorem isWord_eq (k : Nat) (x : Int) : impl_isWord.f k x = some (decide (0 ≤ x ∧ x ≤ 65535)) := by simp only [impl_isWord.f, within_eq, bnd_one]
theorem rGet_in {α : Type} (d : α) (l : List α) {v : Int} (h : 0 ≤ v) : rGet d l v = l.getD v.toNat d := rfl
theorem iBit_and255 (x : Int) : 0 ≤ iBit .and .i64 x 255 ∧ iBit .and .i64 x 255 ≤ 255 := by
  have h : (BitVec.ofInt IntKind.i64.bits x &&& BitVec.ofInt IntKind.i64.bits 255).toNat ≤ 255 := by
    rw [BitVec.toNat_and]
    refine Nat.le_trans Nat.and_le_right ?_
    decide
  simp only [iBit]
  rw [wrap64, w64_id (by omega) (by omega)]
  omega
noncomputable def lnF (k : Nat) (rec : (List Int × Int × Int) → Option (List Int × Int × Int)) (x : List Int × Int × Int) : Option (List Int × Int × Int) := spec_l01New.s0 k rec x.1 x.2.1 x.2.2
theorem l01New_ev (c : List Int) (k : Nat) (hk : 4000 < k) : ∃ s, spec_l01New.f k c = some (c, 0, s) := by
  suffices H : ∀ (n i : Nat) (x : Int) (K : Nat), i + n = 4000 → n < K → ∃ s, iter (lnF k) K (c, x, (i : Int)) = some (c, 0, s) from H 4000 0 (iAdd .i64 98663 (rLen c)) k (by omega) hk
  intro n
  induction n with
  | zero =>
    intro i x K hi hK
    obtain ⟨m, rfl⟩ : ∃ m, K = m + 1 := ⟨K - 1, by omega⟩
    refine ⟨x, ?_⟩
    show spec_l01New.s0 k (iter (lnF k) m) c x (i : Int) = _
    generalize iter (lnF k) m = rec
    simp only [spec_l01New.s0, iLt_eq, iLe_eq, iEq_eq, iNe_eq, bNot_eq, bEq_eq, bNe_eq, brB_nb, brB_dec, brB_true, brB_false, chk_idx, chk_len, chk_make, chk_sub, bnd_one, rLen_eq, rGet_nat, rSet_nat, rApp_eq, ↓reduceIte]
    by_cases h : (i : Int) < (c.length : Int)
    · rw [if_pos h, if_neg (by omega)]
    · rw [if_neg h]
  | succ n ih =>
    intro i x K hi hK
    obtain ⟨m, rfl⟩ : ∃ m, K = m + 1 := ⟨K - 1, by omega⟩
    by_cases h : (i : Int) < (c.length : Int)
    · obtain ⟨s, hs⟩ := ih (i + 1) (iBit .and .i64 (iAdd .i64 (iAdd .i64 (iMul .i64 x 131) (iCnv .i64 (c.getD i 0))) 7) 1073741823) m (by omega) (by omega)
      refine ⟨s, ?_⟩
      show spec_l01New.s0 k (iter (lnF k) m) c x (i : Int) = _
      generalize iter (lnF k) m = rec at hs ⊢
      simp only [spec_l01New.s0, iLt_eq, iLe_eq, iEq_eq, iNe_eq, bNot_eq, bEq_eq, bNe_eq, brB_nb, brB_dec, brB_true, brB_false, chk_idx, chk_len, chk_make, chk_sub, bnd_one, rLen_eq, rGet_nat, rSet_nat, rApp_eq, ↓reduceIte]
      rw [if_pos h, if_pos (by omega), if_pos (by omega), next_id (n := 4000) (by omega) (by omega), hs]
    · refine ⟨x, ?_⟩
      show spec_l01New.s0 k (iter (lnF k) m) c x (i : Int) = _
      generalize iter (lnF k) m = rec
      simp only [spec_l01New.s0, iLt_eq, iLe_eq, iEq_eq, iNe_eq, bNot_eq, bEq_eq, bNe_eq, brB_nb, brB_dec, brB_true, brB_false, chk_idx, chk_len, chk_make, chk_sub, bnd_one, rLen_eq, rGet_nat, rSet_nat, rApp_eq, ↓reduceIte]
      rw [if_neg h]
theorem l01Byte_some (k : Nat) (c : List Int) (hc : c.length ≤ 2000000) (p s : Int) (hp : 0 ≤ p) : ∃ b p' s', spec_l01Byte.f k c p s = some (b, c, p', s') ∧ 0 ≤ b ∧ b ≤ 255 ∧ 0 ≤ p' := by
  simp only [spec_l01Byte.f, chk_nn, iLt_eq, brB_dec, chk_idx, rLen_eq]
  rw [if_pos (by omega), if_pos (by omega)]
  by_cases h : p < (c.length : Int)
  · rw [if_pos h, if_pos (by omega)]
    exact ⟨_, _, _, rfl, (iBit_and255 _).1, (iBit_and255 _).2, by rw [iAdd_id (by omega) (by omega)]; omega⟩
  · rw [if_neg h]
    exact ⟨_, _, _, rfl, (iBit_and255 _).1, (iBit_and255 _).2, hp⟩
theorem l01Below_some (k : Nat) (c : List Int) (hc : c.length ≤ 2000000) (p s n : Int) (hp : 0 ≤ p) (hn : 0 < n) : ∃ v p' s', spec_l01Below.f k n c p s = some (v, c, p', s') ∧ 0 ≤ v ∧ v < n ∧ 0 ≤ p' := by
  obtain ⟨b1, p1, s1, e1, h1, g1, q1⟩ := l01Byte_some k c hc p s hp
  obtain ⟨b2, p2, s2, e2, h2, g2, q2⟩ := l01Byte_some k c hc p1 s1 q1
  obtain ⟨b3, p3, s3, e3, h3, g3, q3⟩ := l01Byte_some k c hc p2 s2 q2
  obtain ⟨b4, p4, s4, e4, h4, g4, q4⟩ := l01Byte_some k c hc p3 s3 q3
  simp only [spec_l01Below.f, iLe_eq, brB_dec, e1, e2, e3, e4, bnd_one, chk_nz]
  rw [if_neg (by omega)]
  by_cases h : n ≤ 256
  · rw [if_pos h, if_neg (by omega)]
    exact ⟨_, _, _, rfl, Int.tmod_nonneg _ h1, Int.tmod_lt_of_pos _ hn, q1⟩
  · rw [if_neg h, if_neg (by omega)]
    have e : iAdd .i64 (iAdd .i64 (iAdd .i64 (iMul .i64 b1 16777216) (iMul .i64 b2 65536)) (iMul .i64 b3 256)) b4 = b1 * 16777216 + b2 * 65536 + b3 * 256 + b4 := by
      simp only [iAdd_w, iMul_w, w64]; omega
    rw [e]
    exact ⟨_, _, _, rfl, Int.tmod_nonneg _ (by omega), Int.tmod_lt_of_pos _ hn, q4⟩
theorem l01PickInt_some (k : Nat) (l c : List Int) (hc : c.length ≤ 2000000) (p s : Int) (hp : 0 ≤ p) (hl : 0 < l.length) : ∃ v p' s', spec_l01PickInt.f k l c p s = some (v, c, p', s') ∧ v ∈ l ∧ 0 ≤ p' := by
  obtain ⟨v, p1, s1, e1, h1, g1, q1⟩ := l01Below_some k c hc p s (l.length : Int) hp (by omega)
  simp only [spec_l01PickInt.f, rLen_eq, e1, bnd_one, chk_idx]
  rw [if_pos ⟨h1, g1⟩, rGet_in _ _ h1, getD_lt 0 l (by omega)]
  exact ⟨_, _, _, rfl, List.getElem_mem _, q1⟩
noncomputable def dpF (k : Nat) (rec : (List Int × Int × List Int × Int × Int) → Option (List Int)) (x : List Int × Int × List Int × Int × Int) : Option (List Int) := spec_DrawPlaces.s0 k rec x.1 x.2.1 x.2.2.1 x.2.2.2.1 x.2.2.2.2
/-- Twelve places. -/
theorem drawPlaces_ev (c : List Int) (hc : c.length ≤ 2000000) (k : Nat) (hk : 4000 < k) : ∃ l : List Int, spec_DrawPlaces.f k c = some l ∧ l.length = 12 ∧ ∀ x ∈ l, 0 ≤ x ∧ x < 10000 := by
  obtain ⟨s0, h0⟩ := l01New_ev c k hk
  suffices H : ∀ (n i : Nat) (x : List Int) (p s : Int) (K : Nat), i + n = 12 → n < K → x.length = i → 0 ≤ p → (∀ y ∈ x, 0 ≤ y ∧ y < 10000) → ∃ l : List Int, iter (dpF k) K (x, (i : Int), c, p, s) = some l ∧ l.length = 12 ∧ ∀ x ∈ l, 0 ≤ x ∧ x < 10000 by
    obtain ⟨l, h, hl⟩ := H 12 0 [] 0 s0 k (by omega) (by omega) rfl (by omega) (fun y hy => by cases hy)
    refine ⟨l, ?_, hl⟩
    simp only [spec_DrawPlaces.f, h0, bnd_one]
    exact h
  intro n
  induction n with
  | zero =>
    intro i x p s K hi hK hx hp hxs
    obtain ⟨m, rfl⟩ : ∃ m, K = m + 1 := ⟨K - 1, by omega⟩
    refine ⟨x, ?_, by omega, hxs⟩
    show spec_DrawPlaces.s0 k (iter (dpF k) m) x (i : Int) c p s = _
    generalize iter (dpF k) m = rec
    simp only [spec_DrawPlaces.s0, iLt_eq, brB_dec]
    rw [if_neg (by omega)]
  | succ n ih =>
    intro i x p s K hi hK hx hp hxs
    obtain ⟨m, rfl⟩ : ∃ m, K = m + 1 := ⟨K - 1, by omega⟩
    obtain ⟨v, p1, s1, e1, h1, g1, q1⟩ := l01Below_some k c hc p s 10000 hp (by omega)
    obtain ⟨l, h, hl⟩ := ih (i + 1) (x ++ [v]) p1 s1 m (by omega) (by omega) (by simp [hx]) q1 (fun y hy => by
      rcases List.mem_append.1 hy with hy | hy
      · exact hxs y hy
      · simp at hy; subst hy; exact ⟨h1, g1⟩)
    refine ⟨l, ?_, hl⟩
    show spec_DrawPlaces.s0 k (iter (dpF k) m) x (i : Int) c p s = _
    generalize iter (dpF k) m = rec at h ⊢
    simp only [spec_DrawPlaces.s0, iLt_eq, brB_dec, e1, bnd_one, chk_len, rLen_eq, rApp_eq]
    rw [if_pos (by omega), if_pos (by simp only [List.length_append, List.length_cons, List.length_nil]; omega), next_id (n := 12) (by omega) (by omega), h]
/-- It gives something that is so. -/
def Yd {R : Type} (x : Option R) (Q : R → Prop) : Prop := ∃ r, x = some r ∧ Q r
theorem Yd.one {R : Type} {r : R} {Q : R → Prop} (h : Q r) : Yd (some r) Q := ⟨r, rfl, h⟩
theorem Yd.bnd {A R : Type} {x : Option A} {f : A → Option R} {P : A → Prop} {Q : R → Prop} (h : Yd x P) (hf : ∀ a, P a → Yd (f a) Q) : Yd (bnd x f) Q := by
  obtain ⟨a, e, ha⟩ := h
  subst e
  exact hf a ha
theorem Yd.br {R : Type} {b : Bool} {x y : Option R} {Q : R → Prop} (hx : b = true → Yd x Q) (hy : b = false → Yd y Q) : Yd (brB b x y) Q := by
  cases b with
  | true => exact hx rfl
  | false => exact hy rfl
theorem Yd.eq {R : Type} {a b : Int} {x y : Option R} {Q : R → Prop} (hx : a = b → Yd x Q) (hy : ¬ a = b → Yd y Q) : Yd (brB (iEq a b) x y) Q := by
  rw [iEq_eq, brB_dec]; split
  · exact hx ‹_›
  · exact hy ‹_›
theorem Yd.lt {R : Type} {a b : Int} {x y : Option R} {Q : R → Prop} (hx : a < b → Yd x Q) (hy : ¬ a < b → Yd y Q) : Yd (brB (iLt a b) x y) Q := by
  rw [iLt_eq, brB_dec]; split
  · exact hx ‹_›
  · exact hy ‹_›
theorem Yd.imp {R : Type} {x : Option R} {P Q : R → Prop} (h : Yd x P) (hi : ∀ r, P r → Q r) : Yd x Q := by
  obtain ⟨r, e, hr⟩ := h
  exact ⟨r, e, hi r hr⟩
theorem Yd.len {R : Type} {n b : Int} {x : Option R} {Q : R → Prop} (h : n * b ≤ 35184372088832) (hx : Yd x Q) : Yd (chk (cLen n b) x) Q := by rw [chk_len, if_pos h]; exact hx
theorem Yd.idx {R : Type} {i n : Int} {x : Option R} {Q : R → Prop} (h : 0 ≤ i ∧ i < n) (hx : Yd x Q) : Yd (chk (cIdx i n) x) Q := by rw [chk_idx, if_pos h]; exact hx
theorem below_bnd {R : Type} {k : Nat} {c : List Int} {p s n : Int} {f : Int × List Int × Int × Int → Option R} {Q : R → Prop} (hc : c.length ≤ 2000000) (hp : 0 ≤ p) (hn : 0 < n)
    (h : ∀ v p' s', 0 ≤ v → v < n → 0 ≤ p' → Yd (f (v, c, p', s')) Q) : Yd (bnd (spec_l01Below.f k n c p s) f) Q := by
  obtain ⟨v, p1, s1, e1, h1, g1, q1⟩ := l01Below_some k c hc p s n hp hn
  rw [e1]
  exact h v p1 s1 h1 g1 q1
theorem pick_bnd {R : Type} {k : Nat} {l c : List Int} {p s : Int} {f : Int × List Int × Int × Int → Option R} {Q : R → Prop} (hc : c.length ≤ 2000000) (hp : 0 ≤ p) (hl : 0 < l.length)
    (h : ∀ v p' s', v ∈ l → 0 ≤ p' → Yd (f (v, c, p', s')) Q) : Yd (bnd (spec_l01PickInt.f k l c p s) f) Q := by
  obtain ⟨v, p1, s1, e1, m1, q1⟩ := l01PickInt_some k l c hc p s hp hl
  rw [e1]
  exact h v p1 s1 m1 q1
/-- A loop that makes something of its state in at most N rounds. -/
theorem iter_yd {X R : Type} {f : (X → Option R) → X → Option R} {I : Nat → X → Prop} {Q : R → Prop} (N : Nat)
    (step : ∀ rec i x, i ≤ N → I i x → (∀ x', i < N → I (i + 1) x' → ∃ r, rec x' = some r ∧ Q r) → ∃ r, f rec x = some r ∧ Q r) {n : Nat} (hn : N < n) {x : X} (hx : I 0 x) : ∃ r, iter f n x = some r ∧ Q r := by
  suffices H : ∀ d i n x, i + d = N → d < n → I i x → ∃ r, iter f n x = some r ∧ Q r from H N 0 n x (by omega) hn hx
  intro d
  induction d with
  | zero =>
    intro i n x hi hn hx
    obtain ⟨m, rfl⟩ : ∃ m, n = m + 1 := ⟨n - 1, by omega⟩
    exact step _ i x (by omega) hx fun x' h => by omega
  | succ d ih =>
    intro i n x hi hn hx
    obtain ⟨m, rfl⟩ : ∃ m, n = m + 1 := ⟨n - 1, by omega⟩
    exact step _ i x (by omega) hx fun x' _ hx' => ih (i + 1) m x' (by omega) (by omega) hx'
/-- The bits of one word that another one has not. -/
def nAn (a b : Nat) : Nat := a ^^^ (a &&& b)
theorem nAn_bit (a b i : Nat) : (nAn a b).testBit i = (a.testBit i && !b.testBit i) := by
  simp only [nAn, Nat.testBit_xor, Nat.testBit_and]
  cases a.testBit i <;> cases b.testBit i <;> rfl
theorem nAn_lt {a b : Nat} (ha : a < 65536) : nAn a b < 65536 := Nat.xor_lt_two_pow (n := 16) ha (Nat.lt_of_le_of_lt Nat.and_le_left ha)
theorem ofInt_nat {n : Nat} (h : n < 18446744073709551616) : (BitVec.ofInt 64 (n : Int)).toNat = n := by
  rw [BitVec.ofInt_natCast, BitVec.toNat_ofNat]; exact Nat.mod_eq_of_lt h
theorem bit_and {a b : Nat} (ha : a < 65536) (hb : b < 65536) : iBit .and .i64 (a : Int) (b : Int) = ((a &&& b : Nat) : Int) := by
  have hle : a &&& b ≤ a := Nat.and_le_left
  show IntKind.wrap .i64 (((BitVec.ofInt 64 (a : Int) &&& BitVec.ofInt 64 (b : Int)).toNat : Nat) : Int) = _
  rw [BitVec.toNat_and, ofInt_nat (by omega), ofInt_nat (by omega), wrap64, w64_id (by omega) (by omega)]
theorem bit_or {a b : Nat} (ha : a < 65536) (hb : b < 65536) : iBit .or .i64 (a : Int) (b : Int) = ((a ||| b : Nat) : Int) := by
  have hlt : a ||| b < 2 ^ 16 := Nat.or_lt_two_pow ha hb
  show IntKind.wrap .i64 (((BitVec.ofInt 64 (a : Int) ||| BitVec.ofInt 64 (b : Int)).toNat : Nat) : Int) = _
  rw [BitVec.toNat_or, ofInt_nat (by omega), ofInt_nat (by omega), wrap64, w64_id (by omega) (by omega)]
theorem bit_an {a b : Nat} (ha : a < 65536) (hb : b < 65536) : iBit .andNot .i64 (a : Int) (b : Int) = ((nAn a b : Nat) : Int) := by
  have hlt := nAn_lt (b := b) ha
  have e : (BitVec.ofInt 64 (a : Int) &&& ~~~(BitVec.ofInt 64 (b : Int))).toNat = nAn a b := by
    apply Nat.eq_of_testBit_eq
    intro i
    rw [nAn_bit, BitVec.toNat_and, Nat.testBit_and, ofInt_nat (by omega), BitVec.toNat_not, ofInt_nat (by omega)]
    rw [show 2 ^ 64 - 1 - b = 2 ^ 64 - (b + 1) by omega, Nat.testBit_two_pow_sub_succ (by omega)]
    by_cases hi : i < 64
    · simp [hi]
    · have : a.testBit i = false := Nat.testBit_lt_two_pow (Nat.lt_of_lt_of_le (show a < 2 ^ 16 by omega) (Nat.pow_le_pow_right (by omega) (by omega)))
      simp [this]
  show IntKind.wrap .i64 (((BitVec.ofInt 64 (a : Int) &&& ~~~(BitVec.ofInt 64 (b : Int))).toNat : Nat) : Int) = _
  rw [e, wrap64, w64_id (by omega) (by omega)]
theorem bit_set {a k : Nat} (ha : a < 65536) (hk : k ≤ 15) : iEq (iBit .and .i64 (iShr .i64 (a : Int) (k : Int)) 1) 1 = a.testBit k := by
  have e : iShr .i64 (a : Int) (k : Int) = ((a >>> k : Nat) : Int) := by
    show Int.fdiv (a : Int) (2 ^ (min (k : Int).toNat 64)) = _
    rw [show min (k : Int).toNat 64 = k by omega, Nat.shiftRight_eq_div_pow]
    rw [show ((2 : Int) ^ k) = ((2 ^ k : Nat) : Int) by norm_cast]
    exact (Int.ofNat_fdiv a (2 ^ k)).symm
  have hle : a >>> k ≤ a := by rw [Nat.shiftRight_eq_div_pow]; exact Nat.div_le_self _ _
  rw [e, show (1 : Int) = ((1 : Nat) : Int) from rfl, bit_and (by omega) (by omega)]
  simp only [iEq, Nat.testBit, Nat.and_comm 1]
  have h2 : (a >>> k) &&& 1 = (a >>> k) % 2 := Nat.and_one_is_mod _
  rw [h2]
  rcases Nat.mod_two_eq_zero_or_one (a >>> k) with h | h <;> rw [h] <;> rfl
/-- The lowest bit that is set, if there is one. -/
def lowB (n : Nat) (f : Int) : Nat → Int
  | 0 => f
  | i + 1 => if n.testBit (15 - i) = true then ((15 - i : Nat) : Int) else lowB n f i
theorem low_skip {n : Nat} {f : Int} : ∀ (d : Nat), d ≤ 16 → (∀ j, j < d → n.testBit j = false) → lowB n f 16 = lowB n f (16 - d)
  | 0, _, _ => rfl
  | d + 1, hd, h => by
    rw [low_skip d (by omega) (fun j hj => h j (by omega))]
    obtain ⟨i, hi⟩ : ∃ i, 16 - d = i + 1 := ⟨15 - d, by omega⟩
    rw [hi, lowB, show 15 - i = d by omega, h d (by omega), if_neg (by simp), show 16 - (d + 1) = i by omega]
theorem low_at {n t : Nat} {f : Int} (ht : t ≤ 15) (h1 : n.testBit t = true) (h0 : ∀ j, j < t → n.testBit j = false) : lowB n f 16 = (t : Int) := by
  rw [low_skip t (by omega) h0]
  obtain ⟨i, hi⟩ : ∃ i, 16 - t = i + 1 := ⟨15 - t, by omega⟩
  rw [hi, lowB, show 15 - i = t by omega, if_pos h1]
theorem low_ex {n : Nat} (hn : n < 65536) (h0 : n ≠ 0) : ∃ t, t ≤ 15 ∧ n.testBit t = true ∧ ∀ j, j < t → n.testBit j = false := by
  obtain ⟨i, hi⟩ := Nat.exists_testBit_of_ne_zero h0
  have hle : ∀ i, n.testBit i = true → i ≤ 15 := fun i hi => by
    rcases Nat.lt_or_ge i 16 with h | h
    · omega
    · have : n.testBit i = false := Nat.testBit_lt_two_pow (Nat.lt_of_lt_of_le (show n < 2 ^ 16 by omega) (Nat.pow_le_pow_right (by omega) h))
      rw [this] at hi; cases hi
  have key : ∀ m i, i ≤ m → n.testBit i = true → ∃ t, n.testBit t = true ∧ ∀ j, j < t → n.testBit j = false := by
    intro m
    induction m with
    | zero => intro i him hi; exact ⟨i, hi, fun j hj => by omega⟩
    | succ m ih =>
      intro i him hi
      by_cases hex : ∃ j, j < i ∧ n.testBit j = true
      · obtain ⟨j, hj, hj'⟩ := hex
        exact ih j (by omega) hj'
      · refine ⟨i, hi, fun j hj => ?_⟩
        cases hb : n.testBit j with
        | false => rfl
        | true => exact absurd ⟨j, hj, hb⟩ hex
  obtain ⟨t, h1, h2⟩ := key i i (Nat.le_refl _) hi
  exact ⟨t, hle t h1, h1, h2⟩
theorem low_iso {n t : Nat} (hn : n < 65536) (ht : t ≤ 15) (h1 : n.testBit t = true) (h0 : ∀ j, j < t → n.testBit j = false) : n &&& (18446744073709551616 - n) = 2 ^ t := by
  have hm : n % 2 ^ (t + 1) = 2 ^ t := by
    apply Nat.eq_of_testBit_eq
    intro i
    rw [Nat.testBit_mod_two_pow, Nat.testBit_two_pow]
    by_cases hi : i < t
    · rw [h0 i hi]; simp; omega
    · by_cases he : i = t
      · subst he; simp [h1]
      · rw [decide_eq_false (show ¬ i < t + 1 by omega), decide_eq_false (Ne.symm he)]; rfl
  have hd := Nat.div_add_mod n (2 ^ (t + 1))
  rw [hm] at hd
  generalize n / 2 ^ (t + 1) = q at hd
  have hp : 2 ^ t < 2 ^ (t + 1) := Nat.pow_lt_pow_right (by omega) (by omega)
  have hp2 : 2 ^ (t + 1) = 2 * 2 ^ t := by rw [Nat.pow_succ]; omega
  have h63 : 2 ^ (t + 1) * 2 ^ (63 - t) = 18446744073709551616 := by rw [← Nat.pow_add, show t + 1 + (63 - t) = 64 by omega]
  have hpos : 0 < 2 ^ t := Nat.pow_pos (by omega)
  have hq : q < 2 ^ (63 - t) := by
    apply Nat.lt_of_mul_lt_mul_left (a := 2 ^ (t + 1))
    omega
  have hs : 18446744073709551616 - n = 2 ^ (t + 1) * (2 ^ (63 - t) - (q + 1)) + 2 ^ t := by
    rw [Nat.mul_sub, h63, Nat.mul_add, Nat.mul_one]
    have : 2 ^ (t + 1) * (q + 1) ≤ 2 ^ (t + 1) * 2 ^ (63 - t) := Nat.mul_le_mul_left _ hq
    rw [h63, Nat.mul_add, Nat.mul_one] at this
    omega
  apply Nat.eq_of_testBit_eq
  intro i
  rw [Nat.testBit_and, hs, ← hd, Nat.testBit_two_pow_mul_add _ hp, Nat.testBit_two_pow_mul_add _ hp]
  by_cases hi : i < t + 1
  · rw [if_pos hi, if_pos hi, Bool.and_self]
  · rw [if_neg hi, if_neg hi, Nat.testBit_two_pow_sub_succ hq, Nat.testBit_two_pow]
    cases q.testBit (i - (t + 1)) <;> simp <;> omega
theorem tz_ev {n t : Nat} (k : Nat) (hn : n < 65536) (ht : t ≤ 15) (h1 : n.testBit t = true) (h0 : ∀ j, j < t → n.testBit j = false) : bits_TrailingZeros64.f k (n : Int) = some (t : Int) := by
  have hne : n ≠ 0 := fun e => by subst e; simp at h1
  have e1 : iSub .u64 0 (n : Int) = ((18446744073709551616 - n : Nat) : Int) := by
    show IntKind.wrap .u64 (0 - (n : Int)) = _
    simp only [IntKind.wrap]
    rw [show ((2 : Int) ^ IntKind.u64.bits) = 18446744073709551616 from rfl, show IntKind.u64.signed = false from rfl]
    simp only [Bool.false_and, Bool.false_eq_true, if_false]
    omega
  have e2 : iBit .and .u64 (n : Int) ((18446744073709551616 - n : Nat) : Int) = ((2 ^ t : Nat) : Int) := by
    show IntKind.wrap .u64 (((BitVec.ofInt 64 (n : Int) &&& BitVec.ofInt 64 ((18446744073709551616 - n : Nat) : Int)).toNat : Nat) : Int) = _
    rw [BitVec.toNat_and, ofInt_nat (by omega), ofInt_nat (by omega), low_iso hn ht h1 h0]
    have hlt : 2 ^ t ≤ 32768 := Nat.le_trans (Nat.pow_le_pow_right (by omega) ht) (show 2 ^ 15 ≤ 32768 by decide)
    generalize 2 ^ t = P at hlt ⊢
    simp only [IntKind.wrap]
    rw [show ((2 : Int) ^ IntKind.u64.bits) = 18446744073709551616 from rfl, show IntKind.u64.signed = false from rfl]
    simp only [Bool.false_and, Bool.false_eq_true, if_false]
    omega
  unfold bits_TrailingZeros64.f
  refine brF_to (by simp only [iEq]; exact beq_false_of_ne (by omega)) ?_
  rw [e1, e2]
  clear e1 e2 h1 h0
  have : t = 0 ∨ t = 1 ∨ t = 2 ∨ t = 3 ∨ t = 4 ∨ t = 5 ∨ t = 6 ∨ t = 7 ∨ t = 8 ∨ t = 9 ∨ t = 10 ∨ t = 11 ∨ t = 12 ∨ t = 13 ∨ t = 14 ∨ t = 15 := by omega
  rcases this with rfl | rfl | rfl | rfl | rfl | rfl | rfl | rfl | rfl | rfl | rfl | rfl | rfl | rfl | rfl | rfl <;>
    exact chk_to rfl (chk_to (cTab_yes (by decide +kernel)) (by decide +kernel))
def sevB (x : Int) : Bool := decide (0 ≤ x ∧ x ≤ 2)
def logB (s m f : Int) (v : List Int) : Bool :=
  decide (0 ≤ s ∧ s ≤ 65535) && (decide (0 ≤ m ∧ m ≤ 65535) && (decide ((v.length : Int) = 16) && (v.all sevB && (if s = 0 then decide (f = -1) else decide (0 ≤ f ∧ f ≤ 15) && s.toNat.testBit f.toNat))))
theorem cnv_small {x : Int} (h : 0 ≤ x ∧ x ≤ 65535) : iCnv .u64 x = x := by
  show IntKind.wrap .u64 x = x
  simp only [IntKind.wrap]
  rw [show ((2 : Int) ^ IntKind.u64.bits) = 18446744073709551616 from rfl, show IntKind.u64.signed = false from rfl]
  simp only [Bool.false_and, Bool.false_eq_true, if_false]
  omega
theorem bit_setI {s f : Int} (hs : 0 ≤ s ∧ s ≤ 65535) (hf : 0 ≤ f ∧ f ≤ 15) : iEq (iBit .and .i64 (iShr .i64 s f) 1) 1 = s.toNat.testBit f.toNat := by
  have := bit_set (a := s.toNat) (k := f.toNat) (by omega) (by omega)
  rw [show ((s.toNat : Nat) : Int) = s by omega, show ((f.toNat : Nat) : Int) = f by omega] at this
  exact this
theorem isSet_ev (k : Nat) {s f : Int} (hs : 0 ≤ s ∧ s ≤ 65535) (hf : 0 ≤ f ∧ f ≤ 15) : impl_isSet.f k s f = some (s.toNat.testBit f.toNat) := by
  simp only [impl_isSet.f, chk_nn]
  rw [cnv_small (by omega), if_pos hf.1, bit_setI hs hf]
theorem isError_ev (k : Nat) (x : Int) : impl_isError.f k x = some (decide (0 ≤ x ∧ x ≤ 15)) := by simp only [impl_isError.f, within_eq, bnd_one]
theorem indexNotSev (l : List Int) (hl : l.length ≤ 4611686018427387904) (k : Nat) (hk : l.length < k) : slices_IndexFunc_int_impl_LogOk_1.f k l = some (match l.findIdx? (fun x => !sevB x) with | some i => (i : Int) | none => -1) := by
  simp only [slices_IndexFunc_int_impl_LogOk_1.f, slices_IndexFunc_int_impl_LogOk_1.l0]
  refine iter_find (f := fun (rec : (List Int × Int × Int) → Option Int) (x : List Int × Int × Int) => slices_IndexFunc_int_impl_LogOk_1.s0 k rec x.1 x.2.1 x.2.2) (fun i => (l, rLen l, (i : Int))) l sevB (-1) (fun i => (i : Int)) (fun rec i hi hp => ?_) (fun rec i hi hp => ?_) (fun rec => ?_) hk
  · simp only [slices_IndexFunc_int_impl_LogOk_1.s0, impl_LogOk_1.f, impl_isSeverity.f, within_eq, getD_lt _ _ hi, iLt_eq, iLe_eq, iEq_eq, iNe_eq, bNot_eq, bEq_eq, bNe_eq, brB_nb, brB_dec, brB_true, brB_false, chk_idx, chk_len, chk_make, chk_sub, bnd_one, rLen_eq, rGet_nat, rSet_nat, rApp_eq, ↓reduceIte]
    rw [if_pos (by omega), if_idx hi, next_id hi hl]
    rw [if_pos (of_decide_eq_true hp)]
  · simp only [slices_IndexFunc_int_impl_LogOk_1.s0, impl_LogOk_1.f, impl_isSeverity.f, within_eq, getD_lt _ _ hi, iLt_eq, iLe_eq, iEq_eq, iNe_eq, bNot_eq, bEq_eq, bNe_eq, brB_nb, brB_dec, brB_true, brB_false, chk_idx, chk_len, chk_make, chk_sub, bnd_one, rLen_eq, rGet_nat, rSet_nat, rApp_eq, ↓reduceIte]
    rw [if_pos (by omega), if_idx hi]
    rw [if_neg (of_decide_eq_false hp)]
  · simp only [slices_IndexFunc_int_impl_LogOk_1.s0, iLt_eq, iLe_eq, iEq_eq, iNe_eq, bNot_eq, bEq_eq, bNe_eq, brB_nb, brB_dec, brB_true, brB_false, chk_idx, chk_len, chk_make, chk_sub, bnd_one, rLen_eq, rGet_nat, rSet_nat, rApp_eq, ↓reduceIte]
    rw [if_neg (by omega)]
theorem implLogOk_ev (s m f : Int) (v : List Int) (hv : v.length ≤ 1048576) (k : Nat) (hk : 3000000 < k) : impl_LogOk.f k s m f v = some (logB s m f v) := by
  unfold impl_LogOk.f logB
  refine bnd_to (isWord_eq k s) ?_
  by_cases hs : 0 ≤ s ∧ s ≤ 65535
  · rw [decide_eq_true hs]
    refine brF_to rfl (bnd_to (isWord_eq k m) ?_)
    by_cases hm : 0 ≤ m ∧ m ≤ 65535
    · rw [decide_eq_true hm]
      refine brF_to rfl ?_
      by_cases hl : (v.length : Int) = 16
      · rw [decide_eq_true hl]
        refine brF_to (iNe_no (by rw [rLen_eq]; exact hl)) ?_
        have hc : slices_ContainsFunc_int_impl_LogOk_1.f k v = some (!v.all sevB) := by
          simp only [slices_ContainsFunc_int_impl_LogOk_1.f, indexNotSev v (by omega) k (by omega), bnd_one, found_iff v sevB]
        refine bnd_to hc ?_
        cases v.all sevB with
        | false => rfl
        | true =>
          refine brF_to rfl ?_
          by_cases h0 : s = 0
          · subst h0
            exact brT_to rfl (by rw [if_pos rfl]; simp only [iEq, Bool.true_and]; rfl)
          · refine brF_to (by simp only [iEq]; exact beq_false_of_ne h0) (bnd_to (isError_ev k f) ?_)
            rw [if_neg h0]
            by_cases hf : 0 ≤ f ∧ f ≤ 15
            · rw [decide_eq_true hf]
              exact brT_to rfl (bnd_to (isSet_ev k hs hf) rfl)
            · rw [decide_eq_false hf]; exact brF_to rfl rfl
      · rw [decide_eq_false hl]
        exact brT_to (by simp only [iNe, rLen_eq]; exact bne_iff_ne.2 hl) rfl
    · rw [decide_eq_false hm]; exact brT_to rfl rfl
  · rw [decide_eq_false hs]; exact brT_to rfl rfl
theorem specLogOk_ev (s m f : Int) (v : List Int) (k : Nat) (hk : 3000000 < k) : spec_LogOk.f k s m f v = some (logB s m f v) := by
  unfold spec_LogOk.f logB
  refine bnd_to (l01In_eq k s 0 65535) ?_
  by_cases hs : 0 ≤ s ∧ s ≤ 65535
  · rw [decide_eq_true hs]
    refine brF_to rfl (bnd_to (l01In_eq k m 0 65535) ?_)
    by_cases hm : 0 ≤ m ∧ m ≤ 65535
    · rw [decide_eq_true hm]
      refine brF_to rfl ?_
      by_cases hl : (v.length : Int) = 16
      · rw [decide_eq_true hl]
        refine brF_to (iNe_no (by rw [rLen_eq]; exact hl)) ?_
        unfold spec_LogOk.l0
        have hl16 : v.length = 16 := by omega
        have h := iter_find (f := fun (rec : (Int × Int × Int × Int × List Int) → Option (Bool)) (x : Int × Int × Int × Int × List Int) => spec_LogOk.s0 k rec x.1 x.2.1 x.2.2.1 x.2.2.2.1 x.2.2.2.2) (fun i => ((i : Int), s, m, f, v)) v sevB (if s = 0 then decide (f = -1) else decide (0 ≤ f ∧ f ≤ 15) && s.toNat.testBit f.toNat) (fun _ => false)
          (fun rec i hi hp => ?_) (fun rec i hi hp => ?_) (fun rec => ?_) (n := k) (by omega)
        · refine h.trans (congrArg some ?_)
          have := findIdx_all v sevB
          cases hx : v.findIdx? (fun x => !sevB x) with
          | none => rw [hx] at this; simp only at this; rw [← this]; rfl
          | some j => rw [hx] at this; simp only at this; rw [← this]; rfl
        · simp only [spec_LogOk.s0, l01In_eq, getD_lt _ _ hi, iLt_eq, iLe_eq, iEq_eq, iNe_eq, bNot_eq, bEq_eq, bNe_eq, brB_nb, brB_dec, brB_true, brB_false, chk_idx, chk_len, chk_make, chk_sub, bnd_one, rLen_eq, rGet_nat, rSet_nat, rApp_eq, ↓reduceIte]
          rw [if_pos (by omega), if_idx hi, next_id hi (by omega)]
          rw [if_pos (of_decide_eq_true hp)]
        · simp only [spec_LogOk.s0, l01In_eq, getD_lt _ _ hi, iLt_eq, iLe_eq, iEq_eq, iNe_eq, bNot_eq, bEq_eq, bNe_eq, brB_nb, brB_dec, brB_true, brB_false, chk_idx, chk_len, chk_make, chk_sub, bnd_one, rLen_eq, rGet_nat, rSet_nat, rApp_eq, ↓reduceIte]
          rw [if_pos (by omega), if_idx hi]
          rw [if_neg (of_decide_eq_false hp)]
        · unfold spec_LogOk.s0
          refine brF_to (iLt_no (by omega)) ?_
          by_cases h0 : s = 0
          · subst h0
            exact brT_to rfl (by rw [if_pos rfl]; rfl)
          · refine brF_to (by simp only [iEq]; exact beq_false_of_ne h0) (bnd_to (l01In_eq k f 0 15) ?_)
            rw [if_neg h0]
            by_cases hf : 0 ≤ f ∧ f ≤ 15
            · rw [decide_eq_true hf]
              refine brT_to rfl ?_
              rw [chk_nn, if_pos hf.1, bit_setI hs hf]; rfl
            · rw [decide_eq_false hf]; exact brF_to rfl rfl
      · rw [decide_eq_false hl]
        exact brT_to (by simp only [iNe, rLen_eq]; exact bne_iff_ne.2 hl) rfl
    · rw [decide_eq_false hm]; exact brT_to rfl rfl
  · rw [decide_eq_false hs]; exact brT_to rfl rfl
/-- What clearing gives. -/
def clearB (s m f : Int) (v : List Int) (c : Int) : Int × Int × Int × List Int :=
  if logB s m f v = true ∧ (0 ≤ c ∧ c ≤ 65535) then
    if nAn s.toNat c.toNat = 0 then (0, m, -1, v)
    else ((nAn s.toNat c.toNat : Int), m, (if (nAn s.toNat c.toNat).testBit f.toNat = true then f else lowB (nAn s.toNat c.toNat) f 16), v)
  else (s, m, f, v)
theorem log_facts {s m f : Int} {v : List Int} (h : logB s m f v = true) : (0 ≤ s ∧ s ≤ 65535) ∧ (0 ≤ m ∧ m ≤ 65535) ∧ v.length = 16 ∧ v.all sevB = true ∧ (s = 0 → f = -1) ∧ (s ≠ 0 → (0 ≤ f ∧ f ≤ 15) ∧ s.toNat.testBit f.toNat = true) := by
  simp only [logB, Bool.and_eq_true, decide_eq_true_eq] at h
  obtain ⟨h1, h2, h3, h4, h5⟩ := h
  refine ⟨h1, h2, by omega, h4, fun e => ?_, fun e => ?_⟩
  · rw [if_pos e] at h5; exact of_decide_eq_true h5
  · rw [if_neg e, Bool.and_eq_true, decide_eq_true_eq] at h5; exact h5
theorem clear_bits {s c : Int} (hs : 0 ≤ s ∧ s ≤ 65535) (hc : 0 ≤ c ∧ c ≤ 65535) : iBit .andNot .i64 s c = ((nAn s.toNat c.toNat : Nat) : Int) ∧ nAn s.toNat c.toNat < 65536 := by
  have := bit_an (a := s.toNat) (b := c.toNat) (by omega) (by omega)
  rw [show ((s.toNat : Nat) : Int) = s by omega, show ((c.toNat : Nat) : Int) = c by omega] at this
  exact ⟨this, nAn_lt (by omega)⟩
theorem clear_ne {s c : Int} (h : nAn s.toNat c.toNat ≠ 0) : s ≠ 0 := fun e => h (by subst e; simp [nAn])
theorem implClear_ev (s m f : Int) (v : List Int) (c : Int) (hv : v.length ≤ 1048576) (k : Nat) (hk : 3000000 < k) : impl_ClearErrors.f k s m f v c = some (clearB s m f v c) := by
  unfold impl_ClearErrors.f clearB
  have hcp : impl_copyLog.f k s m f v = some (s, m, f, v) := by
    simp only [impl_copyLog.f, slices_Clone_int.f, chk_len, rLen_eq]; rw [if_pos (by omega)]; rfl
  refine bnd_to hcp (bnd_to (implLogOk_ev s m f v hv k hk) ?_)
  cases hl : logB s m f v with
  | false => exact brT_to rfl (by rw [if_neg (by simp)])
  | true =>
    obtain ⟨hs, hm, h16, hsv, h0, h1⟩ := log_facts hl
    refine brF_to rfl (bnd_to (isWord_eq k c) ?_)
    by_cases hc : 0 ≤ c ∧ c ≤ 65535
    · obtain ⟨e, hlt⟩ := clear_bits hs hc
      rw [decide_eq_true hc, if_pos ⟨rfl, hc⟩, e]
      refine brF_to rfl ?_
      by_cases hn : nAn s.toNat c.toNat = 0
      · rw [if_pos hn, hn]
        exact brT_to rfl rfl
      · rw [if_neg hn]
        obtain ⟨hf, hfb⟩ := h1 (clear_ne hn)
        refine brF_to (by simp only [iEq]; exact beq_false_of_ne (by omega)) ?_
        have hset := isSet_ev k (s := ((nAn s.toNat c.toNat : Nat) : Int)) (f := f) (by omega) hf
        refine bnd_to hset ?_
        rw [show (((nAn s.toNat c.toNat : Nat) : Int)).toNat = nAn s.toNat c.toNat by omega]
        cases hb : (nAn s.toNat c.toNat).testBit f.toNat with
        | true => exact brF_to rfl (by rw [if_pos rfl])
        | false =>
          obtain ⟨t, ht, ht1, ht0⟩ := low_ex hlt hn
          have htz : bits_TrailingZeros.f k (iCnv .u64 ((nAn s.toNat c.toNat : Nat) : Int)) = some (t : Int) := by
            rw [cnv_small (by omega)]
            exact bnd_to (tz_ev k hlt ht ht1 ht0) rfl
          refine brT_to rfl (bnd_to htz ?_)
          rw [if_neg (by simp), low_at ht ht1 ht0]
    · rw [decide_eq_false hc, if_neg (fun h => hc h.2)]
      exact brT_to rfl rfl
theorem clear_len (s m f : Int) (v : List Int) (c : Int) : (clearB s m f v c).2.2.2 = v := by
  unfold clearB; split
  · split <;> rfl
  · rfl
theorem logB_mk {s m f : Int} {v : List Int} (h1 : 0 ≤ s ∧ s ≤ 65535) (h2 : 0 ≤ m ∧ m ≤ 65535) (h3 : v.length = 16) (h4 : v.all sevB = true) (h5 : s = 0 → f = -1) (h6 : s ≠ 0 → (0 ≤ f ∧ f ≤ 15) ∧ s.toNat.testBit f.toNat = true) : logB s m f v = true := by
  simp only [logB, Bool.and_eq_true, decide_eq_true_eq]
  refine ⟨h1, h2, by omega, h4, ?_⟩
  by_cases e : s = 0
  · rw [if_pos e]; exact decide_eq_true (h5 e)
  · rw [if_neg e, Bool.and_eq_true, decide_eq_true_eq]; exact h6 e
theorem clear_st {s m f : Int} {v : List Int} {c : Int} (h : logB s m f v = true) (hc : 0 ≤ c ∧ c ≤ 65535) : (clearB s m f v c).1 = ((nAn s.toNat c.toNat : Nat) : Int) := by
  unfold clearB
  rw [if_pos ⟨h, hc⟩]
  split
  · rename_i e; rw [e]; rfl
  · rfl
theorem clear_ok {s m f : Int} {v : List Int} {c : Int} (h : logB s m f v = true) (hc : 0 ≤ c ∧ c ≤ 65535) : logB (clearB s m f v c).1 (clearB s m f v c).2.1 (clearB s m f v c).2.2.1 (clearB s m f v c).2.2.2 = true := by
  obtain ⟨hs, hm, h16, hsv, h0, h1⟩ := log_facts h
  have hlt := (clear_bits hs hc).2
  unfold clearB
  rw [if_pos ⟨h, hc⟩]
  by_cases hn : nAn s.toNat c.toNat = 0
  · rw [if_pos hn]
    exact logB_mk (by omega) hm h16 hsv (fun _ => rfl) (fun e => absurd rfl e)
  · rw [if_neg hn]
    obtain ⟨hf, hfb⟩ := h1 (clear_ne hn)
    generalize nAn s.toNat c.toNat = n at *
    refine logB_mk (by omega) hm h16 hsv (fun e => absurd e (by omega)) (fun _ => ?_)
    rw [show ((n : Nat) : Int).toNat = n by omega]
    cases hb : n.testBit f.toNat with
    | true => rw [if_pos rfl]; exact ⟨hf, hb⟩
    | false =>
      rw [if_neg (by simp)]
      obtain ⟨t, ht, ht1, ht0⟩ := low_ex hlt hn
      rw [low_at ht ht1 ht0]
      refine ⟨(show 0 ≤ (t : Int) ∧ (t : Int) ≤ 15 by omega), ?_⟩
      show n.testBit (t : Int).toNat = true
      rw [show ((t : Nat) : Int).toNat = t by omega]; exact ht1
theorem clear_all {s m f : Int} {v : List Int} (h : logB s m f v = true) : clearB s m f v 65535 = (0, m, -1, v) := by
  obtain ⟨hs, _⟩ := log_facts h
  have hz : nAn s.toNat (65535 : Int).toNat = 0 := by
    apply Nat.eq_of_testBit_eq
    intro i
    rw [nAn_bit, show (65535 : Int).toNat = 2 ^ 16 - 1 from rfl, Nat.testBit_two_pow_sub_one, Nat.zero_testBit]
    by_cases hi : i < 16
    · simp [hi]
    · have : s.toNat.testBit i = false := Nat.testBit_lt_two_pow (Nat.lt_of_lt_of_le (show s.toNat < 2 ^ 16 by omega) (Nat.pow_le_pow_right (by omega) (by omega)))
      simp [this]
  unfold clearB
  rw [if_pos ⟨h, by omega⟩, if_pos hz]
theorem nAn_and (a b : Nat) : nAn a b &&& b = 0 := by
  apply Nat.eq_of_testBit_eq
  intro i
  rw [Nat.testBit_and, nAn_bit, Nat.zero_testBit]
  cases a.testBit i <;> cases b.testBit i <;> rfl
theorem nAn_or (a b : Nat) : nAn a b ||| b = a ||| b := by
  apply Nat.eq_of_testBit_eq
  intro i
  rw [Nat.testBit_or, Nat.testBit_or, nAn_bit]
  cases a.testBit i <;> cases b.testBit i <;> rfl
theorem nAn_nAn (a b : Nat) : nAn (nAn a b) b = nAn a b := by
  apply Nat.eq_of_testBit_eq
  intro i
  rw [nAn_bit, nAn_bit]
  cases a.testBit i <;> cases b.testBit i <;> rfl
theorem report_ev {s m f : Int} {v : List Int} {e : Int} (h : logB s m f v = true) (he : 0 ≤ e ∧ e ≤ 15) (k : Nat) (hk : 3000000 < k) : ∃ (s' f' sv : Int), spec_ReportError.f k s m f v e = some (s', m, f', v, sv) ∧ logB s' m f' v = true := by
  obtain ⟨hs, hm, h16, hsv, h0, h1⟩ := log_facts h
  obtain ⟨n, rfl⟩ : ∃ n : Nat, s = (n : Int) := ⟨s.toNat, by omega⟩
  obtain ⟨b, rfl⟩ : ∃ b : Nat, e = (b : Int) := ⟨e.toNat, by omega⟩
  have hb15 : 2 ^ b ≤ 32768 := Nat.le_trans (Nat.pow_le_pow_right (by omega) (show b ≤ 15 by omega)) (show 2 ^ 15 ≤ 32768 by decide)
  have hsh : iShl .i64 1 (b : Int) = ((2 ^ b : Nat) : Int) := by
    show IntKind.wrap .i64 (1 * 2 ^ (min (b : Int).toNat 64)) = _
    rw [show min (b : Int).toNat 64 = b by omega, Int.one_mul, show ((2 : Int) ^ b) = ((2 ^ b : Nat) : Int) by norm_cast]
    generalize 2 ^ b = P at hb15 ⊢
    rw [wrap64, w64_id (by omega) (by omega)]
  have hor : iBit .or .i64 (n : Int) (iShl .i64 1 (b : Int)) = ((n ||| 2 ^ b : Nat) : Int) := by rw [hsh]; exact bit_or (by omega) (by omega)
  have hlt : n ||| 2 ^ b < 2 ^ 16 := Nat.or_lt_two_pow (by omega) (by omega)
  have hbit : (n ||| 2 ^ b).testBit b = true := by rw [Nat.testBit_or, Nat.testBit_two_pow_self, Bool.or_true]
  have hne : n ||| 2 ^ b ≠ 0 := fun e => by rw [e, Nat.zero_testBit] at hbit; cases hbit
  have hcp : spec_l32Copy.f k (n : Int) m f v = some ((n : Int), m, f, v) := by
    simp only [spec_l32Copy.f, chk_len, rLen_eq, rApp_eq, List.nil_append]; rw [if_pos (by omega)]
  have nn : cNn (b : Int) = true := decide_eq_true (by omega)
  have ix : cIdx (b : Int) (rLen v) = true := cIdx_yes (by rw [rLen_eq]; omega)
  have ok : ∀ f' : Int, (0 ≤ f' ∧ f' ≤ 15) → (n ||| 2 ^ b).testBit f'.toNat = true → logB ((n ||| 2 ^ b : Nat) : Int) m f' v = true := fun f' h1 h2 =>
    logB_mk (by omega) hm h16 hsv (fun e => absurd e (by omega)) (fun _ => ⟨h1, by rw [show (((n ||| 2 ^ b : Nat)) : Int).toNat = n ||| 2 ^ b by omega]; exact h2⟩)
  have hrun : ∀ x, spec_ReportError.f k (n : Int) m f v (b : Int) = x ↔ (brB (iEq (n : Int) 0) (brB (iEq (iBit .and .i64 (iShr .i64 m b) 1) 1) (some (((n ||| 2 ^ b : Nat) : Int), m, (b : Int), v, (-1))) (some (((n ||| 2 ^ b : Nat) : Int), m, (b : Int), v, rGet 0 v b))) (brB (iEq (iBit .and .i64 (iShr .i64 m b) 1) 1) (some (((n ||| 2 ^ b : Nat) : Int), m, f, v, (-1))) (some (((n ||| 2 ^ b : Nat) : Int), m, f, v, rGet 0 v b)))) = x := fun x => by
    unfold spec_ReportError.f
    rw [hcp, bnd_one]
    dsimp only
    rw [specLogOk_ev _ _ _ _ k hk, bnd_one, h]
    rw [show bNot true = false from rfl, brB_false, l01In_eq, bnd_one, decide_eq_true he, show bNot true = false from rfl, brB_false, hor, nn, ix]
    rfl
  by_cases hz : n = 0
  · have hzi : iEq (n : Int) 0 = true := by subst hz; rfl
    have hL := ok (b : Int) he (by rw [show (b : Int).toNat = b by omega]; exact hbit)
    cases hmk : iEq (iBit .and .i64 (iShr .i64 m b) 1) 1 with
    | true => exact ⟨_, _, _, (hrun _).2 (by rw [hzi, hmk, brB_true, brB_true]), hL⟩
    | false => exact ⟨_, _, _, (hrun _).2 (by rw [hzi, hmk, brB_true, brB_false]), hL⟩
  · have hzi : iEq (n : Int) 0 = false := by simp only [iEq]; exact beq_false_of_ne (by omega)
    obtain ⟨hf, hfb⟩ := h1 (by omega)
    have hL := ok f hf (by rw [show (n : Int).toNat = n by omega] at hfb; rw [Nat.testBit_or, hfb, Bool.true_or])
    cases hmk : iEq (iBit .and .i64 (iShr .i64 m b) 1) 1 with
    | true => exact ⟨_, _, _, (hrun _).2 (by rw [hzi, hmk, brB_false, brB_true]), hL⟩
    | false => exact ⟨_, _, _, (hrun _).2 (by rw [hzi, hmk, brB_false, brB_false]), hL⟩
theorem l32Rep_yd (k : Nat) (hk : 3000000 < k) (c : List Int) (hc : c.length ≤ 2000000) (p s : Int) (hp : 0 ≤ p) (z0 z1 z2 : Int) (z3 : List Int) (s0 m f : Int) (v : List Int) (h : logB s0 m f v = true) : Yd (spec_l32Log.l1 k k 0 c p s z0 z1 z2 z3 s0 m f v) fun r => logB r.1 r.2.1 r.2.2.1 r.2.2.2.1 = true := by
  unfold spec_l32Log.l1
  refine iter_yd (I := fun i x => x.1 = (i : Int) ∧ x.2.1 = c ∧ 0 ≤ x.2.2.1 ∧ logB x.2.2.2.2.2.2.2.2.1 x.2.2.2.2.2.2.2.2.2.1 x.2.2.2.2.2.2.2.2.2.2.1 x.2.2.2.2.2.2.2.2.2.2.2 = true) 5 (fun rec i x hi hx hr => ?_) (by omega) ⟨rfl, rfl, hp, h⟩
  obtain ⟨j, c', p', s', w0, w1, w2, w3, s1, m1, f1, v1⟩ := x
  obtain ⟨hj, hc', hp', hq⟩ := hx
  simp only at hj hc' hp' hq
  subst hj hc'
  show Yd (spec_l32Log.s1 k rec (i : Int) c' p' s' w0 w1 w2 w3 s1 m1 f1 v1) _
  unfold spec_l32Log.s1
  rw [next_id (i := i) (n := 6) (by omega) (by omega)]
  refine below_bnd hc hp' (by omega) fun y8 p1 s1' g2 g3 q1 => ?_
  dsimp only
  refine Yd.lt (fun hlt => ?_) fun _ => Yd.one hq
  refine below_bnd hc q1 (by omega) fun y12 p2 s2 g4 g5 q2 => ?_
  dsimp only
  obtain ⟨s', f', sv, e1, e2⟩ := report_ev hq (e := y12) (by omega) k hk
  rw [e1, bnd_one]
  exact hr _ (by omega) ⟨rfl, rfl, q2, e2⟩
theorem l32Log_yd (k : Nat) (hk : 3000000 < k) (c : List Int) (hc : c.length ≤ 2000000) (p s : Int) (hp : 0 ≤ p) : Yd (spec_l32Log.f k c p s) fun r => logB r.1 r.2.1 r.2.2.1 r.2.2.2.1 = true := by
  unfold spec_l32Log.f
  refine pick_bnd hc hp (by simp) fun m p0 s0 hm q0 => ?_
  dsimp only
  have hm' : 0 ≤ m ∧ m ≤ 65535 := by
    simp only [List.mem_cons, List.not_mem_nil, or_false] at hm; omega
  unfold spec_l32Log.l0
  refine iter_yd (I := fun i x => x.1 = (i : Int) ∧ x.2.1 = c ∧ 0 ≤ x.2.2.1 ∧ x.2.2.2.2.2.2.2.2.1 = 0 ∧ x.2.2.2.2.2.2.2.2.2.1 = m ∧ x.2.2.2.2.2.2.2.2.2.2.1 = -1 ∧ x.2.2.2.2.2.2.2.2.2.2.2.length = i ∧ x.2.2.2.2.2.2.2.2.2.2.2.all sevB = true) 16 (fun rec i x hi hx hr => ?_) (by omega) ⟨rfl, rfl, q0, rfl, rfl, rfl, rfl, rfl⟩
  obtain ⟨j, c', p', s', w0, w1, w2, w3, s1, m1, f1, v1⟩ := x
  obtain ⟨hj, hc', hp', h1, h2, h3, h4, h5⟩ := hx
  simp only at hj hc' hp' h1 h2 h3 h4 h5
  subst hj hc' h1 h2 h3
  show Yd (spec_l32Log.s0 k rec (i : Int) c' p' s' w0 w1 w2 w3 0 m1 (-1) v1) _
  unfold spec_l32Log.s0
  refine Yd.lt (fun hlt => ?_) fun hlt => ?_
  · refine below_bnd hc hp' (by omega) fun y4 p1 s1' g2 g3 q1 => ?_
    dsimp only
    simp only [rApp_eq, rLen_eq, List.length_append, List.length_cons, List.length_nil]
    refine Yd.len (by omega) ?_
    rw [next_id (i := i) (n := 16) (by omega) (by omega)]
    refine hr _ (by omega) ⟨rfl, rfl, q1, rfl, rfl, rfl, by simp [h4], ?_⟩
    simp only [List.all_append, h5, List.all_cons, List.all_nil, sevB, Bool.true_and, Bool.and_true]
    exact decide_eq_true (by omega)
  · exact l32Rep_yd k hk c' hc p' s' hp' w0 w1 w2 w3 0 m1 (-1) v1 (logB_mk (by omega) hm' (by omega) h5 (fun _ => rfl) (fun e => absurd rfl e))
theorem drawLog_ev (k : Nat) (hk : 3000000 < k) (c : List Int) (hc : c.length ≤ 2000000) : ∃ (s m f : Int) (v : List Int), spec_DrawLog.f k c = some (s, m, f, v) ∧ logB s m f v = true := by
  obtain ⟨s0, h0⟩ := l01New_ev c k (by omega)
  obtain ⟨⟨s, m, f, v, c1, p1, s1⟩, e1, q1⟩ := l32Log_yd k hk c hc 0 s0 (by omega)
  simp only at q1
  refine ⟨s, m, f, v, ?_, q1⟩
  simp only [spec_DrawLog.f, h0, e1, bnd_one]
theorem worst_zero {m : Int} {v : List Int} (h : logB 0 m (-1) v = true) (k : Nat) (hk : 3000000 < k) : impl_WorstOf.f k 0 m (-1) v = some (-1) := by
  obtain ⟨_, hm, h16, _⟩ := log_facts h
  unfold impl_WorstOf.f
  have hl := implLogOk_ev 0 m (-1) v (by omega) k hk
  rw [h] at hl
  refine bnd_to hl (brF_to rfl ?_)
  rw [rLen_eq]
  unfold impl_WorstOf.l0
  refine iter_from (fun i => (-1, v, (v.length : Int), (i : Int), 0, m, -1, v)) v.length rfl (fun rec i hi => ?_) (fun rec => ?_) (n := k) (by omega)
  · unfold impl_WorstOf.s0
    rw [next_id hi (by omega)]
    refine brT_to (iLt_yes (show (i : Int) < (v.length : Int) by omega)) (chk_to (cIdx_yes (show 0 ≤ (i : Int) ∧ (i : Int) < rLen v by rw [rLen_eq]; omega)) ?_)
    have hz := isSet_ev k (s := 0) (f := (i : Int)) (by omega) (by omega)
    rw [show (0 : Int).toNat = 0 from rfl, Nat.zero_testBit] at hz
    exact bnd_to hz (brF_to rfl rfl)
  · unfold impl_WorstOf.s0
    exact brF_to (iLt_no (Int.le_refl _)) rfl

theorem laws_FnClears.main (c : List Int) (hc : c.length ≤ 9223372036854775807) : ∃ k, laws_FnClears.f k c = some true := by
  refine ⟨3000001, ?_⟩
  generalize hk : 3000001 = k
  unfold laws_FnClears.f
  by_cases g : c.length ≤ 1048576
  · have hb : laws_big.f k c = some false := by
      simp only [laws_big.f, rLen_eq]; rw [iLt_no (by omega)]
    obtain ⟨s, m, f, v, hd, hq⟩ := drawLog_ev k (by omega) c (by omega)
    obtain ⟨p, hp, hp12, hpx⟩ := drawPlaces_ev c (by omega) k (by omega)
    have g0 : 0 ≤ rGet 0 p 0 ∧ rGet 0 p 0 < 10000 := by
      have e1 : rGet 0 p 0 = p[0]'(by omega) := getD_lt 0 p (by omega)
      rw [e1]; exact hpx _ (List.getElem_mem _)
    have hw : 0 ≤ iRem (iMul .i64 (rGet 0 p 0) 7) 65536 ∧ iRem (iMul .i64 (rGet 0 p 0) 7) 65536 ≤ 65535 := by
      rw [iMul_w, w64_id (by omega) (by omega)]
      have h1 := Int.tmod_nonneg 65536 (show 0 ≤ rGet 0 p 0 * 7 by omega)
      have h2 := Int.tmod_lt_of_pos (rGet 0 p 0 * 7) (show (0 : Int) < 65536 by omega)
      show 0 ≤ (rGet 0 p 0 * 7).tmod 65536 ∧ (rGet 0 p 0 * 7).tmod 65536 ≤ 65535
      omega
    refine bnd_to hb (brF_to rfl (bnd_to hd (bnd_to hp (chk_to (cIdx_yes (by rw [rLen_eq]; omega)) (chk_to rfl ?_)))))
    dsimp only
    generalize iRem (iMul .i64 (rGet 0 p 0) 7) 65536 = b at hw ⊢
    obtain ⟨hs, hm, h16, hsv, _, _⟩ := log_facts hq
    have f1 := implClear_ev s m f v b (by omega) k (by omega)
    have f2 := implClear_ev s m f v 65535 (by omega) k (by omega)
    rw [clear_all hq] at f2
    have ok1 := clear_ok hq hw
    have st1 := clear_st hq hw
    have len1 := clear_len s m f v b
    generalize clearB s m f v b = r at f1 ok1 st1 len1
    obtain ⟨r0, r1, r2, rv⟩ := r
    dsimp only at ok1 st1 len1
    subst len1
    have lo := implLogOk_ev r0 r1 r2 rv (by omega) k (by omega)
    rw [ok1] at lo
    have f3 := implClear_ev r0 r1 r2 rv b (by omega) k (by omega)
    have st3 := clear_st ok1 hw
    generalize clearB r0 r1 r2 rv b = q at f3 st3
    obtain ⟨q0, q1, q2, qv⟩ := q
    dsimp only at st3
    have wz := worst_zero (logB_mk (s := 0) (f := -1) (by omega) hm h16 hsv (fun _ => rfl) (fun e => absurd rfl e)) k (by omega)
    obtain ⟨n, rfl⟩ : ∃ n : Nat, s = (n : Int) := ⟨s.toNat, by omega⟩
    obtain ⟨d, rfl⟩ : ∃ d : Nat, b = (d : Int) := ⟨b.toNat, by omega⟩
    rw [show (n : Int).toNat = n by omega, show (d : Int).toNat = d by omega] at st1
    have hnl : nAn n d < 65536 := nAn_lt (by omega)
    subst st1
    rw [show ((nAn n d : Nat) : Int).toNat = nAn n d by omega, show (d : Int).toNat = d by omega, nAn_nAn] at st3
    subst st3
    refine bnd_to f1 (bnd_to f2 (bnd_to lo (brT_to rfl (brT_to ?_ (brT_to ?_ (brT_to rfl (brT_to rfl (bnd_to wz (brT_to rfl (bnd_to f3 ?_))))))))))
    · rw [bit_and (by omega) (by omega), nAn_and]; rfl
    · rw [bit_or (by omega) (by omega), bit_or (by omega) (by omega), nAn_or]; exact decide_eq_true rfl
    · exact congrArg some (decide_eq_true rfl)
  · have hb : laws_big.f k c = some true := by
      simp only [laws_big.f, rLen_eq]; rw [iLt_yes (by omega)]
    exact bnd_to hb (brT_to rfl rfl)
theorem laws_FnClears.pure : ∀ x : laws_FnClears.sig.inTy.T, Good laws_FnClears.sig.inTy x → ∃ k, laws_FnClears.spec.fn k x = some true := by
  rintro c ⟨hc, _⟩
  exact laws_FnClears.main c hc
end Go.Proofs.YtbfkiggcemlmgaaDoorT

/- the laws of RefusalOf, by itself -/
import Derived.Test.YtndnlafnkknodaaPFnExactRefusalOfx8
set_option linter.unusedVariables false
set_option linter.unusedSimpArgs false
namespace Go.Proofs.Ytndnlafnkknodaa.Pure
open Go.RowKit Go.Proofs.Ytndnlafnkknodaa.PFnExactRefusalOf Go.Proofs.YtndnlafnkknodaaW.PrintWords Go.Proofs.YtndnlafnkknodaaW.PrintLast Go.Proofs.YtndnlafnkknodaaW.PrintMore
theorem w64 {x : Int} (h0 : -9223372036854775808 ≤ x) (h1 : x ≤ 9223372036854775807) : wrap64 x = x := by unfold wrap64; omega
theorem wnext {i n : Nat} (h : i < n) (hn : n ≤ 4611686018427387904) : wrap64 ((i : Int) + 1) = ((i + 1 : Nat) : Int) := by unfold wrap64; omega
/-- From K rounds on, these two are the same. -/
def Same {α : Type} (g f : Nat → Option α) : Prop := ∃ K, ∀ k, K ≤ k → g k = f k
theorem Same.now {α : Type} {g f : Nat → Option α} (h : ∀ k, g k = f k) : Same g f := ⟨0, fun k _ => h k⟩
theorem Same.trans {α : Type} {g f e : Nat → Option α} (h : Same g f) (h' : Same f e) : Same g e := by
  obtain ⟨K, h⟩ := h; obtain ⟨K', h'⟩ := h'
  exact ⟨max K K', fun k hk => (h k (by omega)).trans (h' k (by omega))⟩
theorem Same.ev {α : Type} {g f : Nat → Option α} {r : α} (h : Same g f) (e : Ev f r) : Ev g r := by
  obtain ⟨K, h⟩ := h; obtain ⟨K', e⟩ := e
  exact ⟨max K K', fun k hk => (h k (by omega)).trans (e k (by omega))⟩
theorem Same.bind {α β : Type} {g : Nat → Option α} {f : Nat → α → Option β} {a : α} (h : Ev g a) : Same (fun n => (g n).bind (f n)) (fun n => f n a) := by
  obtain ⟨K, h⟩ := h
  exact ⟨K, fun k hk => by simp only [h k hk, Option.bind_some]⟩
theorem Ev.succ {α : Type} {g : Nat → Option α} {r : α} (h : Ev g r) : Ev (fun k => g (k + 1)) r := by
  obtain ⟨K, h⟩ := h; exact ⟨K, fun k hk => h (k + 1) (by omega)⟩
theorem Ev.pred {α : Type} {g : Nat → Option α} {r : α} (h : Ev (fun k => g (k + 1)) r) : Ev g r := Ev.step (f := fun k => g (k + 1)) (fun _ => rfl) h
theorem Same.pred {α : Type} {g : Nat → Option α} {f : Nat → Option α} {r : α} (h : Same (fun k => g (k + 1)) f) (e : Ev f r) : Ev g r := Ev.pred (h.ev e)
/-- A loop that counts up: the state at round i is s i; at n it answers. -/
theorem Ev.upto {ρ : Type} (l : Nat → Nat → Option ρ) {n : Nat} {r : ρ} (step : ∀ i, i < n → Same (fun k => l (k + 1) i) (fun k => l k (i + 1))) (done : Ev (fun k => l k n) r) : ∀ i, i ≤ n → Ev (fun k => l k i) r := by
  intro i hi
  obtain ⟨d, hd⟩ : ∃ d, i + d = n := ⟨n - i, by omega⟩
  induction d generalizing i with
  | zero => obtain rfl : i = n := by omega
            exact done
  | succ d ih => exact Same.pred (g := fun k => l k i) (step i (by omega)) (ih (i + 1) (by omega) (by omega))
theorem Ev.ifp {α : Type} {c : Prop} [Decidable c] {g f : Nat → Option α} {r : α} (h : c) (e : Ev g r) : Ev (fun n => if c then g n else f n) r := by
  obtain ⟨K, e⟩ := e
  exact ⟨K, fun k hk => by dsimp only; rw [if_pos h]; exact e k hk⟩
theorem Ev.ifn {α : Type} {c : Prop} [Decidable c] {g f : Nat → Option α} {r : α} (h : ¬ c) (e : Ev f r) : Ev (fun n => if c then g n else f n) r := by
  obtain ⟨K, e⟩ := e
  exact ⟨K, fun k hk => by dsimp only; rw [if_neg h]; exact e k hk⟩
theorem Ev.const {α : Type} {a r : α} (h : a = r) : Ev (fun _ => some a) r := ⟨0, fun _ _ => by rw [h]⟩
theorem Ev.bnd {α β : Type} {x : Option α} {f : Nat → α → Option β} {a : α} {r : β} (h : x = some a) (k : Ev (fun n => f n a) r) : Ev (fun n => x.bind (f n)) r := Ev.bind (g := fun _ => x) ⟨0, fun _ _ => h⟩ k
theorem Ev.eq {α : Type} {g : Nat → Option α} {r r' : α} (h : Ev g r) (e : r = r') : Ev g r' := e ▸ h
theorem rdOf_nat {α : Type} (d : α) (xs : List α) (i : Nat) : rdOf d xs (i : Int) = xs.getD i d := rfl
theorem rd_nat (xs : List Int) (i : Nat) : rd xs (i : Int) = xs.getD i 0 := rfl
theorem drop_cons {α : Type} (d : α) (xs : List α) (i : Nat) (h : i < xs.length) : xs.drop i = xs.getD i d :: xs.drop (i + 1) := by
  rw [List.drop_eq_getElem_cons h, List.getD_eq_getElem?_getD, List.getElem?_eq_getElem h]; rfl
theorem take_succ {α : Type} (d : α) (xs : List α) (i : Nat) (h : i < xs.length) : xs.take (i + 1) = xs.take i ++ [xs.getD i d] := by
  rw [List.take_succ_eq_append_getElem h, List.getD_eq_getElem?_getD, List.getElem?_eq_getElem h]; rfl
theorem take_set_succ {α : Type} (ys : List α) (i : Nat) (v : α) (h : i < ys.length) : (ys.set i v).take (i + 1) = ys.take i ++ [v] := by
  apply List.ext_getElem?
  intro j
  rw [List.getElem?_take, List.getElem?_set, List.getElem?_append, List.length_take]
  by_cases h1 : j < i
  · rw [if_pos (by omega), if_neg (by omega), if_pos (by omega), List.getElem?_take, if_pos h1]
  · by_cases h2 : j = i
    · subst h2
      rw [if_pos (by omega), if_pos rfl, if_pos h, if_neg (by omega), show j - min j ys.length = 0 by omega]; rfl
    · rw [if_neg (by omega), if_neg (by omega), List.getElem?_eq_none (by simp; omega)]
/-- A loop that copies. -/
theorem copy_loop {α : Type} (d : α) (l : Nat → List α → List α → Int → Option (List α)) (xs : List α) (hn : xs.length ≤ 4611686018427387904)
    (h : ∀ k ys i, l (k + 1) xs ys i = if i < (xs.length : Int) then (if 0 ≤ i then (if i < (ys.length : Int) then l k xs (ys.set (i : Int).toNat (rdOf d xs i)) (wrap64 (i + 1)) else none) else none) else some ys)
    (ys : List α) (hy : ys.length = xs.length) : Ev (fun k => l k xs ys 0) xs := by
  suffices H : ∀ i, i ≤ xs.length → ∀ ys : List α, ys.length = xs.length → ys.take i = xs.take i → Ev (fun k => l k xs ys (i : Int)) xs from H 0 (by omega) ys hy (by simp)
  intro i hi
  obtain ⟨m, hm⟩ : ∃ m, i + m = xs.length := ⟨xs.length - i, by omega⟩
  induction m generalizing i with
  | zero =>
    intro ys hy ht
    refine Ev.pred (g := fun k => l k xs ys (i : Int)) ⟨0, fun k _ => ?_⟩
    simp only [h]
    rw [if_neg (by omega)]
    rw [List.take_of_length_le (by omega), List.take_of_length_le (by omega)] at ht
    rw [ht]
  | succ m ih =>
    intro ys hy ht
    have hlt : i < xs.length := by omega
    refine Same.pred (g := fun k => l k xs ys (i : Int)) (f := fun k => l k xs (ys.set i (rdOf d xs i)) ((i + 1 : Nat) : Int)) (Same.now fun k => ?_) (ih (i + 1) (by omega) (by omega) _ (by simpa using hy) ?_)
    · simp only [h]
      rw [if_pos (by omega), if_pos (by omega), if_pos (by omega), wnext hlt hn, Int.toNat_natCast]
    · rw [take_set_succ _ _ _ (by omega), ht, rdOf_nat, ← take_succ d _ _ hlt]
theorem toIntS_ev (xs : List Int) (hn : xs.length ≤ 35184372088832) : Ev (fun k => laws_toIntS.f k xs) xs := by
  refine Same.ev (f := fun k => laws_toIntS.l0 k xs (List.replicate xs.length 0) 0) (Same.now fun k => ?_) (copy_loop 0 laws_toIntS.l0 xs (by omega) (fun _ _ _ => rfl) _ (by simp))
  simp only [laws_toIntS.f]
  rw [if_pos (by omega), if_pos (by simpa using hn)]; simp
theorem eqIntS_refl (xs : List Int) (hn : xs.length ≤ 4611686018427387904) : Ev (fun k => laws_eqIntS.f k xs xs) true := by
  refine Same.ev (f := fun k => laws_eqIntS.l0 k xs xs ((0 : Nat) : Int)) (Same.now fun k => ?_) (Ev.upto (fun k i => laws_eqIntS.l0 k xs xs (i : Int)) (n := xs.length) ?_ ?_ 0 (by omega))
  · simp [laws_eqIntS.f]
  · intro i hi
    refine Same.now fun k => ?_
    simp only [laws_eqIntS.l0]
    rw [if_pos (by omega), if_pos (by omega), if_pos (by omega), if_pos trivial, wnext hi hn]
  · refine Ev.pred (g := fun k => laws_eqIntS.l0 k xs xs (xs.length : Int)) ⟨0, fun k _ => ?_⟩
    simp only [laws_eqIntS.l0]; rw [if_neg (by omega)]
theorem getD_set {α : Type} (d : α) (xs : List α) (i j : Nat) (v : α) (h : i < xs.length) : (xs.set i v).getD j d = if j = i then v else xs.getD j d := by
  rw [List.getD_eq_getElem?_getD, List.getD_eq_getElem?_getD, List.getElem?_set]
  by_cases e : j = i
  · subst e; rw [if_pos rfl, if_pos rfl, if_pos h]; rfl
  · rw [if_neg e, if_neg (by omega)]
/-- A loop that marks the elements, c numbers each. -/
theorem mark_loop {α : Type} (d : α) (v : Int → α → α) (c : Int) (l : Nat → List α → Int → Int → Option (Int × List α)) (xs : List α) (m : Int)
    (step : ∀ (k : Nat) (ys : List α) (i : Nat), ys.length = xs.length → i < xs.length → l (k + 1) ys (m + c * (i : Int)) (i : Int) = l k (ys.set i (v (m + c * (i : Int)) (ys.getD i d))) (m + c * ((i + 1 : Nat) : Int)) ((i + 1 : Nat) : Int))
    (stop : ∀ (k : Nat) (ys : List α), ys.length = xs.length → l (k + 1) ys (m + c * (xs.length : Int)) (xs.length : Int) = some (m + c * (xs.length : Int), ys)) :
    ∃ ys : List α, ys.length = xs.length ∧ (∀ i, i < xs.length → ys.getD i d = v (m + c * (i : Int)) (xs.getD i d)) ∧ Ev (fun k => l k xs m 0) (m + c * (xs.length : Int), ys) := by
  suffices H : ∀ (n i : Nat) (zs : List α), i + n = xs.length → zs.length = xs.length → (∀ j, j < i → zs.getD j d = v (m + c * (j : Int)) (xs.getD j d)) → (∀ j, i ≤ j → zs.getD j d = xs.getD j d) →
      ∃ ys : List α, ys.length = xs.length ∧ (∀ i, i < xs.length → ys.getD i d = v (m + c * (i : Int)) (xs.getD i d)) ∧ Ev (fun k => l k zs (m + c * (i : Int)) (i : Int)) (m + c * (xs.length : Int), ys) by
    obtain ⟨ys, h0, h1, h2⟩ := H xs.length 0 xs (by omega) rfl (fun j h => by omega) (fun _ _ => rfl)
    refine ⟨ys, h0, h1, ?_⟩
    have e : m + c * ((0 : Nat) : Int) = m := by simp
    rw [e] at h2; exact h2
  intro n
  induction n with
  | zero =>
    intro i zs hi hz h1 h2
    obtain rfl : i = xs.length := by omega
    exact ⟨zs, hz, h1, Ev.pred (g := fun k => l k zs (m + c * (xs.length : Int)) (xs.length : Int)) ⟨0, fun k _ => stop k zs hz⟩⟩
  | succ n ih =>
    intro i zs hi hz h1 h2
    obtain ⟨ys, g0, g1, g2⟩ := ih (i + 1) (zs.set i (v (m + c * (i : Int)) (zs.getD i d))) (by omega) (by simpa using hz) (fun j hj => by
        rw [getD_set d _ _ _ _ (by omega)]
        by_cases e : j = i
        · subst e; rw [if_pos rfl, h2 j (Nat.le_refl _)]
        · rw [if_neg e]; exact h1 j (by omega))
      (fun j hj => by rw [getD_set d _ _ _ _ (by omega), if_neg (by omega)]; exact h2 j (by omega))
    exact ⟨ys, g0, g1, Same.pred (g := fun k => l k zs (m + c * (i : Int)) (i : Int)) (Same.now fun k => step k zs i hz (by omega)) g2⟩
/-- A loop that looks at the marks. -/
theorem held_loop {α : Type} (c : Int) (l : Nat → List α → Int → Int → Option Int) (ys : List α) (m : Int)
    (step : ∀ (k : Nat) (i : Nat), i < ys.length → l (k + 1) ys (m + c * (i : Int)) (i : Int) = l k ys (m + c * ((i + 1 : Nat) : Int)) ((i + 1 : Nat) : Int))
    (stop : ∀ (k : Nat), l (k + 1) ys (m + c * (ys.length : Int)) (ys.length : Int) = some (m + c * (ys.length : Int))) :
    Ev (fun k => l k ys m 0) (m + c * (ys.length : Int)) := by
  have h := Ev.upto (fun k i => l k ys (m + c * (i : Int)) (i : Int)) (n := ys.length) (r := m + c * (ys.length : Int)) (fun i hi => Same.now fun k => step k i hi)
    (Ev.pred (g := fun k => l k ys (m + c * (ys.length : Int)) (ys.length : Int)) ⟨0, fun k _ => stop k⟩) 0 (by omega)
  have e : m + c * ((0 : Nat) : Int) = m := by simp
  rw [e] at h; exact h
theorem szIntS_some (l : List Int) (n : Int) (hl : l.length ≤ 9223372036854775807) (h0 : 0 ≤ n) (h1 : n ≤ 1048576) : ∃ r, laws_szIntS.f l n = some r ∧ (0 ≤ r → (l.length : Int) + r = n) := by
  unfold laws_szIntS.f
  rw [w64 (by omega) (by omega)]
  split
  · exact ⟨_, rfl, by omega⟩
  · exact ⟨_, rfl, by omega⟩
theorem markIntS_held (xs : List Int) (hn : xs.length ≤ 1000000000000) (m : Int) (h0 : 0 ≤ m) (h1 : m ≤ 1000000000000) :
    ∃ ys : List Int, ys.length = xs.length ∧ Ev (fun k => laws_markIntS.f k xs m) (m + (xs.length : Int), ys) ∧ Ev (fun k => laws_heldIntS.f k ys m) (m + (xs.length : Int)) := by
  obtain ⟨ys, hl, hy, he⟩ := mark_loop (0 : Int) (fun a _ => a) 1 laws_markIntS.l0 xs m (fun k ys i hy hi => by
      simp only [laws_markIntS.l0, Int.toNat_natCast]
      rw [if_pos (by omega), if_pos (by omega), w64 (by omega) (by omega), wnext hi (by omega), show m + 1 * (i : Int) + 1 = m + 1 * ((i + 1 : Nat) : Int) by omega])
    (fun k ys hy => by simp only [laws_markIntS.l0]; rw [if_neg (by omega)])
  rw [Int.one_mul] at he
  refine ⟨ys, hl, he, ?_⟩
  rw [← hl]
  have hh := held_loop 1 laws_heldIntS.l0 ys m (fun k i hi => by
      have g0 : rd ys (i : Int) = m + 1 * (i : Int) := hy i (by omega)
      simp only [laws_heldIntS.l0]
      rw [if_pos (by omega), if_pos (by omega), if_pos g0, w64 (by omega) (by omega), wnext hi (by omega), show m + 1 * (i : Int) + 1 = m + 1 * ((i + 1 : Nat) : Int) by omega])
    (fun k => by simp only [laws_heldIntS.l0]; rw [if_neg (by omega)])
  rw [Int.one_mul] at hh
  exact hh
theorem within_eq (a b c : Int) : impl_within.f a b c = some (decide (b ≤ a ∧ a ≤ c)) := by
  unfold impl_within.f
  by_cases h : a ≥ b
  · rw [if_pos h]; simp [h]
  · rw [if_neg h]; simp; omega
theorem l01In_eq (a b c : Int) : spec_l01In.f a b c = some (decide (b ≤ a ∧ a ≤ c)) := by
  unfold spec_l01In.f
  by_cases h : a ≥ b
  · rw [if_pos h]; simp [h]
  · rw [if_neg h]; simp; omega
theorem itb (b : Bool) {X : Option Bool} {x : Bool} (h : X = some x) : (if b = true then X else some false) = some (b && x) := by cases b <;> simp [h]
theorem itp (p : Prop) [Decidable p] {X : Option Bool} {x : Bool} (h : X = some x) : (if p then X else some false) = some (decide p && x) := by by_cases hp : p <;> simp [h, hp]
/-- All are words. -/
def wordsOk (l : List Int) : Bool := l.all fun x => decide (0 ≤ x ∧ x ≤ 65535)
theorem Ev.map {α β : Type} {g : Nat → Option α} {f : Nat → Option β} {a : α} {b : β} (h : Ev g a) (hf : ∀ k, g k = some a → f k = some b) : Ev f b := by
  obtain ⟨K, h⟩ := h; exact ⟨K, fun k hk => hf k (h k hk)⟩
theorem specIsId_eq (a : Int) : spec_IsId.f a = some (decide (0 ≤ a ∧ a ≤ 255)) := by simp only [spec_IsId.f, l01In_eq, Option.bind_some]
theorem implIsId_eq (a : Int) : impl_IsId.f a = some (decide (0 ≤ a ∧ a ≤ 255)) := by simp only [impl_IsId.f, within_eq, Option.bind_some]
theorem l04Words_ev (l : List Int) (hl : l.length ≤ 4611686018427387904) : Ev (fun k => spec_l04Words.f k l) (wordsOk l) := by
  suffices H : ∀ (d i : Nat), i + d = l.length → Ev (fun k => spec_l04Words.l0 k l (i : Int)) (wordsOk (l.drop i)) from H l.length 0 (by omega)
  intro d
  induction d with
  | zero =>
    intro i hi
    refine Ev.pred (g := fun k => spec_l04Words.l0 k l (i : Int)) ⟨0, fun k _ => ?_⟩
    simp only [spec_l04Words.l0]; rw [if_neg (by omega), List.drop_of_length_le (by omega)]; rfl
  | succ d ih =>
    intro i hi
    have hd := drop_cons 0 l i (by omega)
    refine Ev.pred (g := fun k => spec_l04Words.l0 k l (i : Int)) ?_
    simp only [spec_l04Words.l0, l01In_eq, rd_nat]
    refine Ev.ifp (by omega) (Ev.ifp (by omega) (Ev.bnd rfl ?_))
    rw [hd]
    by_cases h : 0 ≤ l.getD i 0 ∧ l.getD i 0 ≤ 65535
    · refine Ev.ifp (by simpa using h) ?_
      rw [wnext (n := l.length) (by omega) hl]
      exact Ev.eq (ih (i + 1) (by omega)) (by simp only [wordsOk, List.all_cons, decide_eq_true h, Bool.true_and])
    · refine Ev.ifn (by simpa using h) (Ev.const ?_)
      simp only [wordsOk, List.all_cons, decide_eq_false h, Bool.false_and]
/-- A packet is valid: n is how many data it has, w says that they are words. -/
def packB (a0 a1 a2 a3 a4 a5 a6 n : Int) (w : Bool) : Bool := decide (0 ≤ a1 ∧ a1 ≤ 255) && (w && decide (
  (a0 = 1 ∧ (1 ≤ n ∧ n ≤ 8) ∧ (0 ≤ a3 ∧ a3 ≤ 65536 - n) ∧ a6 = 0 ∧ a2 = 0 ∧ a4 = 0 ∧ a5 = 0) ∨
  (a0 = 2 ∧ (1 ≤ n ∧ n ≤ 8) ∧ a3 = 0 ∧ a6 = 0 ∧ a2 = 0 ∧ a4 = 0 ∧ a5 = 0) ∨
  (a0 = 3 ∧ n = 0 ∧ (1 ≤ a4 ∧ a4 ≤ 64) ∧ (0 ≤ a3 ∧ a3 ≤ 65536 - a4) ∧ (0 ≤ a5 ∧ a5 ≤ 7) ∧ a6 = 0 ∧ a2 = 0) ∨
  (a0 = 4 ∧ n = 0 ∧ (0 ≤ a3 ∧ a3 ≤ 63) ∧ (0 ≤ a2 ∧ a2 ≤ 255) ∧ (0 ≤ a5 ∧ a5 ≤ 7) ∧ a6 = 0 ∧ a4 = 0) ∨
  (a0 = 5 ∧ n = 1 ∧ (0 ≤ a3 ∧ a3 ≤ 63) ∧ (0 ≤ a2 ∧ a2 ≤ 255) ∧ (0 ≤ a5 ∧ a5 ≤ 7) ∧ a6 = 0 ∧ a4 = 0) ∨
  (a0 = 6 ∧ a3 = 0 ∧ (0 ≤ a2 ∧ a2 ≤ 255) ∧ (0 ≤ a5 ∧ a5 ≤ 7) ∧ (0 ≤ a6 ∧ a6 ≤ 2) ∧ (0 ≤ a4 ∧ a4 ≤ 64) ∧ (n = 0 ∨ (a6 = 0 ∧ n ≤ 8 ∧ n ≤ a4)))))
theorem some_dec {b : Bool} {p : Prop} [Decidable p] (h : b = true ↔ p) : some b = some (decide p) := by
  congr 1; rw [Bool.eq_iff_iff]; simpa using h
theorem le_mn (x a b : Int) : x ≤ mn a b ↔ x ≤ a ∧ x ≤ b := by unfold mn; split <;> omega
theorem l04Zero_eq (a0 a1 a2 a3 a4 a5 a6 : Int) (l : List Int) (x y z : Bool) : spec_l04Zero.f a0 a1 a2 a3 a4 a5 a6 l x y z = some (decide ((x = true ∨ a2 = 0) ∧ (y = true ∨ a4 = 0) ∧ (z = true ∨ a5 = 0))) := by
  simp only [spec_l04Zero.f]
  repeat' split
  all_goals refine some_dec ?_
  all_goals simp_all
theorem specIsPacket_eq (k : Nat) (a0 a1 a2 a3 a4 a5 a6 : Int) (l : List Int) (hl : l.length ≤ 1048576) (h3 : (Lit.int .i64 a3).wf = true) (hw : spec_l04Words.f (k + 1) l = some (wordsOk l)) : spec_IsPacket.f (k + 1) a0 a1 a2 a3 a4 a5 a6 l = some (packB a0 a1 a2 a3 a4 a5 a6 (l.length : Int) (wordsOk l)) := by
  simp only [spec_IsPacket.f, specIsId_eq, hw, Option.bind_some, packB]
  have e1 : wrap64 (65536 - (l.length : Int)) = 65536 - (l.length : Int) := w64 (by omega) (by omega)
  by_cases c1 : 0 ≤ a1 ∧ a1 ≤ 255
  · cases c2 : wordsOk l with
    | false => simp [c1, spec_IsPacket.j0]
    | true =>
      simp only [decide_eq_true c1, Bool.not_true, Bool.true_and, spec_IsPacket.j0, Bool.false_eq_true, ↓reduceIte, l01In_eq, l04Zero_eq, specIsId_eq, Option.bind_some, e1, decide_eq_true_eq]
      by_cases b1 : a0 = 1
      · subst b1; simp only [↓reduceIte]; (repeat' split) <;> (refine some_dec ?_; simp only [le_mn, wrap64, decide_eq_true_eq, Bool.false_eq_true, beq_iff_eq, false_or, true_or, false_iff, true_iff, true_and, false_and, Int.reduceEq, or_false, and_false, and_true, or_true, not_false_eq_true, not_true_eq_false] at *; (first | done | omega))
      by_cases b2 : a0 = 2
      · subst b2; simp only [Int.reduceEq, ↓reduceIte]; (repeat' split) <;> (refine some_dec ?_; simp only [le_mn, wrap64, decide_eq_true_eq, Bool.false_eq_true, beq_iff_eq, false_or, true_or, false_iff, true_iff, true_and, false_and, Int.reduceEq, or_false, and_false, and_true, or_true, not_false_eq_true, not_true_eq_false] at *; (first | done | omega))
      by_cases b3 : a0 = 3
      · subst b3; simp only [Int.reduceEq, ↓reduceIte]; (repeat' split) <;> (refine some_dec ?_; simp only [le_mn, wrap64, decide_eq_true_eq, Bool.false_eq_true, beq_iff_eq, false_or, true_or, false_iff, true_iff, true_and, false_and, Int.reduceEq, or_false, and_false, and_true, or_true, not_false_eq_true, not_true_eq_false] at *; (first | done | omega))
      by_cases b4 : a0 = 4
      · subst b4; simp only [Int.reduceEq, ↓reduceIte]; (repeat' split) <;> (refine some_dec ?_; simp only [le_mn, wrap64, decide_eq_true_eq, Bool.false_eq_true, beq_iff_eq, false_or, true_or, false_iff, true_iff, true_and, false_and, Int.reduceEq, or_false, and_false, and_true, or_true, not_false_eq_true, not_true_eq_false] at *; (first | done | omega))
      by_cases b5 : a0 = 5
      · subst b5; simp only [Int.reduceEq, ↓reduceIte]; (repeat' split) <;> (refine some_dec ?_; simp only [le_mn, wrap64, decide_eq_true_eq, Bool.false_eq_true, beq_iff_eq, false_or, true_or, false_iff, true_iff, true_and, false_and, Int.reduceEq, or_false, and_false, and_true, or_true, not_false_eq_true, not_true_eq_false] at *; (first | done | omega))
      by_cases b6 : a0 = 6
      · subst b6; simp only [Int.reduceEq, ↓reduceIte]; (repeat' split) <;> (refine some_dec ?_; simp only [le_mn, wrap64, decide_eq_true_eq, Bool.false_eq_true, beq_iff_eq, false_or, true_or, false_iff, true_iff, true_and, false_and, Int.reduceEq, or_false, and_false, and_true, or_true, not_false_eq_true, not_true_eq_false] at *; (first | done | omega))
      rw [if_neg b1, if_neg b2, if_neg b3, if_neg b4, if_neg b5, if_neg b6]; (repeat' split) <;> (refine some_dec ?_; simp only [le_mn, wrap64, decide_eq_true_eq, Bool.false_eq_true, beq_iff_eq, false_or, true_or, false_iff, true_iff, true_and, false_and, Int.reduceEq, or_false, and_false, and_true, or_true, not_false_eq_true, not_true_eq_false] at *; (first | done | omega))
  · simp [c1, spec_IsPacket.j0]
/-- How many data a packet may have. -/
def dataB (a0 a4 a6 n : Int) : Prop := if a0 = 1 ∨ a0 = 2 then 1 ≤ n ∧ n ≤ 8 else if a0 = 5 then n = 1 else if a0 = 6 ∧ a6 = 0 then n ≤ 8 ∧ n ≤ a4 else n = 0
instance (a0 a4 a6 n : Int) : Decidable (dataB a0 a4 a6 n) := by unfold dataB; infer_instance
theorem dataOk_some (k : Nat) (a0 a1 a2 a3 a4 a5 a6 : Int) (l : List Int) : impl_Packet_dataOk.f (k + 1) a0 a1 a2 a3 a4 a5 a6 l = some (wordsOk l && decide (dataB a0 a4 a6 (l.length : Int))) := by
  have e : l.any impl_Packet_dataOk_1.p = !wordsOk l := by rw [wordsOk, List.all_eq_not_any_not, Bool.not_not]; rfl
  simp only [impl_Packet_dataOk.f, impl_Packet_dataOk_1.f, Option.bind_some, impl_Packet_dataOk.j0, within_eq, e]
  cases wordsOk l with
  | false => simp
  | true =>
    simp only [Bool.not_true, Bool.false_eq_true, ↓reduceIte, Bool.true_and, beq_iff_eq]
    (repeat' split) <;> (refine some_dec ?_; unfold dataB; (repeat' split) <;> simp only [decide_eq_true_eq, Bool.false_eq_true, beq_iff_eq, false_iff] at * <;> first | done | omega)
theorem addressOk_some (k : Nat) (a0 a1 a2 a3 a4 a5 a6 : Int) (l : List Int) : impl_Packet_addressOk.f (k + 1) a0 a1 a2 a3 a4 a5 a6 l = some (decide (if a0 = 1 ∨ a0 = 3 then (0 ≤ a3 ∧ a3 ≤ 65535) ∧ (if a0 = 3 then a4 else (l.length : Int)) ≤ 65536 - a3 else if a0 = 4 ∨ a0 = 5 then 0 ≤ a3 ∧ a3 ≤ 63 else a3 = 0)) := by
  simp only [impl_Packet_addressOk.f, impl_Packet_addressOk.j0, impl_Packet_words.f, within_eq, Option.bind_some]
  by_cases b1 : a0 = 1
  · subst b1; simp only [Int.reduceEq, beq_iff_eq, ↓reduceIte, true_or, Option.bind_some, decide_eq_true_eq]
    (repeat' split) <;> (refine some_dec ?_; simp only [wrap64, decide_eq_true_eq, Bool.false_eq_true, false_iff] at *; first | done | omega)
  by_cases b3 : a0 = 3
  · subst b3; simp only [Int.reduceEq, beq_iff_eq, ↓reduceIte, or_true, Option.bind_some, decide_eq_true_eq]
    (repeat' split) <;> (refine some_dec ?_; simp only [wrap64, decide_eq_true_eq, Bool.false_eq_true, false_iff] at *; first | done | omega)
  by_cases b4 : a0 = 4
  · subst b4; simp only [Int.reduceEq, beq_iff_eq, ↓reduceIte, true_or, or_self]
  by_cases b5 : a0 = 5
  · subst b5; simp only [Int.reduceEq, beq_iff_eq, ↓reduceIte, or_true, or_self]
  simp only [b1, b3, b4, b5, beq_iff_eq, ↓reduceIte, or_self]; exact some_dec (by simp only [beq_iff_eq])
theorem lengthOk_some (a0 a1 a2 a3 a4 a5 a6 : Int) (l : List Int) : impl_Packet_lengthOk.f a0 a1 a2 a3 a4 a5 a6 l = some (decide (if a0 = 3 then 1 ≤ a4 ∧ a4 ≤ 64 else if a0 = 6 then 0 ≤ a4 ∧ a4 ≤ 64 else a4 = 0)) := by
  simp only [impl_Packet_lengthOk.f, within_eq, Option.bind_some]
  by_cases b3 : a0 = 3
  · simp only [b3, ↓reduceIte]
  by_cases b6 : a0 = 6
  · simp only [b6, Int.reduceEq, ↓reduceIte]
  simp only [b3, b6, ↓reduceIte]; exact some_dec (by simp only [beq_iff_eq])
theorem isPacket_j2 (k : Nat) (x : Bool) (a0 a1 a2 a3 a4 a5 a6 : Int) (l : List Int) : impl_IsPacket.j2 (k + 2) x a0 a1 a2 a3 a4 a5 a6 l = some (!x && (decide (if a0 = 6 then 0 ≤ a6 ∧ a6 ≤ 2 else a6 = 0) && (wordsOk l && decide (dataB a0 a4 a6 (l.length : Int))))) := by
  simp only [impl_IsPacket.j2, within_eq, dataOk_some, Option.bind_some]
  cases x with
  | true => rfl
  | false =>
    by_cases b6 : a0 = 6
    · simp only [Bool.false_eq_true, b6, ↓reduceIte, Bool.not_false, Bool.true_and]; exact itb _ rfl
    · simp only [Bool.false_eq_true, b6, ↓reduceIte, Bool.not_false, Bool.true_and]; exact itp _ rfl
theorem isPacket_j1 (k : Nat) (x : Bool) (a0 a1 a2 a3 a4 a5 a6 : Int) (l : List Int) : impl_IsPacket.j1 (k + 3) x a0 a1 a2 a3 a4 a5 a6 l = some (!x && (decide (if 3 ≤ a0 ∧ a0 ≤ 6 then 0 ≤ a5 ∧ a5 ≤ 7 else a5 = 0) && (decide (if a0 = 6 then 0 ≤ a6 ∧ a6 ≤ 2 else a6 = 0) && (wordsOk l && decide (dataB a0 a4 a6 (l.length : Int)))))) := by
  simp only [impl_IsPacket.j1, within_eq, isPacket_j2, Option.bind_some]
  cases x with
  | true => rfl
  | false =>
    by_cases b : 3 ≤ a0 ∧ a0 ≤ 6
    · simp only [Bool.false_eq_true, b, and_self, decide_true, ↓reduceIte, Bool.not_false, Bool.true_and, decide_eq_true_eq]
      by_cases c : 0 ≤ a5 ∧ a5 ≤ 7
      · simp only [c, and_self, ↓reduceIte, decide_true]; rfl
      · rw [if_neg c, decide_eq_false c]; rfl
    · simp only [Bool.false_eq_true, b, decide_false, ↓reduceIte, Bool.not_false, Bool.true_and]
      by_cases c : a5 = 0
      · subst c; rfl
      · rw [decide_eq_false c, show (a5 != 0) = true by simpa using c]; rfl
theorem isPacket_j0 (k : Nat) (x : Bool) (a0 a1 a2 a3 a4 a5 a6 : Int) (l : List Int) : impl_IsPacket.j0 (k + 4) x a0 a1 a2 a3 a4 a5 a6 l = some (!x && (decide (if 4 ≤ a0 ∧ a0 ≤ 6 then 0 ≤ a2 ∧ a2 ≤ 255 else a2 = 0) && (decide (if 3 ≤ a0 ∧ a0 ≤ 6 then 0 ≤ a5 ∧ a5 ≤ 7 else a5 = 0) && (decide (if a0 = 6 then 0 ≤ a6 ∧ a6 ≤ 2 else a6 = 0) && (wordsOk l && decide (dataB a0 a4 a6 (l.length : Int))))))) := by
  simp only [impl_IsPacket.j0, within_eq, implIsId_eq, isPacket_j1, Option.bind_some]
  cases x with
  | true => rfl
  | false =>
    by_cases b : 4 ≤ a0 ∧ a0 ≤ 6
    · simp only [Bool.false_eq_true, b, and_self, decide_true, ↓reduceIte, Bool.not_false, Bool.true_and, decide_eq_true_eq]
      by_cases c : 0 ≤ a2 ∧ a2 ≤ 255
      · simp only [c, and_self, ↓reduceIte, decide_true]; rfl
      · rw [if_neg c, decide_eq_false c]; rfl
    · simp only [Bool.false_eq_true, b, decide_false, ↓reduceIte, Bool.not_false, Bool.true_and]
      by_cases c : a2 = 0
      · subst c; rfl
      · rw [decide_eq_false c, show (a2 != 0) = true by simpa using c]; rfl
theorem implIsPacket_eq (k : Nat) (a0 a1 a2 a3 a4 a5 a6 : Int) (l : List Int) : impl_IsPacket.f (k + 4) a0 a1 a2 a3 a4 a5 a6 l = some (packB a0 a1 a2 a3 a4 a5 a6 (l.length : Int) (wordsOk l)) := by
  simp only [impl_IsPacket.f, isPacket_j0, implIsId_eq, addressOk_some, lengthOk_some, within_eq, Option.bind_some, packB]
  by_cases c1 : 0 ≤ a1 ∧ a1 ≤ 255
  · cases c2 : wordsOk l with
    | false =>
      simp only [decide_eq_true c1, Bool.false_and, Bool.and_false, Bool.true_and, Bool.false_eq_true, ↓reduceIte, decide_eq_true_eq]
      (repeat' split) <;> rfl
    | true =>
      simp only [decide_eq_true c1, Bool.true_and, ↓reduceIte, decide_eq_true_eq, Bool.not_true, Bool.false_and]
      by_cases b : 1 ≤ a0 ∧ a0 ≤ 6
      · obtain b1 | b1 | b1 | b1 | b1 | b1 : a0 = 1 ∨ a0 = 2 ∨ a0 = 3 ∨ a0 = 4 ∨ a0 = 5 ∨ a0 = 6 := by omega
        all_goals subst b1
        all_goals simp only [dataB, Int.reduceEq, Int.reduceLE, ↓reduceIte, and_self, and_true, true_and, true_or, or_true, or_self, Bool.not_not, false_and, or_false, false_or, and_false]
        all_goals split
        all_goals rename_i hx
        all_goals refine congrArg some (Bool.eq_iff_iff.mpr ?_)
        all_goals simp only [Bool.and_eq_true, decide_eq_true_eq, Bool.false_eq_true, false_iff]
        all_goals first | omega | ((repeat' split) <;> omega)
      · rw [if_neg b]
        refine some_dec ?_
        simp only [Bool.false_eq_true, false_iff]; omega
  · simp only [decide_eq_false c1, Bool.false_eq_true, ↓reduceIte, Bool.false_and, Bool.not_true]
    (repeat' split) <;> rfl
/-- The class of a packet. -/
def classB (ok : Bool) (a0 : Int) : Int := if ok = true then (if a0 = 1 ∨ a0 = 2 then 0 else if a0 = 6 then 2 else 1) else -1
theorem specClassOf_ev (a0 a1 a2 a3 a4 a5 a6 : Int) (l : List Int) (hl : l.length ≤ 1048576) (h3 : (Lit.int .i64 a3).wf = true) : Ev (fun k => spec_ClassOf.f k a0 a1 a2 a3 a4 a5 a6 l) (classB (packB a0 a1 a2 a3 a4 a5 a6 (l.length : Int) (wordsOk l)) a0) := by
  refine Ev.pred (g := fun k => spec_ClassOf.f k a0 a1 a2 a3 a4 a5 a6 l) (Ev.map (Ev.succ (g := fun k => spec_l04Words.f k l) (l04Words_ev l (by omega))) (fun k hk => ?_))
  simp only [spec_ClassOf.f, specIsPacket_eq k a0 a1 a2 a3 a4 a5 a6 l hl h3 hk, Option.bind_some, spec_ClassOf.j0, classB]
  cases packB a0 a1 a2 a3 a4 a5 a6 (l.length : Int) (wordsOk l) with
  | false => rfl
  | true =>
    simp only [↓reduceIte, beq_iff_eq]
    (repeat' split) <;> first | rfl | omega
theorem implClassOf_eq (k : Nat) (a0 a1 a2 a3 a4 a5 a6 : Int) (l : List Int) : impl_ClassOf.f (k + 4) a0 a1 a2 a3 a4 a5 a6 l = some (classB (packB a0 a1 a2 a3 a4 a5 a6 (l.length : Int) (wordsOk l)) a0) := by
  simp only [impl_ClassOf.f, implIsPacket_eq, Option.bind_some, impl_classOf.f, impl_classOf.j0, classB]
  cases packB a0 a1 a2 a3 a4 a5 a6 (l.length : Int) (wordsOk l) with
  | false => rfl
  | true =>
    simp only [↓reduceIte, beq_iff_eq]
    (repeat' split) <;> first | rfl | omega
theorem szPacket_some (a0 a1 a2 a3 a4 a5 a6 : Int) (l : List Int) (n : Int) (hl : l.length ≤ 9223372036854775807) (h0 : 0 ≤ n) (h1 : n ≤ 1048576) : ∃ r, laws_szPacket.f a0 a1 a2 a3 a4 a5 a6 l n = some r ∧ (0 ≤ r → (l.length : Int) + r = n) := by
  obtain ⟨r, hr, hb⟩ := szIntS_some l n hl h0 h1
  simp only [laws_szPacket.f, hr, Option.bind_some]
  split
  · exact ⟨_, rfl, by omega⟩
  · exact ⟨_, rfl, hb⟩
theorem toPacket_ev (a0 a1 a2 a3 a4 a5 a6 : Int) (l : List Int) (hl : l.length ≤ 35184372088832) : Ev (fun k => laws_toPacket.f k a0 a1 a2 a3 a4 a5 a6 l) (a0, a1, a2, a3, a4, a5, a6, l) := by
  simp only [laws_toPacket.f]
  exact Ev.bind (toIntS_ev l hl) (Ev.now _)
theorem eqPacket_refl (a0 a1 a2 a3 a4 a5 a6 : Int) (l : List Int) (hl : l.length ≤ 35184372088832) : Ev (fun k => laws_eqPacket.f k a0 a1 a2 a3 a4 a5 a6 l a0 a1 a2 a3 a4 a5 a6 l) true := by
  simp only [laws_eqPacket.f]
  exact Ev.ifp trivial (Ev.ifp trivial (Ev.ifp trivial (Ev.ifp trivial (Ev.ifp trivial (Ev.ifp trivial (Ev.ifp trivial (Ev.bind (eqIntS_refl l (by omega)) (Ev.ifp rfl (Ev.now _)))))))))
theorem markPacket_held (a0 a1 a2 a3 a4 a5 a6 : Int) (l : List Int) (hn : l.length ≤ 1000000000000) (m : Int) (h0 : 0 ≤ m) (h1 : m ≤ 1000000000000) :
    ∃ ys : List Int, ys.length = l.length ∧ Ev (fun k => laws_markPacket.f k a0 a1 a2 a3 a4 a5 a6 l m) (m + (l.length : Int), ys) ∧ Ev (fun k => laws_heldPacket.f k a0 a1 a2 a3 a4 a5 a6 ys m) (m + (l.length : Int)) := by
  obtain ⟨ys, hl, hm, hh⟩ := markIntS_held l hn m h0 h1
  refine ⟨ys, hl, ?_, ?_⟩
  · simp only [laws_markPacket.f]
    exact Ev.bind hm (Ev.now _)
  · simp only [laws_heldPacket.f]
    exact Ev.bind hh (Ev.ifn (by omega) (Ev.now _))
/-- What a refusal is. -/
def refB (c a1 a5 b1 b2 : Int) : Int × Int × Int × Int × Int × Int × Int × List Int × Bool := if c = 1 ∧ (0 ≤ b1 ∧ b1 ≤ 255) ∧ (1 ≤ b2 ∧ b2 ≤ 2) then (6, b1, a1, 0, 0, a5, b2, ([] : List Int), true) else (0, 0, 0, 0, 0, 0, 0, ([] : List Int), false)
theorem refB_nil (c a1 a5 b1 b2 : Int) : (refB c a1 a5 b1 b2).2.2.2.2.2.2.2.1 = [] := by unfold refB; split <;> rfl
theorem specRefusalOf_ev (a0 a1 a2 a3 a4 a5 a6 : Int) (l : List Int) (b1 b2 : Int) (hl : l.length ≤ 1048576) (h3 : (Lit.int .i64 a3).wf = true) : Ev (fun k => spec_RefusalOf.f k a0 a1 a2 a3 a4 a5 a6 l b1 b2) (refB (classB (packB a0 a1 a2 a3 a4 a5 a6 (l.length : Int) (wordsOk l)) a0) a1 a5 b1 b2) := by
  refine Ev.map (specClassOf_ev a0 a1 a2 a3 a4 a5 a6 l hl h3) (fun k hk => ?_)
  simp only [spec_RefusalOf.f, hk, Option.bind_some, specIsId_eq, l01In_eq, decide_eq_true_eq, refB]
  (repeat' split) <;> first | rfl | omega
theorem implRefusalOf_ev (a0 a1 a2 a3 a4 a5 a6 : Int) (l : List Int) (b1 b2 : Int) : Ev (fun k => impl_RefusalOf.f k a0 a1 a2 a3 a4 a5 a6 l b1 b2) (refB (classB (packB a0 a1 a2 a3 a4 a5 a6 (l.length : Int) (wordsOk l)) a0) a1 a5 b1 b2) := by
  refine ⟨4, fun k hk => ?_⟩
  obtain ⟨k, rfl⟩ : ∃ j, k = j + 4 := ⟨k - 4, by omega⟩
  simp only [impl_RefusalOf.f, implClassOf_eq, Option.bind_some, implIsId_eq, decide_eq_true_eq, refB]
  (repeat' split) <;> first | rfl | omega
theorem FnExactRefusalOf : ∀ (a0_0 : Int) (a0_1 : Int) (a0_2 : Int) (a0_3 : Int) (a0_4 : Int) (a0_5 : Int) (a0_6 : Int) (l0_7 : List (Int)) (a1 : Int) (a2 : Int), (Lit.int .i64 a0_0).wf = true → (Lit.int .i64 a0_1).wf = true → (Lit.int .i64 a0_2).wf = true → (Lit.int .i64 a0_3).wf = true → (Lit.int .i64 a0_4).wf = true → (Lit.int .i64 a0_5).wf = true → (Lit.int .i64 a0_6).wf = true → l0_7.length ≤ 9223372036854775807 → (∀ x ∈ l0_7, (Lit.int .i64 x).wf = true) → (Lit.int .i64 a1).wf = true → (Lit.int .i64 a2).wf = true → ∃ k, laws_FnExactRefusalOf.f k a0_0 a0_1 a0_2 a0_3 a0_4 a0_5 a0_6 l0_7 a1 a2 = some true := by
  intro a0 a1 a2 a3 a4 a5 a6 l b1 b2 _ _ _ h3 _ _ _ hl _ _ _
  obtain ⟨s, hs, hb⟩ := szPacket_some a0 a1 a2 a3 a4 a5 a6 l 1048576 hl (by omega) (by omega)
  refine Ev.rounds ?_
  simp only [laws_FnExactRefusalOf.f]
  refine Ev.bnd hs ?_
  by_cases cs : s < 0
  · exact Ev.ifp cs (Ev.now _)
  have t := toPacket_ev a0 a1 a2 a3 a4 a5 a6 l (by omega)
  have g1 := specRefusalOf_ev a0 a1 a2 a3 a4 a5 a6 l b1 b2 (by omega) h3
  have g2 := implRefusalOf_ev a0 a1 a2 a3 a4 a5 a6 l b1 b2
  have hnil := refB_nil (classB (packB a0 a1 a2 a3 a4 a5 a6 (l.length : Int) (wordsOk l)) a0) a1 a5 b1 b2
  generalize refB (classB (packB a0 a1 a2 a3 a4 a5 a6 (l.length : Int) (wordsOk l)) a0) a1 a5 b1 b2 = r at g1 g2 hnil
  obtain ⟨r0, r1, r2, r3, r4, r5, r6, rl, rb⟩ := r
  simp only at hnil
  subst hnil
  have e := eqPacket_refl r0 r1 r2 r3 r4 r5 r6 [] (by simp)
  obtain ⟨ys, hy, m1, m2⟩ := markPacket_held r0 r1 r2 r3 r4 r5 r6 [] (by simp) 1 (by omega) (by omega)
  obtain ⟨zs, hz, n1, n2⟩ := markPacket_held a0 a1 a2 a3 a4 a5 a6 l (by omega) 1 (by omega) (by omega)
  refine Ev.ifn cs (Ev.bind t (Ev.bind g1 (Ev.bind t (Ev.bind g2 (Ev.bind e (Ev.ifp rfl ?_))))))
  refine Ev.pred (g := fun k => laws_FnExactRefusalOf.j0 k _ _ _ _ _ _ _ _ _ _ _ _ _ _ _ _ _ _ _ _ _ _ _ _ _ _ _ _ _ _ _ _ _ _ _ _ _) ?_
  simp only [laws_FnExactRefusalOf.j0]
  have eq' := eqPacket_refl a0 a1 a2 a3 a4 a5 a6 l (by omega)
  refine Ev.ifn (by simp) (Ev.bind t (Ev.bind eq' (Ev.ifp rfl (Ev.bind n1 (Ev.ifn (by simp only; omega) (Ev.bind e (Ev.ifp rfl ?_)))))))
  refine Ev.pred (g := fun k => laws_FnExactRefusalOf.j1 k _ _ _ _ _ _ _ _ _ _ _ _ _ _ _ _ _ _ _ _ _ _ _ _ _ _ _ _) ?_
  simp only [laws_FnExactRefusalOf.j1]
  have m3 := m2
  refine Ev.ifn (by simp) (Ev.bind m1 (Ev.bind m2 (Ev.ifn (by omega) (Ev.ifp rfl (Ev.bind t (Ev.bind g2 (Ev.bind e (Ev.ifp rfl ?_))))))))
  refine Ev.pred (g := fun k => laws_FnExactRefusalOf.j2 k _ _ _ _ _ _ _ _ _ _) ?_
  simp only [laws_FnExactRefusalOf.j2]
  exact Ev.ifn (by simp) (Ev.bind m2 (Ev.ifn (by omega) (Ev.ifp rfl (Ev.now _))))
end Go.Proofs.Ytndnlafnkknodaa.Pure

/- The program's VectorsOk returns what the reference's returns, for all vectors. -/
import Derived.Test.YtmilhndiocggkaaPFnExactVectorsOkx3
set_option linter.unusedVariables false
set_option linter.unusedSimpArgs false
namespace Go.Proofs.Ytmilhndiocggkaa.Pure
open Go.RowKit Go.Proofs.Ytmilhndiocggkaa.PFnExactVectorsOk Go.Proofs.YtmilhndiocggkaaW.PrintWords Go.Proofs.YtmilhndiocggkaaW.PrintLast Go.Proofs.YtmilhndiocggkaaW.PrintMore
theorem w64 {x : Int} (h0 : -9223372036854775808 ≤ x) (h1 : x ≤ 9223372036854775807) : wrap64 x = x := by unfold wrap64; omega
theorem wnext {i n : Nat} (h : i < n) (hn : n ≤ 4611686018427387904) : wrap64 ((i : Int) + 1) = ((i + 1 : Nat) : Int) := by unfold wrap64; omega
/-- From K rounds on, these two are the same. -/
def Same {α : Type} (g f : Nat → Option α) : Prop := ∃ K, ∀ k, K ≤ k → g k = f k
theorem Same.now {α : Type} {g f : Nat → Option α} (h : ∀ k, g k = f k) : Same g f := ⟨0, fun k _ => h k⟩
theorem Same.trans {α : Type} {g f e : Nat → Option α} (h : Same g f) (h' : Same f e) : Same g e := by
  obtain ⟨K, h⟩ := h; obtain ⟨K', h'⟩ := h'
  exact ⟨max K K', fun k hk => (h k (by omega)).trans (h' k (by omega))⟩
theorem Same.ev {α : Type} {g f : Nat → Option α} {r : α} (h : Same g f) (e : Ev f r) : Ev g r := by
  obtain ⟨K, h⟩ := h; obtain ⟨K', e⟩ := e
  exact ⟨max K K', fun k hk => (h k (by omega)).trans (e k (by omega))⟩
theorem Same.bind {α β : Type} {g : Nat → Option α} {f : Nat → α → Option β} {a : α} (h : Ev g a) : Same (fun n => (g n).bind (f n)) (fun n => f n a) := by
  obtain ⟨K, h⟩ := h
  exact ⟨K, fun k hk => by simp only [h k hk, Option.bind_some]⟩
theorem Ev.pred {α : Type} {g : Nat → Option α} {r : α} (h : Ev (fun k => g (k + 1)) r) : Ev g r := Ev.step (f := fun k => g (k + 1)) (fun _ => rfl) h
theorem Same.pred {α : Type} {g : Nat → Option α} {f : Nat → Option α} {r : α} (h : Same (fun k => g (k + 1)) f) (e : Ev f r) : Ev g r := Ev.pred (h.ev e)
/-- A loop that counts up: the state at round i is s i; at n it answers. -/
theorem Ev.upto {ρ : Type} (l : Nat → Nat → Option ρ) {n : Nat} {r : ρ} (step : ∀ i, i < n → Same (fun k => l (k + 1) i) (fun k => l k (i + 1))) (done : Ev (fun k => l k n) r) : ∀ i, i ≤ n → Ev (fun k => l k i) r := by
  intro i hi
  obtain ⟨d, hd⟩ : ∃ d, i + d = n := ⟨n - i, by omega⟩
  induction d generalizing i with
  | zero => obtain rfl : i = n := by omega
            exact done
  | succ d ih => exact Same.pred (g := fun k => l k i) (step i (by omega)) (ih (i + 1) (by omega) (by omega))
theorem Ev.ifp {α : Type} {c : Prop} [Decidable c] {g f : Nat → Option α} {r : α} (h : c) (e : Ev g r) : Ev (fun n => if c then g n else f n) r := by
  obtain ⟨K, e⟩ := e
  exact ⟨K, fun k hk => by dsimp only; rw [if_pos h]; exact e k hk⟩
theorem Ev.ifn {α : Type} {c : Prop} [Decidable c] {g f : Nat → Option α} {r : α} (h : ¬ c) (e : Ev f r) : Ev (fun n => if c then g n else f n) r := by
  obtain ⟨K, e⟩ := e
  exact ⟨K, fun k hk => by dsimp only; rw [if_neg h]; exact e k hk⟩
theorem Ev.const {α : Type} {a r : α} (h : a = r) : Ev (fun _ => some a) r := ⟨0, fun _ _ => by rw [h]⟩
theorem Ev.bnd {α β : Type} {x : Option α} {f : Nat → α → Option β} {a : α} {r : β} (h : x = some a) (k : Ev (fun n => f n a) r) : Ev (fun n => x.bind (f n)) r := Ev.bind (g := fun _ => x) ⟨0, fun _ _ => h⟩ k
theorem Ev.eq {α : Type} {g : Nat → Option α} {r r' : α} (h : Ev g r) (e : r = r') : Ev g r' := e ▸ h
theorem rdOf_nat {α : Type} (d : α) (xs : List α) (i : Nat) : rdOf d xs (i : Int) = xs.getD i d := rfl
theorem drop_cons {α : Type} (d : α) (xs : List α) (i : Nat) (h : i < xs.length) : xs.drop i = xs.getD i d :: xs.drop (i + 1) := by
  rw [List.drop_eq_getElem_cons h, List.getD_eq_getElem?_getD, List.getElem?_eq_getElem h]; rfl
theorem take_succ {α : Type} (d : α) (xs : List α) (i : Nat) (h : i < xs.length) : xs.take (i + 1) = xs.take i ++ [xs.getD i d] := by
  rw [List.take_succ_eq_append_getElem h, List.getD_eq_getElem?_getD, List.getElem?_eq_getElem h]; rfl
theorem take_set_succ {α : Type} (ys : List α) (i : Nat) (v : α) (h : i < ys.length) : (ys.set i v).take (i + 1) = ys.take i ++ [v] := by
  apply List.ext_getElem?
  intro j
  rw [List.getElem?_take, List.getElem?_set, List.getElem?_append, List.length_take]
  by_cases h1 : j < i
  · rw [if_pos (by omega), if_neg (by omega), if_pos (by omega), List.getElem?_take, if_pos h1]
  · by_cases h2 : j = i
    · subst h2
      rw [if_pos (by omega), if_pos rfl, if_pos h, if_neg (by omega), show j - min j ys.length = 0 by omega]; rfl
    · rw [if_neg (by omega), if_neg (by omega), List.getElem?_eq_none (by simp; omega)]
/-- A loop that copies. -/
theorem copy_loop {α : Type} (d : α) (l : Nat → List α → List α → Int → Option (List α)) (xs : List α) (hn : xs.length ≤ 4611686018427387904)
    (h : ∀ k ys i, l (k + 1) xs ys i = if i < (xs.length : Int) then (if 0 ≤ i then (if i < (ys.length : Int) then l k xs (ys.set (i : Int).toNat (rdOf d xs i)) (wrap64 (i + 1)) else none) else none) else some ys)
    (ys : List α) (hy : ys.length = xs.length) : Ev (fun k => l k xs ys 0) xs := by
  suffices H : ∀ i, i ≤ xs.length → ∀ ys : List α, ys.length = xs.length → ys.take i = xs.take i → Ev (fun k => l k xs ys (i : Int)) xs from H 0 (by omega) ys hy (by simp)
  intro i hi
  obtain ⟨m, hm⟩ : ∃ m, i + m = xs.length := ⟨xs.length - i, by omega⟩
  induction m generalizing i with
  | zero =>
    intro ys hy ht
    refine Ev.pred (g := fun k => l k xs ys (i : Int)) ⟨0, fun k _ => ?_⟩
    simp only [h]
    rw [if_neg (by omega)]
    rw [List.take_of_length_le (by omega), List.take_of_length_le (by omega)] at ht
    rw [ht]
  | succ m ih =>
    intro ys hy ht
    have hlt : i < xs.length := by omega
    refine Same.pred (g := fun k => l k xs ys (i : Int)) (f := fun k => l k xs (ys.set i (rdOf d xs i)) ((i + 1 : Nat) : Int)) (Same.now fun k => ?_) (ih (i + 1) (by omega) (by omega) _ (by simpa using hy) ?_)
    · simp only [h]
      rw [if_pos (by omega), if_pos (by omega), if_pos (by omega), wnext hlt hn, Int.toNat_natCast]
    · rw [take_set_succ _ _ _ (by omega), ht, rdOf_nat, ← take_succ d _ _ hlt]
theorem szBoolS_some (l : List Bool) (n : Int) (hl : l.length ≤ 9223372036854775807) (h0 : 0 ≤ n) (h1 : n ≤ 1048576) : ∃ r, laws_szBoolS.f l n = some r ∧ (0 ≤ r → (l.length : Int) + r = n) := by
  unfold laws_szBoolS.f
  rw [w64 (by omega) (by omega)]
  split
  · exact ⟨_, rfl, by omega⟩
  · exact ⟨_, rfl, by omega⟩
theorem toBoolS_ev (xs : List Bool) (hn : xs.length ≤ 35184372088832) : Ev (fun k => laws_toBoolS.f k xs) xs := by
  refine Same.ev (f := fun k => laws_toBoolS.l0 k xs (List.replicate xs.length false) 0) (Same.now fun k => ?_) (copy_loop false laws_toBoolS.l0 xs (by omega) (fun _ _ _ => rfl) _ (by simp))
  simp only [laws_toBoolS.f]
  rw [if_pos (by omega), if_pos (by simp; omega)]; simp
theorem eqBoolS_refl (xs : List Bool) (hn : xs.length ≤ 4611686018427387904) : Ev (fun k => laws_eqBoolS.f k xs xs) true := by
  refine Same.ev (f := fun k => laws_eqBoolS.l0 k xs xs ((0 : Nat) : Int)) (Same.now fun k => ?_) (Ev.upto (fun k i => laws_eqBoolS.l0 k xs xs (i : Int)) (n := xs.length) ?_ ?_ 0 (by omega))
  · simp [laws_eqBoolS.f]
  · intro i hi
    refine Same.now fun k => ?_
    simp only [laws_eqBoolS.l0]
    rw [if_pos (by omega), if_pos (by omega), if_pos (by omega), if_neg (by simp), wnext hi hn]
  · refine Ev.pred (g := fun k => laws_eqBoolS.l0 k xs xs (xs.length : Int)) ⟨0, fun k _ => ?_⟩
    simp only [laws_eqBoolS.l0]; rw [if_neg (by omega)]
theorem within_eq (a b c : Int) : impl_within.f a b c = some (decide (b ≤ a ∧ a ≤ c)) := by
  unfold impl_within.f
  by_cases h : a ≥ b
  · rw [if_pos h]; simp [h]
  · rw [if_neg h]; simp; omega
theorem l01In_eq (a b c : Int) : spec_l01In.f a b c = some (decide (b ≤ a ∧ a ≤ c)) := by
  unfold spec_l01In.f
  by_cases h : a ≥ b
  · rw [if_pos h]; simp [h]
  · rw [if_neg h]; simp; omega
theorem szVectors_some (a : Int) (m p : List Bool) (n : Int) (hm : m.length ≤ 9223372036854775807) (hp : p.length ≤ 9223372036854775807) (h0 : 0 ≤ n) (h1 : n ≤ 1048576) : ∃ r, laws_szVectors.f a m p n = some r ∧ (0 ≤ r → (m.length : Int) + (p.length : Int) + r = n) := by
  obtain ⟨r, hr, hb⟩ := szBoolS_some m n hm h0 h1
  simp only [laws_szVectors.f, hr, Option.bind_some]
  by_cases c : r < 0
  · rw [if_pos c]; exact ⟨_, rfl, by omega⟩
  · rw [if_neg c]
    obtain ⟨s, hs, hb2⟩ := szBoolS_some p r hp (by omega) (by omega)
    rw [hs]
    simp only [Option.bind_some]
    split
    · exact ⟨_, rfl, by omega⟩
    · exact ⟨_, rfl, fun h => by have := hb (by omega); have := hb2 h; omega⟩
theorem toVectors_ev (a : Int) (m p : List Bool) (hm : m.length ≤ 35184372088832) (hp : p.length ≤ 35184372088832) : Ev (fun k => laws_toVectors.f k a m p) (a, m, p) := by
  simp only [laws_toVectors.f]
  exact Ev.bind (toBoolS_ev m hm) (Ev.bind (toBoolS_ev p hp) (Ev.now _))
theorem eqVectors_refl (a : Int) (m p : List Bool) (hm : m.length ≤ 35184372088832) (hp : p.length ≤ 35184372088832) : Ev (fun k => laws_eqVectors.f k a m p a m p) true := by
  simp only [laws_eqVectors.f]
  exact Ev.ifp trivial (Ev.bind (eqBoolS_refl m (by omega)) (Ev.ifp rfl (Ev.bind (eqBoolS_refl p (by omega)) (Ev.ifp rfl (Ev.now _)))))
/-- All that are pending are masked. -/
def pm (p m : List Bool) : Bool := (p.zip m).all fun x => !x.1 || x.2
theorem pm_cons (p m : List Bool) (i : Nat) (hp : i < p.length) (hm : i < m.length) : pm (p.drop i) (m.drop i) = ((!p.getD i false || m.getD i false) && pm (p.drop (i + 1)) (m.drop (i + 1))) := by
  rw [drop_cons false p i hp, drop_cons false m i hm]; rfl
/-- Vectors are valid. -/
def vecOk (a : Int) (m p : List Bool) : Bool := decide (1 ≤ (m.length : Int) ∧ (m.length : Int) ≤ 8) && decide (p.length = m.length) && decide (0 ≤ a ∧ a ≤ 65535) && pm p m
theorem specVectorsOk_ev (a : Int) (m p : List Bool) : Ev (fun k => spec_VectorsOk.f k a m p) (vecOk a m p) := by
  simp only [spec_VectorsOk.f, l01In_eq]
  refine Ev.bnd rfl ?_
  by_cases h1 : 1 ≤ (m.length : Int) ∧ (m.length : Int) ≤ 8
  · refine Ev.ifp (by simpa using h1) ?_
    by_cases h2 : (p.length : Int) = (m.length : Int)
    · refine Ev.ifp h2 (Ev.bnd rfl (Ev.pred (g := fun k => spec_VectorsOk.j0 k _ _ _ _) ?_))
      simp only [spec_VectorsOk.j0]
      by_cases h3 : 0 ≤ a ∧ a ≤ 65535
      · refine Ev.ifn (by simp [h3]) ?_
        have e : vecOk a m p = pm (p.drop 0) (m.drop 0) := by
          have : p.length = m.length := by omega
          simp [vecOk, this, h3]; omega
        rw [e]
        suffices H : ∀ (d i : Nat), i + d = m.length → Ev (fun k => spec_VectorsOk.l0 k (i : Int) a m p) (pm (p.drop i) (m.drop i)) from H m.length 0 (by omega)
        intro d
        induction d with
        | zero =>
          intro i hi
          refine Ev.pred (g := fun k => spec_VectorsOk.l0 k (i : Int) a m p) ⟨0, fun k _ => ?_⟩
          simp only [spec_VectorsOk.l0]; rw [if_neg (by omega), List.drop_of_length_le (by omega)]; rfl
        | succ d ih =>
          intro i hi
          have ih' := ih (i + 1) (by omega)
          rw [pm_cons p m i (by omega) (by omega)]
          refine Ev.pred (g := fun k => spec_VectorsOk.l0 k (i : Int) a m p) ?_
          simp only [spec_VectorsOk.l0]
          refine Ev.ifp (by omega) (Ev.ifp (by omega) (Ev.ifp (by omega) ?_))
          rw [wnext (n := m.length) (by omega) (by omega)]
          cases gp : p.getD i false with
          | false => refine Ev.ifn (by rw [rdOf_nat, gp]; simp) (Ev.eq ih' (by simp))
          | true =>
            refine Ev.ifp (by rw [rdOf_nat, gp]) ?_
            cases gm : m.getD i false with
            | false => exact Ev.ifn (by rw [rdOf_nat, gm]; simp) (Ev.const (by simp))
            | true => exact Ev.ifp (by rw [rdOf_nat, gm]) (Ev.eq ih' (by simp))
      · refine Ev.ifp (by simp only [Bool.not_eq_true']; exact decide_eq_false h3) (Ev.const ?_)
        simp only [vecOk, decide_eq_false h3]; simp
    · refine Ev.ifn h2 (Ev.pred (g := fun k => spec_VectorsOk.j0 k _ _ _ _) ?_)
      simp only [spec_VectorsOk.j0]
      refine Ev.ifp (by simp) (Ev.const ?_)
      have : ¬ p.length = m.length := by omega
      simp only [vecOk, decide_eq_false this]; simp
  · refine Ev.ifn (by simp only [decide_eq_true_eq]; exact h1) (Ev.pred (g := fun k => spec_VectorsOk.j0 k _ _ _ _) ?_)
    simp only [spec_VectorsOk.j0]
    refine Ev.ifp (by simp) (Ev.const ?_)
    simp only [vecOk, decide_eq_false h1]; simp
theorem implVectorsOk_ev (a : Int) (m p : List Bool) : Ev (fun k => impl_VectorsOk.f k a m p) (vecOk a m p) := by
  simp only [impl_VectorsOk.f, within_eq]
  refine Ev.bnd rfl ?_
  by_cases h1 : 1 ≤ (m.length : Int) ∧ (m.length : Int) ≤ 8
  · refine Ev.ifp (by simpa using h1) ?_
    by_cases h2 : (p.length : Int) = (m.length : Int)
    · refine Ev.ifp h2 (Ev.bnd rfl (Ev.pred (g := fun k => impl_VectorsOk.j0 k _ _ _ _) ?_))
      simp only [impl_VectorsOk.j0]
      by_cases h3 : 0 ≤ a ∧ a ≤ 65535
      · refine Ev.ifn (by simp [h3]) ?_
        have e : vecOk a m p = pm (p.drop 0) (m.drop 0) := by
          have : p.length = m.length := by omega
          simp [vecOk, this, h3]; omega
        rw [e]
        suffices H : ∀ (d i : Nat), i + d = m.length → Ev (fun k => impl_VectorsOk.l0 k p (p.length : Int) (i : Int) a m p) (pm (p.drop i) (m.drop i)) from H m.length 0 (by omega)
        intro d
        induction d with
        | zero =>
          intro i hi
          refine Ev.pred (g := fun k => impl_VectorsOk.l0 k p (p.length : Int) (i : Int) a m p) ⟨0, fun k _ => ?_⟩
          simp only [impl_VectorsOk.l0]; rw [if_neg (by omega), List.drop_of_length_le (by omega)]; rfl
        | succ d ih =>
          intro i hi
          have ih' := ih (i + 1) (by omega)
          rw [pm_cons p m i (by omega) (by omega)]
          refine Ev.pred (g := fun k => impl_VectorsOk.l0 k p (p.length : Int) (i : Int) a m p) ?_
          simp only [impl_VectorsOk.l0]
          refine Ev.ifp (by omega) (Ev.ifp (by omega) (Ev.ifp (by omega) ?_))
          rw [wnext (n := m.length) (by omega) (by omega)]
          cases gp : p.getD i false with
          | false => refine Ev.ifn (by rw [rdOf_nat, gp]; simp) (Ev.eq ih' (by simp))
          | true =>
            refine Ev.ifp (by rw [rdOf_nat, gp]) (Ev.ifp (by omega) ?_)
            cases gm : m.getD i false with
            | false => exact Ev.ifn (by rw [rdOf_nat, gm]; simp) (Ev.const (by simp))
            | true => exact Ev.ifp (by rw [rdOf_nat, gm]) (Ev.eq ih' (by simp))
      · refine Ev.ifp (by simp only [Bool.not_eq_true']; exact decide_eq_false h3) (Ev.const ?_)
        simp only [vecOk, decide_eq_false h3]; simp
    · refine Ev.ifn h2 (Ev.pred (g := fun k => impl_VectorsOk.j0 k _ _ _ _) ?_)
      simp only [impl_VectorsOk.j0]
      refine Ev.ifp (by simp) (Ev.const ?_)
      have : ¬ p.length = m.length := by omega
      simp only [vecOk, decide_eq_false this]; simp
  · refine Ev.ifn (by simp only [decide_eq_true_eq]; exact h1) (Ev.pred (g := fun k => impl_VectorsOk.j0 k _ _ _ _) ?_)
    simp only [impl_VectorsOk.j0]
    refine Ev.ifp (by simp) (Ev.const ?_)
    simp only [vecOk, decide_eq_false h1]; simp
theorem FnExactVectorsOk : ∀ (a0_0 : Int) (l0_1 : List (Bool)) (l0_2 : List (Bool)), (Lit.int .i64 a0_0).wf = true → l0_1.length ≤ 9223372036854775807 → (∀ x ∈ l0_1, True) → l0_2.length ≤ 9223372036854775807 → (∀ x ∈ l0_2, True) → ∃ k, laws_FnExactVectorsOk.f k a0_0 l0_1 l0_2 = some true := by
  intro a m p _ hm _ hp _
  obtain ⟨s, hs, hb⟩ := szVectors_some a m p 1048576 hm hp (by omega) (by omega)
  refine Ev.rounds ?_
  simp only [laws_FnExactVectorsOk.f]
  refine Ev.bnd hs ?_
  by_cases c : s < 0
  · exact Ev.ifp c (Ev.now _)
  have t := toVectors_ev a m p (by omega) (by omega)
  exact Ev.ifn c (Ev.bind t (Ev.bind (specVectorsOk_ev a m p) (Ev.bind t (Ev.bind (implVectorsOk_ev a m p) (Ev.ifn (by simp) (Ev.bind t (Ev.bind (eqVectors_refl a m p (by omega) (by omega)) (Ev.ifp rfl (Ev.now _)))))))))
end Go.Proofs.Ytmilhndiocggkaa.Pure

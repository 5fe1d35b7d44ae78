/- The program's PendingOf returns what the reference's returns, for all vectors. -/
import Derived.Test.YtmilhndiocggkaaPFnExactPendingOfx3
set_option linter.unusedVariables false
set_option linter.unusedSimpArgs false
namespace Go.Proofs.Ytmilhndiocggkaa.Pure
open Go.RowKit Go.Proofs.Ytmilhndiocggkaa.PFnExactPendingOf Go.Proofs.YtmilhndiocggkaaW.PrintWords Go.Proofs.YtmilhndiocggkaaW.PrintLast Go.Proofs.YtmilhndiocggkaaW.PrintMore
theorem w64 {x : Int} (h0 : -9223372036854775808 ≤ x) (h1 : x ≤ 9223372036854775807) : wrap64 x = x := by unfold wrap64; omega
theorem wnext {i n : Nat} (h : i < n) (hn : n ≤ 4611686018427387904) : wrap64 ((i : Int) + 1) = ((i + 1 : Nat) : Int) := by unfold wrap64; omega
/-- From K rounds on, these two are the same. -/
def Same {α : Type} (g f : Nat → Option α) : Prop := ∃ K, ∀ k, K ≤ k → g k = f k
theorem Same.now {α : Type} {g f : Nat → Option α} (h : ∀ k, g k = f k) : Same g f := ⟨0, fun k _ => h k⟩
theorem Same.trans {α : Type} {g f e : Nat → Option α} (h : Same g f) (h' : Same f e) : Same g e := by
  obtain ⟨K, h⟩ := h; obtain ⟨K', h'⟩ := h'
  exact ⟨max K K', fun k hk => (h k (by omega)).trans (h' k (by omega))⟩
theorem Same.ev {α : Type} {g f : Nat → Option α} {r : α} (h : Same g f) (e : Ev f r) : Ev g r := by
  obtain ⟨K, h⟩ := h; obtain ⟨K', e⟩ := e
  exact ⟨max K K', fun k hk => (h k (by omega)).trans (e k (by omega))⟩
theorem Same.bind {α β : Type} {g : Nat → Option α} {f : Nat → α → Option β} {a : α} (h : Ev g a) : Same (fun n => (g n).bind (f n)) (fun n => f n a) := by
  obtain ⟨K, h⟩ := h
  exact ⟨K, fun k hk => by simp only [h k hk, Option.bind_some]⟩
theorem Ev.pred {α : Type} {g : Nat → Option α} {r : α} (h : Ev (fun k => g (k + 1)) r) : Ev g r := Ev.step (f := fun k => g (k + 1)) (fun _ => rfl) h
theorem Same.pred {α : Type} {g : Nat → Option α} {f : Nat → Option α} {r : α} (h : Same (fun k => g (k + 1)) f) (e : Ev f r) : Ev g r := Ev.pred (h.ev e)
/-- A loop that counts up: the state at round i is s i; at n it answers. -/
theorem Ev.upto {ρ : Type} (l : Nat → Nat → Option ρ) {n : Nat} {r : ρ} (step : ∀ i, i < n → Same (fun k => l (k + 1) i) (fun k => l k (i + 1))) (done : Ev (fun k => l k n) r) : ∀ i, i ≤ n → Ev (fun k => l k i) r := by
  intro i hi
  obtain ⟨d, hd⟩ : ∃ d, i + d = n := ⟨n - i, by omega⟩
  induction d generalizing i with
  | zero => obtain rfl : i = n := by omega
            exact done
  | succ d ih => exact Same.pred (g := fun k => l k i) (step i (by omega)) (ih (i + 1) (by omega) (by omega))
theorem Ev.ifp {α : Type} {c : Prop} [Decidable c] {g f : Nat → Option α} {r : α} (h : c) (e : Ev g r) : Ev (fun n => if c then g n else f n) r := by
  obtain ⟨K, e⟩ := e
  exact ⟨K, fun k hk => by dsimp only; rw [if_pos h]; exact e k hk⟩
theorem Ev.ifn {α : Type} {c : Prop} [Decidable c] {g f : Nat → Option α} {r : α} (h : ¬ c) (e : Ev f r) : Ev (fun n => if c then g n else f n) r := by
  obtain ⟨K, e⟩ := e
  exact ⟨K, fun k hk => by dsimp only; rw [if_neg h]; exact e k hk⟩
theorem Ev.bnd {α β : Type} {x : Option α} {f : Nat → α → Option β} {a : α} {r : β} (h : x = some a) (k : Ev (fun n => f n a) r) : Ev (fun n => x.bind (f n)) r := Ev.bind (g := fun _ => x) ⟨0, fun _ _ => h⟩ k
theorem rdOf_nat {α : Type} (d : α) (xs : List α) (i : Nat) : rdOf d xs (i : Int) = xs.getD i d := rfl
theorem take_succ {α : Type} (d : α) (xs : List α) (i : Nat) (h : i < xs.length) : xs.take (i + 1) = xs.take i ++ [xs.getD i d] := by
  rw [List.take_succ_eq_append_getElem h, List.getD_eq_getElem?_getD, List.getElem?_eq_getElem h]; rfl
theorem take_set_succ {α : Type} (ys : List α) (i : Nat) (v : α) (h : i < ys.length) : (ys.set i v).take (i + 1) = ys.take i ++ [v] := by
  apply List.ext_getElem?
  intro j
  rw [List.getElem?_take, List.getElem?_set, List.getElem?_append, List.length_take]
  by_cases h1 : j < i
  · rw [if_pos (by omega), if_neg (by omega), if_pos (by omega), List.getElem?_take, if_pos h1]
  · by_cases h2 : j = i
    · subst h2
      rw [if_pos (by omega), if_pos rfl, if_pos h, if_neg (by omega), show j - min j ys.length = 0 by omega]; rfl
    · rw [if_neg (by omega), if_neg (by omega), List.getElem?_eq_none (by simp; omega)]
/-- A loop that copies. -/
theorem copy_loop {α : Type} (d : α) (l : Nat → List α → List α → Int → Option (List α)) (xs : List α) (hn : xs.length ≤ 4611686018427387904)
    (h : ∀ k ys i, l (k + 1) xs ys i = if i < (xs.length : Int) then (if 0 ≤ i then (if i < (ys.length : Int) then l k xs (ys.set (i : Int).toNat (rdOf d xs i)) (wrap64 (i + 1)) else none) else none) else some ys)
    (ys : List α) (hy : ys.length = xs.length) : Ev (fun k => l k xs ys 0) xs := by
  suffices H : ∀ i, i ≤ xs.length → ∀ ys : List α, ys.length = xs.length → ys.take i = xs.take i → Ev (fun k => l k xs ys (i : Int)) xs from H 0 (by omega) ys hy (by simp)
  intro i hi
  obtain ⟨m, hm⟩ : ∃ m, i + m = xs.length := ⟨xs.length - i, by omega⟩
  induction m generalizing i with
  | zero =>
    intro ys hy ht
    refine Ev.pred (g := fun k => l k xs ys (i : Int)) ⟨0, fun k _ => ?_⟩
    simp only [h]
    rw [if_neg (by omega)]
    rw [List.take_of_length_le (by omega), List.take_of_length_le (by omega)] at ht
    rw [ht]
  | succ m ih =>
    intro ys hy ht
    have hlt : i < xs.length := by omega
    refine Same.pred (g := fun k => l k xs ys (i : Int)) (f := fun k => l k xs (ys.set i (rdOf d xs i)) ((i + 1 : Nat) : Int)) (Same.now fun k => ?_) (ih (i + 1) (by omega) (by omega) _ (by simpa using hy) ?_)
    · simp only [h]
      rw [if_pos (by omega), if_pos (by omega), if_pos (by omega), wnext hlt hn, Int.toNat_natCast]
    · rw [take_set_succ _ _ _ (by omega), ht, rdOf_nat, ← take_succ d _ _ hlt]
theorem eqIntS_refl (xs : List Int) (hn : xs.length ≤ 4611686018427387904) : Ev (fun k => laws_eqIntS.f k xs xs) true := by
  refine Same.ev (f := fun k => laws_eqIntS.l0 k xs xs ((0 : Nat) : Int)) (Same.now fun k => ?_) (Ev.upto (fun k i => laws_eqIntS.l0 k xs xs (i : Int)) (n := xs.length) ?_ ?_ 0 (by omega))
  · simp [laws_eqIntS.f]
  · intro i hi
    refine Same.now fun k => ?_
    simp only [laws_eqIntS.l0]
    rw [if_pos (by omega), if_pos (by omega), if_pos (by omega), if_pos trivial, wnext hi hn]
  · refine Ev.pred (g := fun k => laws_eqIntS.l0 k xs xs (xs.length : Int)) ⟨0, fun k _ => ?_⟩
    simp only [laws_eqIntS.l0]; rw [if_neg (by omega)]
theorem getD_set {α : Type} (d : α) (xs : List α) (i j : Nat) (v : α) (h : i < xs.length) : (xs.set i v).getD j d = if j = i then v else xs.getD j d := by
  rw [List.getD_eq_getElem?_getD, List.getD_eq_getElem?_getD, List.getElem?_set]
  by_cases e : j = i
  · subst e; rw [if_pos rfl, if_pos rfl, if_pos h]; rfl
  · rw [if_neg e, if_neg (by omega)]
/-- A loop that marks the elements, c numbers each. -/
theorem mark_loop {α : Type} (d : α) (v : Int → α → α) (c : Int) (l : Nat → List α → Int → Int → Option (Int × List α)) (xs : List α) (m : Int)
    (step : ∀ (k : Nat) (ys : List α) (i : Nat), ys.length = xs.length → i < xs.length → l (k + 1) ys (m + c * (i : Int)) (i : Int) = l k (ys.set i (v (m + c * (i : Int)) (ys.getD i d))) (m + c * ((i + 1 : Nat) : Int)) ((i + 1 : Nat) : Int))
    (stop : ∀ (k : Nat) (ys : List α), ys.length = xs.length → l (k + 1) ys (m + c * (xs.length : Int)) (xs.length : Int) = some (m + c * (xs.length : Int), ys)) :
    ∃ ys : List α, ys.length = xs.length ∧ (∀ i, i < xs.length → ys.getD i d = v (m + c * (i : Int)) (xs.getD i d)) ∧ Ev (fun k => l k xs m 0) (m + c * (xs.length : Int), ys) := by
  suffices H : ∀ (n i : Nat) (zs : List α), i + n = xs.length → zs.length = xs.length → (∀ j, j < i → zs.getD j d = v (m + c * (j : Int)) (xs.getD j d)) → (∀ j, i ≤ j → zs.getD j d = xs.getD j d) →
      ∃ ys : List α, ys.length = xs.length ∧ (∀ i, i < xs.length → ys.getD i d = v (m + c * (i : Int)) (xs.getD i d)) ∧ Ev (fun k => l k zs (m + c * (i : Int)) (i : Int)) (m + c * (xs.length : Int), ys) by
    obtain ⟨ys, h0, h1, h2⟩ := H xs.length 0 xs (by omega) rfl (fun j h => by omega) (fun _ _ => rfl)
    refine ⟨ys, h0, h1, ?_⟩
    have e : m + c * ((0 : Nat) : Int) = m := by simp
    rw [e] at h2; exact h2
  intro n
  induction n with
  | zero =>
    intro i zs hi hz h1 h2
    obtain rfl : i = xs.length := by omega
    exact ⟨zs, hz, h1, Ev.pred (g := fun k => l k zs (m + c * (xs.length : Int)) (xs.length : Int)) ⟨0, fun k _ => stop k zs hz⟩⟩
  | succ n ih =>
    intro i zs hi hz h1 h2
    obtain ⟨ys, g0, g1, g2⟩ := ih (i + 1) (zs.set i (v (m + c * (i : Int)) (zs.getD i d))) (by omega) (by simpa using hz) (fun j hj => by
        rw [getD_set d _ _ _ _ (by omega)]
        by_cases e : j = i
        · subst e; rw [if_pos rfl, h2 j (Nat.le_refl _)]
        · rw [if_neg e]; exact h1 j (by omega))
      (fun j hj => by rw [getD_set d _ _ _ _ (by omega), if_neg (by omega)]; exact h2 j (by omega))
    exact ⟨ys, g0, g1, Same.pred (g := fun k => l k zs (m + c * (i : Int)) (i : Int)) (Same.now fun k => step k zs i hz (by omega)) g2⟩
/-- A loop that looks at the marks. -/
theorem held_loop {α : Type} (c : Int) (l : Nat → List α → Int → Int → Option Int) (ys : List α) (m : Int)
    (step : ∀ (k : Nat) (i : Nat), i < ys.length → l (k + 1) ys (m + c * (i : Int)) (i : Int) = l k ys (m + c * ((i + 1 : Nat) : Int)) ((i + 1 : Nat) : Int))
    (stop : ∀ (k : Nat), l (k + 1) ys (m + c * (ys.length : Int)) (ys.length : Int) = some (m + c * (ys.length : Int))) :
    Ev (fun k => l k ys m 0) (m + c * (ys.length : Int)) := by
  have h := Ev.upto (fun k i => l k ys (m + c * (i : Int)) (i : Int)) (n := ys.length) (r := m + c * (ys.length : Int)) (fun i hi => Same.now fun k => step k i hi)
    (Ev.pred (g := fun k => l k ys (m + c * (ys.length : Int)) (ys.length : Int)) ⟨0, fun k _ => stop k⟩) 0 (by omega)
  have e : m + c * ((0 : Nat) : Int) = m := by simp
  rw [e] at h; exact h
theorem szBoolS_some (l : List Bool) (n : Int) (hl : l.length ≤ 9223372036854775807) (h0 : 0 ≤ n) (h1 : n ≤ 1048576) : ∃ r, laws_szBoolS.f l n = some r ∧ (0 ≤ r → (l.length : Int) + r = n) := by
  unfold laws_szBoolS.f
  rw [w64 (by omega) (by omega)]
  split
  · exact ⟨_, rfl, by omega⟩
  · exact ⟨_, rfl, by omega⟩
theorem toBoolS_ev (xs : List Bool) (hn : xs.length ≤ 35184372088832) : Ev (fun k => laws_toBoolS.f k xs) xs := by
  refine Same.ev (f := fun k => laws_toBoolS.l0 k xs (List.replicate xs.length false) 0) (Same.now fun k => ?_) (copy_loop false laws_toBoolS.l0 xs (by omega) (fun _ _ _ => rfl) _ (by simp))
  simp only [laws_toBoolS.f]
  rw [if_pos (by omega), if_pos (by simp; omega)]; simp
theorem eqBoolS_refl (xs : List Bool) (hn : xs.length ≤ 4611686018427387904) : Ev (fun k => laws_eqBoolS.f k xs xs) true := by
  refine Same.ev (f := fun k => laws_eqBoolS.l0 k xs xs ((0 : Nat) : Int)) (Same.now fun k => ?_) (Ev.upto (fun k i => laws_eqBoolS.l0 k xs xs (i : Int)) (n := xs.length) ?_ ?_ 0 (by omega))
  · simp [laws_eqBoolS.f]
  · intro i hi
    refine Same.now fun k => ?_
    simp only [laws_eqBoolS.l0]
    rw [if_pos (by omega), if_pos (by omega), if_pos (by omega), if_neg (by simp), wnext hi hn]
  · refine Ev.pred (g := fun k => laws_eqBoolS.l0 k xs xs (xs.length : Int)) ⟨0, fun k _ => ?_⟩
    simp only [laws_eqBoolS.l0]; rw [if_neg (by omega)]
theorem markBoolS_ev (xs : List Bool) (hn : xs.length ≤ 1000000000000) (m : Int) (h0 : 0 ≤ m) (h1 : m ≤ 1000000000000) :
    ∃ ys : List Bool, ys.length = xs.length ∧ Ev (fun k => laws_markBoolS.f k xs m) (m + (xs.length : Int), ys) := by
  obtain ⟨ys, hl, hy, he⟩ := mark_loop false (fun a _ => (Int.tmod a 3 == 0)) 1 laws_markBoolS.l0 xs m (fun k ys i hy hi => by
      simp only [laws_markBoolS.l0, Int.toNat_natCast]
      rw [if_pos (by omega), if_pos (by omega), w64 (by omega) (by omega), wnext hi (by omega), show m + 1 * (i : Int) + 1 = m + 1 * ((i + 1 : Nat) : Int) by omega])
    (fun k ys hy => by simp only [laws_markBoolS.l0]; rw [if_neg (by omega)])
  rw [Int.one_mul] at he
  exact ⟨ys, hl, he⟩
theorem markIntS_held (xs : List Int) (hn : xs.length ≤ 1000000000000) (m : Int) (h0 : 0 ≤ m) (h1 : m ≤ 1000000000000) :
    ∃ ys : List Int, ys.length = xs.length ∧ Ev (fun k => laws_markIntS.f k xs m) (m + (xs.length : Int), ys) ∧ Ev (fun k => laws_heldIntS.f k ys m) (m + (xs.length : Int)) := by
  obtain ⟨ys, hl, hy, he⟩ := mark_loop (0 : Int) (fun a _ => a) 1 laws_markIntS.l0 xs m (fun k ys i hy hi => by
      simp only [laws_markIntS.l0, Int.toNat_natCast]
      rw [if_pos (by omega), if_pos (by omega), w64 (by omega) (by omega), wnext hi (by omega), show m + 1 * (i : Int) + 1 = m + 1 * ((i + 1 : Nat) : Int) by omega])
    (fun k ys hy => by simp only [laws_markIntS.l0]; rw [if_neg (by omega)])
  rw [Int.one_mul] at he
  refine ⟨ys, hl, he, ?_⟩
  rw [← hl]
  have hh := held_loop 1 laws_heldIntS.l0 ys m (fun k i hi => by
      have g0 : rd ys (i : Int) = m + 1 * (i : Int) := hy i (by omega)
      simp only [laws_heldIntS.l0]
      rw [if_pos (by omega), if_pos (by omega), if_pos g0, w64 (by omega) (by omega), wnext hi (by omega), show m + 1 * (i : Int) + 1 = m + 1 * ((i + 1 : Nat) : Int) by omega])
    (fun k => by simp only [laws_heldIntS.l0]; rw [if_neg (by omega)])
  rw [Int.one_mul] at hh
  exact hh
theorem szVectors_some (a : Int) (m p : List Bool) (n : Int) (hm : m.length ≤ 9223372036854775807) (hp : p.length ≤ 9223372036854775807) (h0 : 0 ≤ n) (h1 : n ≤ 1048576) : ∃ r, laws_szVectors.f a m p n = some r ∧ (0 ≤ r → (m.length : Int) + (p.length : Int) + r = n) := by
  obtain ⟨r, hr, hb⟩ := szBoolS_some m n hm h0 h1
  simp only [laws_szVectors.f, hr, Option.bind_some]
  by_cases c : r < 0
  · rw [if_pos c]; exact ⟨_, rfl, by omega⟩
  · rw [if_neg c]
    obtain ⟨s, hs, hb2⟩ := szBoolS_some p r hp (by omega) (by omega)
    rw [hs]
    simp only [Option.bind_some]
    split
    · exact ⟨_, rfl, by omega⟩
    · exact ⟨_, rfl, fun h => by have := hb (by omega); have := hb2 h; omega⟩
theorem toVectors_ev (a : Int) (m p : List Bool) (hm : m.length ≤ 35184372088832) (hp : p.length ≤ 35184372088832) : Ev (fun k => laws_toVectors.f k a m p) (a, m, p) := by
  simp only [laws_toVectors.f]
  exact Ev.bind (toBoolS_ev m hm) (Ev.bind (toBoolS_ev p hp) (Ev.now _))
theorem eqVectors_refl (a : Int) (m p : List Bool) (hm : m.length ≤ 35184372088832) (hp : p.length ≤ 35184372088832) : Ev (fun k => laws_eqVectors.f k a m p a m p) true := by
  simp only [laws_eqVectors.f]
  exact Ev.ifp trivial (Ev.bind (eqBoolS_refl m (by omega)) (Ev.ifp rfl (Ev.bind (eqBoolS_refl p (by omega)) (Ev.ifp rfl (Ev.now _)))))
theorem markVectors_ev (a : Int) (m p : List Bool) (hm : m.length ≤ 1048576) (hp : p.length ≤ 1048576) : ∃ q, Ev (fun k => laws_markVectors.f k a m p 1) q ∧ 0 ≤ q.1 := by
  obtain ⟨ys, hy, h1⟩ := markBoolS_ev m (by omega) 1 (by omega) (by omega)
  obtain ⟨zs, hz, h2⟩ := markBoolS_ev p (by omega) (1 + (m.length : Int)) (by omega) (by omega)
  refine ⟨(1 + (m.length : Int) + (p.length : Int), ys, zs), ?_, by simp only; omega⟩
  simp only [laws_markVectors.f]
  exact Ev.bind h1 (Ev.bind h2 (Ev.now _))
theorem pending_ev (a : Int) (m p : List Bool) (hp : p.length ≤ 1048576) : ∀ (d i : Nat) (o : List Int), i + d = p.length → o.length ≤ i → ∃ r : List Int, r.length ≤ p.length ∧ Ev (fun k => spec_PendingOf.l0 k o (i : Int) a m p) r ∧ Ev (fun k => impl_PendingOf.l0 k o p (p.length : Int) (i : Int)) r := by
  intro d
  induction d with
  | zero =>
    intro i o hi ho
    refine ⟨o, by omega, Ev.pred (g := fun k => spec_PendingOf.l0 k o (i : Int) a m p) ⟨0, fun k _ => ?_⟩, Ev.pred (g := fun k => impl_PendingOf.l0 k o p (p.length : Int) (i : Int)) ⟨0, fun k _ => ?_⟩⟩
    · simp only [spec_PendingOf.l0]; rw [if_neg (by omega)]
    · simp only [impl_PendingOf.l0]; rw [if_neg (by omega)]
  | succ d ih =>
    intro i o hi ho
    by_cases h : rdOf false p (i : Int) = true
    · obtain ⟨r, hr, h1, h2⟩ := ih (i + 1) (o ++ [(i : Int)]) (by omega) (by simp; omega)
      refine ⟨r, hr, Same.pred (g := fun k => spec_PendingOf.l0 k o (i : Int) a m p) (Same.now fun k => ?_) h1, Same.pred (g := fun k => impl_PendingOf.l0 k o p (p.length : Int) (i : Int)) (Same.now fun k => ?_) h2⟩
      · simp only [spec_PendingOf.l0]
        rw [if_pos (by omega), if_pos (by omega), if_pos h, if_pos (by omega), wnext (n := p.length) (by omega) (by omega)]
      · simp only [impl_PendingOf.l0]
        rw [if_pos (by omega), if_pos (by omega), if_pos (by omega), if_pos h, if_pos (by omega), wnext (n := p.length) (by omega) (by omega)]
    · obtain ⟨r, hr, h1, h2⟩ := ih (i + 1) o (by omega) (by omega)
      refine ⟨r, hr, Same.pred (g := fun k => spec_PendingOf.l0 k o (i : Int) a m p) (Same.now fun k => ?_) h1, Same.pred (g := fun k => impl_PendingOf.l0 k o p (p.length : Int) (i : Int)) (Same.now fun k => ?_) h2⟩
      · simp only [spec_PendingOf.l0]
        rw [if_pos (by omega), if_pos (by omega), if_neg h, wnext (n := p.length) (by omega) (by omega)]
      · simp only [impl_PendingOf.l0]
        rw [if_pos (by omega), if_pos (by omega), if_pos (by omega), if_neg h, wnext (n := p.length) (by omega) (by omega)]
theorem FnExactPendingOf : ∀ (a0_0 : Int) (l0_1 : List (Bool)) (l0_2 : List (Bool)), (Lit.int .i64 a0_0).wf = true → l0_1.length ≤ 9223372036854775807 → (∀ x ∈ l0_1, True) → l0_2.length ≤ 9223372036854775807 → (∀ x ∈ l0_2, True) → ∃ k, laws_FnExactPendingOf.f k a0_0 l0_1 l0_2 = some true := by
  intro a m p _ hm _ hp _
  obtain ⟨s, hs, hb⟩ := szVectors_some a m p 1048576 hm hp (by omega) (by omega)
  refine Ev.rounds ?_
  simp only [laws_FnExactPendingOf.f]
  refine Ev.bnd hs ?_
  by_cases c : s < 0
  · exact Ev.ifp c (Ev.now _)
  have t := toVectors_ev a m p (by omega) (by omega)
  obtain ⟨r, hr, h1, h2⟩ := pending_ev a m p (by omega) p.length 0 [] (by omega) (by simp)
  have h1 : Ev (fun k => spec_PendingOf.f k a m p) r := h1
  have h2 : Ev (fun k => impl_PendingOf.f k a m p) r := h2
  have er := eqIntS_refl r (by omega)
  obtain ⟨ys, hy, ms, hh⟩ := markIntS_held r (by omega) 1 (by omega) (by omega)
  obtain ⟨q, mx, hq⟩ := markVectors_ev a m p (by omega) (by omega)
  refine Ev.ifn c (Ev.bind t (Ev.bind h1 (Ev.bind t (Ev.bind h2 (Ev.bind er (Ev.ifp rfl (Ev.bind t (Ev.bind (eqVectors_refl a m p (by omega) (by omega)) (Ev.ifp rfl (Ev.bind mx (Ev.ifn (by omega) (Ev.bind er ?_))))))))))))
  refine Ev.pred (g := fun k => laws_FnExactPendingOf.j0 k _ _ _ _ _ _) ?_
  simp only [laws_FnExactPendingOf.j0]
  exact Ev.ifn (by simp) (Ev.bind ms (Ev.bind hh (Ev.ifn (by omega) (Ev.ifp rfl (Ev.bind t (Ev.bind h2 (Ev.bind er (Ev.ifp rfl (Ev.bind hh (Ev.ifn (by omega) (Ev.ifp rfl (Ev.now _))))))))))))
end Go.Proofs.Ytmilhndiocggkaa.Pure

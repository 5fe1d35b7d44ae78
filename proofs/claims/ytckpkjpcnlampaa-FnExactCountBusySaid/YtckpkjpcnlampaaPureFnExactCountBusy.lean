/- The program's CountBusy returns what the reference's returns, for all tags. -/
import Derived.Test.YtckpkjpcnlampaaPFnExactCountBusyx2
set_option linter.unusedVariables false
set_option linter.unusedSimpArgs false
namespace Go.Proofs.Ytckpkjpcnlampaa.Pure
open Go.RowKit Go.Proofs.Ytckpkjpcnlampaa.PFnExactCountBusy Go.Proofs.YtckpkjpcnlampaaW.PrintWords Go.Proofs.YtckpkjpcnlampaaW.PrintLast Go.Proofs.YtckpkjpcnlampaaW.PrintMore
theorem w64 {x : Int} (h0 : -9223372036854775808 ≤ x) (h1 : x ≤ 9223372036854775807) : wrap64 x = x := by unfold wrap64; omega
theorem wnext {i n : Nat} (h : i < n) (hn : n ≤ 4611686018427387904) : wrap64 ((i : Int) + 1) = ((i + 1 : Nat) : Int) := by unfold wrap64; omega
/-- From K rounds on, these two are the same. -/
def Same {α : Type} (g f : Nat → Option α) : Prop := ∃ K, ∀ k, K ≤ k → g k = f k
theorem Same.now {α : Type} {g f : Nat → Option α} (h : ∀ k, g k = f k) : Same g f := ⟨0, fun k _ => h k⟩
theorem Same.trans {α : Type} {g f e : Nat → Option α} (h : Same g f) (h' : Same f e) : Same g e := by
  obtain ⟨K, h⟩ := h; obtain ⟨K', h'⟩ := h'
  exact ⟨max K K', fun k hk => (h k (by omega)).trans (h' k (by omega))⟩
theorem Same.ev {α : Type} {g f : Nat → Option α} {r : α} (h : Same g f) (e : Ev f r) : Ev g r := by
  obtain ⟨K, h⟩ := h; obtain ⟨K', e⟩ := e
  exact ⟨max K K', fun k hk => (h k (by omega)).trans (e k (by omega))⟩
theorem Same.bind {α β : Type} {g : Nat → Option α} {f : Nat → α → Option β} {a : α} (h : Ev g a) : Same (fun n => (g n).bind (f n)) (fun n => f n a) := by
  obtain ⟨K, h⟩ := h
  exact ⟨K, fun k hk => by simp only [h k hk, Option.bind_some]⟩
theorem Ev.pred {α : Type} {g : Nat → Option α} {r : α} (h : Ev (fun k => g (k + 1)) r) : Ev g r := Ev.step (f := fun k => g (k + 1)) (fun _ => rfl) h
theorem Same.pred {α : Type} {g : Nat → Option α} {f : Nat → Option α} {r : α} (h : Same (fun k => g (k + 1)) f) (e : Ev f r) : Ev g r := Ev.pred (h.ev e)
/-- A loop that counts up: the state at round i is s i; at n it answers. -/
theorem Ev.upto {ρ : Type} (l : Nat → Nat → Option ρ) {n : Nat} {r : ρ} (step : ∀ i, i < n → Same (fun k => l (k + 1) i) (fun k => l k (i + 1))) (done : Ev (fun k => l k n) r) : ∀ i, i ≤ n → Ev (fun k => l k i) r := by
  intro i hi
  obtain ⟨d, hd⟩ : ∃ d, i + d = n := ⟨n - i, by omega⟩
  induction d generalizing i with
  | zero => obtain rfl : i = n := by omega
            exact done
  | succ d ih => exact Same.pred (g := fun k => l k i) (step i (by omega)) (ih (i + 1) (by omega) (by omega))
theorem Ev.ifp {α : Type} {c : Prop} [Decidable c] {g f : Nat → Option α} {r : α} (h : c) (e : Ev g r) : Ev (fun n => if c then g n else f n) r := by
  obtain ⟨K, e⟩ := e
  exact ⟨K, fun k hk => by dsimp only; rw [if_pos h]; exact e k hk⟩
theorem Ev.ifn {α : Type} {c : Prop} [Decidable c] {g f : Nat → Option α} {r : α} (h : ¬ c) (e : Ev f r) : Ev (fun n => if c then g n else f n) r := by
  obtain ⟨K, e⟩ := e
  exact ⟨K, fun k hk => by dsimp only; rw [if_neg h]; exact e k hk⟩
theorem Ev.bnd {α β : Type} {x : Option α} {f : Nat → α → Option β} {a : α} {r : β} (h : x = some a) (k : Ev (fun n => f n a) r) : Ev (fun n => x.bind (f n)) r := Ev.bind (g := fun _ => x) ⟨0, fun _ _ => h⟩ k
theorem rdOf_nat {α : Type} (d : α) (xs : List α) (i : Nat) : rdOf d xs (i : Int) = xs.getD i d := rfl
theorem take_succ {α : Type} (d : α) (xs : List α) (i : Nat) (h : i < xs.length) : xs.take (i + 1) = xs.take i ++ [xs.getD i d] := by
  rw [List.take_succ_eq_append_getElem h, List.getD_eq_getElem?_getD, List.getElem?_eq_getElem h]; rfl
theorem take_set_succ {α : Type} (ys : List α) (i : Nat) (v : α) (h : i < ys.length) : (ys.set i v).take (i + 1) = ys.take i ++ [v] := by
  apply List.ext_getElem?
  intro j
  rw [List.getElem?_take, List.getElem?_set, List.getElem?_append, List.length_take]
  by_cases h1 : j < i
  · rw [if_pos (by omega), if_neg (by omega), if_pos (by omega), List.getElem?_take, if_pos h1]
  · by_cases h2 : j = i
    · subst h2
      rw [if_pos (by omega), if_pos rfl, if_pos h, if_neg (by omega), show j - min j ys.length = 0 by omega]; rfl
    · rw [if_neg (by omega), if_neg (by omega), List.getElem?_eq_none (by simp; omega)]
/-- A loop that copies. -/
theorem copy_loop {α : Type} (d : α) (l : Nat → List α → List α → Int → Option (List α)) (xs : List α) (hn : xs.length ≤ 4611686018427387904)
    (h : ∀ k ys i, l (k + 1) xs ys i = if i < (xs.length : Int) then (if 0 ≤ i then (if i < (ys.length : Int) then l k xs (ys.set (i : Int).toNat (rdOf d xs i)) (wrap64 (i + 1)) else none) else none) else some ys)
    (ys : List α) (hy : ys.length = xs.length) : Ev (fun k => l k xs ys 0) xs := by
  suffices H : ∀ i, i ≤ xs.length → ∀ ys : List α, ys.length = xs.length → ys.take i = xs.take i → Ev (fun k => l k xs ys (i : Int)) xs from H 0 (by omega) ys hy (by simp)
  intro i hi
  obtain ⟨m, hm⟩ : ∃ m, i + m = xs.length := ⟨xs.length - i, by omega⟩
  induction m generalizing i with
  | zero =>
    intro ys hy ht
    refine Ev.pred (g := fun k => l k xs ys (i : Int)) ⟨0, fun k _ => ?_⟩
    simp only [h]
    rw [if_neg (by omega)]
    rw [List.take_of_length_le (by omega), List.take_of_length_le (by omega)] at ht
    rw [ht]
  | succ m ih =>
    intro ys hy ht
    have hlt : i < xs.length := by omega
    refine Same.pred (g := fun k => l k xs ys (i : Int)) (f := fun k => l k xs (ys.set i (rdOf d xs i)) ((i + 1 : Nat) : Int)) (Same.now fun k => ?_) (ih (i + 1) (by omega) (by omega) _ (by simpa using hy) ?_)
    · simp only [h]
      rw [if_pos (by omega), if_pos (by omega), if_pos (by omega), wnext hlt hn, Int.toNat_natCast]
    · rw [take_set_succ _ _ _ (by omega), ht, rdOf_nat, ← take_succ d _ _ hlt]
theorem szBoolS_some (l : List Bool) (n : Int) (hl : l.length ≤ 9223372036854775807) (h0 : 0 ≤ n) (h1 : n ≤ 1048576) : ∃ r, laws_szBoolS.f l n = some r ∧ (0 ≤ r → (l.length : Int) + r = n) := by
  unfold laws_szBoolS.f
  rw [w64 (by omega) (by omega)]
  split
  · exact ⟨_, rfl, by omega⟩
  · exact ⟨_, rfl, by omega⟩
theorem toBoolS_ev (xs : List Bool) (hn : xs.length ≤ 35184372088832) : Ev (fun k => laws_toBoolS.f k xs) xs := by
  refine Same.ev (f := fun k => laws_toBoolS.l0 k xs (List.replicate xs.length false) 0) (Same.now fun k => ?_) (copy_loop false laws_toBoolS.l0 xs (by omega) (fun _ _ _ => rfl) _ (by simp))
  simp only [laws_toBoolS.f]
  rw [if_pos (by omega), if_pos (by simp; omega)]; simp
theorem eqBoolS_refl (xs : List Bool) (hn : xs.length ≤ 4611686018427387904) : Ev (fun k => laws_eqBoolS.f k xs xs) true := by
  refine Same.ev (f := fun k => laws_eqBoolS.l0 k xs xs ((0 : Nat) : Int)) (Same.now fun k => ?_) (Ev.upto (fun k i => laws_eqBoolS.l0 k xs xs (i : Int)) (n := xs.length) ?_ ?_ 0 (by omega))
  · simp [laws_eqBoolS.f]
  · intro i hi
    refine Same.now fun k => ?_
    simp only [laws_eqBoolS.l0]
    rw [if_pos (by omega), if_pos (by omega), if_pos (by omega), if_neg (by simp), wnext hi hn]
  · refine Ev.pred (g := fun k => laws_eqBoolS.l0 k xs xs (xs.length : Int)) ⟨0, fun k _ => ?_⟩
    simp only [laws_eqBoolS.l0]; rw [if_neg (by omega)]
theorem szTags_some (l : List Bool) (n : Int) (hl : l.length ≤ 9223372036854775807) (h0 : 0 ≤ n) (h1 : n ≤ 1048576) : ∃ r, laws_szTags.f l n = some r ∧ (0 ≤ r → (l.length : Int) + r = n) := by
  obtain ⟨r, hr, hb⟩ := szBoolS_some l n hl h0 h1
  simp only [laws_szTags.f, hr, Option.bind_some]
  split
  · exact ⟨_, rfl, by omega⟩
  · exact ⟨_, rfl, hb⟩
theorem toTags_ev (l : List Bool) (hn : l.length ≤ 35184372088832) : Ev (fun k => laws_toTags.f k l) l := by
  simp only [laws_toTags.f]
  exact Ev.bind (toBoolS_ev l hn) (Ev.now _)
theorem eqTags_refl (l : List Bool) (hn : l.length ≤ 4611686018427387904) : Ev (fun k => laws_eqTags.f k l l) true := by
  simp only [laws_eqTags.f]
  exact Ev.bind (eqBoolS_refl l hn) (Ev.ifp rfl (Ev.now _))
theorem same_count (l : List Bool) (n : Int) (hn : (l.length : Int) = n) : ∀ (k : Nat) (c i : Int), impl_CountBusy.l0 k c l n i = spec_CountBusy.l0 k c i l := by
  subst hn
  intro k
  induction k with
  | zero => intro c i; rfl
  | succ k ih =>
    intro c i
    simp only [impl_CountBusy.l0, spec_CountBusy.l0, ih]
    by_cases h : i < (l.length : Int)
    · by_cases h0 : 0 ≤ i <;> simp [h, h0]
    · simp [h]
theorem count_ev (l : List Bool) (hl : l.length ≤ 4611686018427387904) : ∀ (d i : Nat) (c : Int), i + d = l.length → ∃ r, Ev (fun k => spec_CountBusy.l0 k c (i : Int) l) r := by
  intro d
  induction d with
  | zero =>
    intro i c hi
    refine ⟨c, Ev.pred (g := fun k => spec_CountBusy.l0 k c (i : Int) l) ⟨0, fun k _ => ?_⟩⟩
    simp only [spec_CountBusy.l0]; rw [if_neg (by omega)]
  | succ d ih =>
    intro i c hi
    by_cases h : rdOf false l (i : Int) = true
    · obtain ⟨r, hr⟩ := ih (i + 1) (wrap64 (c + 1)) (by omega)
      refine ⟨r, Same.pred (g := fun k => spec_CountBusy.l0 k c (i : Int) l) (Same.now fun k => ?_) hr⟩
      simp only [spec_CountBusy.l0]; rw [if_pos (by omega), if_pos (by omega), if_pos h, wnext (n := l.length) (by omega) hl]
    · obtain ⟨r, hr⟩ := ih (i + 1) c (by omega)
      refine ⟨r, Same.pred (g := fun k => spec_CountBusy.l0 k c (i : Int) l) (Same.now fun k => ?_) hr⟩
      simp only [spec_CountBusy.l0]; rw [if_pos (by omega), if_pos (by omega), if_neg h, wnext (n := l.length) (by omega) hl]
theorem FnExactCountBusy : ∀ (l0_0 : List (Bool)), l0_0.length ≤ 9223372036854775807 → (∀ x ∈ l0_0, True) → ∃ k, laws_FnExactCountBusy.f k l0_0 = some true := by
  intro l hl _
  obtain ⟨s, hs, hb⟩ := szTags_some l 1048576 hl (by omega) (by omega)
  refine Ev.rounds ?_
  simp only [laws_FnExactCountBusy.f]
  refine Ev.bnd hs ?_
  by_cases c : s < 0
  · exact Ev.ifp c (Ev.now _)
  have t := toTags_ev l (by omega)
  obtain ⟨r, hr⟩ := count_ev l (by omega) l.length 0 0 (by omega)
  have h1 : Ev (fun k => spec_CountBusy.f k l) r := hr
  have h2 : Ev (fun k => impl_CountBusy.f k l) r := Ev.congr (fun k => same_count l _ rfl k 0 0) hr
  exact Ev.ifn c (Ev.bind t (Ev.bind h1 (Ev.bind t (Ev.bind h2 (Ev.ifp rfl (Ev.bind t (Ev.bind (eqTags_refl l (by omega)) (Ev.ifp rfl (Ev.now _)))))))))
end Go.Proofs.Ytckpkjpcnlampaa.Pure

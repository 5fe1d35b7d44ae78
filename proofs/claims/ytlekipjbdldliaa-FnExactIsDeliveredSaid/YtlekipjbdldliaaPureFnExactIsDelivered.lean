/- The program's IsDelivered returns what the reference's returns, for all arguments. -/
import Derived.Test.YtlekipjbdldliaaPFnExactIsDeliveredx2
namespace Go.Proofs.Ytlekipjbdldliaa.Pure
open Go.RowKit Go.Proofs.Ytlekipjbdldliaa.PFnExactIsDelivered Go.Proofs.YtlekipjbdldliaaW.PrintWords Go.Proofs.YtlekipjbdldliaaW.PrintLast Go.Proofs.YtlekipjbdldliaaW.PrintMore
theorem w64 {x : Int} (h0 : -9223372036854775808 ≤ x) (h1 : x ≤ 9223372036854775807) : wrap64 x = x := by unfold wrap64; omega
theorem wnext {i n : Nat} (h : i < n) (hn : n ≤ 4611686018427387904) : wrap64 ((i : Int) + 1) = ((i + 1 : Nat) : Int) := by unfold wrap64; omega
/-- From K rounds on, these two are the same. -/
def Same {α : Type} (g f : Nat → Option α) : Prop := ∃ K, ∀ k, K ≤ k → g k = f k
theorem Same.now {α : Type} {g f : Nat → Option α} (h : ∀ k, g k = f k) : Same g f := ⟨0, fun k _ => h k⟩
theorem Same.trans {α : Type} {g f e : Nat → Option α} (h : Same g f) (h' : Same f e) : Same g e := by
  obtain ⟨K, h⟩ := h; obtain ⟨K', h'⟩ := h'
  exact ⟨max K K', fun k hk => (h k (by omega)).trans (h' k (by omega))⟩
theorem Same.ev {α : Type} {g f : Nat → Option α} {r : α} (h : Same g f) (e : Ev f r) : Ev g r := by
  obtain ⟨K, h⟩ := h; obtain ⟨K', e⟩ := e
  exact ⟨max K K', fun k hk => (h k (by omega)).trans (e k (by omega))⟩
theorem Same.bind {α β : Type} {g : Nat → Option α} {f : Nat → α → Option β} {a : α} (h : Ev g a) : Same (fun n => (g n).bind (f n)) (fun n => f n a) := by
  obtain ⟨K, h⟩ := h
  exact ⟨K, fun k hk => by simp only [h k hk, Option.bind_some]⟩
theorem Ev.succ {α : Type} {g : Nat → Option α} {r : α} (h : Ev g r) : Ev (fun k => g (k + 1)) r := by
  obtain ⟨K, h⟩ := h; exact ⟨K, fun k hk => h (k + 1) (by omega)⟩
theorem Ev.pred {α : Type} {g : Nat → Option α} {r : α} (h : Ev (fun k => g (k + 1)) r) : Ev g r := Ev.step (f := fun k => g (k + 1)) (fun _ => rfl) h
theorem Same.pred {α : Type} {g : Nat → Option α} {f : Nat → Option α} {r : α} (h : Same (fun k => g (k + 1)) f) (e : Ev f r) : Ev g r := Ev.pred (h.ev e)
/-- A loop that counts up: the state at round i is s i; at n it answers. -/
theorem Ev.upto {ρ : Type} (l : Nat → Nat → Option ρ) {n : Nat} {r : ρ} (step : ∀ i, i < n → Same (fun k => l (k + 1) i) (fun k => l k (i + 1))) (done : Ev (fun k => l k n) r) : ∀ i, i ≤ n → Ev (fun k => l k i) r := by
  intro i hi
  obtain ⟨d, hd⟩ : ∃ d, i + d = n := ⟨n - i, by omega⟩
  induction d generalizing i with
  | zero => obtain rfl : i = n := by omega
            exact done
  | succ d ih => exact Same.pred (g := fun k => l k i) (step i (by omega)) (ih (i + 1) (by omega) (by omega))
theorem Ev.ifp {α : Type} {c : Prop} [Decidable c] {g f : Nat → Option α} {r : α} (h : c) (e : Ev g r) : Ev (fun n => if c then g n else f n) r := by
  obtain ⟨K, e⟩ := e
  exact ⟨K, fun k hk => by dsimp only; rw [if_pos h]; exact e k hk⟩
theorem Ev.ifn {α : Type} {c : Prop} [Decidable c] {g f : Nat → Option α} {r : α} (h : ¬ c) (e : Ev f r) : Ev (fun n => if c then g n else f n) r := by
  obtain ⟨K, e⟩ := e
  exact ⟨K, fun k hk => by dsimp only; rw [if_neg h]; exact e k hk⟩
theorem Ev.const {α : Type} {a r : α} (h : a = r) : Ev (fun _ => some a) r := ⟨0, fun _ _ => by rw [h]⟩
theorem Ev.bnd {α β : Type} {x : Option α} {f : Nat → α → Option β} {a : α} {r : β} (h : x = some a) (k : Ev (fun n => f n a) r) : Ev (fun n => x.bind (f n)) r := Ev.bind (g := fun _ => x) ⟨0, fun _ _ => h⟩ k
theorem Ev.eq {α : Type} {g : Nat → Option α} {r r' : α} (h : Ev g r) (e : r = r') : Ev g r' := e ▸ h
theorem rdOf_nat {α : Type} (d : α) (xs : List α) (i : Nat) : rdOf d xs (i : Int) = xs.getD i d := rfl
theorem rd_nat (xs : List Int) (i : Nat) : rd xs (i : Int) = xs.getD i 0 := rfl
theorem drop_cons {α : Type} (d : α) (xs : List α) (i : Nat) (h : i < xs.length) : xs.drop i = xs.getD i d :: xs.drop (i + 1) := by
  rw [List.drop_eq_getElem_cons h, List.getD_eq_getElem?_getD, List.getElem?_eq_getElem h]; rfl
theorem take_succ {α : Type} (d : α) (xs : List α) (i : Nat) (h : i < xs.length) : xs.take (i + 1) = xs.take i ++ [xs.getD i d] := by
  rw [List.take_succ_eq_append_getElem h, List.getD_eq_getElem?_getD, List.getElem?_eq_getElem h]; rfl
theorem take_set_succ {α : Type} (ys : List α) (i : Nat) (v : α) (h : i < ys.length) : (ys.set i v).take (i + 1) = ys.take i ++ [v] := by
  apply List.ext_getElem?
  intro j
  rw [List.getElem?_take, List.getElem?_set, List.getElem?_append, List.length_take]
  by_cases h1 : j < i
  · rw [if_pos (by omega), if_neg (by omega), if_pos (by omega), List.getElem?_take, if_pos h1]
  · by_cases h2 : j = i
    · subst h2
      rw [if_pos (by omega), if_pos rfl, if_pos h, if_neg (by omega), show j - min j ys.length = 0 by omega]; rfl
    · rw [if_neg (by omega), if_neg (by omega), List.getElem?_eq_none (by simp; omega)]
/-- A loop that copies. -/
theorem copy_loop {α : Type} (d : α) (l : Nat → List α → List α → Int → Option (List α)) (xs : List α) (hn : xs.length ≤ 4611686018427387904)
    (h : ∀ k ys i, l (k + 1) xs ys i = if i < (xs.length : Int) then (if 0 ≤ i then (if i < (ys.length : Int) then l k xs (ys.set (i : Int).toNat (rdOf d xs i)) (wrap64 (i + 1)) else none) else none) else some ys)
    (ys : List α) (hy : ys.length = xs.length) : Ev (fun k => l k xs ys 0) xs := by
  suffices H : ∀ i, i ≤ xs.length → ∀ ys : List α, ys.length = xs.length → ys.take i = xs.take i → Ev (fun k => l k xs ys (i : Int)) xs from H 0 (by omega) ys hy (by simp)
  intro i hi
  obtain ⟨m, hm⟩ : ∃ m, i + m = xs.length := ⟨xs.length - i, by omega⟩
  induction m generalizing i with
  | zero =>
    intro ys hy ht
    refine Ev.pred (g := fun k => l k xs ys (i : Int)) ⟨0, fun k _ => ?_⟩
    simp only [h]
    rw [if_neg (by omega)]
    rw [List.take_of_length_le (by omega), List.take_of_length_le (by omega)] at ht
    rw [ht]
  | succ m ih =>
    intro ys hy ht
    have hlt : i < xs.length := by omega
    refine Same.pred (g := fun k => l k xs ys (i : Int)) (f := fun k => l k xs (ys.set i (rdOf d xs i)) ((i + 1 : Nat) : Int)) (Same.now fun k => ?_) (ih (i + 1) (by omega) (by omega) _ (by simpa using hy) ?_)
    · simp only [h]
      rw [if_pos (by omega), if_pos (by omega), if_pos (by omega), wnext hlt hn, Int.toNat_natCast]
    · rw [take_set_succ _ _ _ (by omega), ht, rdOf_nat, ← take_succ d _ _ hlt]
theorem toIntS_ev (xs : List Int) (hn : xs.length ≤ 35184372088832) : Ev (fun k => laws_toIntS.f k xs) xs := by
  refine Same.ev (f := fun k => laws_toIntS.l0 k xs (List.replicate xs.length 0) 0) (Same.now fun k => ?_) (copy_loop 0 laws_toIntS.l0 xs (by omega) (fun _ _ _ => rfl) _ (by simp))
  simp only [laws_toIntS.f]
  rw [if_pos (by omega), if_pos (by simpa using hn)]; simp
theorem eqIntS_refl (xs : List Int) (hn : xs.length ≤ 4611686018427387904) : Ev (fun k => laws_eqIntS.f k xs xs) true := by
  refine Same.ev (f := fun k => laws_eqIntS.l0 k xs xs ((0 : Nat) : Int)) (Same.now fun k => ?_) (Ev.upto (fun k i => laws_eqIntS.l0 k xs xs (i : Int)) (n := xs.length) ?_ ?_ 0 (by omega))
  · simp [laws_eqIntS.f]
  · intro i hi
    refine Same.now fun k => ?_
    simp only [laws_eqIntS.l0]
    rw [if_pos (by omega), if_pos (by omega), if_pos (by omega), if_pos trivial, wnext hi hn]
  · refine Ev.pred (g := fun k => laws_eqIntS.l0 k xs xs (xs.length : Int)) ⟨0, fun k _ => ?_⟩
    simp only [laws_eqIntS.l0]; rw [if_neg (by omega)]
theorem equal_ev (xs ys : List Int) (he : xs.length = ys.length) (hn : xs.length ≤ 4611686018427387904) : ∀ i, i ≤ xs.length → ∃ r, Ev (fun k => slices_Equal_int_int.l0 k xs ys (xs.length : Int) (i : Int)) r := by
  intro i hi
  obtain ⟨m, hm⟩ : ∃ m, i + m = xs.length := ⟨xs.length - i, by omega⟩
  induction m generalizing i with
  | zero =>
    refine ⟨true, Ev.pred (g := fun k => slices_Equal_int_int.l0 k xs ys (xs.length : Int) (i : Int)) ⟨0, fun k _ => ?_⟩⟩
    simp only [slices_Equal_int_int.l0]; rw [if_neg (by omega)]
  | succ m ih =>
    by_cases hd : rd xs (i : Int) = rd ys (i : Int)
    · obtain ⟨r, hr⟩ := ih (i + 1) (by omega) (by omega)
      refine ⟨r, Same.pred (g := fun k => slices_Equal_int_int.l0 k xs ys (xs.length : Int) (i : Int)) (Same.now fun k => ?_) hr⟩
      simp only [slices_Equal_int_int.l0]
      rw [if_pos (by omega), if_pos (by omega), if_pos (by omega), if_pos (by omega), if_pos hd, wnext (n := xs.length) (by omega) hn]
    · refine ⟨false, Ev.pred (g := fun k => slices_Equal_int_int.l0 k xs ys (xs.length : Int) (i : Int)) ⟨0, fun k _ => ?_⟩⟩
      simp only [slices_Equal_int_int.l0]
      rw [if_pos (by omega), if_pos (by omega), if_pos (by omega), if_pos (by omega), if_neg hd]
theorem lockstep (xs ys : List Int) (a : Nat) (h : a + ys.length ≤ xs.length) (hx : xs.length = 64) : ∀ (k : Nat) (i : Nat), i ≤ ys.length → spec_IsDelivered.l0 k xs (a : Int) ys (i : Int) = slices_Equal_int_int.l0 k ((xs.take (a + ys.length)).drop a) ys (ys.length : Int) (i : Int) := by
  intro k
  induction k with
  | zero => intro i _; rfl
  | succ k ih =>
    intro i hi
    have hl : ((xs.take (a + ys.length)).drop a).length = ys.length := by simp; omega
    simp only [spec_IsDelivered.l0, slices_Equal_int_int.l0, hl]
    by_cases hlt : i < ys.length
    · have e1 : wrap64 ((a : Int) + (i : Int)) = ((a + i : Nat) : Int) := by unfold wrap64; omega
      have e2 : rd ((xs.take (a + ys.length)).drop a) (i : Int) = rd xs ((a + i : Nat) : Int) := by
        rw [rd_nat, rd_nat, List.getD_eq_getElem?_getD, List.getD_eq_getElem?_getD, List.getElem?_drop, List.getElem?_take, if_pos (by omega)]
      have c1 : (i : Int) < (ys.length : Int) := by omega
      have c2 : 0 ≤ (i : Int) := by omega
      have c3 : 0 ≤ ((a + i : Nat) : Int) := by omega
      have c4 : ((a + i : Nat) : Int) < (xs.length : Int) := by omega
      rw [e1, e2, wnext hlt (by omega), ih (i + 1) (by omega)]
      rw [if_pos c1, if_pos c3, if_pos c4, if_pos c2, if_pos c1, if_pos c2, if_pos c1, if_pos c1]
    · rw [if_neg (by omega), if_neg (by omega)]
theorem FnExactIsDelivered : laws_FnExactIsDelivered.Pure := by
  intro l0 a1 l2 hm0 hs0 hw0 hw1 hm2 hs2 hw2
  by_cases c0 : (l0.length : Int) > 1048576
  · exact ⟨0, by simp only [laws_FnExactIsDelivered.f]; rw [if_pos c0]⟩
  by_cases c2 : (l2.length : Int) > 1048576
  · exact ⟨0, by simp only [laws_FnExactIsDelivered.f]; rw [if_neg c0, if_pos c2]⟩
  have t0 := toIntS_ev l0 (by omega)
  have t2 := toIntS_ev l2 (by omega)
  have e0 := eqIntS_refl l0 (by omega)
  have e2 := eqIntS_refl l2 (by omega)
  obtain ⟨r, hs, hi⟩ : ∃ r, Ev (fun k => spec_IsDelivered.f k l0 a1 l2) r ∧ Ev (fun k => impl_IsDelivered.f k l0 a1 l2) r := by
    by_cases c : (l0.length : Int) = 64
    · have ew : wrap64 (64 - (l2.length : Int)) = 64 - (l2.length : Int) := w64 (by omega) (by omega)
      by_cases hr : 0 ≤ a1 ∧ a1 ≤ 64 - (l2.length : Int)
      · obtain ⟨a, rfl⟩ := Int.eq_ofNat_of_zero_le hr.1
        have hl : ((l0.take (a + l2.length)).drop a).length = l2.length := by simp; omega
        obtain ⟨r, he⟩ := equal_ev ((l0.take (a + l2.length)).drop a) l2 hl (by omega) 0 (by omega)
        have ew2 : wrap64 ((a : Int) + (l2.length : Int)) = ((a + l2.length : Nat) : Int) := by unfold wrap64; omega
        refine ⟨r, ?_, ?_⟩
        · refine Ev.pred (g := fun k => spec_IsDelivered.f k l0 (a : Int) l2) (Same.ev (Same.now fun k => ?_) he)
          simp only [spec_IsDelivered.f, spec_l01In.f, ew]
          rw [if_pos c, if_pos (by omega), decide_eq_true (by omega)]
          simp only [Option.bind_some, spec_IsDelivered.j0, Bool.not_true]
          rw [if_neg (by decide), hl]
          exact lockstep l0 l2 a (by omega) (by omega) k 0 (by omega)
        · refine Same.ev (Same.now fun k => ?_) he
          simp only [impl_IsDelivered.f, impl_within.f, ew, ew2]
          rw [if_pos c, if_pos (by omega), decide_eq_true (by omega)]
          simp only [Option.bind_some, slices_Equal_int_int.f, Int.toNat_natCast, hl]
          rw [if_pos trivial, if_pos (by omega), if_pos (by omega), if_pos (by omega), if_pos trivial]
          cases slices_Equal_int_int.l0 k ((l0.take (a + l2.length)).drop a) l2 (l2.length : Int) ((0 : Nat) : Int) <;> simp_all
      · have hf : (if a1 ≥ 0 then some (decide (a1 ≤ 64 - (l2.length : Int))) else some false) = some false := by
          by_cases h0 : a1 ≥ 0
          · rw [if_pos h0, decide_eq_false (by omega)]
          · rw [if_neg h0]
        refine ⟨false, Ev.pred (g := fun k => spec_IsDelivered.f k l0 a1 l2) ⟨0, fun k _ => ?_⟩, ⟨0, fun k _ => ?_⟩⟩
        · simp only [spec_IsDelivered.f, spec_l01In.f, ew, hf]
          rw [if_pos c]; simp [spec_IsDelivered.j0]
        · simp only [impl_IsDelivered.f, impl_within.f, ew, hf]
          rw [if_pos c]; simp
    · refine ⟨false, Ev.pred (g := fun k => spec_IsDelivered.f k l0 a1 l2) ⟨0, fun k _ => ?_⟩, ⟨0, fun k _ => ?_⟩⟩
      · simp only [spec_IsDelivered.f]; rw [if_neg c]; simp [spec_IsDelivered.j0]
      · simp only [impl_IsDelivered.f]; rw [if_neg c]
  refine Ev.rounds ?_
  simp only [laws_FnExactIsDelivered.f]
  refine Ev.ifn c0 (Ev.ifn c2 (Ev.bind t0 (Ev.bind t2 (Ev.bind hs (Ev.bind t0 (Ev.bind t2 (Ev.bind hi (Ev.ifn (by simp) (Ev.bind t0 (Ev.bind e0 (Ev.ifp rfl (Ev.bind t2 (Ev.bind e2 (Ev.ifp rfl (Ev.now _)))))))))))))))
end Go.Proofs.Ytlekipjbdldliaa.Pure

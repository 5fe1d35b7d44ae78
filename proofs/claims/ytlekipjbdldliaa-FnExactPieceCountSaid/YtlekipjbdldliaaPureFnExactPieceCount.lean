/- The program's PieceCount returns what the reference's returns, for all arguments. -/
import Derived.Test.YtlekipjbdldliaaPFnExactPieceCountx1
namespace Go.Proofs.Ytlekipjbdldliaa.Pure
open Go.RowKit Go.Proofs.Ytlekipjbdldliaa.PFnExactPieceCount Go.Proofs.YtlekipjbdldliaaW.PrintWords Go.Proofs.YtlekipjbdldliaaW.PrintLast Go.Proofs.YtlekipjbdldliaaW.PrintMore
theorem w64 {x : Int} (h0 : -9223372036854775808 ≤ x) (h1 : x ≤ 9223372036854775807) : wrap64 x = x := by unfold wrap64; omega
theorem wnext {i n : Nat} (h : i < n) (hn : n ≤ 4611686018427387904) : wrap64 ((i : Int) + 1) = ((i + 1 : Nat) : Int) := by unfold wrap64; omega
/-- From K rounds on, these two are the same. -/
def Same {α : Type} (g f : Nat → Option α) : Prop := ∃ K, ∀ k, K ≤ k → g k = f k
theorem Same.now {α : Type} {g f : Nat → Option α} (h : ∀ k, g k = f k) : Same g f := ⟨0, fun k _ => h k⟩
theorem Same.trans {α : Type} {g f e : Nat → Option α} (h : Same g f) (h' : Same f e) : Same g e := by
  obtain ⟨K, h⟩ := h; obtain ⟨K', h'⟩ := h'
  exact ⟨max K K', fun k hk => (h k (by omega)).trans (h' k (by omega))⟩
theorem Same.ev {α : Type} {g f : Nat → Option α} {r : α} (h : Same g f) (e : Ev f r) : Ev g r := by
  obtain ⟨K, h⟩ := h; obtain ⟨K', e⟩ := e
  exact ⟨max K K', fun k hk => (h k (by omega)).trans (e k (by omega))⟩
theorem Same.bind {α β : Type} {g : Nat → Option α} {f : Nat → α → Option β} {a : α} (h : Ev g a) : Same (fun n => (g n).bind (f n)) (fun n => f n a) := by
  obtain ⟨K, h⟩ := h
  exact ⟨K, fun k hk => by simp only [h k hk, Option.bind_some]⟩
theorem Ev.succ {α : Type} {g : Nat → Option α} {r : α} (h : Ev g r) : Ev (fun k => g (k + 1)) r := by
  obtain ⟨K, h⟩ := h; exact ⟨K, fun k hk => h (k + 1) (by omega)⟩
theorem Ev.pred {α : Type} {g : Nat → Option α} {r : α} (h : Ev (fun k => g (k + 1)) r) : Ev g r := Ev.step (f := fun k => g (k + 1)) (fun _ => rfl) h
theorem Same.pred {α : Type} {g : Nat → Option α} {f : Nat → Option α} {r : α} (h : Same (fun k => g (k + 1)) f) (e : Ev f r) : Ev g r := Ev.pred (h.ev e)
/-- A loop that counts up: the state at round i is s i; at n it answers. -/
theorem Ev.upto {ρ : Type} (l : Nat → Nat → Option ρ) {n : Nat} {r : ρ} (step : ∀ i, i < n → Same (fun k => l (k + 1) i) (fun k => l k (i + 1))) (done : Ev (fun k => l k n) r) : ∀ i, i ≤ n → Ev (fun k => l k i) r := by
  intro i hi
  obtain ⟨d, hd⟩ : ∃ d, i + d = n := ⟨n - i, by omega⟩
  induction d generalizing i with
  | zero => obtain rfl : i = n := by omega
            exact done
  | succ d ih => exact Same.pred (g := fun k => l k i) (step i (by omega)) (ih (i + 1) (by omega) (by omega))
theorem rdOf_nat {α : Type} (d : α) (xs : List α) (i : Nat) : rdOf d xs (i : Int) = xs.getD i d := rfl
theorem rd_nat (xs : List Int) (i : Nat) : rd xs (i : Int) = xs.getD i 0 := rfl
theorem drop_cons {α : Type} (d : α) (xs : List α) (i : Nat) (h : i < xs.length) : xs.drop i = xs.getD i d :: xs.drop (i + 1) := by
  rw [List.drop_eq_getElem_cons h, List.getD_eq_getElem?_getD, List.getElem?_eq_getElem h]; rfl
theorem take_succ {α : Type} (d : α) (xs : List α) (i : Nat) (h : i < xs.length) : xs.take (i + 1) = xs.take i ++ [xs.getD i d] := by
  rw [List.take_succ_eq_append_getElem h, List.getD_eq_getElem?_getD, List.getElem?_eq_getElem h]; rfl
theorem take_set_succ {α : Type} (ys : List α) (i : Nat) (v : α) (h : i < ys.length) : (ys.set i v).take (i + 1) = ys.take i ++ [v] := by
  apply List.ext_getElem?
  intro j
  rw [List.getElem?_take, List.getElem?_set, List.getElem?_append, List.length_take]
  by_cases h1 : j < i
  · rw [if_pos (by omega), if_neg (by omega), if_pos (by omega), List.getElem?_take, if_pos h1]
  · by_cases h2 : j = i
    · subst h2
      rw [if_pos (by omega), if_pos rfl, if_pos h, if_neg (by omega), show j - min j ys.length = 0 by omega]; rfl
    · rw [if_neg (by omega), if_neg (by omega), List.getElem?_eq_none (by simp; omega)]
/-- A loop that copies. -/
theorem copy_loop {α : Type} (d : α) (l : Nat → List α → List α → Int → Option (List α)) (xs : List α) (hn : xs.length ≤ 4611686018427387904)
    (h : ∀ k ys i, l (k + 1) xs ys i = if i < (xs.length : Int) then (if 0 ≤ i then (if i < (ys.length : Int) then l k xs (ys.set (i : Int).toNat (rdOf d xs i)) (wrap64 (i + 1)) else none) else none) else some ys)
    (ys : List α) (hy : ys.length = xs.length) : Ev (fun k => l k xs ys 0) xs := by
  suffices H : ∀ i, i ≤ xs.length → ∀ ys : List α, ys.length = xs.length → ys.take i = xs.take i → Ev (fun k => l k xs ys (i : Int)) xs from H 0 (by omega) ys hy (by simp)
  intro i hi
  obtain ⟨m, hm⟩ : ∃ m, i + m = xs.length := ⟨xs.length - i, by omega⟩
  induction m generalizing i with
  | zero =>
    intro ys hy ht
    refine Ev.pred (g := fun k => l k xs ys (i : Int)) ⟨0, fun k _ => ?_⟩
    simp only [h]
    rw [if_neg (by omega)]
    rw [List.take_of_length_le (by omega), List.take_of_length_le (by omega)] at ht
    rw [ht]
  | succ m ih =>
    intro ys hy ht
    have hlt : i < xs.length := by omega
    refine Same.pred (g := fun k => l k xs ys (i : Int)) (f := fun k => l k xs (ys.set i (rdOf d xs i)) ((i + 1 : Nat) : Int)) (Same.now fun k => ?_) (ih (i + 1) (by omega) (by omega) _ (by simpa using hy) ?_)
    · simp only [h]
      rw [if_pos (by omega), if_pos (by omega), if_pos (by omega), wnext hlt hn, Int.toNat_natCast]
    · rw [take_set_succ _ _ _ (by omega), ht, rdOf_nat, ← take_succ d _ _ hlt]
theorem mn_comm (a b : Int) : mn a b = mn b a := by unfold mn; split <;> split <;> omega
theorem same_l0 : ∀ (k : Nat) (x0 x1 x2 : Int) (x7 : List S50), impl_SplitRange.l0 k x0 x1 x2 x7 = spec_SplitRange.l0 k x0 x1 x2 x7
  | 0, _, _, _, _ => rfl
  | k + 1, x0, x1, x2, x7 => by simp only [impl_SplitRange.l0, spec_SplitRange.l0, same_l0 k, mn_comm x1]
theorem same_j0 : ∀ (k : Nat) (x0 x1 x2 : Int) (x7 : List S50) (b : Bool), impl_SplitRange.j0 k x0 x1 x2 x7 b = spec_SplitRange.j0 k x0 x1 x2 x7 b
  | 0, _, _, _, _, _ => rfl
  | k + 1, x0, x1, x2, x7, b => by simp only [impl_SplitRange.j0, spec_SplitRange.j0, same_l0]
theorem same_f (k : Nat) (a b c : Int) : impl_SplitRange.f k a b c = spec_SplitRange.f k a b c := by
  unfold impl_SplitRange.f spec_SplitRange.f
  simp only [same_j0]; rfl
theorem l0_ends (m : Int) (hm : 1 ≤ m) (hm8 : m ≤ 8) : ∀ (d : Nat) (a n : Int) (out : List S50), 0 ≤ a → 0 ≤ n → a + n ≤ 65536 → n ≤ d → out.length + d ≤ 1000 → ∃ r, Ev (fun k => spec_SplitRange.l0 k a n m out) r := by
  intro d
  induction d with
  | zero =>
    intro a n out h0 h1 h2 h3 h4
    refine ⟨out, Ev.pred (g := fun k => spec_SplitRange.l0 k a n m out) ⟨0, fun k _ => ?_⟩⟩
    simp only [spec_SplitRange.l0]; rw [if_neg (by omega)]
  | succ d ih =>
    intro a n out h0 h1 h2 h3 h4
    by_cases hn : n > 0
    · have ht : Int.tmod a m = a % m := Int.tmod_eq_emod_of_nonneg h0
      have hp := Int.emod_nonneg a (b := m) (by omega)
      have hq := Int.emod_lt_of_pos a (b := m) (by omega)
      have ew : wrap64 (m - Int.tmod a m) = m - a % m := by rw [ht]; exact w64 (by omega) (by omega)
      have hv : 1 ≤ mn n (m - a % m) ∧ mn n (m - a % m) ≤ n := by unfold mn; split <;> omega
      obtain ⟨r, hr⟩ := ih (a + mn n (m - a % m)) (n - mn n (m - a % m)) (out ++ [⟨a, mn n (m - a % m)⟩]) (by omega) (by omega) (by omega) (by omega) (by simp; omega)
      refine ⟨r, Same.pred (g := fun k => spec_SplitRange.l0 k a n m out) (Same.now fun k => ?_) hr⟩
      simp only [spec_SplitRange.l0, ew]
      rw [if_pos hn, if_neg (by omega), if_pos (by omega), w64 (x := a + _) (by omega) (by omega), w64 (x := n - _) (by omega) (by omega)]
    · refine ⟨out, Ev.pred (g := fun k => spec_SplitRange.l0 k a n m out) ⟨0, fun k _ => ?_⟩⟩
      simp only [spec_SplitRange.l0]; rw [if_neg hn]
theorem payload_ev (c : Int) : ∃ b, spec_IsPayload.f c = some b ∧ (b = true → 1 ≤ c ∧ c ≤ 8) := by
  unfold spec_IsPayload.f
  split
  · exact ⟨_, rfl, by omega⟩
  split
  · exact ⟨_, rfl, by omega⟩
  split
  · exact ⟨_, rfl, by omega⟩
  · exact ⟨_, rfl, by intro h; have := eq_of_beq h; omega⟩
theorem in_ev (x a b : Int) : ∃ r, spec_l01In.f x a b = some r ∧ (r = true → a ≤ x ∧ x ≤ b) := by
  unfold spec_l01In.f
  split
  · exact ⟨_, rfl, by simp; omega⟩
  · exact ⟨_, rfl, by simp⟩
theorem split_ev (a n m : Int) : ∃ r, Ev (fun k => spec_SplitRange.f k a n m) r := by
  obtain ⟨b, hb, hb'⟩ := payload_ev m
  have stop : ∀ k, spec_SplitRange.j0 (k + 1) a n m [] true = some [] := fun k => by simp [spec_SplitRange.j0]
  cases b with
  | false => exact ⟨[], Ev.pred (g := fun k => spec_SplitRange.f k a n m) ⟨0, fun k _ => by simp [spec_SplitRange.f, hb, stop]⟩⟩
  | true =>
    obtain ⟨c, hc, hc'⟩ := in_ev n 1 64
    cases c with
    | false => exact ⟨[], Ev.pred (g := fun k => spec_SplitRange.f k a n m) ⟨0, fun k _ => by simp [spec_SplitRange.f, hb, hc, stop]⟩⟩
    | true =>
      have hn := hc' rfl
      have ew : wrap64 (65536 - n) = 65536 - n := w64 (by omega) (by omega)
      obtain ⟨d, hd, hd'⟩ := in_ev a 0 (65536 - n)
      cases d with
      | false => exact ⟨[], Ev.pred (g := fun k => spec_SplitRange.f k a n m) ⟨0, fun k _ => by simp [spec_SplitRange.f, hb, hc, ew, hd, stop]⟩⟩
      | true =>
        have ha := hd' rfl
        obtain ⟨r, hr⟩ := l0_ends m (hb' rfl).1 (hb' rfl).2 64 a n [] (by omega) (by omega) (by omega) (by omega) (by simp)
        refine ⟨r, Same.pred (g := fun k => spec_SplitRange.f k a n m) (Same.now fun k => ?_) hr⟩
        simp [spec_SplitRange.f, hb, hc, ew, hd, spec_SplitRange.j0]
theorem FnExactPieceCount : laws_FnExactPieceCount.Pure := by
  intro a0 a1 a2 _ _ _
  obtain ⟨r, K, hr⟩ := split_ev a0 a1 a2
  refine ⟨K, ?_⟩
  simp only [laws_FnExactPieceCount.f, spec_PieceCount.f, impl_PieceCount.f, same_f]
  have h := hr K (Nat.le_refl _)
  simp only at h
  rw [h]; simp
end Go.Proofs.Ytlekipjbdldliaa.Pure

/- The pieces of a drawn range cover it without gaps, none crosses a multiple of the payload, and their number is told and bounded. -/
import Derived.Test.YtndnlafnkknodaaPFnSplitsx2
namespace Go.Proofs.Ytndnlafnkknodaa.Pure
open Go.RowKit Go.Proofs.Ytndnlafnkknodaa.PFnSplits Go.Proofs.YtndnlafnkknodaaW.PrintWords Go.Proofs.YtndnlafnkknodaaW.PrintLast Go.Proofs.YtndnlafnkknodaaW.PrintMore
theorem w64 {x : Int} (h0 : -9223372036854775808 ≤ x) (h1 : x ≤ 9223372036854775807) : wrap64 x = x := by unfold wrap64; omega
theorem wnext {i n : Nat} (h : i < n) (hn : n ≤ 4611686018427387904) : wrap64 ((i : Int) + 1) = ((i + 1 : Nat) : Int) := by unfold wrap64; omega
/-- From K rounds on, these two are the same. -/
def Same {α : Type} (g f : Nat → Option α) : Prop := ∃ K, ∀ k, K ≤ k → g k = f k
theorem Same.now {α : Type} {g f : Nat → Option α} (h : ∀ k, g k = f k) : Same g f := ⟨0, fun k _ => h k⟩
theorem Same.trans {α : Type} {g f e : Nat → Option α} (h : Same g f) (h' : Same f e) : Same g e := by
  obtain ⟨K, h⟩ := h; obtain ⟨K', h'⟩ := h'
  exact ⟨max K K', fun k hk => (h k (by omega)).trans (h' k (by omega))⟩
theorem Same.ev {α : Type} {g f : Nat → Option α} {r : α} (h : Same g f) (e : Ev f r) : Ev g r := by
  obtain ⟨K, h⟩ := h; obtain ⟨K', e⟩ := e
  exact ⟨max K K', fun k hk => (h k (by omega)).trans (e k (by omega))⟩
theorem Same.bind {α β : Type} {g : Nat → Option α} {f : Nat → α → Option β} {a : α} (h : Ev g a) : Same (fun n => (g n).bind (f n)) (fun n => f n a) := by
  obtain ⟨K, h⟩ := h
  exact ⟨K, fun k hk => by simp only [h k hk, Option.bind_some]⟩
theorem Ev.succ {α : Type} {g : Nat → Option α} {r : α} (h : Ev g r) : Ev (fun k => g (k + 1)) r := by
  obtain ⟨K, h⟩ := h; exact ⟨K, fun k hk => h (k + 1) (by omega)⟩
theorem Ev.pred {α : Type} {g : Nat → Option α} {r : α} (h : Ev (fun k => g (k + 1)) r) : Ev g r := Ev.step (f := fun k => g (k + 1)) (fun _ => rfl) h
theorem Same.pred {α : Type} {g : Nat → Option α} {f : Nat → Option α} {r : α} (h : Same (fun k => g (k + 1)) f) (e : Ev f r) : Ev g r := Ev.pred (h.ev e)
/-- A loop that counts up: the state at round i is s i; at n it answers. -/
theorem Ev.upto {ρ : Type} (l : Nat → Nat → Option ρ) {n : Nat} {r : ρ} (step : ∀ i, i < n → Same (fun k => l (k + 1) i) (fun k => l k (i + 1))) (done : Ev (fun k => l k n) r) : ∀ i, i ≤ n → Ev (fun k => l k i) r := by
  intro i hi
  obtain ⟨d, hd⟩ : ∃ d, i + d = n := ⟨n - i, by omega⟩
  induction d generalizing i with
  | zero => obtain rfl : i = n := by omega
            exact done
  | succ d ih => exact Same.pred (g := fun k => l k i) (step i (by omega)) (ih (i + 1) (by omega) (by omega))
theorem Ev.ifp {α : Type} {c : Prop} [Decidable c] {g f : Nat → Option α} {r : α} (h : c) (e : Ev g r) : Ev (fun n => if c then g n else f n) r := by
  obtain ⟨K, e⟩ := e
  exact ⟨K, fun k hk => by dsimp only; rw [if_pos h]; exact e k hk⟩
theorem Ev.ifn {α : Type} {c : Prop} [Decidable c] {g f : Nat → Option α} {r : α} (h : ¬ c) (e : Ev f r) : Ev (fun n => if c then g n else f n) r := by
  obtain ⟨K, e⟩ := e
  exact ⟨K, fun k hk => by dsimp only; rw [if_neg h]; exact e k hk⟩
theorem Ev.const {α : Type} {a r : α} (h : a = r) : Ev (fun _ => some a) r := ⟨0, fun _ _ => by rw [h]⟩
theorem Ev.bnd {α β : Type} {x : Option α} {f : Nat → α → Option β} {a : α} {r : β} (h : x = some a) (k : Ev (fun n => f n a) r) : Ev (fun n => x.bind (f n)) r := Ev.bind (g := fun _ => x) ⟨0, fun _ _ => h⟩ k
theorem Ev.eq {α : Type} {g : Nat → Option α} {r r' : α} (h : Ev g r) (e : r = r') : Ev g r' := e ▸ h
theorem rdOf_nat {α : Type} (d : α) (xs : List α) (i : Nat) : rdOf d xs (i : Int) = xs.getD i d := rfl
theorem rd_nat (xs : List Int) (i : Nat) : rd xs (i : Int) = xs.getD i 0 := rfl
theorem drop_cons {α : Type} (d : α) (xs : List α) (i : Nat) (h : i < xs.length) : xs.drop i = xs.getD i d :: xs.drop (i + 1) := by
  rw [List.drop_eq_getElem_cons h, List.getD_eq_getElem?_getD, List.getElem?_eq_getElem h]; rfl
theorem take_succ {α : Type} (d : α) (xs : List α) (i : Nat) (h : i < xs.length) : xs.take (i + 1) = xs.take i ++ [xs.getD i d] := by
  rw [List.take_succ_eq_append_getElem h, List.getD_eq_getElem?_getD, List.getElem?_eq_getElem h]; rfl
theorem take_set_succ {α : Type} (ys : List α) (i : Nat) (v : α) (h : i < ys.length) : (ys.set i v).take (i + 1) = ys.take i ++ [v] := by
  apply List.ext_getElem?
  intro j
  rw [List.getElem?_take, List.getElem?_set, List.getElem?_append, List.length_take]
  by_cases h1 : j < i
  · rw [if_pos (by omega), if_neg (by omega), if_pos (by omega), List.getElem?_take, if_pos h1]
  · by_cases h2 : j = i
    · subst h2
      rw [if_pos (by omega), if_pos rfl, if_pos h, if_neg (by omega), show j - min j ys.length = 0 by omega]; rfl
    · rw [if_neg (by omega), if_neg (by omega), List.getElem?_eq_none (by simp; omega)]
/-- A loop that copies. -/
theorem copy_loop {α : Type} (d : α) (l : Nat → List α → List α → Int → Option (List α)) (xs : List α) (hn : xs.length ≤ 4611686018427387904)
    (h : ∀ k ys i, l (k + 1) xs ys i = if i < (xs.length : Int) then (if 0 ≤ i then (if i < (ys.length : Int) then l k xs (ys.set (i : Int).toNat (rdOf d xs i)) (wrap64 (i + 1)) else none) else none) else some ys)
    (ys : List α) (hy : ys.length = xs.length) : Ev (fun k => l k xs ys 0) xs := by
  suffices H : ∀ i, i ≤ xs.length → ∀ ys : List α, ys.length = xs.length → ys.take i = xs.take i → Ev (fun k => l k xs ys (i : Int)) xs from H 0 (by omega) ys hy (by simp)
  intro i hi
  obtain ⟨m, hm⟩ : ∃ m, i + m = xs.length := ⟨xs.length - i, by omega⟩
  induction m generalizing i with
  | zero =>
    intro ys hy ht
    refine Ev.pred (g := fun k => l k xs ys (i : Int)) ⟨0, fun k _ => ?_⟩
    simp only [h]
    rw [if_neg (by omega)]
    rw [List.take_of_length_le (by omega), List.take_of_length_le (by omega)] at ht
    rw [ht]
  | succ m ih =>
    intro ys hy ht
    have hlt : i < xs.length := by omega
    refine Same.pred (g := fun k => l k xs ys (i : Int)) (f := fun k => l k xs (ys.set i (rdOf d xs i)) ((i + 1 : Nat) : Int)) (Same.now fun k => ?_) (ih (i + 1) (by omega) (by omega) _ (by simpa using hy) ?_)
    · simp only [h]
      rw [if_pos (by omega), if_pos (by omega), if_pos (by omega), wnext hlt hn, Int.toNat_natCast]
    · rw [take_set_succ _ _ _ (by omega), ht, rdOf_nat, ← take_succ d _ _ hlt]
theorem and255 (x : Int) : 0 ≤ Go.bits .and .i64 x 255 ∧ Go.bits .and .i64 x 255 ≤ 255 := by
  have h : (BitVec.ofInt IntKind.i64.bits x &&& BitVec.ofInt IntKind.i64.bits 255).toNat ≤ 255 := by
    rw [BitVec.toNat_and]
    refine Nat.le_trans Nat.and_le_right ?_
    decide
  simp only [Go.bits]
  rw [IntKind.wrap_i64]
  omega
theorem l01New_ev (c : List Int) (hc : c.length ≤ 2000000) : ∃ s, Ev (fun k => spec_l01New.f k c) (c, 0, s) := by
  suffices H : ∀ (n i : Nat) (x : Int), i + n = 4000 → ∃ s, Ev (fun k => spec_l01New.l0 k c x (i : Int)) (c, 0, s) by
    obtain ⟨s, h⟩ := H 4000 0 (wrap64 (98663 + (c.length : Int))) (by omega)
    exact ⟨s, h⟩
  intro n
  induction n with
  | zero =>
    intro i x hi
    refine ⟨x, Ev.pred (g := fun k => spec_l01New.l0 k c x (i : Int)) ⟨0, fun k _ => ?_⟩⟩
    simp only [spec_l01New.l0]
    by_cases h : (i : Int) < (c.length : Int)
    · rw [if_pos h, if_neg (by omega)]
    · rw [if_neg h]
  | succ n ih =>
    intro i x hi
    by_cases h : (i : Int) < (c.length : Int)
    · obtain ⟨s, hs⟩ := ih (i + 1) (Go.bits .and .i64 (wrap64 ((wrap64 ((wrap64 (x * 131)) + (wrap64 (rd c (i : Int))))) + 7)) 1073741823) (by omega)
      refine ⟨s, Same.pred (g := fun k => spec_l01New.l0 k c x (i : Int)) (Same.now fun k => ?_) hs⟩
      simp only [spec_l01New.l0]
      rw [if_pos h, if_pos (by omega), if_pos (by omega), wnext (n := 4000) (by omega) (by omega)]
    · refine ⟨x, Ev.pred (g := fun k => spec_l01New.l0 k c x (i : Int)) ⟨0, fun k _ => ?_⟩⟩
      simp only [spec_l01New.l0]
      rw [if_neg h]
theorem l01Byte_some (c : List Int) (_hc : c.length ≤ 2000000) (p s : Int) (hp : 0 ≤ p) : ∃ b p' s', spec_l01Byte.f c p s = some (b, p', s') ∧ 0 ≤ b ∧ b ≤ 255 ∧ 0 ≤ p' := by
  unfold spec_l01Byte.f
  by_cases h : p < (c.length : Int)
  · rw [if_pos h, if_pos hp]
    exact ⟨_, _, _, rfl, (and255 _).1, (and255 _).2, by unfold wrap64; omega⟩
  · rw [if_neg h]
    exact ⟨_, _, _, rfl, (and255 _).1, (and255 _).2, hp⟩
theorem l01Below_some (c : List Int) (hc : c.length ≤ 2000000) (p s n : Int) (hp : 0 ≤ p) (hn : 0 < n) : ∃ v p' s', spec_l01Below.f c p s n = some (v, p', s') ∧ 0 ≤ v ∧ v < n ∧ 0 ≤ p' := by
  unfold spec_l01Below.f
  rw [if_neg (by omega)]
  by_cases h : n ≤ 256
  · obtain ⟨b, p', s', hb, h0, h1, h2⟩ := l01Byte_some c hc p s hp
    rw [if_pos h, hb]
    simp only [Option.bind_some]
    rw [if_neg (by omega)]
    exact ⟨_, _, _, rfl, Int.tmod_nonneg _ h0, Int.tmod_lt_of_pos _ hn, h2⟩
  · obtain ⟨b, p1, s1, hb, h0, h1, h2⟩ := l01Byte_some c hc p s hp
    obtain ⟨b2, p2, s2, hb2, h02, h12, h22⟩ := l01Byte_some c hc p1 s1 h2
    obtain ⟨b3, p3, s3, hb3, h03, h13, h23⟩ := l01Byte_some c hc p2 s2 h22
    obtain ⟨b4, p4, s4, hb4, h04, h14, h24⟩ := l01Byte_some c hc p3 s3 h23
    rw [if_neg h, hb]
    simp only [Option.bind_some, hb2, hb3, hb4]
    rw [if_neg (by omega)]
    refine ⟨_, _, _, rfl, Int.tmod_nonneg _ ?_, Int.tmod_lt_of_pos _ hn, h24⟩
    rw [w64 (x := b * 16777216) (by omega) (by omega), w64 (x := b2 * 65536) (by omega) (by omega), w64 (x := b3 * 256) (by omega) (by omega), w64 (x := b * 16777216 + b2 * 65536) (by omega) (by omega), w64 (x := b * 16777216 + b2 * 65536 + b3 * 256) (by omega) (by omega), w64 (by omega) (by omega)]
    omega
theorem drawPlaces_ev (c : List Int) (hc : c.length ≤ 2000000) : ∃ p : List Int, Ev (fun k => spec_DrawPlaces.f k c) p ∧ p.length = 12 ∧ ∀ i, i < 12 → 0 ≤ p.getD i 0 ∧ p.getD i 0 < 10000 := by
  obtain ⟨s0, h0⟩ := l01New_ev c hc
  suffices H : ∀ (n i : Nat) (x : List Int) (p s : Int), i + n = 12 → x.length = i → 0 ≤ p → (∀ j, j < i → 0 ≤ x.getD j 0 ∧ x.getD j 0 < 10000) →
      ∃ q : List Int, Ev (fun k => spec_DrawPlaces.l0 k x (i : Int) c p s) q ∧ q.length = 12 ∧ ∀ i, i < 12 → 0 ≤ q.getD i 0 ∧ q.getD i 0 < 10000 by
    obtain ⟨q, h1, h2, h3⟩ := H 12 0 [] 0 s0 (by omega) rfl (by omega) (fun j h => by omega)
    refine ⟨q, ?_, h2, h3⟩
    simp only [spec_DrawPlaces.f]
    exact Ev.bind h0 h1
  intro n
  induction n with
  | zero =>
    intro i x p s hi hx hp hr
    refine ⟨x, Ev.pred (g := fun k => spec_DrawPlaces.l0 k x (i : Int) c p s) ⟨0, fun k _ => ?_⟩, by omega, fun j hj => hr j (by omega)⟩
    simp only [spec_DrawPlaces.l0]; rw [if_neg (by omega)]
  | succ n ih =>
    intro i x p s hi hx hp hr
    obtain ⟨v, p', s', hv, g0, g1, g2⟩ := l01Below_some c hc p s 10000 hp (by omega)
    obtain ⟨q, h1, h2, h3⟩ := ih (i + 1) (x ++ [v]) p' s' (by omega) (by simp [hx]) g2 (fun j hj => by
      by_cases e : j < i
      · rw [List.getD_eq_getElem?_getD, List.getElem?_append_left (by omega), ← List.getD_eq_getElem?_getD]; exact hr j e
      · obtain rfl : j = x.length := by omega
        rw [List.getD_eq_getElem?_getD, List.getElem?_append_right (by omega)]; simpa using ⟨g0, g1⟩)
    refine ⟨q, Same.pred (g := fun k => spec_DrawPlaces.l0 k x (i : Int) c p s) (Same.now fun k => ?_) h1, h2, h3⟩
    simp only [spec_DrawPlaces.l0]
    rw [if_pos (by omega), hv]
    simp only [Option.bind_some]
    rw [if_pos (by omega), wnext (n := 12) (by omega) (by omega)]
/-- The pieces of a range, by themselves: at most d of them. -/
def pieces (m : Int) : Nat → Int → Int → List S31
  | 0, _, _ => []
  | d + 1, a, n => if n > 0 then ⟨a, mn (m - a % m) n⟩ :: pieces m d (a + mn (m - a % m) n) (n - mn (m - a % m) n) else []
theorem mn_range {n m a : Int} (hn : n > 0) (hm : 1 ≤ m) : 1 ≤ mn (m - a % m) n ∧ mn (m - a % m) n ≤ n ∧ mn (m - a % m) n ≤ m - a % m := by
  have hp := Int.emod_nonneg a (b := m) (by omega)
  have hq := Int.emod_lt_of_pos a (b := m) (by omega)
  unfold mn; split <;> omega
theorem l0_pieces (m : Int) (hm : 1 ≤ m) (hm8 : m ≤ 8) : ∀ (d : Nat) (a n : Int) (out : List S31), 0 ≤ a → 0 ≤ n → a + n ≤ 65536 → n ≤ d → out.length + d ≤ 1000 → Ev (fun k => impl_SplitRange.l0 k a n m out) (out ++ pieces m d a n) := by
  intro d
  induction d with
  | zero =>
    intro a n out h0 h1 h2 h3 h4
    refine Ev.pred (g := fun k => impl_SplitRange.l0 k a n m out) ⟨0, fun k _ => ?_⟩
    simp only [impl_SplitRange.l0, pieces]; rw [if_neg (by omega)]; simp
  | succ d ih =>
    intro a n out h0 h1 h2 h3 h4
    by_cases hn : n > 0
    · have ht : Int.tmod a m = a % m := Int.tmod_eq_emod_of_nonneg h0
      have hp := Int.emod_nonneg a (b := m) (by omega)
      have hq := Int.emod_lt_of_pos a (b := m) (by omega)
      have ew : wrap64 (m - Int.tmod a m) = m - a % m := by rw [ht]; exact w64 (by omega) (by omega)
      have hv := mn_range (a := a) hn hm
      have hr := ih (a + mn (m - a % m) n) (n - mn (m - a % m) n) (out ++ [⟨a, mn (m - a % m) n⟩]) (by omega) (by omega) (by omega) (by omega) (by simp; omega)
      have e : out ++ pieces m (d + 1) a n = out ++ [⟨a, mn (m - a % m) n⟩] ++ pieces m d (a + mn (m - a % m) n) (n - mn (m - a % m) n) := by
        simp only [pieces]; rw [if_pos hn]; simp
      rw [e]
      refine Same.pred (g := fun k => impl_SplitRange.l0 k a n m out) (Same.now fun k => ?_) hr
      simp only [impl_SplitRange.l0, ew]
      rw [if_pos hn, if_neg (by omega), if_pos (by omega), w64 (x := a + _) (by omega) (by omega), w64 (x := n - _) (by omega) (by omega)]
    · refine Ev.pred (g := fun k => impl_SplitRange.l0 k a n m out) ⟨0, fun k _ => ?_⟩
      simp only [impl_SplitRange.l0, pieces]; rw [if_neg hn, if_neg hn]; simp
theorem split_pieces (a n m : Int) (hm : m = 1 ∨ m = 2 ∨ m = 4 ∨ m = 8) (hn : 1 ≤ n ∧ n ≤ 64) (ha : 0 ≤ a ∧ a ≤ 65536 - n) : Ev (fun k => impl_SplitRange.f k a n m) (pieces m 64 a n) := by
  have h1 : impl_IsPayload.f m = some true := by
    unfold impl_IsPayload.f
    rcases hm with rfl | rfl | rfl | rfl <;> rfl
  have h2 : impl_within.f n 1 64 = some true := by unfold impl_within.f; rw [if_pos (by omega), decide_eq_true (by omega)]
  have ew : wrap64 (65536 - n) = 65536 - n := w64 (by omega) (by omega)
  have h3 : impl_within.f a 0 (65536 - n) = some true := by unfold impl_within.f; rw [if_pos (by omega), decide_eq_true (by omega)]
  refine Same.pred (g := fun k => impl_SplitRange.f k a n m) (Same.now fun k => ?_) (l0_pieces m (by omega) (by omega) 64 a n [] (by omega) (by omega) (by omega) (by omega) (by simp))
  simp [impl_SplitRange.f, h1, h2, ew, h3, impl_SplitRange.j0]
theorem pieces_len (m : Int) (hm : m = 1 ∨ m = 2 ∨ m = 4 ∨ m = 8) : ∀ (d : Nat) (a n : Int), 0 ≤ a → 1 ≤ n → n ≤ d → ((pieces m d a n).length : Int) = (a + n - 1) / m - a / m + 1 := by
  intro d
  induction d with
  | zero => intro a n h0 h1 h2; omega
  | succ d ih =>
    intro a n h0 h1 h2
    simp only [pieces]; rw [if_pos (by omega)]
    simp only [List.length_cons]
    have hv := mn_range (n := n) (a := a) (m := m) (by omega) (by omega)
    by_cases hz : n - mn (m - a % m) n ≥ 1
    · have e : mn (m - a % m) n = m - a % m := by unfold mn at hz hv ⊢; split at hz <;> simp_all <;> omega
      have := ih (a + mn (m - a % m) n) (n - mn (m - a % m) n) (by omega) hz (by omega)
      rw [e] at this hz ⊢
      push_cast
      rw [this]
      rcases hm with rfl | rfl | rfl | rfl <;> omega
    · have e : n - mn (m - a % m) n = 0 := by omega
      have e2 : mn (m - a % m) n = n := by omega
      have e3 : pieces m d (a + mn (m - a % m) n) (n - mn (m - a % m) n) = [] := by
        rw [e]; cases d <;> simp [pieces]
      rw [e3]
      rw [e2] at hv
      simp only [List.length_nil]
      rcases hm with rfl | rfl | rfl | rfl <;> omega
theorem FnSplits_loop (x n m : Int) (hm : m = 1 ∨ m = 2 ∨ m = 4 ∨ m = 8) (hn : 1 ≤ n ∧ n ≤ 64) (hx : 0 ≤ x ∧ x < 10000) (r : List S31) (hl : r.length ≤ 100)
    (hc : Ev (fun k => impl_PieceCount.f k x n m) (r.length : Int)) (hb : (r.length : Int) ≤ n / m + 2) :
    ∀ (d : Nat) (i : Nat) (a l : Int), r.drop i = pieces m d a l → i ≤ r.length → 0 ≤ l → l ≤ d → a + l = x + n → x ≤ a → Ev (fun k => laws_FnSplits.l0 k x n m r a (i : Int)) true := by
  have stop : ∀ (a : Int), a = x + n → Ev (fun k => laws_FnSplits.l0 k x n m r a (r.length : Int)) true := by
    intro a ha
    refine Ev.pred (g := fun k => laws_FnSplits.l0 k x n m r a (r.length : Int)) ?_
    simp only [laws_FnSplits.l0]
    refine Ev.ifn (by omega) (Ev.ifp (by rw [w64 (by omega) (by omega)]; exact ha) (Ev.bind hc (Ev.ifp rfl (Ev.ifn (by omega) (Ev.const ?_)))))
    have e : Int.tdiv n m = n / m := Int.tdiv_eq_ediv_of_nonneg (by omega)
    have e2 : wrap64 (n / m) = n / m := by rcases hm with rfl | rfl | rfl | rfl <;> exact w64 (by omega) (by omega)
    rw [e, e2, w64 (by rcases hm with rfl | rfl | rfl | rfl <;> omega) (by rcases hm with rfl | rfl | rfl | rfl <;> omega)]
    exact decide_eq_true hb
  intro d
  induction d with
  | zero =>
    intro i a l hd hi h0 h1 h2 hxa
    simp only [pieces] at hd
    have : r.length ≤ i := by simpa using hd
    obtain rfl : i = r.length := by omega
    exact stop a (by omega)
  | succ d ih =>
    intro i a l hd hi h0 h1 h2 hxa
    by_cases hl0 : l > 0
    · simp only [pieces] at hd
      rw [if_pos hl0] at hd
      have hlt : i < r.length := by
        have := congrArg List.length hd
        simp at this; omega
      rw [drop_cons z31 r i hlt] at hd
      injection hd with hp hrest
      have g0 : (rd_T31 r (i : Int)).f0 = a := by show (r.getD i z31).f0 = a; rw [hp]
      have g1 : (rd_T31 r (i : Int)).f1 = mn (m - a % m) l := by show (r.getD i z31).f1 = _; rw [hp]
      have hv := mn_range (n := l) (a := a) (m := m) (by omega) (by omega)
      have hr := ih (i + 1) (a + mn (m - a % m) l) (l - mn (m - a % m) l) hrest (by omega) (by omega) (by omega) (by omega) (by omega)
      refine Same.pred (g := fun k => laws_FnSplits.l0 k x n m r a (i : Int)) (Same.now fun k => ?_) hr
      simp only [laws_FnSplits.l0]
      have hmod : 0 ≤ a % m := Int.emod_nonneg _ (by omega)
      rw [if_pos (by omega), if_pos (by omega), if_pos g0, if_neg (by omega), if_neg (by omega), if_neg (by omega), g0, g1]
      rw [if_pos ?_, w64 (by omega) (by omega), wnext hlt (by omega)]
      rw [w64 (x := a + mn (m - a % m) l) (by omega) (by omega), w64 (x := a + mn (m - a % m) l - 1) (by omega) (by omega), Int.tdiv_eq_ediv_of_nonneg (by omega), Int.tdiv_eq_ediv_of_nonneg (by omega)]
      congr 1
      rcases hm with rfl | rfl | rfl | rfl <;> omega
    · have e : pieces m (d + 1) a l = [] := by simp only [pieces]; rw [if_neg hl0]
      rw [e] at hd
      have : r.length ≤ i := by simpa using hd
      obtain rfl : i = r.length := by omega
      exact stop a (by omega)
theorem FnSplits : laws_FnSplits.Pure := by
  intro c hc1 hc2 hw
  refine Ev.rounds ?_
  simp only [laws_FnSplits.f, laws_big.f]
  by_cases hb : (c.length : Int) > 1048576
  · exact Ev.bnd rfl (Ev.ifp (by simpa using hb) (Ev.now _))
  refine Ev.bnd rfl (Ev.ifn (by simpa using hb) ?_)
  obtain ⟨p, hp, hl, hr⟩ := drawPlaces_ev c (by omega)
  have r0 : 0 ≤ rd p 0 ∧ rd p 0 < 10000 := hr 0 (by omega)
  have r1 : 0 ≤ rd p 1 ∧ rd p 1 < 10000 := hr 1 (by omega)
  have r2 : 0 ≤ rd p 2 ∧ rd p 2 < 10000 := hr 2 (by omega)
  have t1 : Int.tmod (rd p 1) 64 = rd p 1 % 64 := Int.tmod_eq_emod_of_nonneg r1.1
  have t2 : Int.tmod (rd p 2) 4 = rd p 2 % 4 := Int.tmod_eq_emod_of_nonneg r2.1
  have e1 : wrap64 (1 + rd p 1 % 64) = 1 + rd p 1 % 64 := w64 (by omega) (by omega)
  have hm : rd [1, 2, 4, 8] (rd p 2 % 4) = 1 ∨ rd [1, 2, 4, 8] (rd p 2 % 4) = 2 ∨ rd [1, 2, 4, 8] (rd p 2 % 4) = 4 ∨ rd [1, 2, 4, 8] (rd p 2 % 4) = 8 := by
    have h : rd p 2 % 4 = 0 ∨ rd p 2 % 4 = 1 ∨ rd p 2 % 4 = 2 ∨ rd p 2 % 4 = 3 := by omega
    rcases h with h | h | h | h <;> rw [h] <;> decide
  have hs0 : ∀ x n m, 1 + rd p 1 % 64 = n → rd [1, 2, 4, 8] (rd p 2 % 4) = m → rd p 0 = x → Ev (fun k => laws_FnSplits.l0 k x n m (pieces m 64 x n) x 0) true := by
    intro x n m hnd hmd hxd
    rw [hmd] at hm
    rw [hxd] at r0
    have hn : 1 ≤ n ∧ n ≤ 64 := by omega
    have hs := split_pieces x n m hm hn (by omega)
    have hlen := pieces_len m hm 64 x n (by omega) (by omega) (by omega)
    refine FnSplits_loop x n m hm hn r0 _ ?_ ?_ ?_ 64 0 x n (by simp) (by omega) (by omega) (by omega) rfl (by omega)
    · rcases hm with rfl | rfl | rfl | rfl <;> omega
    · simp only [impl_PieceCount.f]
      exact Ev.bind hs (Ev.now _)
    · rw [hlen]
      rcases hm with rfl | rfl | rfl | rfl <;> omega
  refine Ev.bind hp ?_
  have hs := split_pieces (rd p 0) (1 + rd p 1 % 64) (rd [1, 2, 4, 8] (rd p 2 % 4)) hm (by omega) (by omega)
  have hf := hs0 _ _ _ rfl rfl rfl
  rw [← e1, ← t1, ← t2] at hs hf
  exact Ev.ifp (by omega) (Ev.ifp (by omega) (Ev.bnd rfl (Ev.ifp (by omega) (Ev.ifp (by omega) (Ev.ifp (by simp; omega) (Ev.bind hs hf))))))
end Go.Proofs.Ytndnlafnkknodaa.Pure

/- The program's SplitRange returns what the reference's returns, for all arguments; two results share no memory. -/
import Derived.Test.YtndnlafnkknodaaPFnExactSplitRangex2
namespace Go.Proofs.Ytndnlafnkknodaa.Pure
open Go.RowKit Go.Proofs.Ytndnlafnkknodaa.PFnExactSplitRange Go.Proofs.YtndnlafnkknodaaW.PrintWords Go.Proofs.YtndnlafnkknodaaW.PrintLast Go.Proofs.YtndnlafnkknodaaW.PrintMore
theorem w64 {x : Int} (h0 : -9223372036854775808 ≤ x) (h1 : x ≤ 9223372036854775807) : wrap64 x = x := by unfold wrap64; omega
theorem wnext {i n : Nat} (h : i < n) (hn : n ≤ 4611686018427387904) : wrap64 ((i : Int) + 1) = ((i + 1 : Nat) : Int) := by unfold wrap64; omega
/-- From K rounds on, these two are the same. -/
def Same {α : Type} (g f : Nat → Option α) : Prop := ∃ K, ∀ k, K ≤ k → g k = f k
theorem Same.now {α : Type} {g f : Nat → Option α} (h : ∀ k, g k = f k) : Same g f := ⟨0, fun k _ => h k⟩
theorem Same.trans {α : Type} {g f e : Nat → Option α} (h : Same g f) (h' : Same f e) : Same g e := by
  obtain ⟨K, h⟩ := h; obtain ⟨K', h'⟩ := h'
  exact ⟨max K K', fun k hk => (h k (by omega)).trans (h' k (by omega))⟩
theorem Same.ev {α : Type} {g f : Nat → Option α} {r : α} (h : Same g f) (e : Ev f r) : Ev g r := by
  obtain ⟨K, h⟩ := h; obtain ⟨K', e⟩ := e
  exact ⟨max K K', fun k hk => (h k (by omega)).trans (e k (by omega))⟩
theorem Same.bind {α β : Type} {g : Nat → Option α} {f : Nat → α → Option β} {a : α} (h : Ev g a) : Same (fun n => (g n).bind (f n)) (fun n => f n a) := by
  obtain ⟨K, h⟩ := h
  exact ⟨K, fun k hk => by simp only [h k hk, Option.bind_some]⟩
theorem Ev.succ {α : Type} {g : Nat → Option α} {r : α} (h : Ev g r) : Ev (fun k => g (k + 1)) r := by
  obtain ⟨K, h⟩ := h; exact ⟨K, fun k hk => h (k + 1) (by omega)⟩
theorem Ev.pred {α : Type} {g : Nat → Option α} {r : α} (h : Ev (fun k => g (k + 1)) r) : Ev g r := Ev.step (f := fun k => g (k + 1)) (fun _ => rfl) h
theorem Same.pred {α : Type} {g : Nat → Option α} {f : Nat → Option α} {r : α} (h : Same (fun k => g (k + 1)) f) (e : Ev f r) : Ev g r := Ev.pred (h.ev e)
/-- A loop that counts up: the state at round i is s i; at n it answers. -/
theorem Ev.upto {ρ : Type} (l : Nat → Nat → Option ρ) {n : Nat} {r : ρ} (step : ∀ i, i < n → Same (fun k => l (k + 1) i) (fun k => l k (i + 1))) (done : Ev (fun k => l k n) r) : ∀ i, i ≤ n → Ev (fun k => l k i) r := by
  intro i hi
  obtain ⟨d, hd⟩ : ∃ d, i + d = n := ⟨n - i, by omega⟩
  induction d generalizing i with
  | zero => obtain rfl : i = n := by omega
            exact done
  | succ d ih => exact Same.pred (g := fun k => l k i) (step i (by omega)) (ih (i + 1) (by omega) (by omega))
theorem Ev.ifp {α : Type} {c : Prop} [Decidable c] {g f : Nat → Option α} {r : α} (h : c) (e : Ev g r) : Ev (fun n => if c then g n else f n) r := by
  obtain ⟨K, e⟩ := e
  exact ⟨K, fun k hk => by dsimp only; rw [if_pos h]; exact e k hk⟩
theorem Ev.ifn {α : Type} {c : Prop} [Decidable c] {g f : Nat → Option α} {r : α} (h : ¬ c) (e : Ev f r) : Ev (fun n => if c then g n else f n) r := by
  obtain ⟨K, e⟩ := e
  exact ⟨K, fun k hk => by dsimp only; rw [if_neg h]; exact e k hk⟩
theorem Ev.const {α : Type} {a r : α} (h : a = r) : Ev (fun _ => some a) r := ⟨0, fun _ _ => by rw [h]⟩
theorem Ev.bnd {α β : Type} {x : Option α} {f : Nat → α → Option β} {a : α} {r : β} (h : x = some a) (k : Ev (fun n => f n a) r) : Ev (fun n => x.bind (f n)) r := Ev.bind (g := fun _ => x) ⟨0, fun _ _ => h⟩ k
theorem Ev.eq {α : Type} {g : Nat → Option α} {r r' : α} (h : Ev g r) (e : r = r') : Ev g r' := e ▸ h
theorem rdOf_nat {α : Type} (d : α) (xs : List α) (i : Nat) : rdOf d xs (i : Int) = xs.getD i d := rfl
theorem rd_nat (xs : List Int) (i : Nat) : rd xs (i : Int) = xs.getD i 0 := rfl
theorem drop_cons {α : Type} (d : α) (xs : List α) (i : Nat) (h : i < xs.length) : xs.drop i = xs.getD i d :: xs.drop (i + 1) := by
  rw [List.drop_eq_getElem_cons h, List.getD_eq_getElem?_getD, List.getElem?_eq_getElem h]; rfl
theorem take_succ {α : Type} (d : α) (xs : List α) (i : Nat) (h : i < xs.length) : xs.take (i + 1) = xs.take i ++ [xs.getD i d] := by
  rw [List.take_succ_eq_append_getElem h, List.getD_eq_getElem?_getD, List.getElem?_eq_getElem h]; rfl
theorem take_set_succ {α : Type} (ys : List α) (i : Nat) (v : α) (h : i < ys.length) : (ys.set i v).take (i + 1) = ys.take i ++ [v] := by
  apply List.ext_getElem?
  intro j
  rw [List.getElem?_take, List.getElem?_set, List.getElem?_append, List.length_take]
  by_cases h1 : j < i
  · rw [if_pos (by omega), if_neg (by omega), if_pos (by omega), List.getElem?_take, if_pos h1]
  · by_cases h2 : j = i
    · subst h2
      rw [if_pos (by omega), if_pos rfl, if_pos h, if_neg (by omega), show j - min j ys.length = 0 by omega]; rfl
    · rw [if_neg (by omega), if_neg (by omega), List.getElem?_eq_none (by simp; omega)]
/-- A loop that copies. -/
theorem copy_loop {α : Type} (d : α) (l : Nat → List α → List α → Int → Option (List α)) (xs : List α) (hn : xs.length ≤ 4611686018427387904)
    (h : ∀ k ys i, l (k + 1) xs ys i = if i < (xs.length : Int) then (if 0 ≤ i then (if i < (ys.length : Int) then l k xs (ys.set (i : Int).toNat (rdOf d xs i)) (wrap64 (i + 1)) else none) else none) else some ys)
    (ys : List α) (hy : ys.length = xs.length) : Ev (fun k => l k xs ys 0) xs := by
  suffices H : ∀ i, i ≤ xs.length → ∀ ys : List α, ys.length = xs.length → ys.take i = xs.take i → Ev (fun k => l k xs ys (i : Int)) xs from H 0 (by omega) ys hy (by simp)
  intro i hi
  obtain ⟨m, hm⟩ : ∃ m, i + m = xs.length := ⟨xs.length - i, by omega⟩
  induction m generalizing i with
  | zero =>
    intro ys hy ht
    refine Ev.pred (g := fun k => l k xs ys (i : Int)) ⟨0, fun k _ => ?_⟩
    simp only [h]
    rw [if_neg (by omega)]
    rw [List.take_of_length_le (by omega), List.take_of_length_le (by omega)] at ht
    rw [ht]
  | succ m ih =>
    intro ys hy ht
    have hlt : i < xs.length := by omega
    refine Same.pred (g := fun k => l k xs ys (i : Int)) (f := fun k => l k xs (ys.set i (rdOf d xs i)) ((i + 1 : Nat) : Int)) (Same.now fun k => ?_) (ih (i + 1) (by omega) (by omega) _ (by simpa using hy) ?_)
    · simp only [h]
      rw [if_pos (by omega), if_pos (by omega), if_pos (by omega), wnext hlt hn, Int.toNat_natCast]
    · rw [take_set_succ _ _ _ (by omega), ht, rdOf_nat, ← take_succ d _ _ hlt]
theorem mn_comm (a b : Int) : mn a b = mn b a := by unfold mn; split <;> split <;> omega
theorem same_l0 : ∀ (k : Nat) (x0 x1 x2 : Int) (x7 : List S31), impl_SplitRange.l0 k x0 x1 x2 x7 = spec_SplitRange.l0 k x0 x1 x2 x7
  | 0, _, _, _, _ => rfl
  | k + 1, x0, x1, x2, x7 => by simp only [impl_SplitRange.l0, spec_SplitRange.l0, same_l0 k, mn_comm x1]
theorem same_j0 : ∀ (k : Nat) (x0 x1 x2 : Int) (x7 : List S31) (b : Bool), impl_SplitRange.j0 k x0 x1 x2 x7 b = spec_SplitRange.j0 k x0 x1 x2 x7 b
  | 0, _, _, _, _, _ => rfl
  | k + 1, x0, x1, x2, x7, b => by simp only [impl_SplitRange.j0, spec_SplitRange.j0, same_l0]
theorem same_f (k : Nat) (a b c : Int) : impl_SplitRange.f k a b c = spec_SplitRange.f k a b c := by
  unfold impl_SplitRange.f spec_SplitRange.f
  simp only [same_j0]; rfl
theorem l0_ends (m : Int) (hm : 1 ≤ m) (hm8 : m ≤ 8) : ∀ (d : Nat) (a n : Int) (out : List S31), 0 ≤ a → 0 ≤ n → a + n ≤ 65536 → n ≤ d → out.length + d ≤ 1000 → ∃ r, Ev (fun k => spec_SplitRange.l0 k a n m out) r ∧ r.length ≤ 1000 := by
  intro d
  induction d with
  | zero =>
    intro a n out h0 h1 h2 h3 h4
    refine ⟨out, Ev.pred (g := fun k => spec_SplitRange.l0 k a n m out) ⟨0, fun k _ => ?_⟩, by omega⟩
    simp only [spec_SplitRange.l0]; rw [if_neg (by omega)]
  | succ d ih =>
    intro a n out h0 h1 h2 h3 h4
    by_cases hn : n > 0
    · have ht : Int.tmod a m = a % m := Int.tmod_eq_emod_of_nonneg h0
      have hp := Int.emod_nonneg a (b := m) (by omega)
      have hq := Int.emod_lt_of_pos a (b := m) (by omega)
      have ew : wrap64 (m - Int.tmod a m) = m - a % m := by rw [ht]; exact w64 (by omega) (by omega)
      have hv : 1 ≤ mn n (m - a % m) ∧ mn n (m - a % m) ≤ n := by unfold mn; split <;> omega
      obtain ⟨r, hr, hl⟩ := ih (a + mn n (m - a % m)) (n - mn n (m - a % m)) (out ++ [⟨a, mn n (m - a % m)⟩]) (by omega) (by omega) (by omega) (by omega) (by simp; omega)
      refine ⟨r, Same.pred (g := fun k => spec_SplitRange.l0 k a n m out) (Same.now fun k => ?_) hr, hl⟩
      simp only [spec_SplitRange.l0, ew]
      rw [if_pos hn, if_neg (by omega), if_pos (by omega), w64 (x := a + _) (by omega) (by omega), w64 (x := n - _) (by omega) (by omega)]
    · refine ⟨out, Ev.pred (g := fun k => spec_SplitRange.l0 k a n m out) ⟨0, fun k _ => ?_⟩, by omega⟩
      simp only [spec_SplitRange.l0]; rw [if_neg hn]
theorem payload_ev (c : Int) : ∃ b, spec_IsPayload.f c = some b ∧ (b = true → 1 ≤ c ∧ c ≤ 8) := by
  unfold spec_IsPayload.f
  split
  · exact ⟨_, rfl, by omega⟩
  split
  · exact ⟨_, rfl, by omega⟩
  split
  · exact ⟨_, rfl, by omega⟩
  · exact ⟨_, rfl, by intro h; have := eq_of_beq h; omega⟩
theorem in_ev (x a b : Int) : ∃ r, spec_l01In.f x a b = some r ∧ (r = true → a ≤ x ∧ x ≤ b) := by
  unfold spec_l01In.f
  split
  · exact ⟨_, rfl, by simp; omega⟩
  · exact ⟨_, rfl, by simp⟩
theorem split_ev (a n m : Int) : ∃ r, Ev (fun k => spec_SplitRange.f k a n m) r ∧ r.length ≤ 1000 := by
  obtain ⟨b, hb, hb'⟩ := payload_ev m
  have stop : ∀ k, spec_SplitRange.j0 (k + 1) a n m [] true = some [] := fun k => by simp [spec_SplitRange.j0]
  cases b with
  | false => exact ⟨[], Ev.pred (g := fun k => spec_SplitRange.f k a n m) ⟨0, fun k _ => by simp [spec_SplitRange.f, hb, stop]⟩, by simp⟩
  | true =>
    obtain ⟨c, hc, hc'⟩ := in_ev n 1 64
    cases c with
    | false => exact ⟨[], Ev.pred (g := fun k => spec_SplitRange.f k a n m) ⟨0, fun k _ => by simp [spec_SplitRange.f, hb, hc, stop]⟩, by simp⟩
    | true =>
      have hn := hc' rfl
      have ew : wrap64 (65536 - n) = 65536 - n := w64 (by omega) (by omega)
      obtain ⟨d, hd, hd'⟩ := in_ev a 0 (65536 - n)
      cases d with
      | false => exact ⟨[], Ev.pred (g := fun k => spec_SplitRange.f k a n m) ⟨0, fun k _ => by simp [spec_SplitRange.f, hb, hc, ew, hd, stop]⟩, by simp⟩
      | true =>
        have ha := hd' rfl
        obtain ⟨r, hr, hl⟩ := l0_ends m (hb' rfl).1 (hb' rfl).2 64 a n [] (by omega) (by omega) (by omega) (by omega) (by simp)
        refine ⟨r, Same.pred (g := fun k => spec_SplitRange.f k a n m) (Same.now fun k => ?_) hr, hl⟩
        simp [spec_SplitRange.f, hb, hc, ew, hd, spec_SplitRange.j0]
theorem getD_set {α : Type} (d : α) (xs : List α) (i j : Nat) (v : α) (h : i < xs.length) : (xs.set i v).getD j d = if j = i then v else xs.getD j d := by
  rw [List.getD_eq_getElem?_getD, List.getD_eq_getElem?_getD, List.getElem?_set]
  by_cases e : j = i
  · subst e; rw [if_pos rfl, if_pos rfl, if_pos h]; rfl
  · rw [if_neg e, if_neg (by omega)]
/-- A loop that marks the elements, c numbers each. -/
theorem mark_loop {α : Type} (d : α) (v : Int → α → α) (c : Int) (l : Nat → List α → Int → Int → Option (Int × List α)) (xs : List α) (m : Int)
    (step : ∀ (k : Nat) (ys : List α) (i : Nat), ys.length = xs.length → i < xs.length → l (k + 1) ys (m + c * (i : Int)) (i : Int) = l k (ys.set i (v (m + c * (i : Int)) (ys.getD i d))) (m + c * ((i + 1 : Nat) : Int)) ((i + 1 : Nat) : Int))
    (stop : ∀ (k : Nat) (ys : List α), ys.length = xs.length → l (k + 1) ys (m + c * (xs.length : Int)) (xs.length : Int) = some (m + c * (xs.length : Int), ys)) :
    ∃ ys : List α, ys.length = xs.length ∧ (∀ i, i < xs.length → ys.getD i d = v (m + c * (i : Int)) (xs.getD i d)) ∧ Ev (fun k => l k xs m 0) (m + c * (xs.length : Int), ys) := by
  suffices H : ∀ (n i : Nat) (zs : List α), i + n = xs.length → zs.length = xs.length → (∀ j, j < i → zs.getD j d = v (m + c * (j : Int)) (xs.getD j d)) → (∀ j, i ≤ j → zs.getD j d = xs.getD j d) →
      ∃ ys : List α, ys.length = xs.length ∧ (∀ i, i < xs.length → ys.getD i d = v (m + c * (i : Int)) (xs.getD i d)) ∧ Ev (fun k => l k zs (m + c * (i : Int)) (i : Int)) (m + c * (xs.length : Int), ys) by
    obtain ⟨ys, h0, h1, h2⟩ := H xs.length 0 xs (by omega) rfl (fun j h => by omega) (fun _ _ => rfl)
    refine ⟨ys, h0, h1, ?_⟩
    have e : m + c * ((0 : Nat) : Int) = m := by simp
    rw [e] at h2; exact h2
  intro n
  induction n with
  | zero =>
    intro i zs hi hz h1 h2
    obtain rfl : i = xs.length := by omega
    exact ⟨zs, hz, h1, Ev.pred (g := fun k => l k zs (m + c * (xs.length : Int)) (xs.length : Int)) ⟨0, fun k _ => stop k zs hz⟩⟩
  | succ n ih =>
    intro i zs hi hz h1 h2
    obtain ⟨ys, g0, g1, g2⟩ := ih (i + 1) (zs.set i (v (m + c * (i : Int)) (zs.getD i d))) (by omega) (by simpa using hz) (fun j hj => by
        rw [getD_set d _ _ _ _ (by omega)]
        by_cases e : j = i
        · subst e; rw [if_pos rfl, h2 j (Nat.le_refl _)]
        · rw [if_neg e]; exact h1 j (by omega))
      (fun j hj => by rw [getD_set d _ _ _ _ (by omega), if_neg (by omega)]; exact h2 j (by omega))
    exact ⟨ys, g0, g1, Same.pred (g := fun k => l k zs (m + c * (i : Int)) (i : Int)) (Same.now fun k => step k zs i hz (by omega)) g2⟩
/-- A loop that looks at the marks. -/
theorem held_loop {α : Type} (c : Int) (l : Nat → List α → Int → Int → Option Int) (ys : List α) (m : Int)
    (step : ∀ (k : Nat) (i : Nat), i < ys.length → l (k + 1) ys (m + c * (i : Int)) (i : Int) = l k ys (m + c * ((i + 1 : Nat) : Int)) ((i + 1 : Nat) : Int))
    (stop : ∀ (k : Nat), l (k + 1) ys (m + c * (ys.length : Int)) (ys.length : Int) = some (m + c * (ys.length : Int))) :
    Ev (fun k => l k ys m 0) (m + c * (ys.length : Int)) := by
  have h := Ev.upto (fun k i => l k ys (m + c * (i : Int)) (i : Int)) (n := ys.length) (r := m + c * (ys.length : Int)) (fun i hi => Same.now fun k => step k i hi)
    (Ev.pred (g := fun k => l k ys (m + c * (ys.length : Int)) (ys.length : Int)) ⟨0, fun k _ => stop k⟩) 0 (by omega)
  have e : m + c * ((0 : Nat) : Int) = m := by simp
  rw [e] at h; exact h
theorem rdT_piece (xs : List S31) (i : Nat) : rd_T31 xs (i : Int) = xs.getD i z31 := rfl
theorem eqPieceS_refl (xs : List S31) (hn : xs.length ≤ 4611686018427387904) : Ev (fun k => laws_eqPieceS.f k xs xs) true := by
  refine Same.ev (f := fun k => laws_eqPieceS.l0 k xs xs ((0 : Nat) : Int)) (Same.now fun k => ?_) (Ev.upto (fun k i => laws_eqPieceS.l0 k xs xs (i : Int)) (n := xs.length) ?_ ?_ 0 (by omega))
  · simp [laws_eqPieceS.f]
  · intro i hi
    refine Same.now fun k => ?_
    simp only [laws_eqPieceS.l0, laws_eqPiece.f]
    rw [if_pos (by omega), if_pos (by omega), if_pos (by omega), wnext hi hn]; simp
  · refine Ev.pred (g := fun k => laws_eqPieceS.l0 k xs xs (xs.length : Int)) ⟨0, fun k _ => ?_⟩
    simp only [laws_eqPieceS.l0]; rw [if_neg (by omega)]
theorem markPieceS_ev (xs : List S31) (hn : xs.length ≤ 1000000000000) (m : Int) (h0 : 0 ≤ m) (h1 : m ≤ 1000000000000) :
    ∃ ys, Ev (fun k => laws_markPieceS.f k xs m) (m + 2 * (xs.length : Int), ys) ∧ Ev (fun k => laws_heldPieceS.f k ys m) (m + 2 * (xs.length : Int)) := by
  obtain ⟨ys, hl, hy, he⟩ := mark_loop z31 (fun a _ => (⟨a, a + 1⟩ : S31)) 2 laws_markPieceS.l0 xs m (fun k ys i hy hi => by
      simp only [laws_markPieceS.l0, Option.bind_some, rdT_piece, Int.toNat_natCast]
      rw [if_pos (by omega), if_pos (by omega), getD_set _ _ _ _ _ (by omega), if_pos rfl, List.set_set, w64 (x := m + 2 * (i : Int) + 1) (by omega) (by omega), w64 (by omega) (by omega), wnext hi (by omega)]
      rw [show m + 2 * (i : Int) + 1 + 1 = m + 2 * ((i + 1 : Nat) : Int) by omega])
    (fun k ys hy => by simp only [laws_markPieceS.l0]; rw [if_neg (by omega)])
  refine ⟨ys, he, ?_⟩
  rw [← hl]
  refine held_loop 2 laws_heldPieceS.l0 ys m (fun k i hi => ?_) (fun k => ?_)
  · have g0 : (rd_T31 ys (i : Int)).f0 = m + 2 * (i : Int) := by rw [rdT_piece, hy i (by omega)]
    have g1 : (rd_T31 ys (i : Int)).f1 = m + 2 * (i : Int) + 1 := by rw [rdT_piece, hy i (by omega)]
    simp only [laws_heldPieceS.l0]
    rw [w64 (x := m + 2 * (i : Int) + 1) (by omega) (by omega), if_pos (by omega), if_pos (by omega), if_pos g0, if_pos g1, w64 (by omega) (by omega), wnext hi (by omega)]
    rw [show m + 2 * (i : Int) + 1 + 1 = m + 2 * ((i + 1 : Nat) : Int) by omega]
  · simp only [laws_heldPieceS.l0]; rw [if_neg (by omega)]
theorem FnExactSplitRange : laws_FnExactSplitRange.Pure := by
  intro a0 a1 a2 _ _ _
  obtain ⟨r, hr, hl⟩ := split_ev a0 a1 a2
  have hi : Ev (fun k => impl_SplitRange.f k a0 a1 a2) r := Ev.congr (fun k => same_f k a0 a1 a2) hr
  have he := eqPieceS_refl r (by omega)
  obtain ⟨ys, hm, hh⟩ := markPieceS_ev r (by omega) 1 (by omega) (by omega)
  refine Ev.rounds ?_
  simp only [laws_FnExactSplitRange.f]
  exact Ev.bind hr (Ev.bind hi (Ev.bind he (Ev.ifp rfl (Ev.bind hm (Ev.bind hh (Ev.ifn (by omega) (Ev.ifp rfl (Ev.bind hi (Ev.bind he (Ev.ifp rfl (Ev.bind hh (Ev.ifn (by omega) (Ev.ifp rfl (Ev.now _))))))))))))))
end Go.Proofs.Ytndnlafnkknodaa.Pure

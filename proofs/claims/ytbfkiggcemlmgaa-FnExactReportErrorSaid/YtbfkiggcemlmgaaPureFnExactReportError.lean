/- the laws of ReportError, by itself -/
import Derived.Test.YtbfkiggcemlmgaaPFnExactReportErrorx7
set_option linter.unusedVariables false
set_option linter.unusedSimpArgs false
namespace Go.Proofs.Ytbfkiggcemlmgaa.Pure
open Go.RowKit Go.Proofs.Ytbfkiggcemlmgaa.PFnExactReportError Go.Proofs.YtbfkiggcemlmgaaW.PrintWords Go.Proofs.YtbfkiggcemlmgaaW.PrintLast Go.Proofs.YtbfkiggcemlmgaaW.PrintMore
theorem w64 {x : Int} (h0 : -9223372036854775808 ≤ x) (h1 : x ≤ 9223372036854775807) : wrap64 x = x := by unfold wrap64; omega
theorem wnext {i n : Nat} (h : i < n) (hn : n ≤ 4611686018427387904) : wrap64 ((i : Int) + 1) = ((i + 1 : Nat) : Int) := by unfold wrap64; omega
/-- From K rounds on, these two are the same. -/
def Same {α : Type} (g f : Nat → Option α) : Prop := ∃ K, ∀ k, K ≤ k → g k = f k
theorem Same.now {α : Type} {g f : Nat → Option α} (h : ∀ k, g k = f k) : Same g f := ⟨0, fun k _ => h k⟩
theorem Same.trans {α : Type} {g f e : Nat → Option α} (h : Same g f) (h' : Same f e) : Same g e := by
  obtain ⟨K, h⟩ := h; obtain ⟨K', h'⟩ := h'
  exact ⟨max K K', fun k hk => (h k (by omega)).trans (h' k (by omega))⟩
theorem Same.ev {α : Type} {g f : Nat → Option α} {r : α} (h : Same g f) (e : Ev f r) : Ev g r := by
  obtain ⟨K, h⟩ := h; obtain ⟨K', e⟩ := e
  exact ⟨max K K', fun k hk => (h k (by omega)).trans (e k (by omega))⟩
theorem Same.bind {α β : Type} {g : Nat → Option α} {f : Nat → α → Option β} {a : α} (h : Ev g a) : Same (fun n => (g n).bind (f n)) (fun n => f n a) := by
  obtain ⟨K, h⟩ := h
  exact ⟨K, fun k hk => by simp only [h k hk, Option.bind_some]⟩
theorem Ev.pred {α : Type} {g : Nat → Option α} {r : α} (h : Ev (fun k => g (k + 1)) r) : Ev g r := Ev.step (f := fun k => g (k + 1)) (fun _ => rfl) h
theorem Same.pred {α : Type} {g : Nat → Option α} {f : Nat → Option α} {r : α} (h : Same (fun k => g (k + 1)) f) (e : Ev f r) : Ev g r := Ev.pred (h.ev e)
/-- A loop that counts up: the state at round i is s i; at n it answers. -/
theorem Ev.upto {ρ : Type} (l : Nat → Nat → Option ρ) {n : Nat} {r : ρ} (step : ∀ i, i < n → Same (fun k => l (k + 1) i) (fun k => l k (i + 1))) (done : Ev (fun k => l k n) r) : ∀ i, i ≤ n → Ev (fun k => l k i) r := by
  intro i hi
  obtain ⟨d, hd⟩ : ∃ d, i + d = n := ⟨n - i, by omega⟩
  induction d generalizing i with
  | zero => obtain rfl : i = n := by omega
            exact done
  | succ d ih => exact Same.pred (g := fun k => l k i) (step i (by omega)) (ih (i + 1) (by omega) (by omega))
theorem Ev.ifp {α : Type} {c : Prop} [Decidable c] {g f : Nat → Option α} {r : α} (h : c) (e : Ev g r) : Ev (fun n => if c then g n else f n) r := by
  obtain ⟨K, e⟩ := e
  exact ⟨K, fun k hk => by dsimp only; rw [if_pos h]; exact e k hk⟩
theorem Ev.ifn {α : Type} {c : Prop} [Decidable c] {g f : Nat → Option α} {r : α} (h : ¬ c) (e : Ev f r) : Ev (fun n => if c then g n else f n) r := by
  obtain ⟨K, e⟩ := e
  exact ⟨K, fun k hk => by dsimp only; rw [if_neg h]; exact e k hk⟩
theorem Ev.const {α : Type} {a r : α} (h : a = r) : Ev (fun _ => some a) r := ⟨0, fun _ _ => by rw [h]⟩
theorem Ev.bnd {α β : Type} {x : Option α} {f : Nat → α → Option β} {a : α} {r : β} (h : x = some a) (k : Ev (fun n => f n a) r) : Ev (fun n => x.bind (f n)) r := Ev.bind (g := fun _ => x) ⟨0, fun _ _ => h⟩ k
theorem Ev.eq {α : Type} {g : Nat → Option α} {r r' : α} (h : Ev g r) (e : r = r') : Ev g r' := e ▸ h
theorem rdOf_nat {α : Type} (d : α) (xs : List α) (i : Nat) : rdOf d xs (i : Int) = xs.getD i d := rfl
theorem rd_nat (xs : List Int) (i : Nat) : rd xs (i : Int) = xs.getD i 0 := rfl
theorem drop_cons {α : Type} (d : α) (xs : List α) (i : Nat) (h : i < xs.length) : xs.drop i = xs.getD i d :: xs.drop (i + 1) := by
  rw [List.drop_eq_getElem_cons h, List.getD_eq_getElem?_getD, List.getElem?_eq_getElem h]; rfl
theorem take_succ {α : Type} (d : α) (xs : List α) (i : Nat) (h : i < xs.length) : xs.take (i + 1) = xs.take i ++ [xs.getD i d] := by
  rw [List.take_succ_eq_append_getElem h, List.getD_eq_getElem?_getD, List.getElem?_eq_getElem h]; rfl
theorem take_set_succ {α : Type} (ys : List α) (i : Nat) (v : α) (h : i < ys.length) : (ys.set i v).take (i + 1) = ys.take i ++ [v] := by
  apply List.ext_getElem?
  intro j
  rw [List.getElem?_take, List.getElem?_set, List.getElem?_append, List.length_take]
  by_cases h1 : j < i
  · rw [if_pos (by omega), if_neg (by omega), if_pos (by omega), List.getElem?_take, if_pos h1]
  · by_cases h2 : j = i
    · subst h2
      rw [if_pos (by omega), if_pos rfl, if_pos h, if_neg (by omega), show j - min j ys.length = 0 by omega]; rfl
    · rw [if_neg (by omega), if_neg (by omega), List.getElem?_eq_none (by simp; omega)]
/-- A loop that copies. -/
theorem copy_loop {α : Type} (d : α) (l : Nat → List α → List α → Int → Option (List α)) (xs : List α) (hn : xs.length ≤ 4611686018427387904)
    (h : ∀ k ys i, l (k + 1) xs ys i = if i < (xs.length : Int) then (if 0 ≤ i then (if i < (ys.length : Int) then l k xs (ys.set (i : Int).toNat (rdOf d xs i)) (wrap64 (i + 1)) else none) else none) else some ys)
    (ys : List α) (hy : ys.length = xs.length) : Ev (fun k => l k xs ys 0) xs := by
  suffices H : ∀ i, i ≤ xs.length → ∀ ys : List α, ys.length = xs.length → ys.take i = xs.take i → Ev (fun k => l k xs ys (i : Int)) xs from H 0 (by omega) ys hy (by simp)
  intro i hi
  obtain ⟨m, hm⟩ : ∃ m, i + m = xs.length := ⟨xs.length - i, by omega⟩
  induction m generalizing i with
  | zero =>
    intro ys hy ht
    refine Ev.pred (g := fun k => l k xs ys (i : Int)) ⟨0, fun k _ => ?_⟩
    simp only [h]
    rw [if_neg (by omega)]
    rw [List.take_of_length_le (by omega), List.take_of_length_le (by omega)] at ht
    rw [ht]
  | succ m ih =>
    intro ys hy ht
    have hlt : i < xs.length := by omega
    refine Same.pred (g := fun k => l k xs ys (i : Int)) (f := fun k => l k xs (ys.set i (rdOf d xs i)) ((i + 1 : Nat) : Int)) (Same.now fun k => ?_) (ih (i + 1) (by omega) (by omega) _ (by simpa using hy) ?_)
    · simp only [h]
      rw [if_pos (by omega), if_pos (by omega), if_pos (by omega), wnext hlt hn, Int.toNat_natCast]
    · rw [take_set_succ _ _ _ (by omega), ht, rdOf_nat, ← take_succ d _ _ hlt]
theorem toIntS_ev (xs : List Int) (hn : xs.length ≤ 35184372088832) : Ev (fun k => laws_toIntS.f k xs) xs := by
  refine Same.ev (f := fun k => laws_toIntS.l0 k xs (List.replicate xs.length 0) 0) (Same.now fun k => ?_) (copy_loop 0 laws_toIntS.l0 xs (by omega) (fun _ _ _ => rfl) _ (by simp))
  simp only [laws_toIntS.f]
  rw [if_pos (by omega), if_pos (by simpa using hn)]; simp
theorem eqIntS_refl (xs : List Int) (hn : xs.length ≤ 4611686018427387904) : Ev (fun k => laws_eqIntS.f k xs xs) true := by
  refine Same.ev (f := fun k => laws_eqIntS.l0 k xs xs ((0 : Nat) : Int)) (Same.now fun k => ?_) (Ev.upto (fun k i => laws_eqIntS.l0 k xs xs (i : Int)) (n := xs.length) ?_ ?_ 0 (by omega))
  · simp [laws_eqIntS.f]
  · intro i hi
    refine Same.now fun k => ?_
    simp only [laws_eqIntS.l0]
    rw [if_pos (by omega), if_pos (by omega), if_pos (by omega), if_pos trivial, wnext hi hn]
  · refine Ev.pred (g := fun k => laws_eqIntS.l0 k xs xs (xs.length : Int)) ⟨0, fun k _ => ?_⟩
    simp only [laws_eqIntS.l0]; rw [if_neg (by omega)]
theorem getD_set {α : Type} (d : α) (xs : List α) (i j : Nat) (v : α) (h : i < xs.length) : (xs.set i v).getD j d = if j = i then v else xs.getD j d := by
  rw [List.getD_eq_getElem?_getD, List.getD_eq_getElem?_getD, List.getElem?_set]
  by_cases e : j = i
  · subst e; rw [if_pos rfl, if_pos rfl, if_pos h]; rfl
  · rw [if_neg e, if_neg (by omega)]
/-- A loop that marks the elements, c numbers each. -/
theorem mark_loop {α : Type} (d : α) (v : Int → α → α) (c : Int) (l : Nat → List α → Int → Int → Option (Int × List α)) (xs : List α) (m : Int)
    (step : ∀ (k : Nat) (ys : List α) (i : Nat), ys.length = xs.length → i < xs.length → l (k + 1) ys (m + c * (i : Int)) (i : Int) = l k (ys.set i (v (m + c * (i : Int)) (ys.getD i d))) (m + c * ((i + 1 : Nat) : Int)) ((i + 1 : Nat) : Int))
    (stop : ∀ (k : Nat) (ys : List α), ys.length = xs.length → l (k + 1) ys (m + c * (xs.length : Int)) (xs.length : Int) = some (m + c * (xs.length : Int), ys)) :
    ∃ ys : List α, ys.length = xs.length ∧ (∀ i, i < xs.length → ys.getD i d = v (m + c * (i : Int)) (xs.getD i d)) ∧ Ev (fun k => l k xs m 0) (m + c * (xs.length : Int), ys) := by
  suffices H : ∀ (n i : Nat) (zs : List α), i + n = xs.length → zs.length = xs.length → (∀ j, j < i → zs.getD j d = v (m + c * (j : Int)) (xs.getD j d)) → (∀ j, i ≤ j → zs.getD j d = xs.getD j d) →
      ∃ ys : List α, ys.length = xs.length ∧ (∀ i, i < xs.length → ys.getD i d = v (m + c * (i : Int)) (xs.getD i d)) ∧ Ev (fun k => l k zs (m + c * (i : Int)) (i : Int)) (m + c * (xs.length : Int), ys) by
    obtain ⟨ys, h0, h1, h2⟩ := H xs.length 0 xs (by omega) rfl (fun j h => by omega) (fun _ _ => rfl)
    refine ⟨ys, h0, h1, ?_⟩
    have e : m + c * ((0 : Nat) : Int) = m := by simp
    rw [e] at h2; exact h2
  intro n
  induction n with
  | zero =>
    intro i zs hi hz h1 h2
    obtain rfl : i = xs.length := by omega
    exact ⟨zs, hz, h1, Ev.pred (g := fun k => l k zs (m + c * (xs.length : Int)) (xs.length : Int)) ⟨0, fun k _ => stop k zs hz⟩⟩
  | succ n ih =>
    intro i zs hi hz h1 h2
    obtain ⟨ys, g0, g1, g2⟩ := ih (i + 1) (zs.set i (v (m + c * (i : Int)) (zs.getD i d))) (by omega) (by simpa using hz) (fun j hj => by
        rw [getD_set d _ _ _ _ (by omega)]
        by_cases e : j = i
        · subst e; rw [if_pos rfl, h2 j (Nat.le_refl _)]
        · rw [if_neg e]; exact h1 j (by omega))
      (fun j hj => by rw [getD_set d _ _ _ _ (by omega), if_neg (by omega)]; exact h2 j (by omega))
    exact ⟨ys, g0, g1, Same.pred (g := fun k => l k zs (m + c * (i : Int)) (i : Int)) (Same.now fun k => step k zs i hz (by omega)) g2⟩
/-- A loop that looks at the marks. -/
theorem held_loop {α : Type} (c : Int) (l : Nat → List α → Int → Int → Option Int) (ys : List α) (m : Int)
    (step : ∀ (k : Nat) (i : Nat), i < ys.length → l (k + 1) ys (m + c * (i : Int)) (i : Int) = l k ys (m + c * ((i + 1 : Nat) : Int)) ((i + 1 : Nat) : Int))
    (stop : ∀ (k : Nat), l (k + 1) ys (m + c * (ys.length : Int)) (ys.length : Int) = some (m + c * (ys.length : Int))) :
    Ev (fun k => l k ys m 0) (m + c * (ys.length : Int)) := by
  have h := Ev.upto (fun k i => l k ys (m + c * (i : Int)) (i : Int)) (n := ys.length) (r := m + c * (ys.length : Int)) (fun i hi => Same.now fun k => step k i hi)
    (Ev.pred (g := fun k => l k ys (m + c * (ys.length : Int)) (ys.length : Int)) ⟨0, fun k _ => stop k⟩) 0 (by omega)
  have e : m + c * ((0 : Nat) : Int) = m := by simp
  rw [e] at h; exact h
theorem szIntS_some (l : List Int) (n : Int) (hl : l.length ≤ 9223372036854775807) (h0 : 0 ≤ n) (h1 : n ≤ 1048576) : ∃ r, laws_szIntS.f l n = some r ∧ (0 ≤ r → (l.length : Int) + r = n) := by
  unfold laws_szIntS.f
  rw [w64 (by omega) (by omega)]
  split
  · exact ⟨_, rfl, by omega⟩
  · exact ⟨_, rfl, by omega⟩
theorem markIntS_held (xs : List Int) (hn : xs.length ≤ 1000000000000) (m : Int) (h0 : 0 ≤ m) (h1 : m ≤ 1000000000000) :
    ∃ ys : List Int, ys.length = xs.length ∧ Ev (fun k => laws_markIntS.f k xs m) (m + (xs.length : Int), ys) ∧ Ev (fun k => laws_heldIntS.f k ys m) (m + (xs.length : Int)) := by
  obtain ⟨ys, hl, hy, he⟩ := mark_loop (0 : Int) (fun a _ => a) 1 laws_markIntS.l0 xs m (fun k ys i hy hi => by
      simp only [laws_markIntS.l0, Int.toNat_natCast]
      rw [if_pos (by omega), if_pos (by omega), w64 (by omega) (by omega), wnext hi (by omega), show m + 1 * (i : Int) + 1 = m + 1 * ((i + 1 : Nat) : Int) by omega])
    (fun k ys hy => by simp only [laws_markIntS.l0]; rw [if_neg (by omega)])
  rw [Int.one_mul] at he
  refine ⟨ys, hl, he, ?_⟩
  rw [← hl]
  have hh := held_loop 1 laws_heldIntS.l0 ys m (fun k i hi => by
      have g0 : rd ys (i : Int) = m + 1 * (i : Int) := hy i (by omega)
      simp only [laws_heldIntS.l0]
      rw [if_pos (by omega), if_pos (by omega), if_pos g0, w64 (by omega) (by omega), wnext hi (by omega), show m + 1 * (i : Int) + 1 = m + 1 * ((i + 1 : Nat) : Int) by omega])
    (fun k => by simp only [laws_heldIntS.l0]; rw [if_neg (by omega)])
  rw [Int.one_mul] at hh
  exact hh
theorem cloneInt (l : List Int) (hl : l.length ≤ 1048576) : slices_Clone_int_int.f l = some l := by
  simp only [slices_Clone_int_int.f, Option.bind_some]
  rw [if_pos (by simp; omega)]; rfl
theorem within_eq (a b c : Int) : impl_within.f a b c = some (decide (b ≤ a ∧ a ≤ c)) := by
  unfold impl_within.f
  by_cases h : a ≥ b
  · rw [if_pos h]; simp [h]
  · rw [if_neg h]; simp; omega
theorem l01In_eq (a b c : Int) : spec_l01In.f a b c = some (decide (b ≤ a ∧ a ≤ c)) := by
  unfold spec_l01In.f
  by_cases h : a ≥ b
  · rw [if_pos h]; simp [h]
  · rw [if_neg h]; simp; omega
/-- Bit k of x is set. -/
def bitB (x k : Int) : Bool := (Go.bits .and .i64 (shr .i64 x k) 1) == 1
theorem bitB_one (x k : Int) : ((Go.bits .and .i64 (shr .i64 x k) 1) = 1) ↔ bitB x k = true := by
  unfold bitB; simp
theorem wrap_u64 (n : Int) (h0 : 0 ≤ n) (h1 : n ≤ 1000000) : IntKind.u64.wrap n = n := by
  have : IntKind.u64.wrap n = n % 18446744073709551616 := by simp [IntKind.wrap, IntKind.bits, IntKind.signed]
  rw [this]; omega
/-- Severities. -/
def sevOk (l : List Int) : Bool := l.all fun x => decide (0 ≤ x ∧ x ≤ 2)
/-- A log is valid. -/
def logB (s m f : Int) (v : List Int) : Bool := decide (0 ≤ s ∧ s ≤ 65535) && (decide (0 ≤ m ∧ m ≤ 65535) && (decide ((v.length : Int) = 16) && (sevOk v && (if s = 0 then f == -1 else (decide (0 ≤ f ∧ f ≤ 15) && bitB s f)))))
theorem isSet_eq (x k : Int) (h0 : 0 ≤ k) (h1 : k ≤ 1000) : impl_isSet.f x k = some (bitB x k) := by
  simp only [impl_isSet.f, wrap_u64 k h0 (by omega)]
  rw [if_pos h0]; rfl
theorem isWord_eq (x : Int) : impl_isWord.f x = some (decide (0 ≤ x ∧ x ≤ 65535)) := by simp only [impl_isWord.f, within_eq, Option.bind_some]
theorem isError_eq (x : Int) : impl_isError.f x = some (decide (0 ≤ x ∧ x ≤ 15)) := by simp only [impl_isError.f, within_eq, Option.bind_some]
theorem implLogOk_ev (s m f : Int) (v : List Int) : Ev (fun k => impl_LogOk.f k s m f v) (logB s m f v) := by
  have no : ∀ {b : Bool}, b = false → Ev (fun k => impl_LogOk.j0 k true s m f v) b := fun h => by
    refine Ev.pred (g := fun k => impl_LogOk.j0 k _ _ _ _ _) ?_
    simp only [impl_LogOk.j0]
    exact Ev.ifp (by simp) (Ev.const h.symm)
  simp only [impl_LogOk.f, isWord_eq]
  refine Ev.bnd rfl ?_
  by_cases h1 : 0 ≤ s ∧ s ≤ 65535
  · refine Ev.ifp (by simpa using h1) (Ev.bnd rfl ?_)
    by_cases h2 : 0 ≤ m ∧ m ≤ 65535
    · refine Ev.ifp (by simpa using h2) ?_
      by_cases h3 : (v.length : Int) = 16
      · refine Ev.ifp h3 (Ev.bnd rfl ?_)
        cases h4 : sevOk v with
        | false =>
          have e : (v.any impl_LogOk_1.p) = true := by
            have : sevOk v = !(v.any impl_LogOk_1.p) := by rw [sevOk, List.all_eq_not_any_not]; rfl
            rw [h4] at this; simpa using this.symm
          rw [e]
          exact no (by simp only [logB, h4, Bool.false_and, Bool.and_false])
        | true =>
          have e : (v.any impl_LogOk_1.p) = false := by
            have : sevOk v = !(v.any impl_LogOk_1.p) := by rw [sevOk, List.all_eq_not_any_not]; rfl
            rw [h4] at this; simpa using this.symm
          rw [e]
          refine Ev.pred (g := fun k => impl_LogOk.j0 k _ _ _ _ _) ?_
          simp only [impl_LogOk.j0, isError_eq]
          refine Ev.ifn (by simp) ?_
          have el : logB s m f v = (if s = 0 then f == -1 else (decide (0 ≤ f ∧ f ≤ 15) && bitB s f)) := by
            simp only [logB, h4, decide_eq_true h1, decide_eq_true h2, decide_eq_true h3, Bool.true_and]
          rw [el]
          by_cases h5 : s = 0
          · exact Ev.ifp h5 (Ev.const (by rw [if_pos h5]))
          · refine Ev.ifn h5 (Ev.bnd rfl ?_)
            rw [if_neg h5]
            by_cases h6 : 0 ≤ f ∧ f ≤ 15
            · refine Ev.ifp (by simpa using h6) (Ev.bnd (isSet_eq s f h6.1 (by omega)) (Ev.const ?_))
              simp only [decide_eq_true h6, Bool.true_and]
            · exact Ev.ifn (by simpa using h6) (Ev.const (by simp only [decide_eq_false h6, Bool.false_and]))
      · exact Ev.ifn h3 (no (by simp only [logB, decide_eq_false h3, Bool.false_and, Bool.and_false]))
    · exact Ev.ifn (by simpa using h2) (no (by simp only [logB, decide_eq_false h2, Bool.false_and, Bool.and_false]))
  · exact Ev.ifn (by simpa using h1) (no (by simp only [logB, decide_eq_false h1, Bool.false_and]))
theorem specLogOk_ev (s m f : Int) (v : List Int) : Ev (fun k => spec_LogOk.f k s m f v) (logB s m f v) := by
  have no : ∀ {b : Bool}, b = false → Ev (fun k => spec_LogOk.j0 k true s m f v) b := fun h => by
    refine Ev.pred (g := fun k => spec_LogOk.j0 k _ _ _ _ _) ?_
    simp only [spec_LogOk.j0]
    exact Ev.ifp (by simp) (Ev.const h.symm)
  simp only [spec_LogOk.f, l01In_eq]
  refine Ev.bnd rfl ?_
  by_cases h1 : 0 ≤ s ∧ s ≤ 65535
  · refine Ev.ifp (by simpa using h1) (Ev.bnd rfl ?_)
    by_cases h2 : 0 ≤ m ∧ m ≤ 65535
    · refine Ev.ifp (by simpa using h2) ?_
      by_cases h3 : (v.length : Int) = 16
      · have e : ((v.length : Int) != 16) = false := by rw [h3]; rfl
        rw [e]
        refine Ev.pred (g := fun k => spec_LogOk.j0 k _ _ _ _ _) ?_
        simp only [spec_LogOk.j0]
        refine Ev.ifn (by simp) ?_
        have el : logB s m f v = (sevOk (v.drop 0) && (if s = 0 then f == -1 else (decide (0 ≤ f ∧ f ≤ 15) && bitB s f))) := by
          simp only [logB, decide_eq_true h1, decide_eq_true h2, decide_eq_true h3, Bool.true_and, List.drop_zero]
        rw [el]
        suffices H : ∀ (d i : Nat), i + d = v.length → Ev (fun k => spec_LogOk.l0 k (i : Int) s m f v) (sevOk (v.drop i) && (if s = 0 then f == -1 else (decide (0 ≤ f ∧ f ≤ 15) && bitB s f))) from H v.length 0 (by omega)
        intro d
        induction d with
        | zero =>
          intro i hi
          refine Ev.pred (g := fun k => spec_LogOk.l0 k (i : Int) s m f v) ?_
          simp only [spec_LogOk.l0, l01In_eq]
          refine Ev.ifn (by omega) ?_
          rw [List.drop_of_length_le (by omega)]
          simp only [sevOk, List.all_nil, Bool.true_and]
          by_cases h5 : s = 0
          · exact Ev.ifp h5 (Ev.const (by rw [if_pos h5]))
          · refine Ev.ifn h5 (Ev.bnd rfl ?_)
            rw [if_neg h5]
            by_cases h6 : 0 ≤ f ∧ f ≤ 15
            · refine Ev.ifp (by simpa using h6) (Ev.ifp h6.1 (Ev.const ?_))
              simp only [decide_eq_true h6, Bool.true_and]; rfl
            · exact Ev.ifn (by simpa using h6) (Ev.const (by simp only [decide_eq_false h6, Bool.false_and]))
        | succ d ih =>
          intro i hi
          have hd := drop_cons 0 v i (by omega)
          refine Ev.pred (g := fun k => spec_LogOk.l0 k (i : Int) s m f v) ?_
          simp only [spec_LogOk.l0, l01In_eq, rd_nat]
          refine Ev.ifp (by omega) (Ev.ifp (by omega) (Ev.ifp (by omega) (Ev.bnd rfl ?_)))
          rw [hd]
          by_cases h : 0 ≤ v.getD i 0 ∧ v.getD i 0 ≤ 2
          · refine Ev.ifp (by simpa using h) ?_
            rw [wnext (n := v.length) (by omega) (by omega)]
            exact Ev.eq (ih (i + 1) (by omega)) (by simp only [sevOk, List.all_cons, decide_eq_true h, Bool.true_and])
          · refine Ev.ifn (by simpa using h) (Ev.const ?_)
            simp only [sevOk, List.all_cons, decide_eq_false h, Bool.false_and]
      · have e : ((v.length : Int) != 16) = true := by simpa using h3
        rw [e]
        exact no (by simp only [logB, decide_eq_false h3, Bool.false_and, Bool.and_false])
    · exact Ev.ifn (by simpa using h2) (no (by simp only [logB, decide_eq_false h2, Bool.false_and, Bool.and_false]))
  · exact Ev.ifn (by simpa using h1) (no (by simp only [logB, decide_eq_false h1, Bool.false_and]))
theorem szLog_some (a b c : Int) (l : List Int) (n : Int) (hl : l.length ≤ 9223372036854775807) (h0 : 0 ≤ n) (h1 : n ≤ 1048576) : ∃ r, laws_szLog.f a b c l n = some r ∧ (0 ≤ r → (l.length : Int) + r = n) := by
  obtain ⟨r, hr, hb⟩ := szIntS_some l n hl h0 h1
  simp only [laws_szLog.f, hr, Option.bind_some]
  split
  · exact ⟨_, rfl, by omega⟩
  · exact ⟨_, rfl, hb⟩
theorem toLog_ev (a b c : Int) (l : List Int) (hl : l.length ≤ 35184372088832) : Ev (fun k => laws_toLog.f k a b c l) (a, b, c, l) := by
  simp only [laws_toLog.f]
  exact Ev.bind (toIntS_ev l hl) (Ev.now _)
theorem eqLog_refl (a b c : Int) (l : List Int) (hl : l.length ≤ 35184372088832) : Ev (fun k => laws_eqLog.f k a b c l a b c l) true := by
  simp only [laws_eqLog.f]
  exact Ev.ifp trivial (Ev.ifp trivial (Ev.ifp trivial (Ev.bind (eqIntS_refl l (by omega)) (Ev.ifp rfl (Ev.now _)))))
theorem l32Copy_some (a b c : Int) (l : List Int) (hl : l.length ≤ 1048576) : spec_l32Copy.f a b c l = some (a, b, c, l) := by
  simp only [spec_l32Copy.f, Option.bind_some]
  rw [if_pos (by simp; omega)]; rfl
theorem copyLog_some (a b c : Int) (l : List Int) (hl : l.length ≤ 1048576) : impl_copyLog.f a b c l = some (a, b, c, l) := by
  simp only [impl_copyLog.f, cloneInt l hl, Option.bind_some]
theorem markLog_held (a0 a1 a2 : Int) (l : List Int) (hn : l.length ≤ 1000000000000) (m : Int) (h0 : 0 ≤ m) (h1 : m ≤ 1000000000000) :
    ∃ ys : List Int, ys.length = l.length ∧ Ev (fun k => laws_markLog.f k a0 a1 a2 l m) (m + (l.length : Int), ys) ∧ Ev (fun k => laws_heldLog.f k a0 a1 a2 ys m) (m + (l.length : Int)) := by
  obtain ⟨ys, hl, hm, hh⟩ := markIntS_held l hn m h0 h1
  refine ⟨ys, hl, ?_, ?_⟩
  · simp only [laws_markLog.f]
    exact Ev.bind hm (Ev.now _)
  · simp only [laws_heldLog.f]
    exact Ev.bind hh (Ev.ifn (by omega) (Ev.now _))
/-- A report of error e. -/
def reportB (s m f : Int) (v : List Int) (e : Int) : Int × Int × Int × List Int × Int :=
  if logB s m f v = true ∧ 0 ≤ e ∧ e ≤ 15 then (Go.bits .or .i64 s (shl .i64 1 e), m, if s = 0 then e else f, v, if bitB m e = true then -1 else rd v e) else (s, m, f, v, -1)
theorem implReport_ev (s m f : Int) (v : List Int) (e : Int) (hl : v.length ≤ 1048576) : Ev (fun k => impl_ReportError.f k s m f v e) (reportB s m f v e) := by
  have no : reportB s m f v e = (s, m, f, v, -1) → Ev (fun k => impl_ReportError.j0 k e true s m f v s m f v) (reportB s m f v e) := fun h => by
    refine Ev.pred (g := fun k => impl_ReportError.j0 k _ _ _ _ _ _ _ _ _ _) ?_
    simp only [impl_ReportError.j0]
    exact Ev.ifp trivial (Ev.const h.symm)
  simp only [impl_ReportError.f]
  refine Ev.bnd (copyLog_some s m f v hl) (Ev.bind (implLogOk_ev s m f v) ?_)
  cases hb : logB s m f v with
  | false => exact Ev.ifn (by simp) (no (by simp [reportB, hb]))
  | true =>
    have h16 : (v.length : Int) = 16 := by
      simp only [logB, Bool.and_eq_true, decide_eq_true_eq] at hb; exact hb.2.2.1
    refine Ev.ifp rfl (Ev.bnd (isError_eq e) ?_)
    by_cases he : 0 ≤ e ∧ e ≤ 15
    · rw [decide_eq_true he]
      refine Ev.pred (g := fun k => impl_ReportError.j0 k _ _ _ _ _ _ _ _ _ _) ?_
      simp only [impl_ReportError.j0, wrap_u64 e he.1 (by omega), isSet_eq m e he.1 (by omega)]
      refine Ev.ifn (by simp) ?_
      have er : reportB s m f v e = (Go.bits .or .i64 s (shl .i64 1 e), m, if s = 0 then e else f, v, if bitB m e = true then -1 else rd v e) := by
        unfold reportB; rw [if_pos ⟨hb, he⟩]
      rw [er]
      by_cases hs : s = 0
      · refine Ev.ifp hs (Ev.ifp he.1 (Ev.bnd rfl ?_))
        rw [if_pos hs]
        by_cases hm : bitB m e = true
        · exact Ev.ifp hm (Ev.const (by rw [if_pos hm]))
        · exact Ev.ifn hm (Ev.ifp he.1 (Ev.ifp (by omega) (Ev.const (by rw [if_neg hm]))))
      · refine Ev.ifn hs (Ev.ifp he.1 (Ev.bnd rfl ?_))
        rw [if_neg hs]
        by_cases hm : bitB m e = true
        · exact Ev.ifp hm (Ev.const (by rw [if_pos hm]))
        · exact Ev.ifn hm (Ev.ifp he.1 (Ev.ifp (by omega) (Ev.const (by rw [if_neg hm]))))
    · rw [decide_eq_false he]
      exact no (by unfold reportB; rw [if_neg (fun h => he h.2)])
theorem specReport_ev (s m f : Int) (v : List Int) (e : Int) (hl : v.length ≤ 1048576) : Ev (fun k => spec_ReportError.f k s m f v e) (reportB s m f v e) := by
  have no : reportB s m f v e = (s, m, f, v, -1) → Ev (fun k => spec_ReportError.j0 k e true s m f v s m f v) (reportB s m f v e) := fun h => by
    refine Ev.pred (g := fun k => spec_ReportError.j0 k _ _ _ _ _ _ _ _ _ _) ?_
    simp only [spec_ReportError.j0]
    exact Ev.ifp trivial (Ev.const h.symm)
  simp only [spec_ReportError.f]
  refine Ev.bnd (l32Copy_some s m f v hl) (Ev.bind (specLogOk_ev s m f v) ?_)
  cases hb : logB s m f v with
  | false => exact Ev.ifn (by simp) (no (by simp [reportB, hb]))
  | true =>
    have h16 : (v.length : Int) = 16 := by
      simp only [logB, Bool.and_eq_true, decide_eq_true_eq] at hb; exact hb.2.2.1
    refine Ev.ifp rfl (Ev.bnd (l01In_eq e 0 15) ?_)
    by_cases he : 0 ≤ e ∧ e ≤ 15
    · rw [decide_eq_true he]
      refine Ev.pred (g := fun k => spec_ReportError.j0 k _ _ _ _ _ _ _ _ _ _) ?_
      simp only [spec_ReportError.j0, bitB_one]
      refine Ev.ifn (by simp) ?_
      have er : reportB s m f v e = (Go.bits .or .i64 s (shl .i64 1 e), m, if s = 0 then e else f, v, if bitB m e = true then -1 else rd v e) := by
        unfold reportB; rw [if_pos ⟨hb, he⟩]
      rw [er]
      by_cases hs : s = 0
      · refine Ev.ifp hs (Ev.ifp he.1 ?_)
        rw [if_pos hs]
        by_cases hm : bitB m e = true
        · exact Ev.ifp hm (Ev.const (by rw [if_pos hm]))
        · exact Ev.ifn hm (Ev.ifp (by omega) (Ev.const (by rw [if_neg hm])))
      · refine Ev.ifn hs (Ev.ifp he.1 ?_)
        rw [if_neg hs]
        by_cases hm : bitB m e = true
        · exact Ev.ifp hm (Ev.const (by rw [if_pos hm]))
        · exact Ev.ifn hm (Ev.ifp (by omega) (Ev.const (by rw [if_neg hm])))
    · rw [decide_eq_false he]
      exact no (by unfold reportB; rw [if_neg (fun h => he h.2)])
theorem reportB_len (s m f : Int) (v : List Int) (e : Int) : (reportB s m f v e).2.2.2.1 = v := by unfold reportB; split <;> rfl
theorem FnExactReportError : ∀ (a0_0 : Int) (a0_1 : Int) (a0_2 : Int) (l0_3 : List (Int)) (a1 : Int), (Lit.int .i64 a0_0).wf = true → (Lit.int .i64 a0_1).wf = true → (Lit.int .i64 a0_2).wf = true → l0_3.length ≤ 9223372036854775807 → (∀ x ∈ l0_3, (Lit.int .i64 x).wf = true) → (Lit.int .i64 a1).wf = true → ∃ k, laws_FnExactReportError.f k a0_0 a0_1 a0_2 l0_3 a1 = some true := by
  intro s m f v e _ _ _ hl _ _
  obtain ⟨z, hz, hb⟩ := szLog_some s m f v 1048576 hl (by omega) (by omega)
  refine Ev.rounds ?_
  simp only [laws_FnExactReportError.f]
  refine Ev.bnd hz ?_
  by_cases cs : z < 0
  · exact Ev.ifp cs (Ev.now _)
  have t := toLog_ev s m f v (by omega)
  have g1 := specReport_ev s m f v e (by omega)
  have g2 := implReport_ev s m f v e (by omega)
  have hv := reportB_len s m f v e
  generalize reportB s m f v e = r at g1 g2 hv
  obtain ⟨r0, r1, r2, rl, rb⟩ := r
  simp only at hv
  subst hv
  have e1 := eqLog_refl r0 r1 r2 rl (by omega)
  have e2 := eqLog_refl s m f rl (by omega)
  obtain ⟨ys, hy, m1, m2⟩ := markLog_held r0 r1 r2 rl (by omega) 1 (by omega) (by omega)
  obtain ⟨zs, hzs, n1, n2⟩ := markLog_held s m f rl (by omega) 1 (by omega) (by omega)
  refine Ev.ifn cs (Ev.bind t (Ev.bind g1 (Ev.bind t (Ev.bind g2 (Ev.bind e1 (Ev.ifp rfl ?_))))))
  refine Ev.pred (g := fun k => laws_FnExactReportError.j0 k _ _ _ _ _ _ _ _ _ _ _ _ _ _ _ _ _ _ _ _) ?_
  simp only [laws_FnExactReportError.j0]
  refine Ev.ifn (by simp) (Ev.bind t (Ev.bind e2 (Ev.ifp rfl (Ev.bind n1 (Ev.ifn (by simp only; omega) (Ev.bind e1 (Ev.ifp rfl ?_)))))))
  refine Ev.pred (g := fun k => laws_FnExactReportError.j1 k _ _ _ _ _ _ _ _ _ _ _ _ _ _ _) ?_
  simp only [laws_FnExactReportError.j1]
  refine Ev.ifn (by simp) (Ev.bind m1 (Ev.bind m2 (Ev.ifn (by omega) (Ev.ifp rfl (Ev.bind t (Ev.bind g2 (Ev.bind e1 (Ev.ifp rfl ?_))))))))
  refine Ev.pred (g := fun k => laws_FnExactReportError.j2 k _ _ _ _ _ _) ?_
  simp only [laws_FnExactReportError.j2]
  exact Ev.ifn (by simp) (Ev.bind m2 (Ev.ifn (by omega) (Ev.ifp rfl (Ev.now _))))
end Go.Proofs.Ytbfkiggcemlmgaa.Pure

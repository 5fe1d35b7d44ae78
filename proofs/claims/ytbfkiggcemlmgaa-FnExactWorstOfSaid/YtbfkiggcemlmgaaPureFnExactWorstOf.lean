/- The program's WorstOf returns what the reference's returns, for all logs. -/
import Derived.Test.YtbfkiggcemlmgaaPFnExactWorstOfx4
set_option linter.unusedVariables false
set_option linter.unusedSimpArgs false
namespace Go.Proofs.Ytbfkiggcemlmgaa.Pure
open Go.RowKit Go.Proofs.Ytbfkiggcemlmgaa.PFnExactWorstOf Go.Proofs.YtbfkiggcemlmgaaW.PrintWords Go.Proofs.YtbfkiggcemlmgaaW.PrintLast Go.Proofs.YtbfkiggcemlmgaaW.PrintMore
theorem w64 {x : Int} (h0 : -9223372036854775808 ≤ x) (h1 : x ≤ 9223372036854775807) : wrap64 x = x := by unfold wrap64; omega
theorem wnext {i n : Nat} (h : i < n) (hn : n ≤ 4611686018427387904) : wrap64 ((i : Int) + 1) = ((i + 1 : Nat) : Int) := by unfold wrap64; omega
/-- From K rounds on, these two are the same. -/
def Same {α : Type} (g f : Nat → Option α) : Prop := ∃ K, ∀ k, K ≤ k → g k = f k
theorem Same.now {α : Type} {g f : Nat → Option α} (h : ∀ k, g k = f k) : Same g f := ⟨0, fun k _ => h k⟩
theorem Same.trans {α : Type} {g f e : Nat → Option α} (h : Same g f) (h' : Same f e) : Same g e := by
  obtain ⟨K, h⟩ := h; obtain ⟨K', h'⟩ := h'
  exact ⟨max K K', fun k hk => (h k (by omega)).trans (h' k (by omega))⟩
theorem Same.ev {α : Type} {g f : Nat → Option α} {r : α} (h : Same g f) (e : Ev f r) : Ev g r := by
  obtain ⟨K, h⟩ := h; obtain ⟨K', e⟩ := e
  exact ⟨max K K', fun k hk => (h k (by omega)).trans (e k (by omega))⟩
theorem Same.bind {α β : Type} {g : Nat → Option α} {f : Nat → α → Option β} {a : α} (h : Ev g a) : Same (fun n => (g n).bind (f n)) (fun n => f n a) := by
  obtain ⟨K, h⟩ := h
  exact ⟨K, fun k hk => by simp only [h k hk, Option.bind_some]⟩
theorem Ev.pred {α : Type} {g : Nat → Option α} {r : α} (h : Ev (fun k => g (k + 1)) r) : Ev g r := Ev.step (f := fun k => g (k + 1)) (fun _ => rfl) h
theorem Same.pred {α : Type} {g : Nat → Option α} {f : Nat → Option α} {r : α} (h : Same (fun k => g (k + 1)) f) (e : Ev f r) : Ev g r := Ev.pred (h.ev e)
/-- A loop that counts up: the state at round i is s i; at n it answers. -/
theorem Ev.upto {ρ : Type} (l : Nat → Nat → Option ρ) {n : Nat} {r : ρ} (step : ∀ i, i < n → Same (fun k => l (k + 1) i) (fun k => l k (i + 1))) (done : Ev (fun k => l k n) r) : ∀ i, i ≤ n → Ev (fun k => l k i) r := by
  intro i hi
  obtain ⟨d, hd⟩ : ∃ d, i + d = n := ⟨n - i, by omega⟩
  induction d generalizing i with
  | zero => obtain rfl : i = n := by omega
            exact done
  | succ d ih => exact Same.pred (g := fun k => l k i) (step i (by omega)) (ih (i + 1) (by omega) (by omega))
theorem Ev.ifp {α : Type} {c : Prop} [Decidable c] {g f : Nat → Option α} {r : α} (h : c) (e : Ev g r) : Ev (fun n => if c then g n else f n) r := by
  obtain ⟨K, e⟩ := e
  exact ⟨K, fun k hk => by dsimp only; rw [if_pos h]; exact e k hk⟩
theorem Ev.ifn {α : Type} {c : Prop} [Decidable c] {g f : Nat → Option α} {r : α} (h : ¬ c) (e : Ev f r) : Ev (fun n => if c then g n else f n) r := by
  obtain ⟨K, e⟩ := e
  exact ⟨K, fun k hk => by dsimp only; rw [if_neg h]; exact e k hk⟩
theorem Ev.const {α : Type} {a r : α} (h : a = r) : Ev (fun _ => some a) r := ⟨0, fun _ _ => by rw [h]⟩
theorem Ev.bnd {α β : Type} {x : Option α} {f : Nat → α → Option β} {a : α} {r : β} (h : x = some a) (k : Ev (fun n => f n a) r) : Ev (fun n => x.bind (f n)) r := Ev.bind (g := fun _ => x) ⟨0, fun _ _ => h⟩ k
theorem Ev.eq {α : Type} {g : Nat → Option α} {r r' : α} (h : Ev g r) (e : r = r') : Ev g r' := e ▸ h
theorem rdOf_nat {α : Type} (d : α) (xs : List α) (i : Nat) : rdOf d xs (i : Int) = xs.getD i d := rfl
theorem rd_nat (xs : List Int) (i : Nat) : rd xs (i : Int) = xs.getD i 0 := rfl
theorem drop_cons {α : Type} (d : α) (xs : List α) (i : Nat) (h : i < xs.length) : xs.drop i = xs.getD i d :: xs.drop (i + 1) := by
  rw [List.drop_eq_getElem_cons h, List.getD_eq_getElem?_getD, List.getElem?_eq_getElem h]; rfl
theorem take_succ {α : Type} (d : α) (xs : List α) (i : Nat) (h : i < xs.length) : xs.take (i + 1) = xs.take i ++ [xs.getD i d] := by
  rw [List.take_succ_eq_append_getElem h, List.getD_eq_getElem?_getD, List.getElem?_eq_getElem h]; rfl
theorem take_set_succ {α : Type} (ys : List α) (i : Nat) (v : α) (h : i < ys.length) : (ys.set i v).take (i + 1) = ys.take i ++ [v] := by
  apply List.ext_getElem?
  intro j
  rw [List.getElem?_take, List.getElem?_set, List.getElem?_append, List.length_take]
  by_cases h1 : j < i
  · rw [if_pos (by omega), if_neg (by omega), if_pos (by omega), List.getElem?_take, if_pos h1]
  · by_cases h2 : j = i
    · subst h2
      rw [if_pos (by omega), if_pos rfl, if_pos h, if_neg (by omega), show j - min j ys.length = 0 by omega]; rfl
    · rw [if_neg (by omega), if_neg (by omega), List.getElem?_eq_none (by simp; omega)]
/-- A loop that copies. -/
theorem copy_loop {α : Type} (d : α) (l : Nat → List α → List α → Int → Option (List α)) (xs : List α) (hn : xs.length ≤ 4611686018427387904)
    (h : ∀ k ys i, l (k + 1) xs ys i = if i < (xs.length : Int) then (if 0 ≤ i then (if i < (ys.length : Int) then l k xs (ys.set (i : Int).toNat (rdOf d xs i)) (wrap64 (i + 1)) else none) else none) else some ys)
    (ys : List α) (hy : ys.length = xs.length) : Ev (fun k => l k xs ys 0) xs := by
  suffices H : ∀ i, i ≤ xs.length → ∀ ys : List α, ys.length = xs.length → ys.take i = xs.take i → Ev (fun k => l k xs ys (i : Int)) xs from H 0 (by omega) ys hy (by simp)
  intro i hi
  obtain ⟨m, hm⟩ : ∃ m, i + m = xs.length := ⟨xs.length - i, by omega⟩
  induction m generalizing i with
  | zero =>
    intro ys hy ht
    refine Ev.pred (g := fun k => l k xs ys (i : Int)) ⟨0, fun k _ => ?_⟩
    simp only [h]
    rw [if_neg (by omega)]
    rw [List.take_of_length_le (by omega), List.take_of_length_le (by omega)] at ht
    rw [ht]
  | succ m ih =>
    intro ys hy ht
    have hlt : i < xs.length := by omega
    refine Same.pred (g := fun k => l k xs ys (i : Int)) (f := fun k => l k xs (ys.set i (rdOf d xs i)) ((i + 1 : Nat) : Int)) (Same.now fun k => ?_) (ih (i + 1) (by omega) (by omega) _ (by simpa using hy) ?_)
    · simp only [h]
      rw [if_pos (by omega), if_pos (by omega), if_pos (by omega), wnext hlt hn, Int.toNat_natCast]
    · rw [take_set_succ _ _ _ (by omega), ht, rdOf_nat, ← take_succ d _ _ hlt]
theorem toIntS_ev (xs : List Int) (hn : xs.length ≤ 35184372088832) : Ev (fun k => laws_toIntS.f k xs) xs := by
  refine Same.ev (f := fun k => laws_toIntS.l0 k xs (List.replicate xs.length 0) 0) (Same.now fun k => ?_) (copy_loop 0 laws_toIntS.l0 xs (by omega) (fun _ _ _ => rfl) _ (by simp))
  simp only [laws_toIntS.f]
  rw [if_pos (by omega), if_pos (by simpa using hn)]; simp
theorem eqIntS_refl (xs : List Int) (hn : xs.length ≤ 4611686018427387904) : Ev (fun k => laws_eqIntS.f k xs xs) true := by
  refine Same.ev (f := fun k => laws_eqIntS.l0 k xs xs ((0 : Nat) : Int)) (Same.now fun k => ?_) (Ev.upto (fun k i => laws_eqIntS.l0 k xs xs (i : Int)) (n := xs.length) ?_ ?_ 0 (by omega))
  · simp [laws_eqIntS.f]
  · intro i hi
    refine Same.now fun k => ?_
    simp only [laws_eqIntS.l0]
    rw [if_pos (by omega), if_pos (by omega), if_pos (by omega), if_pos trivial, wnext hi hn]
  · refine Ev.pred (g := fun k => laws_eqIntS.l0 k xs xs (xs.length : Int)) ⟨0, fun k _ => ?_⟩
    simp only [laws_eqIntS.l0]; rw [if_neg (by omega)]
theorem szIntS_some (l : List Int) (n : Int) (hl : l.length ≤ 9223372036854775807) (h0 : 0 ≤ n) (h1 : n ≤ 1048576) : ∃ r, laws_szIntS.f l n = some r ∧ (0 ≤ r → (l.length : Int) + r = n) := by
  unfold laws_szIntS.f
  rw [w64 (by omega) (by omega)]
  split
  · exact ⟨_, rfl, by omega⟩
  · exact ⟨_, rfl, by omega⟩
theorem within_eq (a b c : Int) : impl_within.f a b c = some (decide (b ≤ a ∧ a ≤ c)) := by
  unfold impl_within.f
  by_cases h : a ≥ b
  · rw [if_pos h]; simp [h]
  · rw [if_neg h]; simp; omega
theorem l01In_eq (a b c : Int) : spec_l01In.f a b c = some (decide (b ≤ a ∧ a ≤ c)) := by
  unfold spec_l01In.f
  by_cases h : a ≥ b
  · rw [if_pos h]; simp [h]
  · rw [if_neg h]; simp; omega
theorem and1 (x : Int) : Go.bits .and .i64 x 1 = 0 ∨ Go.bits .and .i64 x 1 = 1 := by
  have h : (BitVec.ofInt IntKind.i64.bits x &&& BitVec.ofInt IntKind.i64.bits 1).toNat ≤ 1 := by
    rw [BitVec.toNat_and]
    refine Nat.le_trans Nat.and_le_right ?_
    decide
  simp only [Go.bits]
  rw [IntKind.wrap_i64]
  omega
/-- Bit k of x is set. -/
def bitB (x k : Int) : Bool := (Go.bits .and .i64 (shr .i64 x k) 1) == 1
theorem bitB_zero (x k : Int) : ((Go.bits .and .i64 (shr .i64 x k) 1) = 0) ↔ bitB x k = false := by
  have h := and1 (shr .i64 x k)
  unfold bitB
  constructor
  · intro e; rw [e]; rfl
  · intro e
    have : ¬ (Go.bits .and .i64 (shr .i64 x k) 1) = 1 := by simpa using e
    omega
theorem bitB_one (x k : Int) : ((Go.bits .and .i64 (shr .i64 x k) 1) = 1) ↔ bitB x k = true := by
  unfold bitB; simp
theorem wrap_u64 (n : Int) (h0 : 0 ≤ n) (h1 : n ≤ 1000000) : IntKind.u64.wrap n = n := by
  have : IntKind.u64.wrap n = n % 18446744073709551616 := by simp [IntKind.wrap, IntKind.bits, IntKind.signed]
  rw [this]; omega
/-- Severities. -/
def sevOk (l : List Int) : Bool := l.all fun x => decide (0 ≤ x ∧ x ≤ 2)
/-- A log is valid. -/
def logB (s m f : Int) (v : List Int) : Bool := decide (0 ≤ s ∧ s ≤ 65535) && (decide (0 ≤ m ∧ m ≤ 65535) && (decide ((v.length : Int) = 16) && (sevOk v && (if s = 0 then f == -1 else (decide (0 ≤ f ∧ f ≤ 15) && bitB s f)))))
theorem isSet_eq (x k : Int) (h0 : 0 ≤ k) (h1 : k ≤ 1000) : impl_isSet.f x k = some (bitB x k) := by
  simp only [impl_isSet.f, wrap_u64 k h0 (by omega)]
  rw [if_pos h0]; rfl
theorem isWord_eq (x : Int) : impl_isWord.f x = some (decide (0 ≤ x ∧ x ≤ 65535)) := by simp only [impl_isWord.f, within_eq, Option.bind_some]
theorem isError_eq (x : Int) : impl_isError.f x = some (decide (0 ≤ x ∧ x ≤ 15)) := by simp only [impl_isError.f, within_eq, Option.bind_some]
theorem implLogOk_ev (s m f : Int) (v : List Int) : Ev (fun k => impl_LogOk.f k s m f v) (logB s m f v) := by
  have no : ∀ {b : Bool}, b = false → Ev (fun k => impl_LogOk.j0 k true s m f v) b := fun h => by
    refine Ev.pred (g := fun k => impl_LogOk.j0 k _ _ _ _ _) ?_
    simp only [impl_LogOk.j0]
    exact Ev.ifp (by simp) (Ev.const h.symm)
  simp only [impl_LogOk.f, isWord_eq]
  refine Ev.bnd rfl ?_
  by_cases h1 : 0 ≤ s ∧ s ≤ 65535
  · refine Ev.ifp (by simpa using h1) (Ev.bnd rfl ?_)
    by_cases h2 : 0 ≤ m ∧ m ≤ 65535
    · refine Ev.ifp (by simpa using h2) ?_
      by_cases h3 : (v.length : Int) = 16
      · refine Ev.ifp h3 (Ev.bnd rfl ?_)
        cases h4 : sevOk v with
        | false =>
          have e : (v.any impl_LogOk_1.p) = true := by
            have : sevOk v = !(v.any impl_LogOk_1.p) := by rw [sevOk, List.all_eq_not_any_not]; rfl
            rw [h4] at this; simpa using this.symm
          rw [e]
          exact no (by simp only [logB, h4, Bool.false_and, Bool.and_false])
        | true =>
          have e : (v.any impl_LogOk_1.p) = false := by
            have : sevOk v = !(v.any impl_LogOk_1.p) := by rw [sevOk, List.all_eq_not_any_not]; rfl
            rw [h4] at this; simpa using this.symm
          rw [e]
          refine Ev.pred (g := fun k => impl_LogOk.j0 k _ _ _ _ _) ?_
          simp only [impl_LogOk.j0, isError_eq]
          refine Ev.ifn (by simp) ?_
          have el : logB s m f v = (if s = 0 then f == -1 else (decide (0 ≤ f ∧ f ≤ 15) && bitB s f)) := by
            simp only [logB, h4, decide_eq_true h1, decide_eq_true h2, decide_eq_true h3, Bool.true_and]
          rw [el]
          by_cases h5 : s = 0
          · exact Ev.ifp h5 (Ev.const (by rw [if_pos h5]))
          · refine Ev.ifn h5 (Ev.bnd rfl ?_)
            rw [if_neg h5]
            by_cases h6 : 0 ≤ f ∧ f ≤ 15
            · refine Ev.ifp (by simpa using h6) (Ev.bnd (isSet_eq s f h6.1 (by omega)) (Ev.const ?_))
              simp only [decide_eq_true h6, Bool.true_and]
            · exact Ev.ifn (by simpa using h6) (Ev.const (by simp only [decide_eq_false h6, Bool.false_and]))
      · exact Ev.ifn h3 (no (by simp only [logB, decide_eq_false h3, Bool.false_and, Bool.and_false]))
    · exact Ev.ifn (by simpa using h2) (no (by simp only [logB, decide_eq_false h2, Bool.false_and, Bool.and_false]))
  · exact Ev.ifn (by simpa using h1) (no (by simp only [logB, decide_eq_false h1, Bool.false_and]))
theorem specLogOk_ev (s m f : Int) (v : List Int) : Ev (fun k => spec_LogOk.f k s m f v) (logB s m f v) := by
  have no : ∀ {b : Bool}, b = false → Ev (fun k => spec_LogOk.j0 k true s m f v) b := fun h => by
    refine Ev.pred (g := fun k => spec_LogOk.j0 k _ _ _ _ _) ?_
    simp only [spec_LogOk.j0]
    exact Ev.ifp (by simp) (Ev.const h.symm)
  simp only [spec_LogOk.f, l01In_eq]
  refine Ev.bnd rfl ?_
  by_cases h1 : 0 ≤ s ∧ s ≤ 65535
  · refine Ev.ifp (by simpa using h1) (Ev.bnd rfl ?_)
    by_cases h2 : 0 ≤ m ∧ m ≤ 65535
    · refine Ev.ifp (by simpa using h2) ?_
      by_cases h3 : (v.length : Int) = 16
      · have e : ((v.length : Int) != 16) = false := by rw [h3]; rfl
        rw [e]
        refine Ev.pred (g := fun k => spec_LogOk.j0 k _ _ _ _ _) ?_
        simp only [spec_LogOk.j0]
        refine Ev.ifn (by simp) ?_
        have el : logB s m f v = (sevOk (v.drop 0) && (if s = 0 then f == -1 else (decide (0 ≤ f ∧ f ≤ 15) && bitB s f))) := by
          simp only [logB, decide_eq_true h1, decide_eq_true h2, decide_eq_true h3, Bool.true_and, List.drop_zero]
        rw [el]
        suffices H : ∀ (d i : Nat), i + d = v.length → Ev (fun k => spec_LogOk.l0 k (i : Int) s m f v) (sevOk (v.drop i) && (if s = 0 then f == -1 else (decide (0 ≤ f ∧ f ≤ 15) && bitB s f))) from H v.length 0 (by omega)
        intro d
        induction d with
        | zero =>
          intro i hi
          refine Ev.pred (g := fun k => spec_LogOk.l0 k (i : Int) s m f v) ?_
          simp only [spec_LogOk.l0, l01In_eq]
          refine Ev.ifn (by omega) ?_
          rw [List.drop_of_length_le (by omega)]
          simp only [sevOk, List.all_nil, Bool.true_and]
          by_cases h5 : s = 0
          · exact Ev.ifp h5 (Ev.const (by rw [if_pos h5]))
          · refine Ev.ifn h5 (Ev.bnd rfl ?_)
            rw [if_neg h5]
            by_cases h6 : 0 ≤ f ∧ f ≤ 15
            · refine Ev.ifp (by simpa using h6) (Ev.ifp h6.1 (Ev.const ?_))
              simp only [decide_eq_true h6, Bool.true_and]; rfl
            · exact Ev.ifn (by simpa using h6) (Ev.const (by simp only [decide_eq_false h6, Bool.false_and]))
        | succ d ih =>
          intro i hi
          have hd := drop_cons 0 v i (by omega)
          refine Ev.pred (g := fun k => spec_LogOk.l0 k (i : Int) s m f v) ?_
          simp only [spec_LogOk.l0, l01In_eq, rd_nat]
          refine Ev.ifp (by omega) (Ev.ifp (by omega) (Ev.ifp (by omega) (Ev.bnd rfl ?_)))
          rw [hd]
          by_cases h : 0 ≤ v.getD i 0 ∧ v.getD i 0 ≤ 2
          · refine Ev.ifp (by simpa using h) ?_
            rw [wnext (n := v.length) (by omega) (by omega)]
            exact Ev.eq (ih (i + 1) (by omega)) (by simp only [sevOk, List.all_cons, decide_eq_true h, Bool.true_and])
          · refine Ev.ifn (by simpa using h) (Ev.const ?_)
            simp only [sevOk, List.all_cons, decide_eq_false h, Bool.false_and]
      · have e : ((v.length : Int) != 16) = true := by simpa using h3
        rw [e]
        exact no (by simp only [logB, decide_eq_false h3, Bool.false_and, Bool.and_false])
    · exact Ev.ifn (by simpa using h2) (no (by simp only [logB, decide_eq_false h2, Bool.false_and, Bool.and_false]))
  · exact Ev.ifn (by simpa using h1) (no (by simp only [logB, decide_eq_false h1, Bool.false_and]))
theorem szLog_some (a b c : Int) (l : List Int) (n : Int) (hl : l.length ≤ 9223372036854775807) (h0 : 0 ≤ n) (h1 : n ≤ 1048576) : ∃ r, laws_szLog.f a b c l n = some r ∧ (0 ≤ r → (l.length : Int) + r = n) := by
  obtain ⟨r, hr, hb⟩ := szIntS_some l n hl h0 h1
  simp only [laws_szLog.f, hr, Option.bind_some]
  split
  · exact ⟨_, rfl, by omega⟩
  · exact ⟨_, rfl, hb⟩
theorem toLog_ev (a b c : Int) (l : List Int) (hl : l.length ≤ 35184372088832) : Ev (fun k => laws_toLog.f k a b c l) (a, b, c, l) := by
  simp only [laws_toLog.f]
  exact Ev.bind (toIntS_ev l hl) (Ev.now _)
theorem eqLog_refl (a b c : Int) (l : List Int) (hl : l.length ≤ 35184372088832) : Ev (fun k => laws_eqLog.f k a b c l a b c l) true := by
  simp only [laws_eqLog.f]
  exact Ev.ifp trivial (Ev.ifp trivial (Ev.ifp trivial (Ev.bind (eqIntS_refl l (by omega)) (Ev.ifp rfl (Ev.now _)))))
/-- The greatest severity that is set and not masked, from place i on. -/
def worstB (s m : Int) (v : List Int) (i : Nat) (w : Int) : Nat → Int
  | 0 => w
  | d + 1 => worstB s m v (i + 1) (if bitB s (i : Int) = true ∧ bitB m (i : Int) = false then mx w (v.getD i 0) else w) d
theorem specWorst_ev (s m f : Int) (v : List Int) : Ev (fun k => spec_WorstOf.f k s m f v) (if logB s m f v = true then worstB s m v 0 (-1) 16 else -1) := by
  have hk := specLogOk_ev s m f v
  cases hb : logB s m f v with
  | false =>
    rw [hb] at hk
    simp only [spec_WorstOf.f]
    refine Ev.pred (g := fun k => spec_WorstOf.l0 k (-1) 0 s m f v) ?_
    simp only [spec_WorstOf.l0]
    refine Ev.ifp (by omega) (Ev.bind hk (Ev.pred (g := fun k => spec_WorstOf.j1 k _ _ _ _ _ _ _) ?_))
    simp only [spec_WorstOf.j1]
    exact Ev.ifn (by simp) (Ev.const (by simp))
  | true =>
    rw [hb] at hk
    have h16 : (v.length : Int) = 16 := by
      simp only [logB, Bool.and_eq_true, decide_eq_true_eq] at hb; exact hb.2.2.1
    suffices H : ∀ (d i : Nat) (w : Int), i + d = 16 → Ev (fun k => spec_WorstOf.l0 k w (i : Int) s m f v) (worstB s m v i w d) by
      have := H 16 0 (-1) (by omega)
      simp only [spec_WorstOf.f]
      exact Ev.eq this (by simp)
    intro d
    induction d with
    | zero =>
      intro i w hi
      refine Ev.pred (g := fun k => spec_WorstOf.l0 k w (i : Int) s m f v) ?_
      simp only [spec_WorstOf.l0]
      refine Ev.ifn (by omega) (Ev.pred (g := fun k => spec_WorstOf.j1 k _ _ _ _ _ _ _) ?_)
      simp only [spec_WorstOf.j1]
      exact Ev.ifn (by simp) (Ev.const rfl)
    | succ d ih =>
      intro i w hi
      refine Ev.pred (g := fun k => spec_WorstOf.l0 k w (i : Int) s m f v) ?_
      simp only [spec_WorstOf.l0]
      refine Ev.ifp (by omega) (Ev.bind hk (Ev.pred (g := fun k => spec_WorstOf.j1 k _ _ _ _ _ _ _) ?_))
      simp only [spec_WorstOf.j1, bitB_one, bitB_zero, rd_nat]
      refine Ev.ifp (by simp) (Ev.ifp (by omega) ?_)
      rw [wnext (n := 16) (by omega) (by omega)]
      simp only [worstB]
      by_cases h1 : bitB s (i : Int) = true
      · refine Ev.ifp h1 ?_
        by_cases h2 : bitB m (i : Int) = false
        · refine Ev.ifp h2 (Ev.ifp (by omega) ?_)
          rw [if_pos ⟨h1, h2⟩]; exact ih (i + 1) _ (by omega)
        · refine Ev.ifn h2 ?_
          rw [if_neg (fun h => h2 h.2)]; exact ih (i + 1) _ (by omega)
      · refine Ev.ifn h1 ?_
        rw [if_neg (fun h => h1 h.1)]; exact ih (i + 1) _ (by omega)
theorem implWorst_ev (s m f : Int) (v : List Int) : Ev (fun k => impl_WorstOf.f k s m f v) (if logB s m f v = true then worstB s m v 0 (-1) 16 else -1) := by
  simp only [impl_WorstOf.f]
  refine Ev.bind (implLogOk_ev s m f v) ?_
  cases hb : logB s m f v with
  | false => exact Ev.ifn (by simp) (Ev.const (by simp))
  | true =>
    have h16 : (v.length : Int) = 16 := by
      simp only [logB, Bool.and_eq_true, decide_eq_true_eq] at hb; exact hb.2.2.1
    refine Ev.ifp rfl ?_
    suffices H : ∀ (d i : Nat) (w : Int), i + d = 16 → Ev (fun k => impl_WorstOf.l0 k w v (v.length : Int) (i : Int) s m f v) (worstB s m v i w d) from Ev.eq (H 16 0 (-1) (by omega)) (by simp)
    intro d
    induction d with
    | zero =>
      intro i w hi
      refine Ev.pred (g := fun k => impl_WorstOf.l0 k w v (v.length : Int) (i : Int) s m f v) ?_
      simp only [impl_WorstOf.l0]
      exact Ev.ifn (by omega) (Ev.const rfl)
    | succ d ih =>
      intro i w hi
      refine Ev.pred (g := fun k => impl_WorstOf.l0 k w v (v.length : Int) (i : Int) s m f v) ?_
      simp only [impl_WorstOf.l0, isSet_eq s (i : Int) (by omega) (by omega), isSet_eq m (i : Int) (by omega) (by omega), rd_nat]
      refine Ev.ifp (by omega) (Ev.ifp (by omega) (Ev.ifp (by omega) (Ev.bnd rfl ?_)))
      rw [wnext (n := 16) (by omega) (by omega)]
      simp only [worstB]
      cases h1 : bitB s (i : Int) with
      | true =>
        refine Ev.ifp rfl (Ev.bnd rfl ?_)
        cases h2 : bitB m (i : Int) with
        | true =>
          refine Ev.ifp rfl ?_
          rw [if_neg (by simp)]; exact ih (i + 1) _ (by omega)
        | false =>
          refine Ev.ifn (by simp) ?_
          rw [if_pos (by simp)]; exact ih (i + 1) _ (by omega)
      | false =>
        refine Ev.ifn (by simp) ?_
        rw [if_neg (by simp)]; exact ih (i + 1) _ (by omega)
theorem FnExactWorstOf : ∀ (a0_0 : Int) (a0_1 : Int) (a0_2 : Int) (l0_3 : List (Int)), (Lit.int .i64 a0_0).wf = true → (Lit.int .i64 a0_1).wf = true → (Lit.int .i64 a0_2).wf = true → l0_3.length ≤ 9223372036854775807 → (∀ x ∈ l0_3, (Lit.int .i64 x).wf = true) → ∃ k, laws_FnExactWorstOf.f k a0_0 a0_1 a0_2 l0_3 = some true := by
  intro a b c l _ _ _ hl _
  obtain ⟨s, hs, hb⟩ := szLog_some a b c l 1048576 hl (by omega) (by omega)
  refine Ev.rounds ?_
  simp only [laws_FnExactWorstOf.f]
  refine Ev.bnd hs ?_
  by_cases cs : s < 0
  · exact Ev.ifp cs (Ev.now _)
  have t := toLog_ev a b c l (by omega)
  exact Ev.ifn cs (Ev.bind t (Ev.bind (specWorst_ev a b c l) (Ev.bind t (Ev.bind (implWorst_ev a b c l) (Ev.ifp rfl (Ev.bind t (Ev.bind (eqLog_refl a b c l (by omega)) (Ev.ifp rfl (Ev.now _)))))))))
end Go.Proofs.Ytbfkiggcemlmgaa.Pure

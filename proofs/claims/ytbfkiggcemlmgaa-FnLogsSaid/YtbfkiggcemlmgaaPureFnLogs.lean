/- the law of logs, by itself -/
import Derived.Test.YtbfkiggcemlmgaaPFnLogsx8
set_option linter.unusedVariables false
set_option linter.unusedSimpArgs false
namespace Go.Proofs.Ytbfkiggcemlmgaa.Pure
open Go.RowKit Go.Proofs.Ytbfkiggcemlmgaa.PFnLogs Go.Proofs.YtbfkiggcemlmgaaW.PrintWords Go.Proofs.YtbfkiggcemlmgaaW.PrintLast Go.Proofs.YtbfkiggcemlmgaaW.PrintMore
theorem w64 {x : Int} (h0 : -9223372036854775808 ≤ x) (h1 : x ≤ 9223372036854775807) : wrap64 x = x := by unfold wrap64; omega
theorem wnext {i n : Nat} (h : i < n) (hn : n ≤ 4611686018427387904) : wrap64 ((i : Int) + 1) = ((i + 1 : Nat) : Int) := by unfold wrap64; omega
/-- From K rounds on, these two are the same. -/
def Same {α : Type} (g f : Nat → Option α) : Prop := ∃ K, ∀ k, K ≤ k → g k = f k
theorem Same.now {α : Type} {g f : Nat → Option α} (h : ∀ k, g k = f k) : Same g f := ⟨0, fun k _ => h k⟩
theorem Same.trans {α : Type} {g f e : Nat → Option α} (h : Same g f) (h' : Same f e) : Same g e := by
  obtain ⟨K, h⟩ := h; obtain ⟨K', h'⟩ := h'
  exact ⟨max K K', fun k hk => (h k (by omega)).trans (h' k (by omega))⟩
theorem Same.ev {α : Type} {g f : Nat → Option α} {r : α} (h : Same g f) (e : Ev f r) : Ev g r := by
  obtain ⟨K, h⟩ := h; obtain ⟨K', e⟩ := e
  exact ⟨max K K', fun k hk => (h k (by omega)).trans (e k (by omega))⟩
theorem Same.bind {α β : Type} {g : Nat → Option α} {f : Nat → α → Option β} {a : α} (h : Ev g a) : Same (fun n => (g n).bind (f n)) (fun n => f n a) := by
  obtain ⟨K, h⟩ := h
  exact ⟨K, fun k hk => by simp only [h k hk, Option.bind_some]⟩
theorem Ev.pred {α : Type} {g : Nat → Option α} {r : α} (h : Ev (fun k => g (k + 1)) r) : Ev g r := Ev.step (f := fun k => g (k + 1)) (fun _ => rfl) h
theorem Same.pred {α : Type} {g : Nat → Option α} {f : Nat → Option α} {r : α} (h : Same (fun k => g (k + 1)) f) (e : Ev f r) : Ev g r := Ev.pred (h.ev e)
theorem Ev.ifp {α : Type} {c : Prop} [Decidable c] {g f : Nat → Option α} {r : α} (h : c) (e : Ev g r) : Ev (fun n => if c then g n else f n) r := by
  obtain ⟨K, e⟩ := e
  exact ⟨K, fun k hk => by dsimp only; rw [if_pos h]; exact e k hk⟩
theorem Ev.ifn {α : Type} {c : Prop} [Decidable c] {g f : Nat → Option α} {r : α} (h : ¬ c) (e : Ev f r) : Ev (fun n => if c then g n else f n) r := by
  obtain ⟨K, e⟩ := e
  exact ⟨K, fun k hk => by dsimp only; rw [if_neg h]; exact e k hk⟩
theorem Ev.const {α : Type} {a r : α} (h : a = r) : Ev (fun _ => some a) r := ⟨0, fun _ _ => by rw [h]⟩
theorem Ev.bnd {α β : Type} {x : Option α} {f : Nat → α → Option β} {a : α} {r : β} (h : x = some a) (k : Ev (fun n => f n a) r) : Ev (fun n => x.bind (f n)) r := Ev.bind (g := fun _ => x) ⟨0, fun _ _ => h⟩ k
theorem Ev.eq {α : Type} {g : Nat → Option α} {r r' : α} (h : Ev g r) (e : r = r') : Ev g r' := e ▸ h
theorem rd_nat (xs : List Int) (i : Nat) : rd xs (i : Int) = xs.getD i 0 := rfl
theorem drop_cons {α : Type} (d : α) (xs : List α) (i : Nat) (h : i < xs.length) : xs.drop i = xs.getD i d :: xs.drop (i + 1) := by
  rw [List.drop_eq_getElem_cons h, List.getD_eq_getElem?_getD, List.getElem?_eq_getElem h]; rfl
theorem and255 (x : Int) : 0 ≤ Go.bits .and .i64 x 255 ∧ Go.bits .and .i64 x 255 ≤ 255 := by
  have h : (BitVec.ofInt IntKind.i64.bits x &&& BitVec.ofInt IntKind.i64.bits 255).toNat ≤ 255 := by
    rw [BitVec.toNat_and]
    refine Nat.le_trans Nat.and_le_right ?_
    decide
  simp only [Go.bits]
  rw [IntKind.wrap_i64]
  omega
theorem l01New_ev (c : List Int) (hc : c.length ≤ 2000000) : ∃ s, Ev (fun k => spec_l01New.f k c) (c, 0, s) := by
  suffices H : ∀ (n i : Nat) (x : Int), i + n = 4000 → ∃ s, Ev (fun k => spec_l01New.l0 k c x (i : Int)) (c, 0, s) by
    obtain ⟨s, h⟩ := H 4000 0 (wrap64 (98663 + (c.length : Int))) (by omega)
    exact ⟨s, h⟩
  intro n
  induction n with
  | zero =>
    intro i x hi
    refine ⟨x, Ev.pred (g := fun k => spec_l01New.l0 k c x (i : Int)) ⟨0, fun k _ => ?_⟩⟩
    simp only [spec_l01New.l0]
    by_cases h : (i : Int) < (c.length : Int)
    · rw [if_pos h, if_neg (by omega)]
    · rw [if_neg h]
  | succ n ih =>
    intro i x hi
    by_cases h : (i : Int) < (c.length : Int)
    · obtain ⟨s, hs⟩ := ih (i + 1) (Go.bits .and .i64 (wrap64 ((wrap64 ((wrap64 (x * 131)) + (wrap64 (rd c (i : Int))))) + 7)) 1073741823) (by omega)
      refine ⟨s, Same.pred (g := fun k => spec_l01New.l0 k c x (i : Int)) (Same.now fun k => ?_) hs⟩
      simp only [spec_l01New.l0]
      rw [if_pos h, if_pos (by omega), if_pos (by omega), wnext (n := 4000) (by omega) (by omega)]
    · refine ⟨x, Ev.pred (g := fun k => spec_l01New.l0 k c x (i : Int)) ⟨0, fun k _ => ?_⟩⟩
      simp only [spec_l01New.l0]
      rw [if_neg h]
theorem l01Byte_some (c : List Int) (_hc : c.length ≤ 2000000) (p s : Int) (hp : 0 ≤ p) : ∃ b p' s', spec_l01Byte.f c p s = some (b, p', s') ∧ 0 ≤ b ∧ b ≤ 255 ∧ 0 ≤ p' := by
  unfold spec_l01Byte.f
  by_cases h : p < (c.length : Int)
  · rw [if_pos h, if_pos hp]
    exact ⟨_, _, _, rfl, (and255 _).1, (and255 _).2, by unfold wrap64; omega⟩
  · rw [if_neg h]
    exact ⟨_, _, _, rfl, (and255 _).1, (and255 _).2, hp⟩
theorem l01Below_some (c : List Int) (hc : c.length ≤ 2000000) (p s n : Int) (hp : 0 ≤ p) (hn : 0 < n) : ∃ v p' s', spec_l01Below.f c p s n = some (v, p', s') ∧ 0 ≤ v ∧ v < n ∧ 0 ≤ p' := by
  unfold spec_l01Below.f
  rw [if_neg (by omega)]
  by_cases h : n ≤ 256
  · obtain ⟨b, p', s', hb, h0, h1, h2⟩ := l01Byte_some c hc p s hp
    rw [if_pos h, hb]
    simp only [Option.bind_some]
    rw [if_neg (by omega)]
    exact ⟨_, _, _, rfl, Int.tmod_nonneg _ h0, Int.tmod_lt_of_pos _ hn, h2⟩
  · obtain ⟨b, p1, s1, hb, h0, h1, h2⟩ := l01Byte_some c hc p s hp
    obtain ⟨b2, p2, s2, hb2, h02, h12, h22⟩ := l01Byte_some c hc p1 s1 h2
    obtain ⟨b3, p3, s3, hb3, h03, h13, h23⟩ := l01Byte_some c hc p2 s2 h22
    obtain ⟨b4, p4, s4, hb4, h04, h14, h24⟩ := l01Byte_some c hc p3 s3 h23
    rw [if_neg h, hb]
    simp only [Option.bind_some, hb2, hb3, hb4]
    rw [if_neg (by omega)]
    refine ⟨_, _, _, rfl, Int.tmod_nonneg _ ?_, Int.tmod_lt_of_pos _ hn, h24⟩
    rw [w64 (x := b * 16777216) (by omega) (by omega), w64 (x := b2 * 65536) (by omega) (by omega), w64 (x := b3 * 256) (by omega) (by omega), w64 (x := b * 16777216 + b2 * 65536) (by omega) (by omega), w64 (x := b * 16777216 + b2 * 65536 + b3 * 256) (by omega) (by omega), w64 (by omega) (by omega)]
    omega
theorem drawPlaces_ev (c : List Int) (hc : c.length ≤ 2000000) : ∃ p : List Int, Ev (fun k => spec_DrawPlaces.f k c) p ∧ p.length = 12 ∧ ∀ i, i < 12 → 0 ≤ p.getD i 0 ∧ p.getD i 0 < 10000 := by
  obtain ⟨s0, h0⟩ := l01New_ev c hc
  suffices H : ∀ (n i : Nat) (x : List Int) (p s : Int), i + n = 12 → x.length = i → 0 ≤ p → (∀ j, j < i → 0 ≤ x.getD j 0 ∧ x.getD j 0 < 10000) →
      ∃ q : List Int, Ev (fun k => spec_DrawPlaces.l0 k x (i : Int) c p s) q ∧ q.length = 12 ∧ ∀ i, i < 12 → 0 ≤ q.getD i 0 ∧ q.getD i 0 < 10000 by
    obtain ⟨q, h1, h2, h3⟩ := H 12 0 [] 0 s0 (by omega) rfl (by omega) (fun j h => by omega)
    refine ⟨q, ?_, h2, h3⟩
    simp only [spec_DrawPlaces.f]
    exact Ev.bind h0 h1
  intro n
  induction n with
  | zero =>
    intro i x p s hi hx hp hr
    refine ⟨x, Ev.pred (g := fun k => spec_DrawPlaces.l0 k x (i : Int) c p s) ⟨0, fun k _ => ?_⟩, by omega, fun j hj => hr j (by omega)⟩
    simp only [spec_DrawPlaces.l0]; rw [if_neg (by omega)]
  | succ n ih =>
    intro i x p s hi hx hp hr
    obtain ⟨v, p', s', hv, g0, g1, g2⟩ := l01Below_some c hc p s 10000 hp (by omega)
    obtain ⟨q, h1, h2, h3⟩ := ih (i + 1) (x ++ [v]) p' s' (by omega) (by simp [hx]) g2 (fun j hj => by
      by_cases e : j < i
      · rw [List.getD_eq_getElem?_getD, List.getElem?_append_left (by omega), ← List.getD_eq_getElem?_getD]; exact hr j e
      · obtain rfl : j = x.length := by omega
        rw [List.getD_eq_getElem?_getD, List.getElem?_append_right (by omega)]; simpa using ⟨g0, g1⟩)
    refine ⟨q, Same.pred (g := fun k => spec_DrawPlaces.l0 k x (i : Int) c p s) (Same.now fun k => ?_) h1, h2, h3⟩
    simp only [spec_DrawPlaces.l0]
    rw [if_pos (by omega), hv]
    simp only [Option.bind_some]
    rw [if_pos (by omega), wnext (n := 12) (by omega) (by omega)]
theorem cloneInt (l : List Int) (hl : l.length ≤ 1048576) : slices_Clone_int_int.f l = some l := by
  simp only [slices_Clone_int_int.f, Option.bind_some]
  rw [if_pos (by simp; omega)]; rfl
theorem within_eq (a b c : Int) : impl_within.f a b c = some (decide (b ≤ a ∧ a ≤ c)) := by
  unfold impl_within.f
  by_cases h : a ≥ b
  · rw [if_pos h]; simp [h]
  · rw [if_neg h]; simp; omega
theorem l01In_eq (a b c : Int) : spec_l01In.f a b c = some (decide (b ≤ a ∧ a ≤ c)) := by
  unfold spec_l01In.f
  by_cases h : a ≥ b
  · rw [if_pos h]; simp [h]
  · rw [if_neg h]; simp; omega
/-- Bit k of x is set. -/
def bitB (x k : Int) : Bool := (Go.bits .and .i64 (shr .i64 x k) 1) == 1
theorem bitB_one (x k : Int) : ((Go.bits .and .i64 (shr .i64 x k) 1) = 1) ↔ bitB x k = true := by
  unfold bitB; simp
theorem wrap_u64 (n : Int) (h0 : 0 ≤ n) (h1 : n ≤ 1000000) : IntKind.u64.wrap n = n := by
  have : IntKind.u64.wrap n = n % 18446744073709551616 := by simp [IntKind.wrap, IntKind.bits, IntKind.signed]
  rw [this]; omega
/-- Severities. -/
def sevOk (l : List Int) : Bool := l.all fun x => decide (0 ≤ x ∧ x ≤ 2)
/-- A log is valid. -/
def logB (s m f : Int) (v : List Int) : Bool := decide (0 ≤ s ∧ s ≤ 65535) && (decide (0 ≤ m ∧ m ≤ 65535) && (decide ((v.length : Int) = 16) && (sevOk v && (if s = 0 then f == -1 else (decide (0 ≤ f ∧ f ≤ 15) && bitB s f)))))
theorem isSet_eq (x k : Int) (h0 : 0 ≤ k) (h1 : k ≤ 1000) : impl_isSet.f x k = some (bitB x k) := by
  simp only [impl_isSet.f, wrap_u64 k h0 (by omega)]
  rw [if_pos h0]; rfl
theorem isWord_eq (x : Int) : impl_isWord.f x = some (decide (0 ≤ x ∧ x ≤ 65535)) := by simp only [impl_isWord.f, within_eq, Option.bind_some]
theorem isError_eq (x : Int) : impl_isError.f x = some (decide (0 ≤ x ∧ x ≤ 15)) := by simp only [impl_isError.f, within_eq, Option.bind_some]
theorem implLogOk_ev (s m f : Int) (v : List Int) : Ev (fun k => impl_LogOk.f k s m f v) (logB s m f v) := by
  have no : ∀ {b : Bool}, b = false → Ev (fun k => impl_LogOk.j0 k true s m f v) b := fun h => by
    refine Ev.pred (g := fun k => impl_LogOk.j0 k _ _ _ _ _) ?_
    simp only [impl_LogOk.j0]
    exact Ev.ifp (by simp) (Ev.const h.symm)
  simp only [impl_LogOk.f, isWord_eq]
  refine Ev.bnd rfl ?_
  by_cases h1 : 0 ≤ s ∧ s ≤ 65535
  · refine Ev.ifp (by simpa using h1) (Ev.bnd rfl ?_)
    by_cases h2 : 0 ≤ m ∧ m ≤ 65535
    · refine Ev.ifp (by simpa using h2) ?_
      by_cases h3 : (v.length : Int) = 16
      · refine Ev.ifp h3 (Ev.bnd rfl ?_)
        cases h4 : sevOk v with
        | false =>
          have e : (v.any impl_LogOk_1.p) = true := by
            have : sevOk v = !(v.any impl_LogOk_1.p) := by rw [sevOk, List.all_eq_not_any_not]; rfl
            rw [h4] at this; simpa using this.symm
          rw [e]
          exact no (by simp only [logB, h4, Bool.false_and, Bool.and_false])
        | true =>
          have e : (v.any impl_LogOk_1.p) = false := by
            have : sevOk v = !(v.any impl_LogOk_1.p) := by rw [sevOk, List.all_eq_not_any_not]; rfl
            rw [h4] at this; simpa using this.symm
          rw [e]
          refine Ev.pred (g := fun k => impl_LogOk.j0 k _ _ _ _ _) ?_
          simp only [impl_LogOk.j0, isError_eq]
          refine Ev.ifn (by simp) ?_
          have el : logB s m f v = (if s = 0 then f == -1 else (decide (0 ≤ f ∧ f ≤ 15) && bitB s f)) := by
            simp only [logB, h4, decide_eq_true h1, decide_eq_true h2, decide_eq_true h3, Bool.true_and]
          rw [el]
          by_cases h5 : s = 0
          · exact Ev.ifp h5 (Ev.const (by rw [if_pos h5]))
          · refine Ev.ifn h5 (Ev.bnd rfl ?_)
            rw [if_neg h5]
            by_cases h6 : 0 ≤ f ∧ f ≤ 15
            · refine Ev.ifp (by simpa using h6) (Ev.bnd (isSet_eq s f h6.1 (by omega)) (Ev.const ?_))
              simp only [decide_eq_true h6, Bool.true_and]
            · exact Ev.ifn (by simpa using h6) (Ev.const (by simp only [decide_eq_false h6, Bool.false_and]))
      · exact Ev.ifn h3 (no (by simp only [logB, decide_eq_false h3, Bool.false_and, Bool.and_false]))
    · exact Ev.ifn (by simpa using h2) (no (by simp only [logB, decide_eq_false h2, Bool.false_and, Bool.and_false]))
  · exact Ev.ifn (by simpa using h1) (no (by simp only [logB, decide_eq_false h1, Bool.false_and]))
theorem specLogOk_ev (s m f : Int) (v : List Int) : Ev (fun k => spec_LogOk.f k s m f v) (logB s m f v) := by
  have no : ∀ {b : Bool}, b = false → Ev (fun k => spec_LogOk.j0 k true s m f v) b := fun h => by
    refine Ev.pred (g := fun k => spec_LogOk.j0 k _ _ _ _ _) ?_
    simp only [spec_LogOk.j0]
    exact Ev.ifp (by simp) (Ev.const h.symm)
  simp only [spec_LogOk.f, l01In_eq]
  refine Ev.bnd rfl ?_
  by_cases h1 : 0 ≤ s ∧ s ≤ 65535
  · refine Ev.ifp (by simpa using h1) (Ev.bnd rfl ?_)
    by_cases h2 : 0 ≤ m ∧ m ≤ 65535
    · refine Ev.ifp (by simpa using h2) ?_
      by_cases h3 : (v.length : Int) = 16
      · have e : ((v.length : Int) != 16) = false := by rw [h3]; rfl
        rw [e]
        refine Ev.pred (g := fun k => spec_LogOk.j0 k _ _ _ _ _) ?_
        simp only [spec_LogOk.j0]
        refine Ev.ifn (by simp) ?_
        have el : logB s m f v = (sevOk (v.drop 0) && (if s = 0 then f == -1 else (decide (0 ≤ f ∧ f ≤ 15) && bitB s f))) := by
          simp only [logB, decide_eq_true h1, decide_eq_true h2, decide_eq_true h3, Bool.true_and, List.drop_zero]
        rw [el]
        suffices H : ∀ (d i : Nat), i + d = v.length → Ev (fun k => spec_LogOk.l0 k (i : Int) s m f v) (sevOk (v.drop i) && (if s = 0 then f == -1 else (decide (0 ≤ f ∧ f ≤ 15) && bitB s f))) from H v.length 0 (by omega)
        intro d
        induction d with
        | zero =>
          intro i hi
          refine Ev.pred (g := fun k => spec_LogOk.l0 k (i : Int) s m f v) ?_
          simp only [spec_LogOk.l0, l01In_eq]
          refine Ev.ifn (by omega) ?_
          rw [List.drop_of_length_le (by omega)]
          simp only [sevOk, List.all_nil, Bool.true_and]
          by_cases h5 : s = 0
          · exact Ev.ifp h5 (Ev.const (by rw [if_pos h5]))
          · refine Ev.ifn h5 (Ev.bnd rfl ?_)
            rw [if_neg h5]
            by_cases h6 : 0 ≤ f ∧ f ≤ 15
            · refine Ev.ifp (by simpa using h6) (Ev.ifp h6.1 (Ev.const ?_))
              simp only [decide_eq_true h6, Bool.true_and]; rfl
            · exact Ev.ifn (by simpa using h6) (Ev.const (by simp only [decide_eq_false h6, Bool.false_and]))
        | succ d ih =>
          intro i hi
          have hd := drop_cons 0 v i (by omega)
          refine Ev.pred (g := fun k => spec_LogOk.l0 k (i : Int) s m f v) ?_
          simp only [spec_LogOk.l0, l01In_eq, rd_nat]
          refine Ev.ifp (by omega) (Ev.ifp (by omega) (Ev.ifp (by omega) (Ev.bnd rfl ?_)))
          rw [hd]
          by_cases h : 0 ≤ v.getD i 0 ∧ v.getD i 0 ≤ 2
          · refine Ev.ifp (by simpa using h) ?_
            rw [wnext (n := v.length) (by omega) (by omega)]
            exact Ev.eq (ih (i + 1) (by omega)) (by simp only [sevOk, List.all_cons, decide_eq_true h, Bool.true_and])
          · refine Ev.ifn (by simpa using h) (Ev.const ?_)
            simp only [sevOk, List.all_cons, decide_eq_false h, Bool.false_and]
      · have e : ((v.length : Int) != 16) = true := by simpa using h3
        rw [e]
        exact no (by simp only [logB, decide_eq_false h3, Bool.false_and, Bool.and_false])
    · exact Ev.ifn (by simpa using h2) (no (by simp only [logB, decide_eq_false h2, Bool.false_and, Bool.and_false]))
  · exact Ev.ifn (by simpa using h1) (no (by simp only [logB, decide_eq_false h1, Bool.false_and]))
/-- The greatest severity that is set and not masked, from place i on. -/
def worstB (s m : Int) (v : List Int) (i : Nat) (w : Int) : Nat → Int
  | 0 => w
  | d + 1 => worstB s m v (i + 1) (if bitB s (i : Int) = true ∧ bitB m (i : Int) = false then mx w (v.getD i 0) else w) d
theorem implWorst_ev (s m f : Int) (v : List Int) : Ev (fun k => impl_WorstOf.f k s m f v) (if logB s m f v = true then worstB s m v 0 (-1) 16 else -1) := by
  simp only [impl_WorstOf.f]
  refine Ev.bind (implLogOk_ev s m f v) ?_
  cases hb : logB s m f v with
  | false => exact Ev.ifn (by simp) (Ev.const (by simp))
  | true =>
    have h16 : (v.length : Int) = 16 := by
      simp only [logB, Bool.and_eq_true, decide_eq_true_eq] at hb; exact hb.2.2.1
    refine Ev.ifp rfl ?_
    suffices H : ∀ (d i : Nat) (w : Int), i + d = 16 → Ev (fun k => impl_WorstOf.l0 k w v (v.length : Int) (i : Int) s m f v) (worstB s m v i w d) from Ev.eq (H 16 0 (-1) (by omega)) (by simp)
    intro d
    induction d with
    | zero =>
      intro i w hi
      refine Ev.pred (g := fun k => impl_WorstOf.l0 k w v (v.length : Int) (i : Int) s m f v) ?_
      simp only [impl_WorstOf.l0]
      exact Ev.ifn (by omega) (Ev.const rfl)
    | succ d ih =>
      intro i w hi
      refine Ev.pred (g := fun k => impl_WorstOf.l0 k w v (v.length : Int) (i : Int) s m f v) ?_
      simp only [impl_WorstOf.l0, isSet_eq s (i : Int) (by omega) (by omega), isSet_eq m (i : Int) (by omega) (by omega), rd_nat]
      refine Ev.ifp (by omega) (Ev.ifp (by omega) (Ev.ifp (by omega) (Ev.bnd rfl ?_)))
      rw [wnext (n := 16) (by omega) (by omega)]
      simp only [worstB]
      cases h1 : bitB s (i : Int) with
      | true =>
        refine Ev.ifp rfl (Ev.bnd rfl ?_)
        cases h2 : bitB m (i : Int) with
        | true =>
          refine Ev.ifp rfl ?_
          rw [if_neg (by simp)]; exact ih (i + 1) _ (by omega)
        | false =>
          refine Ev.ifn (by simp) ?_
          rw [if_pos (by simp)]; exact ih (i + 1) _ (by omega)
      | false =>
        refine Ev.ifn (by simp) ?_
        rw [if_neg (by simp)]; exact ih (i + 1) _ (by omega)
theorem l32Copy_some (a b c : Int) (l : List Int) (hl : l.length ≤ 1048576) : spec_l32Copy.f a b c l = some (a, b, c, l) := by
  simp only [spec_l32Copy.f, Option.bind_some]
  rw [if_pos (by simp; omega)]; rfl
theorem copyLog_some (a b c : Int) (l : List Int) (hl : l.length ≤ 1048576) : impl_copyLog.f a b c l = some (a, b, c, l) := by
  simp only [impl_copyLog.f, cloneInt l hl, Option.bind_some]
/-- A report of error e. -/
def reportB (s m f : Int) (v : List Int) (e : Int) : Int × Int × Int × List Int × Int :=
  if logB s m f v = true ∧ 0 ≤ e ∧ e ≤ 15 then (Go.bits .or .i64 s (shl .i64 1 e), m, if s = 0 then e else f, v, if bitB m e = true then -1 else rd v e) else (s, m, f, v, -1)
theorem implReport_ev (s m f : Int) (v : List Int) (e : Int) (hl : v.length ≤ 1048576) : Ev (fun k => impl_ReportError.f k s m f v e) (reportB s m f v e) := by
  have no : reportB s m f v e = (s, m, f, v, -1) → Ev (fun k => impl_ReportError.j0 k e true s m f v s m f v) (reportB s m f v e) := fun h => by
    refine Ev.pred (g := fun k => impl_ReportError.j0 k _ _ _ _ _ _ _ _ _ _) ?_
    simp only [impl_ReportError.j0]
    exact Ev.ifp trivial (Ev.const h.symm)
  simp only [impl_ReportError.f]
  refine Ev.bnd (copyLog_some s m f v hl) (Ev.bind (implLogOk_ev s m f v) ?_)
  cases hb : logB s m f v with
  | false => exact Ev.ifn (by simp) (no (by simp [reportB, hb]))
  | true =>
    have h16 : (v.length : Int) = 16 := by
      simp only [logB, Bool.and_eq_true, decide_eq_true_eq] at hb; exact hb.2.2.1
    refine Ev.ifp rfl (Ev.bnd (isError_eq e) ?_)
    by_cases he : 0 ≤ e ∧ e ≤ 15
    · rw [decide_eq_true he]
      refine Ev.pred (g := fun k => impl_ReportError.j0 k _ _ _ _ _ _ _ _ _ _) ?_
      simp only [impl_ReportError.j0, wrap_u64 e he.1 (by omega), isSet_eq m e he.1 (by omega)]
      refine Ev.ifn (by simp) ?_
      have er : reportB s m f v e = (Go.bits .or .i64 s (shl .i64 1 e), m, if s = 0 then e else f, v, if bitB m e = true then -1 else rd v e) := by
        unfold reportB; rw [if_pos ⟨hb, he⟩]
      rw [er]
      by_cases hs : s = 0
      · refine Ev.ifp hs (Ev.ifp he.1 (Ev.bnd rfl ?_))
        rw [if_pos hs]
        by_cases hm : bitB m e = true
        · exact Ev.ifp hm (Ev.const (by rw [if_pos hm]))
        · exact Ev.ifn hm (Ev.ifp he.1 (Ev.ifp (by omega) (Ev.const (by rw [if_neg hm]))))
      · refine Ev.ifn hs (Ev.ifp he.1 (Ev.bnd rfl ?_))
        rw [if_neg hs]
        by_cases hm : bitB m e = true
        · exact Ev.ifp hm (Ev.const (by rw [if_pos hm]))
        · exact Ev.ifn hm (Ev.ifp he.1 (Ev.ifp (by omega) (Ev.const (by rw [if_neg hm]))))
    · rw [decide_eq_false he]
      exact no (by unfold reportB; rw [if_neg (fun h => he h.2)])
theorem specReport_ev (s m f : Int) (v : List Int) (e : Int) (hl : v.length ≤ 1048576) : Ev (fun k => spec_ReportError.f k s m f v e) (reportB s m f v e) := by
  have no : reportB s m f v e = (s, m, f, v, -1) → Ev (fun k => spec_ReportError.j0 k e true s m f v s m f v) (reportB s m f v e) := fun h => by
    refine Ev.pred (g := fun k => spec_ReportError.j0 k _ _ _ _ _ _ _ _ _ _) ?_
    simp only [spec_ReportError.j0]
    exact Ev.ifp trivial (Ev.const h.symm)
  simp only [spec_ReportError.f]
  refine Ev.bnd (l32Copy_some s m f v hl) (Ev.bind (specLogOk_ev s m f v) ?_)
  cases hb : logB s m f v with
  | false => exact Ev.ifn (by simp) (no (by simp [reportB, hb]))
  | true =>
    have h16 : (v.length : Int) = 16 := by
      simp only [logB, Bool.and_eq_true, decide_eq_true_eq] at hb; exact hb.2.2.1
    refine Ev.ifp rfl (Ev.bnd (l01In_eq e 0 15) ?_)
    by_cases he : 0 ≤ e ∧ e ≤ 15
    · rw [decide_eq_true he]
      refine Ev.pred (g := fun k => spec_ReportError.j0 k _ _ _ _ _ _ _ _ _ _) ?_
      simp only [spec_ReportError.j0, bitB_one]
      refine Ev.ifn (by simp) ?_
      have er : reportB s m f v e = (Go.bits .or .i64 s (shl .i64 1 e), m, if s = 0 then e else f, v, if bitB m e = true then -1 else rd v e) := by
        unfold reportB; rw [if_pos ⟨hb, he⟩]
      rw [er]
      by_cases hs : s = 0
      · refine Ev.ifp hs (Ev.ifp he.1 ?_)
        rw [if_pos hs]
        by_cases hm : bitB m e = true
        · exact Ev.ifp hm (Ev.const (by rw [if_pos hm]))
        · exact Ev.ifn hm (Ev.ifp (by omega) (Ev.const (by rw [if_neg hm])))
      · refine Ev.ifn hs (Ev.ifp he.1 ?_)
        rw [if_neg hs]
        by_cases hm : bitB m e = true
        · exact Ev.ifp hm (Ev.const (by rw [if_pos hm]))
        · exact Ev.ifn hm (Ev.ifp (by omega) (Ev.const (by rw [if_neg hm])))
    · rw [decide_eq_false he]
      exact no (by unfold reportB; rw [if_neg (fun h => he h.2)])
theorem or_nat (a b : Nat) (ha : a < 65536) (hb : b < 65536) : Go.bits .or .i64 (a : Int) (b : Int) = ((a ||| b : Nat) : Int) := (bits_nat .i64 16 (by decide) (fun n h0 h1 => by rw [IntKind.wrap_i64]; omega) a b ha hb).2
theorem and_nat1 (a : Nat) (ha : a < 65536) : Go.bits .and .i64 (a : Int) 1 = ((a &&& 1 : Nat) : Int) := (bits_nat .i64 16 (by decide) (fun n h0 h1 => by rw [IntKind.wrap_i64]; omega) a 1 ha (by decide)).1
theorem shr_nat (s k : Nat) (hk : k ≤ 15) : shr .i64 (s : Int) (k : Int) = ((s / 2 ^ k : Nat) : Int) := by
  unfold shr
  rw [Nat.min_eq_left (by simp only [IntKind.bits]; omega), Int.toNat_natCast]; simp
theorem bitB_nat (s k : Nat) (hs : s < 65536) (hk : k ≤ 15) : bitB (s : Int) (k : Int) = s.testBit k := by
  unfold bitB
  rw [shr_nat s k hk, and_nat1 _ (Nat.lt_of_le_of_lt (Nat.div_le_self _ _) hs), Nat.testBit_eq_decide_div_mod_eq, Nat.and_one_is_mod]
  generalize s / 2 ^ k % 2 = q
  rw [Bool.eq_iff_iff]; simp; omega
theorem shl_nat (e : Nat) (he : e ≤ 15) : shl .i64 1 (e : Int) = ((2 ^ e : Nat) : Int) := by
  have h : ∀ e : Fin 16, shl .i64 1 ((e.val : Nat) : Int) = ((2 ^ e.val : Nat) : Int) := by decide
  exact h ⟨e, by omega⟩
theorem pow_lt (e : Nat) (he : e ≤ 15) : 2 ^ e < 65536 := Nat.pow_lt_pow_right (a := 2) (n := 16) (by decide) (by omega)
/-- Setting one more bit. -/
theorem set_bit (s e : Int) (hs : 0 ≤ s ∧ s ≤ 65535) (he : 0 ≤ e ∧ e ≤ 15) : ∃ t : Int, Go.bits .or .i64 s (shl .i64 1 e) = t ∧ (0 ≤ t ∧ t ≤ 65535) ∧ (∀ j : Int, 0 ≤ j → j ≤ 15 → bitB t j = (bitB s j || decide (e = j))) ∧ Go.bits .or .i64 t s = t ∧ t ≠ 0 := by
  obtain ⟨S, rfl⟩ : ∃ n : Nat, s = n := ⟨s.toNat, by omega⟩
  obtain ⟨E, rfl⟩ : ∃ n : Nat, e = n := ⟨e.toNat, by omega⟩
  have hS : S < 65536 := by omega
  have hE : E ≤ 15 := by omega
  have hT : S ||| 2 ^ E < 65536 := Nat.or_lt_two_pow (n := 16) hS (pow_lt E hE)
  have hb : ∀ j : Int, 0 ≤ j → j ≤ 15 → bitB ((S ||| 2 ^ E : Nat) : Int) j = (bitB (S : Int) j || decide ((E : Int) = j)) := by
    intro j h0 h1
    obtain ⟨J, rfl⟩ : ∃ n : Nat, j = n := ⟨j.toNat, by omega⟩
    rw [bitB_nat _ J hT (by omega), bitB_nat S J hS (by omega), Nat.testBit_or, Nat.testBit_two_pow]
    congr 1
    rw [Bool.eq_iff_iff]; simp only [decide_eq_true_eq]; omega
  refine ⟨((S ||| 2 ^ E : Nat) : Int), ?_, by omega, hb, ?_, ?_⟩
  · rw [shl_nat E hE, or_nat S (2 ^ E) hS (pow_lt E hE)]
  · rw [or_nat _ S hT hS, Nat.or_assoc, Nat.or_comm (2 ^ E) S, ← Nat.or_assoc, Nat.or_self]
  · intro h
    have h1 := hb (E : Int) (by omega) (by omega)
    rw [h] at h1
    have : bitB 0 (E : Int) = false := by
      have := bitB_nat 0 E (by omega) hE
      rw [Nat.zero_testBit] at this; exact this
    rw [this] at h1; simp at h1
theorem mx_le (a b : Int) : a ≤ mx a b ∧ b ≤ mx a b := by unfold mx; split <;> omega
theorem mx_mono {a a' b : Int} (h : a ≤ a') : mx a b ≤ mx a' b := by unfold mx; split <;> split <;> omega
theorem worst_ge (s m : Int) (v : List Int) : ∀ (d i : Nat) (w : Int), w ≤ worstB s m v i w d := by
  intro d
  induction d with
  | zero => intro i w; exact Int.le_refl _
  | succ d ih =>
    intro i w
    simp only [worstB]
    refine Int.le_trans ?_ (ih _ _)
    split
    · exact (mx_le _ _).1
    · exact Int.le_refl _
theorem worst_mono (s t m : Int) (v : List Int) (hst : ∀ j : Int, 0 ≤ j → j ≤ 15 → bitB s j = true → bitB t j = true) : ∀ (d i : Nat) (w w' : Int), i + d ≤ 16 → w ≤ w' → worstB s m v i w d ≤ worstB t m v i w' d := by
  intro d
  induction d with
  | zero => intro i w w' _ h; exact h
  | succ d ih =>
    intro i w w' hi h
    simp only [worstB]
    refine ih (i + 1) _ _ (by omega) ?_
    by_cases c : bitB s (i : Int) = true ∧ bitB m (i : Int) = false
    · rw [if_pos c, if_pos ⟨hst _ (by omega) (by omega) c.1, c.2⟩]; exact mx_mono h
    · rw [if_neg c]
      split
      · exact Int.le_trans h (mx_le _ _).1
      · exact h
theorem worst_has (t m : Int) (v : List Int) (e : Nat) (h1 : bitB t (e : Int) = true) (h2 : bitB m (e : Int) = false) : ∀ (d i : Nat) (w : Int), i ≤ e → e < i + d → v.getD e 0 ≤ worstB t m v i w d := by
  intro d
  induction d with
  | zero => intro i w h h'; omega
  | succ d ih =>
    intro i w h h'
    simp only [worstB]
    by_cases c : i = e
    · subst c
      rw [if_pos ⟨h1, h2⟩]
      exact Int.le_trans (mx_le _ _).2 (worst_ge _ _ _ _ _ _)
    · exact ih (i + 1) _ (by omega) (by omega)
theorem sev_get (v : List Int) (h : sevOk v = true) (e : Nat) (he : e < v.length) : 0 ≤ v.getD e 0 ∧ v.getD e 0 ≤ 2 := by
  simp only [sevOk, List.all_eq_true, decide_eq_true_eq] at h
  rw [List.getD_eq_getElem?_getD, List.getElem?_eq_getElem he]
  exact h _ (List.getElem_mem he)
/-- What a report gives, of a valid log. -/
theorem report_good (s m f : Int) (v : List Int) (e : Int) (h : logB s m f v = true) (he : 0 ≤ e ∧ e ≤ 15) : ∃ t : Int, reportB s m f v e = (t, m, if s = 0 then e else f, v, if bitB m e = true then -1 else rd v e) ∧ logB t m (if s = 0 then e else f) v = true ∧ bitB t e = true ∧ Go.bits .or .i64 t s = t ∧ (∀ j : Int, 0 ≤ j → j ≤ 15 → bitB s j = true → bitB t j = true) := by
  have hl := h
  simp only [logB, Bool.and_eq_true, decide_eq_true_eq] at hl
  obtain ⟨t, h1, h2, h3, h4, h5⟩ := set_bit s e hl.1 he
  have hte : bitB t e = true := by rw [h3 e he.1 he.2]; simp
  refine ⟨t, ?_, ?_, hte, h4, fun j j0 j1 hj => by rw [h3 j j0 j1, hj]; rfl⟩
  · unfold reportB; rw [if_pos ⟨h, he⟩, h1]
  · have hs := hl.2.2.2.2
    simp only [logB, Bool.and_eq_true, decide_eq_true_eq]
    refine ⟨h2, hl.2.1, hl.2.2.1, hl.2.2.2.1, ?_⟩
    rw [if_neg h5]
    by_cases c : s = 0
    · rw [if_pos c, hte, decide_eq_true he]; rfl
    · rw [if_neg c] at hs ⊢
      simp only [Bool.and_eq_true, decide_eq_true_eq] at hs
      rw [decide_eq_true hs.1, h3 f hs.1.1 hs.1.2, hs.2]; rfl
theorem pickInt_some (c : List Int) (hc : c.length ≤ 2000000) (p s : Int) (l : List Int) (hp : 0 ≤ p) (hl : 0 < l.length) : ∃ v p' s', spec_l01PickInt.f c p s l = some (v, p', s') ∧ v ∈ l ∧ 0 ≤ p' := by
  obtain ⟨i, p', s', h, h0, h1, h2⟩ := l01Below_some c hc p s (l.length : Int) hp (by omega)
  refine ⟨rd l i, p', s', ?_, ?_, h2⟩
  · simp only [spec_l01PickInt.f, h, Option.bind_some]
    rw [if_pos h0, if_pos h1]
  · obtain ⟨n, rfl⟩ : ∃ n : Nat, i = n := ⟨i.toNat, by omega⟩
    rw [rd_nat, List.getD_eq_getElem?_getD, List.getElem?_eq_getElem (by omega)]
    exact List.getElem_mem _
theorem l32_l1 (c : List Int) (hc : c.length ≤ 2000000) : ∀ (d i : Nat) (p s a m f : Int) (v : List Int), i + d = 4 → 0 ≤ p → logB a m f v = true → ∃ q : Int × Int × Int × List Int × Int × Int, Ev (fun k => spec_l32Log.l1 k (i : Int) c p s a m f v) q ∧ logB q.1 q.2.1 q.2.2.1 q.2.2.2.1 = true := by
  intro d
  induction d with
  | zero =>
    intro i p s a m f v hi hp hb
    obtain ⟨n, p', s', h, h0, h1, h2⟩ := l01Below_some c hc p s 5 hp (by omega)
    refine ⟨(a, m, f, v, p', s'), Ev.pred (g := fun k => spec_l32Log.l1 k (i : Int) c p s a m f v) ?_, hb⟩
    simp only [spec_l32Log.l1]
    exact Ev.bnd h (Ev.ifn (by omega) (Ev.now _))
  | succ d ih =>
    intro i p s a m f v hi hp hb
    have h16 : (v.length : Int) = 16 := by
      have := hb
      simp only [logB, Bool.and_eq_true, decide_eq_true_eq] at this; exact this.2.2.1
    obtain ⟨n, p', s', h, h0, h1, h2⟩ := l01Below_some c hc p s 5 hp (by omega)
    by_cases cn : (i : Int) < n
    · obtain ⟨e, p2, s2, g, g0, g1, g2⟩ := l01Below_some c hc p' s' 16 h2 (by omega)
      obtain ⟨t, ht, hg, _⟩ := report_good a m f v e hb ⟨g0, by omega⟩
      obtain ⟨q, hq, hqb⟩ := ih (i + 1) p2 s2 t m (if a = 0 then e else f) v (by omega) g2 hg
      refine ⟨q, Ev.pred (g := fun k => spec_l32Log.l1 k (i : Int) c p s a m f v) ?_, hqb⟩
      simp only [spec_l32Log.l1]
      refine Ev.bnd h (Ev.ifp cn (Ev.bnd g (Ev.bind (Ev.eq (specReport_ev a m f v e (by omega)) ht) ?_)))
      rw [wnext (n := 16) (by omega) (by omega)]
      exact hq
    · refine ⟨(a, m, f, v, p', s'), Ev.pred (g := fun k => spec_l32Log.l1 k (i : Int) c p s a m f v) ?_, hb⟩
      simp only [spec_l32Log.l1]
      exact Ev.bnd h (Ev.ifn cn (Ev.now _))
theorem l32_l0 (c : List Int) (hc : c.length ≤ 2000000) (m : Int) (hm : 0 ≤ m ∧ m ≤ 65535) : ∀ (d i : Nat) (p s : Int) (v : List Int), i + d = 16 → v.length = i → 0 ≤ p → sevOk v = true → ∃ q : Int × Int × Int × List Int × Int × Int, Ev (fun k => spec_l32Log.l0 k (i : Int) c p s 0 m (-1) v) q ∧ logB q.1 q.2.1 q.2.2.1 q.2.2.2.1 = true := by
  intro d
  induction d with
  | zero =>
    intro i p s v hi hv hp hs
    obtain ⟨q, hq, hb⟩ := l32_l1 c hc 4 0 p s 0 m (-1) v rfl hp (by
      simp only [logB, Bool.and_eq_true, decide_eq_true_eq]
      exact ⟨by omega, hm, by omega, hs, by simp⟩)
    refine ⟨q, Ev.pred (g := fun k => spec_l32Log.l0 k (i : Int) c p s 0 m (-1) v) ?_, hb⟩
    simp only [spec_l32Log.l0]
    exact Ev.ifn (by omega) hq
  | succ d ih =>
    intro i p s v hi hv hp hs
    obtain ⟨n, p', s', h, h0, h1, h2⟩ := l01Below_some c hc p s 3 hp (by omega)
    obtain ⟨q, hq, hb⟩ := ih (i + 1) p' s' (v ++ [n]) (by omega) (by simp [hv]) h2 (by
      simp only [sevOk, List.all_append, List.all_cons, List.all_nil, Bool.and_true, Bool.and_eq_true]
      exact ⟨hs, by simpa using (⟨h0, by omega⟩ : 0 ≤ n ∧ n ≤ 2)⟩)
    refine ⟨q, Ev.pred (g := fun k => spec_l32Log.l0 k (i : Int) c p s 0 m (-1) v) ?_, hb⟩
    simp only [spec_l32Log.l0]
    refine Ev.ifp (by omega) (Ev.bnd h (Ev.ifp (by omega) ?_))
    rw [wnext (n := 16) (by omega) (by omega)]
    exact hq
theorem drawLog_ev (c : List Int) (hc : c.length ≤ 2000000) : ∃ s m f v, Ev (fun k => spec_DrawLog.f k c) (s, m, f, v) ∧ logB s m f v = true := by
  obtain ⟨z, hz⟩ := l01New_ev c hc
  obtain ⟨m, p', s', h, hm, hp⟩ := pickInt_some c hc 0 z [0, 1, 4369, 65535] (by omega) (by simp)
  have hm' : 0 ≤ m ∧ m ≤ 65535 := by simp at hm; omega
  obtain ⟨q, hq, hb⟩ := l32_l0 c hc m hm' 16 0 p' s' [] (by omega) rfl hp rfl
  obtain ⟨a, b, f, v, x, y⟩ := q
  refine ⟨a, b, f, v, ?_, hb⟩
  simp only [spec_DrawLog.f]
  refine Ev.bind hz (Ev.bind (a := (a, b, f, v, x, y)) ?_ (Ev.now _))
  simp only [spec_l32Log.f]
  exact Ev.bnd h hq
theorem FnLogs : ∀ (l0 : List (Int)), l0.length ≤ 9223372036854775807 → (∀ x ∈ l0, (Lit.int .u8 x).wf = true) → ∃ k, laws_FnLogs.f k l0 = some true := by
  intro c hc1 hw
  refine Ev.rounds ?_
  simp only [laws_FnLogs.f, laws_big.f]
  by_cases hb : (c.length : Int) > 1048576
  · exact Ev.bnd rfl (Ev.ifp (by simpa using hb) (Ev.now _))
  refine Ev.bnd rfl (Ev.ifn (by simpa using hb) ?_)
  obtain ⟨s, m, f, v, hd, hg⟩ := drawLog_ev c (by omega)
  obtain ⟨p, hp, hpl, hpr⟩ := drawPlaces_ev c (by omega)
  have h16 : (v.length : Int) = 16 := by
    have := hg
    simp only [logB, Bool.and_eq_true, decide_eq_true_eq] at this; exact this.2.2.1
  have hsev : sevOk v = true := by
    have := hg
    simp only [logB, Bool.and_eq_true, decide_eq_true_eq] at this; exact this.2.2.2.1
  have he : 0 ≤ Int.tmod (rd p 0) 16 ∧ Int.tmod (rd p 0) 16 ≤ 15 := by
    have h0 : 0 ≤ rd p 0 := (hpr 0 (by omega)).1
    have h1 := Int.tmod_nonneg (16 : Int) h0
    have h2 := Int.tmod_lt_of_pos (rd p 0) (b := 16) (by omega)
    omega
  refine Ev.bind hd (Ev.bind hp (Ev.ifp (by omega) ?_))
  generalize Int.tmod (rd p 0) 16 = e at he ⊢
  obtain ⟨t, ht, htg, hte, hto, htm⟩ := report_good s m f v e hg he
  have g1 := implReport_ev s m f v e (by omega)
  rw [ht] at g1
  have k1 := implLogOk_ev s m f v
  rw [hg] at k1
  have k2 := implLogOk_ev t m (if s = 0 then e else f) v
  rw [htg] at k2
  have w1 := implWorst_ev s m f v
  rw [hg, if_pos rfl] at w1
  have w2 := implWorst_ev t m (if s = 0 then e else f) v
  rw [htg, if_pos rfl] at w2
  have hww : worstB s m v 0 (-1) 16 ≤ worstB t m v 0 (-1) 16 := worst_mono s t m v htm 16 0 (-1) (-1) (by omega) (Int.le_refl _)
  have j : Ev (fun k => laws_FnLogs.j0 k e (if bitB m e = true then -1 else rd v e) false s m f v t m (if s = 0 then e else f) v) true := by
    refine Ev.pred (g := fun k => laws_FnLogs.j0 k _ _ _ _ _ _ _ _ _ _ _) ?_
    simp only [laws_FnLogs.j0]
    refine Ev.ifn (by simp) (Ev.ifp he.1 ?_)
    obtain ⟨n, rfl⟩ : ∃ n : Nat, e = n := ⟨e.toNat, by omega⟩
    have hv := sev_get v hsev n (by omega)
    cases hm : bitB m (n : Int) with
    | true =>
      have hm1 := (bitB_one m (n : Int)).mpr hm
      refine Ev.ifp ?_ (Ev.ifp (if_pos rfl) (Ev.bind w2 (Ev.bind w1 (Ev.const (by simpa using hww)))))
      rw [hm1]; rfl
    | false =>
      have hm1 : ¬ (Go.bits .and .i64 (shr .i64 m (n : Int)) 1) = 1 := fun h => by rw [(bitB_one m (n : Int)).mp h] at hm; cases hm
      simp only [Bool.false_eq_true, ↓reduceIte, rd_nat]
      refine Ev.ifp ?_ (Ev.ifn (by omega) (Ev.ifp (show (n : Int) < (v.length : Int) by omega) (Ev.bind w2 (Ev.ifp ?_ (Ev.bind w2 (Ev.bind w1 (Ev.const (by simpa using hww))))))))
      · have a1 : (v.getD n 0 == -1) = false := beq_eq_false_iff_ne.mpr (by omega)
        have a2 : (Go.bits .and .i64 (shr .i64 m (n : Int)) 1 == 1) = false := by simpa using hm1
        rw [a1, a2]; rfl
      · exact worst_has t m v n hte hm 16 0 (-1) (by omega) (by omega)
  refine Ev.bind g1 (Ev.bind k1 (Ev.ifp rfl (Ev.bind k2 (Ev.ifp rfl (Ev.ifp he.1 (Ev.ifp ((bitB_one t e).mpr hte) (Ev.ifp hto ?_)))))))
  by_cases hs : s = 0
  · refine Ev.ifp hs ?_
    have e1 : ((if s = 0 then e else f) != e) = false := by rw [if_pos hs]; simp
    simp only [e1]
    exact j
  · refine Ev.ifn hs (Ev.ifp (if_neg hs) ?_)
    exact j
end Go.Proofs.Ytbfkiggcemlmgaa.Pure

/- A tag that is taken was free and is busy then; freeing it once gives the tags back; without a free tag all are busy. -/
import Derived.Test.YtckpkjpcnlampaaPFnTagsx3
set_option linter.unusedVariables false
set_option linter.unusedSimpArgs false
namespace Go.Proofs.Ytckpkjpcnlampaa.Pure
open Go.RowKit Go.Proofs.Ytckpkjpcnlampaa.PFnTags Go.Proofs.YtckpkjpcnlampaaW.PrintWords Go.Proofs.YtckpkjpcnlampaaW.PrintLast Go.Proofs.YtckpkjpcnlampaaW.PrintMore
theorem w64 {x : Int} (h0 : -9223372036854775808 ≤ x) (h1 : x ≤ 9223372036854775807) : wrap64 x = x := by unfold wrap64; omega
theorem wnext {i n : Nat} (h : i < n) (hn : n ≤ 4611686018427387904) : wrap64 ((i : Int) + 1) = ((i + 1 : Nat) : Int) := by unfold wrap64; omega
/-- From K rounds on, these two are the same. -/
def Same {α : Type} (g f : Nat → Option α) : Prop := ∃ K, ∀ k, K ≤ k → g k = f k
theorem Same.now {α : Type} {g f : Nat → Option α} (h : ∀ k, g k = f k) : Same g f := ⟨0, fun k _ => h k⟩
theorem Same.trans {α : Type} {g f e : Nat → Option α} (h : Same g f) (h' : Same f e) : Same g e := by
  obtain ⟨K, h⟩ := h; obtain ⟨K', h'⟩ := h'
  exact ⟨max K K', fun k hk => (h k (by omega)).trans (h' k (by omega))⟩
theorem Same.ev {α : Type} {g f : Nat → Option α} {r : α} (h : Same g f) (e : Ev f r) : Ev g r := by
  obtain ⟨K, h⟩ := h; obtain ⟨K', e⟩ := e
  exact ⟨max K K', fun k hk => (h k (by omega)).trans (e k (by omega))⟩
theorem Same.bind {α β : Type} {g : Nat → Option α} {f : Nat → α → Option β} {a : α} (h : Ev g a) : Same (fun n => (g n).bind (f n)) (fun n => f n a) := by
  obtain ⟨K, h⟩ := h
  exact ⟨K, fun k hk => by simp only [h k hk, Option.bind_some]⟩
theorem Ev.pred {α : Type} {g : Nat → Option α} {r : α} (h : Ev (fun k => g (k + 1)) r) : Ev g r := Ev.step (f := fun k => g (k + 1)) (fun _ => rfl) h
theorem Same.pred {α : Type} {g : Nat → Option α} {f : Nat → Option α} {r : α} (h : Same (fun k => g (k + 1)) f) (e : Ev f r) : Ev g r := Ev.pred (h.ev e)
theorem Ev.ifp {α : Type} {c : Prop} [Decidable c] {g f : Nat → Option α} {r : α} (h : c) (e : Ev g r) : Ev (fun n => if c then g n else f n) r := by
  obtain ⟨K, e⟩ := e
  exact ⟨K, fun k hk => by dsimp only; rw [if_pos h]; exact e k hk⟩
theorem Ev.ifn {α : Type} {c : Prop} [Decidable c] {g f : Nat → Option α} {r : α} (h : ¬ c) (e : Ev f r) : Ev (fun n => if c then g n else f n) r := by
  obtain ⟨K, e⟩ := e
  exact ⟨K, fun k hk => by dsimp only; rw [if_neg h]; exact e k hk⟩
theorem Ev.const {α : Type} {a r : α} (h : a = r) : Ev (fun _ => some a) r := ⟨0, fun _ _ => by rw [h]⟩
theorem Ev.bnd {α β : Type} {x : Option α} {f : Nat → α → Option β} {a : α} {r : β} (h : x = some a) (k : Ev (fun n => f n a) r) : Ev (fun n => x.bind (f n)) r := Ev.bind (g := fun _ => x) ⟨0, fun _ _ => h⟩ k
theorem rdOf_nat {α : Type} (d : α) (xs : List α) (i : Nat) : rdOf d xs (i : Int) = xs.getD i d := rfl
theorem drop_cons {α : Type} (d : α) (xs : List α) (i : Nat) (h : i < xs.length) : xs.drop i = xs.getD i d :: xs.drop (i + 1) := by
  rw [List.drop_eq_getElem_cons h, List.getD_eq_getElem?_getD, List.getElem?_eq_getElem h]; rfl
theorem getD_set {α : Type} (d : α) (xs : List α) (i j : Nat) (v : α) (h : i < xs.length) : (xs.set i v).getD j d = if j = i then v else xs.getD j d := by
  rw [List.getD_eq_getElem?_getD, List.getD_eq_getElem?_getD, List.getElem?_set]
  by_cases e : j = i
  · subst e; rw [if_pos rfl, if_pos rfl, if_pos h]; rfl
  · rw [if_neg e, if_neg (by omega)]
theorem and255 (x : Int) : 0 ≤ Go.bits .and .i64 x 255 ∧ Go.bits .and .i64 x 255 ≤ 255 := by
  have h : (BitVec.ofInt IntKind.i64.bits x &&& BitVec.ofInt IntKind.i64.bits 255).toNat ≤ 255 := by
    rw [BitVec.toNat_and]
    refine Nat.le_trans Nat.and_le_right ?_
    decide
  simp only [Go.bits]
  rw [IntKind.wrap_i64]
  omega
theorem l01New_ev (c : List Int) (hc : c.length ≤ 2000000) : ∃ s, Ev (fun k => spec_l01New.f k c) (c, 0, s) := by
  suffices H : ∀ (n i : Nat) (x : Int), i + n = 4000 → ∃ s, Ev (fun k => spec_l01New.l0 k c x (i : Int)) (c, 0, s) by
    obtain ⟨s, h⟩ := H 4000 0 (wrap64 (98663 + (c.length : Int))) (by omega)
    exact ⟨s, h⟩
  intro n
  induction n with
  | zero =>
    intro i x hi
    refine ⟨x, Ev.pred (g := fun k => spec_l01New.l0 k c x (i : Int)) ⟨0, fun k _ => ?_⟩⟩
    simp only [spec_l01New.l0]
    by_cases h : (i : Int) < (c.length : Int)
    · rw [if_pos h, if_neg (by omega)]
    · rw [if_neg h]
  | succ n ih =>
    intro i x hi
    by_cases h : (i : Int) < (c.length : Int)
    · obtain ⟨s, hs⟩ := ih (i + 1) (Go.bits .and .i64 (wrap64 ((wrap64 ((wrap64 (x * 131)) + (wrap64 (rd c (i : Int))))) + 7)) 1073741823) (by omega)
      refine ⟨s, Same.pred (g := fun k => spec_l01New.l0 k c x (i : Int)) (Same.now fun k => ?_) hs⟩
      simp only [spec_l01New.l0]
      rw [if_pos h, if_pos (by omega), if_pos (by omega), wnext (n := 4000) (by omega) (by omega)]
    · refine ⟨x, Ev.pred (g := fun k => spec_l01New.l0 k c x (i : Int)) ⟨0, fun k _ => ?_⟩⟩
      simp only [spec_l01New.l0]
      rw [if_neg h]
theorem l01Byte_some (c : List Int) (_hc : c.length ≤ 2000000) (p s : Int) (hp : 0 ≤ p) : ∃ b p' s', spec_l01Byte.f c p s = some (b, p', s') ∧ 0 ≤ b ∧ b ≤ 255 ∧ 0 ≤ p' := by
  unfold spec_l01Byte.f
  by_cases h : p < (c.length : Int)
  · rw [if_pos h, if_pos hp]
    exact ⟨_, _, _, rfl, (and255 _).1, (and255 _).2, by unfold wrap64; omega⟩
  · rw [if_neg h]
    exact ⟨_, _, _, rfl, (and255 _).1, (and255 _).2, hp⟩
theorem l01Below_some (c : List Int) (hc : c.length ≤ 2000000) (p s n : Int) (hp : 0 ≤ p) (hn : 0 < n) : ∃ v p' s', spec_l01Below.f c p s n = some (v, p', s') ∧ 0 ≤ v ∧ v < n ∧ 0 ≤ p' := by
  unfold spec_l01Below.f
  rw [if_neg (by omega)]
  by_cases h : n ≤ 256
  · obtain ⟨b, p', s', hb, h0, h1, h2⟩ := l01Byte_some c hc p s hp
    rw [if_pos h, hb]
    simp only [Option.bind_some]
    rw [if_neg (by omega)]
    exact ⟨_, _, _, rfl, Int.tmod_nonneg _ h0, Int.tmod_lt_of_pos _ hn, h2⟩
  · obtain ⟨b, p1, s1, hb, h0, h1, h2⟩ := l01Byte_some c hc p s hp
    obtain ⟨b2, p2, s2, hb2, h02, h12, h22⟩ := l01Byte_some c hc p1 s1 h2
    obtain ⟨b3, p3, s3, hb3, h03, h13, h23⟩ := l01Byte_some c hc p2 s2 h22
    obtain ⟨b4, p4, s4, hb4, h04, h14, h24⟩ := l01Byte_some c hc p3 s3 h23
    rw [if_neg h, hb]
    simp only [Option.bind_some, hb2, hb3, hb4]
    rw [if_neg (by omega)]
    refine ⟨_, _, _, rfl, Int.tmod_nonneg _ ?_, Int.tmod_lt_of_pos _ hn, h24⟩
    rw [w64 (x := b * 16777216) (by omega) (by omega), w64 (x := b2 * 65536) (by omega) (by omega), w64 (x := b3 * 256) (by omega) (by omega), w64 (x := b * 16777216 + b2 * 65536) (by omega) (by omega), w64 (x := b * 16777216 + b2 * 65536 + b3 * 256) (by omega) (by omega), w64 (by omega) (by omega)]
    omega
theorem cloneBool (l : List Bool) (hl : l.length ≤ 1048576) : slices_Clone_bool_bool.f l = some l := by
  simp only [slices_Clone_bool_bool.f, Option.bind_some]
  rw [if_pos (by simp; omega)]; rfl
theorem copyTags_some (l : List Bool) (hl : l.length ≤ 1048576) : impl_copyTags.f l = some l := by
  simp only [impl_copyTags.f, cloneBool l hl, Option.bind_some]
theorem within_eq (a b c : Int) : impl_within.f a b c = some (decide (b ≤ a ∧ a ≤ c)) := by
  unfold impl_within.f
  by_cases h : a ≥ b
  · rw [if_pos h]; simp [h]
  · rw [if_neg h]; simp; omega
theorem l01Once_some (c : List Int) (hc : c.length ≤ 2000000) (p s n : Int) (hp : 0 ≤ p) (hn : 0 < n) : ∃ v p' s', spec_l01Once.f c p s n = some (v, p', s') ∧ 0 ≤ p' := by
  obtain ⟨v, p', s', h, _, _, h'⟩ := l01Below_some c hc p s n hp hn
  exact ⟨v == 0, p', s', by simp only [spec_l01Once.f, h, Option.bind_some], h'⟩
theorem l28Tags_ev (c : List Int) (hc : c.length ≤ 2000000) (p s : Int) (hp : 0 ≤ p) : ∃ (t : List Bool) (p' s' : Int), Ev (fun k => spec_l28Tags.f k c p s) (t, p', s') ∧ t.length = 8 ∧ 0 ≤ p' := by
  suffices H : ∀ (n i : Nat) (x : List Bool) (p s : Int), i + n = 8 → x.length = i → 0 ≤ p → ∃ (t : List Bool) (p' s' : Int), Ev (fun k => spec_l28Tags.l0 k (i : Int) c p s x) (t, p', s') ∧ t.length = 8 ∧ 0 ≤ p' from H 8 0 [] p s (by omega) rfl hp
  intro n
  induction n with
  | zero =>
    intro i x p s hi hx hp
    refine ⟨x, p, s, Ev.pred (g := fun k => spec_l28Tags.l0 k (i : Int) c p s x) ⟨0, fun k _ => ?_⟩, by omega, hp⟩
    simp only [spec_l28Tags.l0]; rw [if_neg (by omega)]
  | succ n ih =>
    intro i x p s hi hx hp
    obtain ⟨v, p1, s1, hv, h1⟩ := l01Once_some c hc p s 2 hp (by omega)
    obtain ⟨t, p2, s2, h, ht, h2⟩ := ih (i + 1) (x ++ [v]) p1 s1 (by omega) (by simp [hx]) h1
    refine ⟨t, p2, s2, Same.pred (g := fun k => spec_l28Tags.l0 k (i : Int) c p s x) (Same.now fun k => ?_) h, ht, h2⟩
    simp only [spec_l28Tags.l0]
    rw [if_pos (by omega), hv]
    simp only [Option.bind_some]
    rw [if_pos (by omega), wnext (n := 8) (by omega) (by omega)]
theorem drawTags_ev (c : List Int) (hc : c.length ≤ 2000000) : ∃ t : List Bool, Ev (fun k => spec_DrawTags.f k c) t ∧ t.length = 8 := by
  obtain ⟨s0, h0⟩ := l01New_ev c hc
  obtain ⟨t, p, s, h, ht, _⟩ := l28Tags_ev c hc 0 s0 (by omega)
  refine ⟨t, ?_, ht⟩
  simp only [spec_DrawTags.f]
  exact Ev.bind h0 (Ev.bind h (Ev.now _))
theorem countBusy_ev (l : List Bool) (hl : l.length ≤ 1048576) : Ev (fun k => impl_CountBusy.f k l) (l.count true : Int) := by
  suffices H : ∀ (d i : Nat) (c : Int), i + d = l.length → 0 ≤ c → c ≤ i → Ev (fun k => impl_CountBusy.l0 k c l (l.length : Int) (i : Int)) (c + ((l.drop i).count true : Nat)) by
    have h := H l.length 0 0 (by omega) (by omega) (by omega)
    simp only [List.drop_zero, Int.zero_add] at h
    exact h
  intro d
  induction d with
  | zero =>
    intro i c hi h0 h1
    refine Ev.pred (g := fun k => impl_CountBusy.l0 k c l (l.length : Int) (i : Int)) ⟨0, fun k _ => ?_⟩
    simp only [impl_CountBusy.l0]; rw [if_neg (by omega), List.drop_of_length_le (by omega)]; simp
  | succ d ih =>
    intro i c hi h0 h1
    have hlt : i < l.length := by omega
    have hd := drop_cons false l i hlt
    by_cases h : rdOf false l (i : Int) = true
    · have g : l.getD i false = true := h
      have e : c + ((l.drop i).count true : Nat) = c + 1 + ((l.drop (i + 1)).count true : Nat) := by
        rw [hd, g, List.count_cons_self]; push_cast; omega
      rw [e]
      refine Same.pred (g := fun k => impl_CountBusy.l0 k c l (l.length : Int) (i : Int)) (Same.now fun k => ?_) (ih (i + 1) (c + 1) (by omega) (by omega) (by omega))
      simp only [impl_CountBusy.l0]
      rw [if_pos (by omega), if_pos (by omega), if_pos (by omega), if_pos h, wnext hlt (by omega), w64 (by omega) (by omega)]
    · have g : l.getD i false = false := by simpa using (show ¬ (l.getD i false = true) from h)
      have e : c + ((l.drop i).count true : Nat) = c + ((l.drop (i + 1)).count true : Nat) := by
        rw [hd, g, List.count_cons_of_ne (by simp)]
      rw [e]
      refine Same.pred (g := fun k => impl_CountBusy.l0 k c l (l.length : Int) (i : Int)) (Same.now fun k => ?_) (ih (i + 1) c (by omega) (by omega) (by omega))
      simp only [impl_CountBusy.l0]
      rw [if_pos (by omega), if_pos (by omega), if_pos (by omega), if_neg h, wnext hlt (by omega)]
/-- The first free place, or -1. -/
theorem indexFalse_ev (l : List Bool) (hl : l.length ≤ 1048576) : ∃ r : Int, Ev (fun k => slices_Index_bool_bool.f k l false) r ∧ ((r = -1 ∧ ∀ j, j < l.length → l.getD j false = true) ∨ (0 ≤ r ∧ r < (l.length : Int) ∧ l.getD r.toNat false = false)) := by
  suffices H : ∀ (d i : Nat), i + d = l.length → (∀ j, j < i → l.getD j false = true) → ∃ r : Int, Ev (fun k => slices_Index_bool_bool.l0 k l false (l.length : Int) (i : Int)) r ∧ ((r = -1 ∧ ∀ j, j < l.length → l.getD j false = true) ∨ (0 ≤ r ∧ r < (l.length : Int) ∧ l.getD r.toNat false = false)) from H l.length 0 (by omega) (fun j h => by omega)
  intro d
  induction d with
  | zero =>
    intro i hi ha
    exact ⟨-1, Ev.pred (g := fun k => slices_Index_bool_bool.l0 k l false (l.length : Int) (i : Int)) ⟨0, fun k _ => by simp only [slices_Index_bool_bool.l0]; rw [if_neg (by omega)]⟩, .inl ⟨rfl, fun j hj => ha j (by omega)⟩⟩
  | succ d ih =>
    intro i hi ha
    by_cases h : rdOf false l (i : Int) = true
    · obtain ⟨r, h1, h2⟩ := ih (i + 1) (by omega) (fun j hj => by
        by_cases e : j = i
        · subst e; exact h
        · exact ha j (by omega))
      refine ⟨r, Same.pred (g := fun k => slices_Index_bool_bool.l0 k l false (l.length : Int) (i : Int)) (Same.now fun k => ?_) h1, h2⟩
      simp only [slices_Index_bool_bool.l0]
      rw [if_pos (by omega), if_pos (by omega), if_pos (by omega), if_neg (by rw [h]; simp), wnext (n := l.length) (by omega) (by omega)]
    · refine ⟨(i : Int), Ev.pred (g := fun k => slices_Index_bool_bool.l0 k l false (l.length : Int) (i : Int)) ⟨0, fun k _ => ?_⟩, .inr ⟨by omega, by omega, ?_⟩⟩
      · simp only [slices_Index_bool_bool.l0]
        rw [if_pos (by omega), if_pos (by omega), if_pos (by omega), if_pos (by simpa using h)]
      · simpa using (show ¬ (l.getD i false = true) from h)
theorem takeTag_ev (l : List Bool) (h8 : l.length = 8) : ∃ r : Int, Ev (fun k => impl_TakeTag.f k l) (if r < 0 then (l, -1) else (l.set r.toNat true, r)) ∧ ((r = -1 ∧ ∀ j, j < l.length → l.getD j false = true) ∨ (0 ≤ r ∧ r < (l.length : Int) ∧ l.getD r.toNat false = false)) := by
  obtain ⟨r, h1, h2⟩ := indexFalse_ev l (by omega)
  refine ⟨r, ?_, h2⟩
  have hb : ((l.length : Int) == 8) = true := beq_iff_eq.mpr (by omega)
  simp only [impl_TakeTag.f, copyTags_some l (by omega), impl_TagsOk.f]
  refine Ev.bnd rfl (Ev.bind (g := fun k => slices_Index_bool_bool.f k l false) h1 (Ev.bnd rfl (Ev.ifp hb ?_)))
  by_cases hr : r < 0
  · refine Ev.ifp hr (Ev.const ?_)
    rw [if_pos hr]
  · refine Ev.ifn hr (Ev.ifp (by omega) (Ev.ifp (by omega) (Ev.const ?_)))
    rw [if_neg hr]
theorem freeTag_eq (l : List Bool) (h8 : l.length = 8) (i : Nat) (hi : i < 8) : impl_FreeTag.f l (i : Int) = some (if l.getD i false = true then (l.set i false, true) else (l, false)) := by
  have hb : ((l.length : Int) == 8) = true := beq_iff_eq.mpr (by omega)
  simp only [impl_FreeTag.f, copyTags_some l (by omega), impl_TagsOk.f, within_eq, Option.bind_some, Int.toNat_natCast, rdOf_nat]
  rw [if_pos hb, if_pos (by simp; omega), if_pos (by omega), if_pos (by omega)]
  by_cases h : l.getD i false = true
  · rw [if_pos h, if_pos h, if_pos (by omega)]
  · rw [if_neg h, if_neg h]
theorem count_all (l : List Bool) (h : ∀ j, j < l.length → l.getD j false = true) : l.count true = l.length := by
  rw [List.count_eq_length]
  intro b hb
  obtain ⟨j, hj⟩ := List.getElem?_of_mem hb
  have h1 := (List.getElem?_eq_some_iff.1 hj).1
  have h2 := h j h1
  rw [List.getD_eq_getElem?_getD, hj] at h2
  simpa using h2.symm
theorem count_set (l : List Bool) (i : Nat) (hi : i < l.length) (h : l.getD i false = false) : (l.set i true).count true = l.count true + 1 := by
  induction l generalizing i with
  | nil => simp at hi
  | cons a l ih =>
    cases i with
    | zero =>
      simp at h; subst h
      simp
    | succ i =>
      have := ih i (by simpa using hi) (by simpa using h)
      rw [List.set_cons_succ, List.count_cons, List.count_cons, this]; omega
theorem set_back (l : List Bool) (i : Nat) (hi : i < l.length) (h : l.getD i false = false) : (l.set i true).set i false = l := by
  apply List.ext_getElem?
  intro j
  rw [List.getElem?_set, List.getElem?_set]
  by_cases e : i = j
  · subst e
    rw [if_pos rfl, if_pos (by simpa using hi)]
    rw [List.getD_eq_getElem?_getD, List.getElem?_eq_getElem hi] at h
    rw [List.getElem?_eq_getElem hi]
    simpa using h.symm
  · rw [if_neg e, if_neg e]
theorem FnTags : laws_FnTags.Pure := by
  intro c hc1 hc2 hw
  refine Ev.rounds ?_
  simp only [laws_FnTags.f, laws_big.f]
  by_cases hb : (c.length : Int) > 1048576
  · exact Ev.bnd rfl (Ev.ifp (by simpa using hb) (Ev.now _))
  refine Ev.bnd rfl (Ev.ifn (by simpa using hb) ?_)
  obtain ⟨t, ht, h8⟩ := drawTags_ev c (by omega)
  obtain ⟨r, h1, h2⟩ := takeTag_ev t h8
  refine Ev.bind ht (Ev.bind h1 ?_)
  rcases h2 with ⟨rfl, ha⟩ | ⟨h0, hlt, hf⟩
  · refine Ev.ifp (by simp) (Ev.bind (countBusy_ev t (by omega)) (Ev.const ?_))
    rw [count_all t ha, h8]; rfl
  · obtain ⟨i, rfl⟩ := Int.eq_ofNat_of_zero_le h0
    rw [if_neg (by omega)]
    simp only [Int.toNat_natCast] at hf ⊢
    have hi : i < t.length := by omega
    have x8 : (t.set i true).length = 8 := by simpa using h8
    have gx : (t.set i true).getD i false = true := by rw [getD_set _ _ _ _ _ hi, if_pos rfl]
    have f1 := freeTag_eq (t.set i true) x8 i (by omega)
    rw [if_pos gx, set_back t i hi hf] at f1
    have f2 := freeTag_eq t h8 i (by omega)
    rw [if_neg (by rw [hf]; simp)] at f2
    have c1 := countBusy_ev (t.set i true) (by omega)
    rw [count_set t i hi hf] at c1
    have c0 := countBusy_ev t (by omega)
    have hcl : t.count true ≤ t.length := List.count_le_length
    refine Ev.ifn (by omega) (Ev.bnd f1 (Ev.bnd f2 (Ev.ifp rfl (Ev.ifn (by simp) (Ev.ifp (by simp) (Ev.ifn (by omega) (Ev.ifp (by omega) (Ev.ifp (by omega) (Ev.ifn ?_ (Ev.ifp (by omega) (Ev.ifp ?_ (Ev.bind c1 (Ev.bind c0 ?_)))))))))))))
    · show ¬ (t.getD i false = true); rw [hf]; simp
    · exact gx
    · refine Ev.pred (g := fun k => laws_FnTags.j0 k _ _ _ _) ?_
      simp only [laws_FnTags.j0]
      rw [w64 (by omega) (by omega)]
      rw [if_neg (by omega)] at h1
      refine Ev.ifn (by push_cast; simp) (Ev.bind h1 (Ev.ifp rfl (Ev.bind c0 (Ev.bind c0 (Ev.const (by simp))))))
end Go.Proofs.Ytckpkjpcnlampaa.Pure

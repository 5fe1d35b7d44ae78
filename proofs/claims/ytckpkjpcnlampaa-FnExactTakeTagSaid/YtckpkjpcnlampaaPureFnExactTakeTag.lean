/- The program's TakeTag returns what the reference's returns, for all tags; results share no memory with the argument or each other. -/
import Derived.Test.YtckpkjpcnlampaaPFnExactTakeTagx4
set_option linter.unusedVariables false
set_option linter.unusedSimpArgs false
namespace Go.Proofs.Ytckpkjpcnlampaa.Pure
open Go.RowKit Go.Proofs.Ytckpkjpcnlampaa.PFnExactTakeTag Go.Proofs.YtckpkjpcnlampaaW.PrintWords Go.Proofs.YtckpkjpcnlampaaW.PrintLast Go.Proofs.YtckpkjpcnlampaaW.PrintMore
theorem w64 {x : Int} (h0 : -9223372036854775808 ≤ x) (h1 : x ≤ 9223372036854775807) : wrap64 x = x := by unfold wrap64; omega
theorem wnext {i n : Nat} (h : i < n) (hn : n ≤ 4611686018427387904) : wrap64 ((i : Int) + 1) = ((i + 1 : Nat) : Int) := by unfold wrap64; omega
/-- From K rounds on, these two are the same. -/
def Same {α : Type} (g f : Nat → Option α) : Prop := ∃ K, ∀ k, K ≤ k → g k = f k
theorem Same.now {α : Type} {g f : Nat → Option α} (h : ∀ k, g k = f k) : Same g f := ⟨0, fun k _ => h k⟩
theorem Same.trans {α : Type} {g f e : Nat → Option α} (h : Same g f) (h' : Same f e) : Same g e := by
  obtain ⟨K, h⟩ := h; obtain ⟨K', h'⟩ := h'
  exact ⟨max K K', fun k hk => (h k (by omega)).trans (h' k (by omega))⟩
theorem Same.ev {α : Type} {g f : Nat → Option α} {r : α} (h : Same g f) (e : Ev f r) : Ev g r := by
  obtain ⟨K, h⟩ := h; obtain ⟨K', e⟩ := e
  exact ⟨max K K', fun k hk => (h k (by omega)).trans (e k (by omega))⟩
theorem Same.bind {α β : Type} {g : Nat → Option α} {f : Nat → α → Option β} {a : α} (h : Ev g a) : Same (fun n => (g n).bind (f n)) (fun n => f n a) := by
  obtain ⟨K, h⟩ := h
  exact ⟨K, fun k hk => by simp only [h k hk, Option.bind_some]⟩
theorem Ev.pred {α : Type} {g : Nat → Option α} {r : α} (h : Ev (fun k => g (k + 1)) r) : Ev g r := Ev.step (f := fun k => g (k + 1)) (fun _ => rfl) h
theorem Same.pred {α : Type} {g : Nat → Option α} {f : Nat → Option α} {r : α} (h : Same (fun k => g (k + 1)) f) (e : Ev f r) : Ev g r := Ev.pred (h.ev e)
/-- A loop that counts up: the state at round i is s i; at n it answers. -/
theorem Ev.upto {ρ : Type} (l : Nat → Nat → Option ρ) {n : Nat} {r : ρ} (step : ∀ i, i < n → Same (fun k => l (k + 1) i) (fun k => l k (i + 1))) (done : Ev (fun k => l k n) r) : ∀ i, i ≤ n → Ev (fun k => l k i) r := by
  intro i hi
  obtain ⟨d, hd⟩ : ∃ d, i + d = n := ⟨n - i, by omega⟩
  induction d generalizing i with
  | zero => obtain rfl : i = n := by omega
            exact done
  | succ d ih => exact Same.pred (g := fun k => l k i) (step i (by omega)) (ih (i + 1) (by omega) (by omega))
theorem Ev.ifp {α : Type} {c : Prop} [Decidable c] {g f : Nat → Option α} {r : α} (h : c) (e : Ev g r) : Ev (fun n => if c then g n else f n) r := by
  obtain ⟨K, e⟩ := e
  exact ⟨K, fun k hk => by dsimp only; rw [if_pos h]; exact e k hk⟩
theorem Ev.ifn {α : Type} {c : Prop} [Decidable c] {g f : Nat → Option α} {r : α} (h : ¬ c) (e : Ev f r) : Ev (fun n => if c then g n else f n) r := by
  obtain ⟨K, e⟩ := e
  exact ⟨K, fun k hk => by dsimp only; rw [if_neg h]; exact e k hk⟩
theorem Ev.const {α : Type} {a r : α} (h : a = r) : Ev (fun _ => some a) r := ⟨0, fun _ _ => by rw [h]⟩
theorem Ev.bnd {α β : Type} {x : Option α} {f : Nat → α → Option β} {a : α} {r : β} (h : x = some a) (k : Ev (fun n => f n a) r) : Ev (fun n => x.bind (f n)) r := Ev.bind (g := fun _ => x) ⟨0, fun _ _ => h⟩ k
theorem rdOf_nat {α : Type} (d : α) (xs : List α) (i : Nat) : rdOf d xs (i : Int) = xs.getD i d := rfl
theorem take_succ {α : Type} (d : α) (xs : List α) (i : Nat) (h : i < xs.length) : xs.take (i + 1) = xs.take i ++ [xs.getD i d] := by
  rw [List.take_succ_eq_append_getElem h, List.getD_eq_getElem?_getD, List.getElem?_eq_getElem h]; rfl
theorem take_set_succ {α : Type} (ys : List α) (i : Nat) (v : α) (h : i < ys.length) : (ys.set i v).take (i + 1) = ys.take i ++ [v] := by
  apply List.ext_getElem?
  intro j
  rw [List.getElem?_take, List.getElem?_set, List.getElem?_append, List.length_take]
  by_cases h1 : j < i
  · rw [if_pos (by omega), if_neg (by omega), if_pos (by omega), List.getElem?_take, if_pos h1]
  · by_cases h2 : j = i
    · subst h2
      rw [if_pos (by omega), if_pos rfl, if_pos h, if_neg (by omega), show j - min j ys.length = 0 by omega]; rfl
    · rw [if_neg (by omega), if_neg (by omega), List.getElem?_eq_none (by simp; omega)]
/-- A loop that copies. -/
theorem copy_loop {α : Type} (d : α) (l : Nat → List α → List α → Int → Option (List α)) (xs : List α) (hn : xs.length ≤ 4611686018427387904)
    (h : ∀ k ys i, l (k + 1) xs ys i = if i < (xs.length : Int) then (if 0 ≤ i then (if i < (ys.length : Int) then l k xs (ys.set (i : Int).toNat (rdOf d xs i)) (wrap64 (i + 1)) else none) else none) else some ys)
    (ys : List α) (hy : ys.length = xs.length) : Ev (fun k => l k xs ys 0) xs := by
  suffices H : ∀ i, i ≤ xs.length → ∀ ys : List α, ys.length = xs.length → ys.take i = xs.take i → Ev (fun k => l k xs ys (i : Int)) xs from H 0 (by omega) ys hy (by simp)
  intro i hi
  obtain ⟨m, hm⟩ : ∃ m, i + m = xs.length := ⟨xs.length - i, by omega⟩
  induction m generalizing i with
  | zero =>
    intro ys hy ht
    refine Ev.pred (g := fun k => l k xs ys (i : Int)) ⟨0, fun k _ => ?_⟩
    simp only [h]
    rw [if_neg (by omega)]
    rw [List.take_of_length_le (by omega), List.take_of_length_le (by omega)] at ht
    rw [ht]
  | succ m ih =>
    intro ys hy ht
    have hlt : i < xs.length := by omega
    refine Same.pred (g := fun k => l k xs ys (i : Int)) (f := fun k => l k xs (ys.set i (rdOf d xs i)) ((i + 1 : Nat) : Int)) (Same.now fun k => ?_) (ih (i + 1) (by omega) (by omega) _ (by simpa using hy) ?_)
    · simp only [h]
      rw [if_pos (by omega), if_pos (by omega), if_pos (by omega), wnext hlt hn, Int.toNat_natCast]
    · rw [take_set_succ _ _ _ (by omega), ht, rdOf_nat, ← take_succ d _ _ hlt]
theorem getD_set {α : Type} (d : α) (xs : List α) (i j : Nat) (v : α) (h : i < xs.length) : (xs.set i v).getD j d = if j = i then v else xs.getD j d := by
  rw [List.getD_eq_getElem?_getD, List.getD_eq_getElem?_getD, List.getElem?_set]
  by_cases e : j = i
  · subst e; rw [if_pos rfl, if_pos rfl, if_pos h]; rfl
  · rw [if_neg e, if_neg (by omega)]
/-- A loop that marks the elements, c numbers each. -/
theorem mark_loop {α : Type} (d : α) (v : Int → α → α) (c : Int) (l : Nat → List α → Int → Int → Option (Int × List α)) (xs : List α) (m : Int)
    (step : ∀ (k : Nat) (ys : List α) (i : Nat), ys.length = xs.length → i < xs.length → l (k + 1) ys (m + c * (i : Int)) (i : Int) = l k (ys.set i (v (m + c * (i : Int)) (ys.getD i d))) (m + c * ((i + 1 : Nat) : Int)) ((i + 1 : Nat) : Int))
    (stop : ∀ (k : Nat) (ys : List α), ys.length = xs.length → l (k + 1) ys (m + c * (xs.length : Int)) (xs.length : Int) = some (m + c * (xs.length : Int), ys)) :
    ∃ ys : List α, ys.length = xs.length ∧ (∀ i, i < xs.length → ys.getD i d = v (m + c * (i : Int)) (xs.getD i d)) ∧ Ev (fun k => l k xs m 0) (m + c * (xs.length : Int), ys) := by
  suffices H : ∀ (n i : Nat) (zs : List α), i + n = xs.length → zs.length = xs.length → (∀ j, j < i → zs.getD j d = v (m + c * (j : Int)) (xs.getD j d)) → (∀ j, i ≤ j → zs.getD j d = xs.getD j d) →
      ∃ ys : List α, ys.length = xs.length ∧ (∀ i, i < xs.length → ys.getD i d = v (m + c * (i : Int)) (xs.getD i d)) ∧ Ev (fun k => l k zs (m + c * (i : Int)) (i : Int)) (m + c * (xs.length : Int), ys) by
    obtain ⟨ys, h0, h1, h2⟩ := H xs.length 0 xs (by omega) rfl (fun j h => by omega) (fun _ _ => rfl)
    refine ⟨ys, h0, h1, ?_⟩
    have e : m + c * ((0 : Nat) : Int) = m := by simp
    rw [e] at h2; exact h2
  intro n
  induction n with
  | zero =>
    intro i zs hi hz h1 h2
    obtain rfl : i = xs.length := by omega
    exact ⟨zs, hz, h1, Ev.pred (g := fun k => l k zs (m + c * (xs.length : Int)) (xs.length : Int)) ⟨0, fun k _ => stop k zs hz⟩⟩
  | succ n ih =>
    intro i zs hi hz h1 h2
    obtain ⟨ys, g0, g1, g2⟩ := ih (i + 1) (zs.set i (v (m + c * (i : Int)) (zs.getD i d))) (by omega) (by simpa using hz) (fun j hj => by
        rw [getD_set d _ _ _ _ (by omega)]
        by_cases e : j = i
        · subst e; rw [if_pos rfl, h2 j (Nat.le_refl _)]
        · rw [if_neg e]; exact h1 j (by omega))
      (fun j hj => by rw [getD_set d _ _ _ _ (by omega), if_neg (by omega)]; exact h2 j (by omega))
    exact ⟨ys, g0, g1, Same.pred (g := fun k => l k zs (m + c * (i : Int)) (i : Int)) (Same.now fun k => step k zs i hz (by omega)) g2⟩
/-- A loop that looks at the marks. -/
theorem held_loop {α : Type} (c : Int) (l : Nat → List α → Int → Int → Option Int) (ys : List α) (m : Int)
    (step : ∀ (k : Nat) (i : Nat), i < ys.length → l (k + 1) ys (m + c * (i : Int)) (i : Int) = l k ys (m + c * ((i + 1 : Nat) : Int)) ((i + 1 : Nat) : Int))
    (stop : ∀ (k : Nat), l (k + 1) ys (m + c * (ys.length : Int)) (ys.length : Int) = some (m + c * (ys.length : Int))) :
    Ev (fun k => l k ys m 0) (m + c * (ys.length : Int)) := by
  have h := Ev.upto (fun k i => l k ys (m + c * (i : Int)) (i : Int)) (n := ys.length) (r := m + c * (ys.length : Int)) (fun i hi => Same.now fun k => step k i hi)
    (Ev.pred (g := fun k => l k ys (m + c * (ys.length : Int)) (ys.length : Int)) ⟨0, fun k _ => stop k⟩) 0 (by omega)
  have e : m + c * ((0 : Nat) : Int) = m := by simp
  rw [e] at h; exact h
theorem szBoolS_some (l : List Bool) (n : Int) (hl : l.length ≤ 9223372036854775807) (h0 : 0 ≤ n) (h1 : n ≤ 1048576) : ∃ r, laws_szBoolS.f l n = some r ∧ (0 ≤ r → (l.length : Int) + r = n) := by
  unfold laws_szBoolS.f
  rw [w64 (by omega) (by omega)]
  split
  · exact ⟨_, rfl, by omega⟩
  · exact ⟨_, rfl, by omega⟩
theorem toBoolS_ev (xs : List Bool) (hn : xs.length ≤ 35184372088832) : Ev (fun k => laws_toBoolS.f k xs) xs := by
  refine Same.ev (f := fun k => laws_toBoolS.l0 k xs (List.replicate xs.length false) 0) (Same.now fun k => ?_) (copy_loop false laws_toBoolS.l0 xs (by omega) (fun _ _ _ => rfl) _ (by simp))
  simp only [laws_toBoolS.f]
  rw [if_pos (by omega), if_pos (by simp; omega)]; simp
theorem eqBoolS_refl (xs : List Bool) (hn : xs.length ≤ 4611686018427387904) : Ev (fun k => laws_eqBoolS.f k xs xs) true := by
  refine Same.ev (f := fun k => laws_eqBoolS.l0 k xs xs ((0 : Nat) : Int)) (Same.now fun k => ?_) (Ev.upto (fun k i => laws_eqBoolS.l0 k xs xs (i : Int)) (n := xs.length) ?_ ?_ 0 (by omega))
  · simp [laws_eqBoolS.f]
  · intro i hi
    refine Same.now fun k => ?_
    simp only [laws_eqBoolS.l0]
    rw [if_pos (by omega), if_pos (by omega), if_pos (by omega), if_neg (by simp), wnext hi hn]
  · refine Ev.pred (g := fun k => laws_eqBoolS.l0 k xs xs (xs.length : Int)) ⟨0, fun k _ => ?_⟩
    simp only [laws_eqBoolS.l0]; rw [if_neg (by omega)]
theorem markBoolS_held (xs : List Bool) (hn : xs.length ≤ 1000000000000) (m : Int) (h0 : 0 ≤ m) (h1 : m ≤ 1000000000000) :
    ∃ ys : List Bool, ys.length = xs.length ∧ Ev (fun k => laws_markBoolS.f k xs m) (m + (xs.length : Int), ys) ∧ Ev (fun k => laws_heldBoolS.f k ys m) (m + (xs.length : Int)) := by
  obtain ⟨ys, hl, hy, he⟩ := mark_loop false (fun a _ => (Int.tmod a 3 == 0)) 1 laws_markBoolS.l0 xs m (fun k ys i hy hi => by
      simp only [laws_markBoolS.l0, Int.toNat_natCast]
      rw [if_pos (by omega), if_pos (by omega), w64 (by omega) (by omega), wnext hi (by omega), show m + 1 * (i : Int) + 1 = m + 1 * ((i + 1 : Nat) : Int) by omega])
    (fun k ys hy => by simp only [laws_markBoolS.l0]; rw [if_neg (by omega)])
  rw [Int.one_mul] at he
  refine ⟨ys, hl, he, ?_⟩
  rw [← hl]
  have hh := held_loop 1 laws_heldBoolS.l0 ys m (fun k i hi => by
      have g0 : rdOf false ys (i : Int) = (Int.tmod (m + 1 * (i : Int)) 3 == 0) := hy i (by omega)
      simp only [laws_heldBoolS.l0]
      rw [if_pos (by omega), if_pos (by omega), if_neg (by rw [g0]; simp), w64 (by omega) (by omega), wnext hi (by omega), show m + 1 * (i : Int) + 1 = m + 1 * ((i + 1 : Nat) : Int) by omega])
    (fun k => by simp only [laws_heldBoolS.l0]; rw [if_neg (by omega)])
  rw [Int.one_mul] at hh
  exact hh
theorem szTags_some (l : List Bool) (n : Int) (hl : l.length ≤ 9223372036854775807) (h0 : 0 ≤ n) (h1 : n ≤ 1048576) : ∃ r, laws_szTags.f l n = some r ∧ (0 ≤ r → (l.length : Int) + r = n) := by
  obtain ⟨r, hr, hb⟩ := szBoolS_some l n hl h0 h1
  simp only [laws_szTags.f, hr, Option.bind_some]
  split
  · exact ⟨_, rfl, by omega⟩
  · exact ⟨_, rfl, hb⟩
theorem toTags_ev (l : List Bool) (hn : l.length ≤ 35184372088832) : Ev (fun k => laws_toTags.f k l) l := by
  simp only [laws_toTags.f]
  exact Ev.bind (toBoolS_ev l hn) (Ev.now _)
theorem eqTags_refl (l : List Bool) (hn : l.length ≤ 4611686018427387904) : Ev (fun k => laws_eqTags.f k l l) true := by
  simp only [laws_eqTags.f]
  exact Ev.bind (eqBoolS_refl l hn) (Ev.ifp rfl (Ev.now _))
theorem markTags_held (l : List Bool) (hn : l.length ≤ 1000000000000) (m : Int) (h0 : 0 ≤ m) (h1 : m ≤ 1000000000000) :
    ∃ ys : List Bool, ys.length = l.length ∧ Ev (fun k => laws_markTags.f k l m) (m + (l.length : Int), ys) ∧ Ev (fun k => laws_heldTags.f k ys m) (m + (l.length : Int)) := by
  obtain ⟨ys, hl, hm, hh⟩ := markBoolS_held l hn m h0 h1
  refine ⟨ys, hl, ?_, ?_⟩
  · simp only [laws_markTags.f]
    exact Ev.bind hm (Ev.now _)
  · simp only [laws_heldTags.f]
    exact Ev.bind hh (Ev.ifn (by omega) (Ev.now _))
theorem cloneBool (l : List Bool) (hl : l.length ≤ 1048576) : slices_Clone_bool_bool.f l = some l := by
  simp only [slices_Clone_bool_bool.f, Option.bind_some]
  rw [if_pos (by simp; omega)]; rfl
theorem l28Copy_some (l : List Bool) (hl : l.length ≤ 1048576) : spec_l28Copy.f l = some l := by
  simp only [spec_l28Copy.f, Option.bind_some]
  rw [if_pos (by simp; omega)]; rfl
theorem copyTags_some (l : List Bool) (hl : l.length ≤ 1048576) : impl_copyTags.f l = some l := by
  simp only [impl_copyTags.f, cloneBool l hl, Option.bind_some]
theorem take_loops (l out : List Bool) (ho : out.length = l.length) (h8 : (l.length : Int) = 8) : ∀ (d i : Nat), i + d = l.length → ∃ r : Int, Ev (fun k => slices_Index_bool_bool.l0 k l false (l.length : Int) (i : Int)) r ∧ r < (l.length : Int) ∧
    Ev (fun k => spec_TakeTag.l0 k (i : Int) l out) (if r < 0 then (out, -1) else (out.set r.toNat true, r)) := by
  have hb : ((l.length : Int) == 8) = true := beq_iff_eq.mpr h8
  intro d
  induction d with
  | zero =>
    intro i hi
    refine ⟨-1, Ev.pred (g := fun k => slices_Index_bool_bool.l0 k l false (l.length : Int) (i : Int)) ⟨0, fun k _ => ?_⟩, by omega, ?_⟩
    · simp only [slices_Index_bool_bool.l0]; rw [if_neg (by omega)]
    · refine Ev.pred (g := fun k => spec_TakeTag.l0 k (i : Int) l out) ?_
      simp only [spec_TakeTag.l0]
      refine Ev.ifn (by omega) (Ev.pred (g := fun k => spec_TakeTag.j1 k _ _ _ _) ?_)
      simp only [spec_TakeTag.j1]
      exact Ev.ifn (by simp) (Ev.const rfl)
  | succ d ih =>
    intro i hi
    have hlt : i < l.length := by omega
    by_cases h : rdOf false l (i : Int) = true
    · obtain ⟨r, h1, h2, h3⟩ := ih (i + 1) (by omega)
      refine ⟨r, Same.pred (g := fun k => slices_Index_bool_bool.l0 k l false (l.length : Int) (i : Int)) (Same.now fun k => ?_) h1, h2, ?_⟩
      · simp only [slices_Index_bool_bool.l0]
        rw [if_pos (by omega), if_pos (by omega), if_pos (by omega), if_neg (by rw [h]; simp), wnext hlt (by omega)]
      · refine Ev.pred (g := fun k => spec_TakeTag.l0 k (i : Int) l out) ?_
        simp only [spec_TakeTag.l0, spec_TagsOk.f]
        refine Ev.ifp (by omega) (Ev.bnd rfl (Ev.pred (g := fun k => spec_TakeTag.j1 k _ _ _ _) ?_))
        simp only [spec_TakeTag.j1]
        refine Ev.ifp hb (Ev.ifp (by omega) (Ev.ifp (by omega) (Ev.ifp h ?_)))
        rw [wnext hlt (by omega)]; exact h3
    · refine ⟨(i : Int), Ev.pred (g := fun k => slices_Index_bool_bool.l0 k l false (l.length : Int) (i : Int)) ⟨0, fun k _ => ?_⟩, by omega, ?_⟩
      · simp only [slices_Index_bool_bool.l0]
        rw [if_pos (by omega), if_pos (by omega), if_pos (by omega), if_pos (by simpa using h)]
      · refine Ev.pred (g := fun k => spec_TakeTag.l0 k (i : Int) l out) ?_
        simp only [spec_TakeTag.l0, spec_TagsOk.f]
        refine Ev.ifp (by omega) (Ev.bnd rfl (Ev.pred (g := fun k => spec_TakeTag.j1 k _ _ _ _) ?_))
        simp only [spec_TakeTag.j1]
        refine Ev.ifp hb (Ev.ifp (by omega) (Ev.ifp (by omega) (Ev.ifn h (Ev.ifp (by omega) (Ev.const ?_)))))
        rw [if_neg (by omega)]
theorem take_same (l : List Bool) (hl : l.length ≤ 1048576) : ∃ r : List Bool × Int, Ev (fun k => spec_TakeTag.f k l) r ∧ Ev (fun k => impl_TakeTag.f k l) r ∧ r.1.length = l.length := by
  by_cases h8 : (l.length : Int) = 8
  · have hb : ((l.length : Int) == 8) = true := beq_iff_eq.mpr h8
    obtain ⟨r, h1, h2, h3⟩ := take_loops l l rfl h8 l.length 0 (by omega)
    refine ⟨if r < 0 then (l, -1) else (l.set r.toNat true, r), ?_, ?_, ?_⟩
    · simp only [spec_TakeTag.f, l28Copy_some l hl]
      exact Ev.bnd rfl h3
    · simp only [impl_TakeTag.f, copyTags_some l hl, impl_TagsOk.f]
      refine Ev.bnd rfl (Ev.bind (g := fun k => slices_Index_bool_bool.f k l false) h1 (Ev.bnd rfl (Ev.ifp hb ?_)))
      by_cases hr : r < 0
      · refine Ev.ifp hr (Ev.const ?_)
        rw [if_pos hr]
      · refine Ev.ifn hr (Ev.ifp (by omega) (Ev.ifp h2 (Ev.const ?_)))
        rw [if_neg hr]
    · split <;> simp
  · have hb : ((l.length : Int) == 8) = false := beq_eq_false_iff_ne.mpr h8
    have hi : ∃ r : Int, Ev (fun k => slices_Index_bool_bool.l0 k l false (l.length : Int) ((0 : Nat) : Int)) r := by
      suffices H : ∀ (d i : Nat), i + d = l.length → ∃ r : Int, Ev (fun k => slices_Index_bool_bool.l0 k l false (l.length : Int) (i : Int)) r from H l.length 0 (by omega)
      intro d
      induction d with
      | zero => intro i hi; exact ⟨-1, Ev.pred (g := fun k => slices_Index_bool_bool.l0 k l false (l.length : Int) (i : Int)) ⟨0, fun k _ => by simp only [slices_Index_bool_bool.l0]; rw [if_neg (by omega)]⟩⟩
      | succ d ih =>
        intro i hi
        by_cases h : rdOf false l (i : Int) = true
        · obtain ⟨r, h1⟩ := ih (i + 1) (by omega)
          refine ⟨r, Same.pred (g := fun k => slices_Index_bool_bool.l0 k l false (l.length : Int) (i : Int)) (Same.now fun k => ?_) h1⟩
          simp only [slices_Index_bool_bool.l0]
          rw [if_pos (by omega), if_pos (by omega), if_pos (by omega), if_neg (by rw [h]; simp), wnext (n := l.length) (by omega) (by omega)]
        · refine ⟨(i : Int), Ev.pred (g := fun k => slices_Index_bool_bool.l0 k l false (l.length : Int) (i : Int)) ⟨0, fun k _ => ?_⟩⟩
          simp only [slices_Index_bool_bool.l0]
          rw [if_pos (by omega), if_pos (by omega), if_pos (by omega), if_pos (by simpa using h)]
    obtain ⟨r, h1⟩ := hi
    refine ⟨(l, -1), ?_, ?_, rfl⟩
    · simp only [spec_TakeTag.f, l28Copy_some l hl]
      refine Ev.bnd rfl (Ev.pred (g := fun k => spec_TakeTag.l0 k 0 l l) ?_)
      simp only [spec_TakeTag.l0, spec_TagsOk.f]
      by_cases h0 : 0 < (l.length : Int)
      · refine Ev.ifp h0 (Ev.bnd rfl (Ev.pred (g := fun k => spec_TakeTag.j1 k _ _ _ _) ?_))
        simp only [spec_TakeTag.j1]
        exact Ev.ifn (by rw [hb]; simp) (Ev.now _)
      · refine Ev.ifn h0 (Ev.pred (g := fun k => spec_TakeTag.j1 k _ _ _ _) ?_)
        simp only [spec_TakeTag.j1]
        exact Ev.ifn (by simp) (Ev.now _)
    · simp only [impl_TakeTag.f, copyTags_some l hl, impl_TagsOk.f]
      exact Ev.bnd rfl (Ev.bind (g := fun k => slices_Index_bool_bool.f k l false) h1 (Ev.bnd rfl (Ev.ifn (by rw [hb]; simp) (Ev.now _))))
theorem FnExactTakeTag : ∀ (l0_0 : List (Bool)), l0_0.length ≤ 9223372036854775807 → (∀ x ∈ l0_0, True) → ∃ k, laws_FnExactTakeTag.f k l0_0 = some true := by
  intro l hl _
  obtain ⟨s, hs, hb⟩ := szTags_some l 1048576 hl (by omega) (by omega)
  refine Ev.rounds ?_
  simp only [laws_FnExactTakeTag.f]
  refine Ev.bnd hs ?_
  by_cases c : s < 0
  · exact Ev.ifp c (Ev.now _)
  have hl2 : l.length ≤ 1048576 := by omega
  have t := toTags_ev l (by omega)
  obtain ⟨r, h1, h2, hr⟩ := take_same l hl2
  have er := eqTags_refl r.1 (by omega)
  obtain ⟨yx, hyx, mx, _⟩ := markTags_held l (by omega) 1 (by omega) (by omega)
  obtain ⟨ys, hys, ms, hh⟩ := markTags_held r.1 (by omega) 1 (by omega) (by omega)
  refine Ev.ifn c (Ev.bind t (Ev.bind h1 (Ev.bind t (Ev.bind h2 (Ev.bind er (Ev.ifp rfl ?_))))))
  refine Ev.pred (g := fun k => laws_FnExactTakeTag.j0 k _ _ _ _ _ _ _) ?_
  simp only [laws_FnExactTakeTag.j0]
  refine Ev.ifn (by simp) (Ev.bind t (Ev.bind (eqTags_refl l (by omega)) (Ev.ifp rfl (Ev.bind mx (Ev.ifn (by simp only; omega) (Ev.bind er (Ev.ifp rfl ?_)))))))
  refine Ev.pred (g := fun k => laws_FnExactTakeTag.j1 k _ _ _ _ _) ?_
  simp only [laws_FnExactTakeTag.j1]
  refine Ev.ifn (by simp) (Ev.bind ms (Ev.bind hh (Ev.ifn (by omega) (Ev.ifp rfl (Ev.bind t (Ev.bind h2 (Ev.bind er (Ev.ifp rfl ?_))))))))
  refine Ev.pred (g := fun k => laws_FnExactTakeTag.j2 k _ _ _) ?_
  simp only [laws_FnExactTakeTag.j2]
  exact Ev.ifn (by simp) (Ev.bind hh (Ev.ifn (by omega) (Ev.ifp rfl (Ev.now _))))
end Go.Proofs.Ytckpkjpcnlampaa.Pure

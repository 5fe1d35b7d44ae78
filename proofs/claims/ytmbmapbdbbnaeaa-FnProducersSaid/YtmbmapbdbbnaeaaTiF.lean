/- The steps of a state, continued: a row or a variable leaves it, comes to it, is not written any more. -/
import Derived.Test.YtmbmapbdbbnaeaaTiE
set_option linter.unusedVariables false
set_option linter.unusedSimpArgs false
namespace Go.Proofs.YtmbmapbdbbnaeaaT
open Go

section
variable {B : Base} {S : St} {E : Env} {a : Act} {w : World}

theorem upd_none {α : Type} {f : Nat → Option α} {k n : Nat} {y : α} (h : upd f k none n = some y) : n ≠ k ∧ f n = some y := by
  rcases upd_cases h with ⟨_, h⟩ | h
  · cases h
  · exact h

theorem upd_upd {α : Type} (f : Nat → Option α) (k : Nat) (x y : Option α) : upd (upd f k x) k y = upd f k y := by
  funext n; simp only [upd]; cases Nat.beq n k <;> rfl

theorem Sim.dropRow (h : Sim B S E a w) (k : Nat) : Sim B { S with rows := upd S.rows k none } E a w :=
  { h with
    rowU := fun n r hn => h.rowU n r (upd_none hn).2
    rows := fun n r hn => h.rows n r (upd_none hn).2
    rowNew := fun n r g hn ho hg => by
      obtain ⟨h0, h1, h2, h3⟩ := h.rowNew n r g (upd_none hn).2 ho hg
      exact ⟨h0, h1, h2, fun k' r' hk' => h3 k' r' (upd_none hk').2⟩ }

theorem Sim.dropBox (h : Sim B S E a w) (b : Nat) : Sim B { S with boxes := upd S.boxes b none } E a w :=
  { h with
    boxU := fun n r hn => h.boxU n r (upd_none hn).2
    boxes := fun n r hn => h.boxes n r (upd_none hn).2
    boxNew := fun n r hn => h.boxNew n r (upd_none hn).2
    boxInj := fun n m r r' hn hm => h.boxInj n m r r' (upd_none hn).2 (upd_none hm).2
    rowNew := fun n r g hn ho hg => by
      obtain ⟨h0, h1, h2, h3⟩ := h.rowNew n r g hn ho hg
      exact ⟨h0, h1, fun b' cs hb => h2 b' cs (upd_none hb).2, h3⟩ }

/-- A block that no other row, no variable of the state names. -/
def Alone (B : Base) (S : St) (E : Env) (w : World) (k g : Nat) : Prop :=
  B.new g ∧ ¬ E.F g ∧ (∀ b cs, S.boxes b = some cs → E.β b ≠ g) ∧ (∀ k' r', S.rows k' = some r' → r'.own = true → OwnB w (E.hv k') r'.t r'.l g → k' = k)

theorem Sim.setRowSt (h : Sim B S E a w) {k : Nat} {r : RowSt} (hk : E.U k) (hr : RowIs w E (E.hv k) (E.sz k) r)
    (ha : r.own = true → ∀ g, OwnB w (E.hv k) r.t r.l g → Alone B S E w k g) : Sim B { S with rows := upd S.rows k (some r) } E a w :=
  { h with
    rowU := fun n r' hn => by
      rcases upd_cases hn with ⟨rfl, _⟩ | ⟨_, hn⟩
      · exact hk
      · exact h.rowU n r' hn
    rows := fun n r' hn => by
      rcases upd_cases hn with ⟨rfl, e⟩ | ⟨_, hn⟩
      · cases e; exact hr
      · exact h.rows n r' hn
    rowNew := fun n r' g hn ho hg => by
      rcases upd_cases hn with ⟨e1, e⟩ | ⟨hne, hn⟩
      · cases e
        rw [e1] at hg ⊢
        obtain ⟨h0, h1, h2, h3⟩ := ha ho g hg
        refine ⟨h0, h1, h2, fun k' r'' hk' ho' hg' => ?_⟩
        rcases upd_cases hk' with ⟨e, _⟩ | ⟨_, hk'⟩
        · exact e
        · exact h3 k' r'' hk' ho' hg'
      · obtain ⟨h0, h1, h2, h3⟩ := h.rowNew n r' g hn ho hg
        refine ⟨h0, h1, h2, fun k' r'' hk' ho' hg' => ?_⟩
        rcases upd_cases hk' with ⟨e2, e⟩ | ⟨_, hk'⟩
        · cases e
          rw [e2] at hg' ⊢
          exact absurd ((ha ho' g hg').2.2.2 n r' hn ho hg) hne
        · exact h3 k' r'' hk' ho' hg' }

theorem Sim.newRow (h : Sim B S E a w) {id sz : Nat} {v : Value} {r : RowSt} (hid : ¬ E.U id) (hr : RowIs w E v sz r)
    (ha : r.own = true → ∀ g, OwnB w v r.t r.l g → Alone B S E w id g) : Sim B { S with rows := upd S.rows id (some r) } (E.row id v sz) a w ∧ E.le w w (E.row id v sz) := by
  have L : E.le w w (E.row id v sz) := Env.le_row hid fun _ _ => rfl
  refine ⟨(h.env L fun _ => Iff.rfl).setRowSt (.inr rfl) ?_ ?_, L⟩
  · have e1 : (E.row id v sz).hv id = v := if_pos rfl
    have e2 : (E.row id v sz).sz id = sz := if_pos rfl
    rw [e1, e2]
    exact hr.mono L fun _ _ _ => rfl
  · intro ho g hg
    have e1 : (E.row id v sz).hv id = v := if_pos rfl
    rw [e1] at hg
    obtain ⟨h0, h1, h2, h3⟩ := ha ho g hg
    refine ⟨h0, h1, h2, fun k' r' hk' ho' hg' => ?_⟩
    rw [L.hv k' (h.rowU k' r' hk')] at hg'
    exact h3 k' r' hk' ho' hg'

theorem Sim.setBoxSt (h : Sim B S E a w) {b : Nat} {cs : List AC} {us : Array Value} {e : TypeId} (hb : E.U b) (hw : w.heap[E.β b]? = some (.cells us e (0, 0))) (hc : ACs w E cs us.toList)
    (hn : B.new (E.β b)) (hF : ¬ E.F (E.β b)) (hB : ∀ b' cs', S.boxes b' = some cs' → E.β b' = E.β b → b' = b)
    (hR : ∀ k r g, S.rows k = some r → r.own = true → OwnB w (E.hv k) r.t r.l g → E.β b ≠ g) : Sim B { S with boxes := upd S.boxes b (some cs) } E a w :=
  { h with
    boxU := fun n x hx => by
      rcases upd_cases hx with ⟨rfl, _⟩ | ⟨_, hx⟩
      · exact hb
      · exact h.boxU n x hx
    boxes := fun n x hx => by
      rcases upd_cases hx with ⟨rfl, e⟩ | ⟨_, hx⟩
      · cases e; exact ⟨us, _, hw, hc⟩
      · exact h.boxes n x hx
    boxNew := fun n x hx => by
      rcases upd_cases hx with ⟨rfl, _⟩ | ⟨_, hx⟩
      · exact ⟨hn, hF⟩
      · exact h.boxNew n x hx
    boxInj := fun n m x y hx hy e => by
      rcases upd_cases hx with ⟨e1, _⟩ | ⟨_, hx⟩
      · rcases upd_cases hy with ⟨e2, _⟩ | ⟨_, hy⟩
        · rw [e1, e2]
        · rw [e1] at e ⊢; exact (hB m y hy e.symm).symm
      · rcases upd_cases hy with ⟨e2, _⟩ | ⟨_, hy⟩
        · rw [e2] at e ⊢; exact hB n x hx e
        · exact h.boxInj n m x y hx hy e
    rowNew := fun n r g hn ho hg => by
      obtain ⟨h0, h1, h2, h3⟩ := h.rowNew n r g hn ho hg
      refine ⟨h0, h1, fun b' cs' hb' => ?_, h3⟩
      rcases upd_cases hb' with ⟨rfl, _⟩ | ⟨_, hb'⟩
      · exact hR n r g hn ho hg
      · exact h2 b' cs' hb' }

theorem cell_row {w : World} {g : Nat} {cur : Array Value} {e : TypeId} (hg : w.heap[g]? = some (.cells cur e (0, 0))) (j : Nat) : w.cell? ⟨g, j, none⟩ = cur[j]? := by
  simp [World.cell?, hg]

/-- An owned row reads as a row. -/
theorem Owned.enc {w : World} {F : Nat → Prop} {t : Ty} {l : List t.T} {v : Value} {xs : List Value} (ho : Owned w t.size v l.length xs) (he : EncL w F t l xs) :
    Enc w (fun b => F b ∨ v.ownBlock = some b) (.row t) l (fun _ => some v) := by
  simp only [Enc]
  rcases ho.2 with ⟨rfl, h0⟩ | ⟨g, cap, cur, e, rfl, h1, h2, h3, h4, h5⟩
  · exact ⟨none, 0, by rw [h0], by omega, .inl h0⟩
  · refine ⟨some ⟨g, 0, none⟩, cap, rfl, h2, .inr ⟨_, rfl, rfl, .inr rfl, fun i x hi => ?_⟩⟩
    refine Enc.mono (fun _ h => .inl h) (fun _ _ => rfl) (fun j hj => ?_) (he i x hi)
    rw [cell_row h1, ← h5]
    have hlt : i < l.length := (List.getElem?_eq_some_iff.1 hi).1
    have hm : i * t.size + j < l.length * t.size := by
      have := Nat.mul_le_mul_right t.size (Nat.succ_le_of_lt hlt)
      rw [Nat.succ_mul] at this
      omega
    rw [List.getElem?_take, if_pos hm]
    simp

theorem cellsL_get {t : Ty} : ∀ {l : List t.T} {i j : Nat} {x : t.T}, l[i]? = some x → j < t.size → (cellsL t l)[i * t.size + j]? = (flat t x)[j]?
  | [], i, j, x, h, _ => by simp at h
  | y :: l, i, j, x, h, hj => by
    have e : cellsL t (y :: l) = flat t y ++ cellsL t l := by simp [cellsL]
    rw [e, List.getElem?_append, flat_len]
    cases i with
    | zero => simp at h; subst h; rw [Nat.zero_mul, Nat.zero_add, if_pos hj]
    | succ i =>
      rw [if_neg (by rw [Nat.succ_mul]; omega), show (i + 1) * t.size + j - t.size = i * t.size + j by rw [Nat.succ_mul]; omega]
      exact cellsL_get (by simpa using h) hj

theorem kid_enc {w : World} {F' : Nat → Prop} : ∀ {t : Ty} {x : t.T} {g : Nat → Option Value}, t.one = true → (∀ j c, (flat t x)[j]? = some c → ∃ u, g j = some u ∧ Kid w c u ∧ ∀ b, u.ownBlock = some b → F' b) → Enc w F' t x g
  | .unit, _, _, _, _ => trivial
  | .int k, x, g, _, h => by
    obtain ⟨u, h1, ⟨_, _, h2⟩, _⟩ := h 0 _ rfl
    simp only [Enc]; rw [h1, val_int' h2]
  | .bool, x, g, _, h => by
    obtain ⟨u, h1, ⟨_, _, h2⟩, _⟩ := h 0 _ rfl
    simp only [Enc]; rw [h1]; simpa [Val, Enc] using h2
  | .str, x, g, _, h => by
    obtain ⟨u, h1, ⟨_, _, h2⟩, _⟩ := h 0 _ rfl
    simp only [Enc]; rw [h1]; simpa [Val, Enc] using h2
  | .row t, x, g, _, h => by
    obtain ⟨u, h1, ⟨_, ys, h2, h3⟩, h4⟩ := h 0 _ rfl
    have := Owned.enc h2 h3
    refine Enc.mono (fun b hb => hb.elim False.elim (h4 b)) (fun _ _ => rfl) (fun j hj => ?_) this
    simp only [Ty.size] at hj
    rw [show j = 0 by omega]; exact h1
  | .pair p q, x, g, ho, h => by
    simp only [Ty.one, Bool.and_eq_true] at ho
    simp only [Enc]
    have e : flat (.pair p q) x = flat p x.1 ++ flat q x.2 := rfl
    refine ⟨kid_enc ho.1 fun j c hc => h j c ?_, kid_enc ho.2 fun j c hc => h _ c ?_⟩
    · rw [e, List.getElem?_append, if_pos (List.getElem?_eq_some_iff.1 hc).1]; exact hc
    · rw [e, List.getElem?_append, flat_len, if_neg (by omega), Nat.add_sub_cancel_left]; exact hc
  | .deep _ t, _, _, ho, _ => by simp [Ty.one] at ho
where
  val_int' {F : Nat → Prop} {k : IntKind} {n : Int} {u : Value} (h : Val w F (.int k) n u) : u = .int k n := by simp only [Val, Enc] at h; exact Option.some.inj h

theorem Kids.enc {w : World} {U : Nat → Prop} {hv : Nat → Value} {h : Option Note} {t : Ty} {l : List t.T} {xs : List Value} {v : Value} (hk : Kids w U hv h t l xs v) (hn : lentPos t h = none) (hl : xs.length = l.length * t.size) {F' : Nat → Prop}
    (hF : ∀ (j : Nat) u b, xs[j]? = some u → u.ownBlock = some b → F' b) : EncL w F' t l xs := by
  intro i x hi
  refine kid_enc hk.one fun j c hc => ?_
  have hj : j < t.size := by rw [← flat_len (x := x)]; exact (List.getElem?_eq_some_iff.1 hc).1
  have hil := (List.getElem?_eq_some_iff.1 hi).1
  have hlt : i * t.size + j < xs.length := by
    have := Nat.mul_le_mul_right t.size (Nat.succ_le_of_lt hil)
    rw [Nat.succ_mul] at this
    omega
  refine ⟨xs[i * t.size + j], by simp [hlt], ?_, fun b hb => hF (i * t.size + j) _ b (by simp [hlt]) hb⟩
  exact hk.kid (i * t.size + j) c _ (by rw [cellsL_get hi hj]; exact hc) (by simp [hlt]) (by rw [hn]; simp)

/-- A row of its own reads as a row. -/
theorem Body.enc {w : World} {U : Nat → Prop} {hv : Nat → Value} {F : Nat → Prop} {t : Ty} {l : List t.T} {v : Value} {xs : List Value} (ht : t.holed = false) (ho : Owned w t.size v l.length xs) (hb : Body w U hv F t l xs v) :
    Enc w (fun b => F b ∨ OwnB w v t l b) (.row t) l (fun _ => some v) := by
  have key : EncL w (fun b => F b ∨ OwnB w v t l b) t l xs := by
    cases t with
    | deep n t =>
      cases n with
      | some n => simp [Ty.holed] at ht
      | none =>
        have hb : Kids w U hv none t l xs v := hb
        exact hb.enc rfl ho.1 fun j u b hj hu => .inr (OwnB.kid (t := t) (h := none) (kids_owned (sz := t.size) ho) hj (by simp [lentPos]) hu)
    | part t =>
      have hb : KidsP w t l xs v := hb
      intro i x hi j hj
      have hil := (List.getElem?_eq_some_iff.1 hi).1
      have hlt : i * t.size + j < xs.length := by
        have := Nat.mul_le_mul_right t.size (Nat.succ_le_of_lt hil)
        rw [Nat.succ_mul] at this
        have hl : xs.length = l.length * t.size := ho.1
        omega
      exact ⟨xs[i * t.size + j], List.getElem?_eq_getElem hlt, hb.cell _ (List.getElem_mem hlt)⟩
    | _ => exact EncL.mono (fun _ h => .inl h) (fun _ _ => rfl) hb
  exact Enc.mono (fun b hb => hb.elim id fun h => .inr (.inl h)) (fun _ _ => rfl) (fun _ _ => rfl) (Owned.enc ho key)

def Env.frees (E : Env) (Z : Nat → Prop) : Env := { E with F := fun b => E.F b ∨ Z b }
theorem Env.le_frees {E : Env} {Z : Nat → Prop} {w : World} : E.le w w (E.frees Z) :=
  ⟨fun _ h => h, fun _ _ => rfl, fun _ _ => rfl, fun _ _ => rfl, fun _ h => .inl h, fun _ _ => rfl⟩

/-- A row is not written any more. -/
theorem Sim.freezeOne (h : Sim B S E a w) {k : Nat} {r : RowSt} (hk : S.rows k = some r) (hh : r.t.holed = false) :
    ∃ E', Sim B { S with rows := upd S.rows k (some { r with own := false }) } E' a w ∧ E.le w w E' ∧ (∀ n, E'.U n ↔ E.U n) ∧ Enc w E'.F (.row r.t) r.l (fun _ => some (E.hv k)) ∧
      (∀ b, E'.F b ↔ E.F b ∨ (r.own = true ∧ OwnB w (E.hv k) r.t r.l b)) := by
  cases ho : r.own with
  | false =>
    have hr : ({ r with own := false } : RowSt) = r := by cases r; cases ho; rfl
    rw [hr]
    refine ⟨E, h.setRowSt (h.rowU k r hk) (h.rows k r hk) (fun e => by rw [ho] at e; cases e), Env.le.refl w E, fun _ => Iff.rfl, ((h.rows k r hk).shut ho).2, fun b => ⟨.inl, fun hb => hb.elim id fun e => by cases e.1⟩⟩
  | true =>
    obtain ⟨hs1, hs2, _⟩ := h.rows k r hk
    obtain ⟨xs, hx, hl⟩ := (h.rows k r hk).ownB ho
    rw [hs1] at hx
    have hen := Body.enc hh hx hl
    have hform : ∃ g n c, E.hv k = .slice (some ⟨g, 0, none⟩) n c ∨ E.hv k = .slice none n c := by
      rcases hx.2 with ⟨e, _⟩ | ⟨g, cap, cur, e, e1, _⟩
      · exact ⟨0, 0, 0, .inr e⟩
      · exact ⟨g, _, _, .inl e1⟩
    have L : E.le w w (E.frees (OwnB w (E.hv k) r.t r.l)) := Env.le_frees
    have hen' : Enc w (E.frees (OwnB w (E.hv k) r.t r.l)).F (.row r.t) r.l (fun _ => some (E.hv k)) := hen
    have h1 : Sim B { S with rows := upd S.rows k none } (E.frees (OwnB w (E.hv k) r.t r.l)) a w :=
      { h.dropRow k with
        tmps := fun t x hx => ⟨(h.tmps t x hx).1, (h.tmps t x hx).2.mono L⟩
        boxes := fun b cs hb => by
          obtain ⟨us, e, h0, h1⟩ := h.boxes b cs hb
          exact ⟨us, e, h0, h1.mono L⟩
        boxNew := fun b cs hb => ⟨(h.boxNew b cs hb).1, fun hF => hF.elim (h.boxNew b cs hb).2 fun hz => (h.rowNew k r _ hk ho hz).2.2.1 b cs hb rfl⟩
        rows := fun n r' hn => (h.rows n r' (upd_none hn).2).mono L fun _ _ _ => rfl
        rowNew := fun n r' g' hn ho' hg' => by
          obtain ⟨m1, m2, m3, m4⟩ := (h.dropRow k).rowNew n r' g' hn ho' hg'
          refine ⟨m1, fun hF => hF.elim m2 fun e => ?_, m3, m4⟩
          exact (upd_none hn).1 ((h.rowNew k r g' hk ho e).2.2.2 n r' (upd_none hn).2 ho' hg')
        FA := fun b hb => .inl (h.FA b hb)
        F := fun b hb => by
          rcases hb with hb | hb
          · exact h.F b hb
          · exact ⟨.inr (h.rowNew k r b hk ho hb).1, h.lt_row hk ho hb⟩ }
    refine ⟨E.frees (OwnB w (E.hv k) r.t r.l), ?_, L, fun _ => Iff.rfl, hen', fun b => ⟨fun hb' => hb'.elim .inl fun e => .inr ⟨rfl, e⟩, fun hb' => hb'.elim .inl fun e => .inr e.2⟩⟩
    have h2 := h1.setRowSt (k := k) (r := { r with own := false }) (h.rowU k r hk) ⟨hs1, hs2, hform, hen'⟩ (fun e => by cases e)
    have e : upd (upd S.rows k none) k (some { r with own := false }) = upd S.rows k (some { r with own := false }) := upd_upd _ _ _ _
    exact e ▸ h2

end
end Go.Proofs.YtmbmapbdbbnaeaaT

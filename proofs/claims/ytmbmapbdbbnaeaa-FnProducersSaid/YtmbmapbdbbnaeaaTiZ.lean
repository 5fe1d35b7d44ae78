/- An operation that is shown a part of the state only. -/
import Derived.Test.YtmbmapbdbbnaeaaTiY
set_option linter.unusedVariables false
set_option linter.unusedSimpArgs false
namespace Go.Proofs.YtmbmapbdbbnaeaaT
open Go

section
variable {R : Type} {P : Program} {G : List Spec} {k : Nat} {B : Base} {S V : St} {E E' : Env} {a : Act} {w w' : World}

theorem setBoxes_or {α : Type} (n : Nat) : ∀ l : List (Nat × α), (∃ y, ∀ f, setBoxes f l n = some y) ∨ (∀ f, setBoxes f l n = f n)
  | [] => .inr fun f => rfl
  | (m, x) :: l => by
    rcases setBoxes_or n l with ⟨y, h⟩ | h
    · exact .inl ⟨y, fun f => h _⟩
    · cases e : Nat.beq n m with
      | true => exact .inl ⟨x, fun f => by simp only [setBoxes, h, e]⟩
      | false => exact .inr fun f => by simp only [setBoxes, h, e]
theorem setAll_or {α : Type} (n : Nat) : ∀ l : List (Nat × Option α), (∃ y, ∀ f, setAll f l n = y) ∨ (∀ f, setAll f l n = f n)
  | [] => .inr fun f => rfl
  | (m, x) :: l => by
    rcases setAll_or n l with ⟨y, h⟩ | h
    · exact .inl ⟨y, fun f => h _⟩
    · cases e : Nat.beq n m with
      | true => exact .inl ⟨x, fun f => by simp only [setAll, h, e]⟩
      | false => exact .inr fun f => by simp only [setAll, h, e]

/-- A part of the state. -/
structure Part (V S : St) : Prop where
  tmps : ∀ t x, V.tmps t = some x → S.tmps t = some x
  boxes : ∀ b x, V.boxes b = some x → S.boxes b = some x
  rows : ∀ b x, V.rows b = some x → S.rows b = some x

/-- What may be written if only a part is shown. -/
def FB (B : Base) (V : St) (E : Env) (w : World) : Base :=
  ⟨w, E.F, fun g => (∃ b cs, V.boxes b = some cs ∧ E.β b = g) ∨ (∃ k r, V.rows k = some r ∧ r.own = true ∧ OwnB w (E.hv k) r.t r.l g), B.n, B.dfs⟩

theorem Sim.part (h : Sim B S E a w) (hV : Part V S) : Sim (FB B V E w) V E a w :=
  { defers := h.defers
    size := h.size
    tmps := fun t x hx => h.tmps t x (hV.tmps t x hx)
    boxU := fun b cs hb => h.boxU b cs (hV.boxes b cs hb)
    boxes := fun b cs hb => h.boxes b cs (hV.boxes b cs hb)
    boxNew := fun b cs hb => ⟨.inr (.inl ⟨b, cs, hb, rfl⟩), (h.boxNew b cs (hV.boxes b cs hb)).2⟩
    boxInj := fun b b' cs cs' hb hb' => h.boxInj b b' cs cs' (hV.boxes b cs hb) (hV.boxes b' cs' hb')
    rowU := fun k r hk => h.rowU k r (hV.rows k r hk)
    rows := fun k r hk => h.rows k r (hV.rows k r hk)
    rowNew := fun k r g hk ho hg => by
      obtain ⟨h1, h2, h3, h4⟩ := h.rowNew k r g (hV.rows k r hk) ho hg
      exact ⟨.inr (.inr ⟨k, r, hk, ho, hg⟩), h2, fun b cs hb => h3 b cs (hV.boxes b cs hb), fun k' r' hk' => h4 k' r' (hV.rows k' r' hk')⟩
    FA := fun b hb => hb
    F := fun b hb => ⟨.inl hb, (h.F b hb).2⟩
    FAlt := fun b hb => ⟨(h.F b hb).2, fun hm => by
      rcases hm with ⟨c, cs, hc, e⟩ | ⟨k, r, hk, ho, hg⟩
      · exact (h.boxNew c cs (hV.boxes c cs hc)).2 (by rw [e]; exact hb)
      · exact (h.rowNew k r b (hV.rows k r hk) ho hg).2.1 hb⟩
    os := rfl
    tape := rfl
    output := rfl
    grown := Nat.le_refl _
    frame := fun b _ _ => rfl
    tab := h.tabNow fun _ hb => hb }

theorem Sim.whole (h : Sim B S E a w) (hV : Part V S) {lb : List (Nat × List AC)} {lr : List (Nat × Option RowSt)}
    (h' : Sim (FB B V E w) { V with boxes := setBoxes V.boxes lb, rows := setAll V.rows lr } E' a w') (L : E.le w w' E') :
    Sim B { S with boxes := setBoxes S.boxes lb, rows := setAll S.rows lr } E' a w' := by
  have old_b : ∀ b cs, setBoxes S.boxes lb b = some cs → setBoxes V.boxes lb b = some cs ∨ (S.boxes b = some cs ∧ V.boxes b = none) := by
    intro b cs hb
    rcases setBoxes_or b lb with ⟨y, hy⟩ | hy
    · rw [hy] at hb ⊢; exact .inl hb
    · rw [hy] at hb ⊢
      cases hv : V.boxes b with
      | none => exact .inr ⟨hb, rfl⟩
      | some y => rw [hV.boxes b y hv] at hb; exact .inl hb
  have old_r : ∀ b cs, setAll S.rows lr b = some cs → setAll V.rows lr b = some cs ∨ (S.rows b = some cs ∧ V.rows b = none) := by
    intro b cs hb
    rcases setAll_or b lr with ⟨y, hy⟩ | hy
    · rw [hy] at hb ⊢; exact .inl hb
    · rw [hy] at hb ⊢
      cases hv : V.rows b with
      | none => exact .inr ⟨hb, rfl⟩
      | some y => rw [hV.rows b y hv] at hb; exact .inl hb
  have new_ : ∀ b, (FB B V E w).new b → B.new b := by
    intro b hb
    rcases hb with hb | ⟨c, cs, hc, e⟩ | ⟨k, r, hk, ho, hg⟩
    · exact .inl (Nat.le_trans h.grown hb)
    · rw [← e]; exact (h.boxNew c cs (hV.boxes c cs hc)).1
    · exact (h.rowNew k r b (hV.rows k r hk) ho hg).1
  have box_ : ∀ b cs, S.boxes b = some cs → V.boxes b = none → ¬ (FB B V E w).new (E.β b) := by
    intro b cs hb hn hb'
    rcases hb' with hb' | ⟨c, cs', hc, e⟩ | ⟨k, r, hk, ho, hg⟩
    · exact absurd (h.lt_box hb) (Nat.not_lt.2 hb')
    · rw [h.boxInj c b cs' cs (hV.boxes c cs' hc) hb e] at hc
      rw [hn] at hc
      cases hc
    · exact (h.rowNew k r _ (hV.rows k r hk) ho hg).2.2.1 b cs hb rfl
  have row_ : ∀ b r g, S.rows b = some r → V.rows b = none → r.own = true → OwnB w (E.hv b) r.t r.l g → ¬ (FB B V E w).new g := by
    intro b r g hb hn ho hg hb'
    obtain ⟨h1, h2, h3, h4⟩ := h.rowNew b r g hb ho hg
    rcases hb' with hb' | ⟨c, cs', hc, e⟩ | ⟨k, r', hk, ho', hg'⟩
    · exact absurd (h.lt_row hb ho hg) (Nat.not_lt.2 hb')
    · exact h3 c cs' (hV.boxes c cs' hc) e
    · rw [h4 k r' (hV.rows k r' hk) ho' hg', hn] at hk
      cases hk
  have heap_ : ∀ b, b < w.heap.size → ¬ (FB B V E w).new b → w'.heap[b]? = w.heap[b]? := fun b hb hn => h'.frame b hb fun hm => hn (.inr hm)
  have ob_ : ∀ b r g, S.rows b = some r → V.rows b = none → r.own = true → OwnB w' (E.hv b) r.t r.l g → OwnB w (E.hv b) r.t r.l g := fun b r g hb hn ho hg =>
    (OwnB.world fun g hg => heap_ g (h.lt_row hb ho (.inl hg)) (row_ b r g hb hn ho (.inl hg))).1 hg
  have notF : ∀ b, ¬ E.F b → ¬ (FB B V E w).new b → ¬ E'.F b := fun b h1 h2 h3 => ((h'.F b h3).1).elim h1 h2
  exact
  { defers := h.defers
    size := h.size
    tmps := fun t x hx => ⟨(h.tmps t x hx).1, (h.tmps t x hx).2.mono L⟩
    boxU := fun b cs hb => (old_b b cs hb).elim (fun hb => h'.boxU b cs hb) fun hb => L.U _ (h.boxU b cs hb.1)
    boxes := fun b cs hb => by
      rcases old_b b cs hb with hb | ⟨hb, hn⟩
      · exact h'.boxes b cs hb
      · obtain ⟨us, e, h0, h1⟩ := h.boxes b cs hb
        refine ⟨us, e, ?_, h1.mono L⟩
        rw [L.β _ (h.boxU b cs hb), heap_ _ (h.lt_box hb) (box_ b cs hb hn)]
        exact h0
    boxNew := fun b cs hb => by
      rcases old_b b cs hb with hb | ⟨hb, hn⟩
      · exact ⟨new_ _ (h'.boxNew b cs hb).1, (h'.boxNew b cs hb).2⟩
      · rw [L.β _ (h.boxU b cs hb)]
        exact ⟨(h.boxNew b cs hb).1, notF _ (h.boxNew b cs hb).2 (box_ b cs hb hn)⟩
    boxInj := fun b b' cs cs' hb hb' e => by
      rcases old_b b cs hb with hb | ⟨hb, hn⟩
      · rcases old_b b' cs' hb' with hb' | ⟨hb', hn'⟩
        · exact h'.boxInj b b' cs cs' hb hb' e
        · rw [L.β _ (h.boxU b' cs' hb')] at e
          exact absurd (by rw [← e]; exact (h'.boxNew b cs hb).1) (box_ b' cs' hb' hn')
      · rw [L.β _ (h.boxU b cs hb)] at e
        rcases old_b b' cs' hb' with hb' | ⟨hb', hn'⟩
        · exact absurd (by rw [e]; exact (h'.boxNew b' cs' hb').1) (box_ b cs hb hn)
        · rw [L.β _ (h.boxU b' cs' hb')] at e
          exact h.boxInj b b' cs cs' hb hb' e
    rowU := fun b cs hb => (old_r b cs hb).elim (fun hb => h'.rowU b cs hb) fun hb => L.U _ (h.rowU b cs hb.1)
    rows := fun b r hb => by
      rcases old_r b r hb with hb | ⟨hb, hn⟩
      · exact h'.rows b r hb
      · rw [L.hv _ (h.rowU b r hb), L.sz _ (h.rowU b r hb)]
        exact (h.rows b r hb).mono L fun ho g hg => heap_ g (h.lt_row hb ho hg) (row_ b r g hb hn ho hg)
    rowNew := fun b r g hb ho hg => by
      rcases old_r b r hb with hb | ⟨hb, hn⟩
      · obtain ⟨h1, h2, h3, h4⟩ := h'.rowNew b r g hb ho hg
        refine ⟨new_ g h1, h2, fun c cs hc e => ?_, fun k' r' hk' ho' hg' => ?_⟩
        · rcases old_b c cs hc with hc | ⟨hc, hn'⟩
          · exact h3 c cs hc e
          · rw [L.β _ (h.boxU c cs hc)] at e
            exact box_ c cs hc hn' (by rw [e]; exact h1)
        · rcases old_r k' r' hk' with hk' | ⟨hk', hn'⟩
          · exact h4 k' r' hk' ho' hg'
          · rw [L.hv _ (h.rowU k' r' hk')] at hg'
            exact absurd h1 (row_ k' r' g hk' hn' ho' (ob_ k' r' g hk' hn' ho' hg'))
      · rw [L.hv _ (h.rowU b r hb)] at hg
        have hg := ob_ b r g hb hn ho hg
        have hno := row_ b r g hb hn ho hg
        obtain ⟨h1, h2, h3, h4⟩ := h.rowNew b r g hb ho hg
        refine ⟨h1, notF g h2 hno, fun c cs hc e => ?_, fun k' r' hk' ho' hg' => ?_⟩
        · rcases old_b c cs hc with hc | ⟨hc, hn'⟩
          · exact hno (by rw [← e]; exact (h'.boxNew c cs hc).1)
          · rw [L.β _ (h.boxU c cs hc)] at e
            exact h3 c cs hc e
        · rcases old_r k' r' hk' with hk' | ⟨hk', hn'⟩
          · exact absurd (h'.rowNew k' r' g hk' ho' hg').1 hno
          · rw [L.hv _ (h.rowU k' r' hk')] at hg'
            exact h4 k' r' hk' ho' (ob_ k' r' g hk' hn' ho' hg')
    FA := fun b hb => L.F b (h.FA b hb)
    F := fun b hb => ⟨((h'.F b hb).1).elim (fun hb => (h.F b hb).1) fun hb => .inr (new_ b hb), (h'.F b hb).2⟩
    FAlt := h.FAlt
    os := h'.os.trans h.os
    tape := h'.tape.trans h.tape
    output := h'.output.trans h.output
    grown := Nat.le_trans h.grown h'.grown
    frame := fun b hb hm => by
      rw [← h.frame b hb hm]
      exact h'.frame b (Nat.lt_of_lt_of_le hb h.grown) fun hm' => (new_ b (.inr hm')).elim (fun hb' => absurd hb (Nat.not_lt.2 hb')) hm
    tab := h.tab }

/-- An operation that was reckoned on a part of the state. -/
theorem part_ok (hG : ∀ sp ∈ G, Holds P sp) (h : Sim B S E a w) (hV : Part V S) {id : Nat} (hid : ∀ n, id ≤ n → n < id + 64 → ¬ E.U n) {o : Oper} {δ : Delta} (he : Eff P G k V id o δ)
    {K : Act → World → Prop} {Q : Exit → Act → World → Prop}
    (hK : ∀ v w' E', E.le w w' E' → AVr w' E' δ.val v → Sim B { S with boxes := setBoxes S.boxes δ.boxes, rows := setAll S.rows δ.rows } E' a w' → (∀ n, E'.U n → E.U n ∨ (id ≤ n ∧ n < id + 64)) → K (a.put o.dst v) w') :
    o.wp P a w K Q :=
  eff_ok hG (h.part hV) hid he fun v w' E' L hv h' hU => hK v w' E' L hv (h.whole hV h' L) hU

end
end Go.Proofs.YtmbmapbdbbnaeaaT

/- A state is told anew: other numbers, fewer things. -/
import Derived.Test.YtpggnojbbibnnaaTiN
set_option linter.unusedVariables false
set_option linter.unusedSimpArgs false
namespace Go.Proofs.YtpggnojbbibnnaaT
open Go

section
variable {P : Program} {B B2 : Base} {S T : St} {E E2 : Env} {a a2 : Act} {w : World}

theorem Sim.re (h : Sim B S E a w) (ρ γ : Nat → Nat) (hd : a2.defers = []) (hsz : a2.tmps.size = B2.n)
    (htmps : ∀ t av, T.tmps t = some av → t < B2.n ∧ AVr w E2 av (a2.tmps.getD t undef))
    (hrows : ∀ k r, T.rows k = some r → r.own = true ∧ E2.U k ∧ E2.sz k = r.t.size ∧ ((S.rows (ρ k) = some r ∧ E2.hv k = E.hv (ρ k)) ∨ (E2.hv k = .slice none 0 0 ∧ r.l = [])))
    (hρ : ∀ k k' r r' g, T.rows k = some r → T.rows k' = some r' → (E2.hv k).ownBlock = some g → (E2.hv k').ownBlock = some g → ρ k = ρ k' → k = k')
    (hboxes : ∀ b cs, T.boxes b = some cs → E2.U b ∧ E2.β b = E.β (γ b) ∧ (∃ cs0, S.boxes (γ b) = some cs0) ∧ ∃ us ty, w.heap[E.β (γ b)]? = some (.cells us ty (0, 0)) ∧ ACs w E2 cs us.toList)
    (hγ : ∀ b b', T.boxes b ≠ none → T.boxes b' ≠ none → γ b = γ b' → b = b')
    (hF : ∀ b, E2.F b → E.F b) (hEnc : ∀ k r, T.rows k = some r → ∀ xs, EncL w E.F r.t r.l xs → EncL w E2.F r.t r.l xs)
    (hnewR : ∀ k r g, T.rows k = some r → (E2.hv k).ownBlock = some g → B2.new g) (hnewB : ∀ b cs, T.boxes b = some cs → B2.new (E2.β b))
    (hFA : ∀ b, B2.FA b → E2.F b) (hF2 : ∀ b, E2.F b → B2.FA b ∨ B2.new b) (hFAlt : ∀ b, B2.FA b → b < B2.w0.heap.size ∧ ¬ B2.M b)
    (hos : w.os = B2.w0.os) (htape : w.tape = B2.w0.tape) (hout : w.output = B2.w0.output) (hgrown : B2.w0.heap.size ≤ w.heap.size)
    (hframe : ∀ b, b < B2.w0.heap.size → ¬ B2.M b → w.heap[b]? = B2.w0.heap[b]?) : Sim B2 T E2 a2 w :=
  { defers := hd
    size := hsz
    tmps := htmps
    boxU := fun b cs hb => (hboxes b cs hb).1
    boxes := fun b cs hb => by
      obtain ⟨_, e, _, us, ty, g0, g1⟩ := hboxes b cs hb
      exact ⟨us, ty, by rw [e]; exact g0, g1⟩
    boxNew := fun b cs hb => by
      obtain ⟨_, e, ⟨cs0, h0⟩, h1⟩ := hboxes b cs hb
      exact ⟨hnewB b cs hb, fun hh => (h.boxNew _ _ h0).2 (by rw [← e]; exact hF _ hh)⟩
    boxInj := fun b b' cs cs' hb hb' e => by
      obtain ⟨_, e1, ⟨cs0, h0⟩, h1⟩ := hboxes b cs hb
      obtain ⟨_, e2, ⟨cs0', h0'⟩, h1'⟩ := hboxes b' cs' hb'
      exact hγ b b' (by rw [hb]; simp) (by rw [hb']; simp) (h.boxInj _ _ _ _ h0 h0' (by rw [← e1, ← e2, e]))
    rowU := fun k r hk => (hrows k r hk).2.1
    rows := fun k r hk => by
      obtain ⟨ho, _, e2, hs⟩ := hrows k r hk
      rcases hs with ⟨hs, e1⟩ | ⟨e1, hl⟩
      · obtain ⟨q1, q2, _⟩ := h.rows _ _ hs
        obtain ⟨xs, q3, q4⟩ := (h.rows _ _ hs).own ho
        refine ⟨e2, trivial, ?_⟩
        simp only [ho]
        rw [q1] at q3
        exact ⟨xs, by rw [e1, e2]; exact q3, hEnc k r hk xs q4⟩
      · refine ⟨e2, trivial, ?_⟩
        simp only [ho]
        exact ⟨[], ⟨by rw [hl]; simp, .inl ⟨e1, by rw [hl]; rfl⟩⟩, fun i x hx => by rw [hl] at hx; simp at hx⟩
    rowNew := fun k r g hk ho hg => by
      obtain ⟨_, _, e2, hs⟩ := hrows k r hk
      rcases hs with ⟨hs, e1⟩ | ⟨e1, hl⟩
      · have hg' := hg
        rw [e1] at hg'
        obtain ⟨n1, n2, n3, n4⟩ := h.rowNew _ _ g hs ho hg'
        refine ⟨hnewR k r g hk hg, fun hh => n2 (hF _ hh), fun b cs hb => ?_, fun k' r' hk' ho' hg'' => ?_⟩
        · obtain ⟨_, e, ⟨cs0, h0⟩, _⟩ := hboxes b cs hb
          rw [e]; exact n3 _ _ h0
        · obtain ⟨_, _, _, hs'⟩ := hrows k' r' hk'
          rcases hs' with ⟨hs', e1'⟩ | ⟨e1', _⟩
          · have hg3 := hg''
            rw [e1'] at hg3
            exact hρ k' k r' r g hk' hk hg'' hg (n4 _ _ hs' ho' hg3)
          · rw [e1'] at hg''; simp [Value.ownBlock] at hg''
      · rw [e1] at hg; simp [Value.ownBlock] at hg
    FA := hFA
    F := fun b hb => ⟨hF2 b hb, (h.F b (hF b hb)).2⟩
    FAlt := hFAlt
    os := hos
    tape := htape
    output := hout
    grown := hgrown
    frame := hframe }

/-- What a parsed value's cells are. -/
theorem parse_flat {S : St} : ∀ {u : Ty} {cs : List AC} {x : u.T}, parse S u cs = some x → (flat u x).length = cs.length ∧
    ∀ (j : Nat) c c', cs[j]? = some c → (flat u x)[j]? = some c' → ∃ t y, c' = .v t y ∧ t.cell = true ∧ asT S t c = some y
  | .unit, [], x, h => ⟨rfl, fun j c c' hc => by simp at hc⟩
  | .unit, _ :: _, x, h => by simp only [parse] at h; cases h
  | .pair p q, cs, x, h => by
    have hl := parse_len h
    simp only [parse, Option.bind_eq_some_iff] at h
    obtain ⟨y, hy, z, hz, e⟩ := h
    cases e
    obtain ⟨l1, f1⟩ := parse_flat hy
    obtain ⟨l2, f2⟩ := parse_flat hz
    simp only [Ty.size] at hl
    have e1 : (cs.take p.size).length = p.size := by rw [List.length_take]; omega
    refine ⟨by simp only [flat, List.length_append, l1, l2, List.length_take, List.length_drop]; omega, fun j c c' hc hc' => ?_⟩
    simp only [flat] at hc'
    rw [List.getElem?_append, l1, e1] at hc'
    split at hc'
    · rename_i hj
      exact f1 j c c' (by rw [List.getElem?_take, if_pos hj]; exact hc) hc'
    · rename_i hj
      exact f2 (j - p.size) c c' (by rw [List.getElem?_drop, show p.size + (j - p.size) = j by omega]; exact hc) hc'
  | .int k, [c], x, h => ⟨rfl, fun j d d' hd hd' => by cases j with | zero => simp [flat] at hd hd'; subst hd; subst hd'; exact ⟨_, _, rfl, rfl, h⟩ | succ j => simp at hd⟩
  | .bool, [c], x, h => ⟨rfl, fun j d d' hd hd' => by cases j with | zero => simp [flat] at hd hd'; subst hd; subst hd'; exact ⟨_, _, rfl, rfl, h⟩ | succ j => simp at hd⟩
  | .str, [c], x, h => ⟨rfl, fun j d d' hd hd' => by cases j with | zero => simp [flat] at hd hd'; subst hd; subst hd'; exact ⟨_, _, rfl, rfl, h⟩ | succ j => simp at hd⟩
  | .row t, [c], x, h => ⟨rfl, fun j d d' hd hd' => by cases j with | zero => simp [flat] at hd hd'; subst hd; subst hd'; exact ⟨_, _, rfl, rfl, h⟩ | succ j => simp at hd⟩
  | .int k, [], x, h => by simp only [parse] at h; cases h
  | .bool, [], x, h => by simp only [parse] at h; cases h
  | .str, [], x, h => by simp only [parse] at h; cases h
  | .row t, [], x, h => by simp only [parse] at h; cases h
  | .int k, _ :: _ :: _, x, h => by simp only [parse] at h; cases h
  | .bool, _ :: _ :: _, x, h => by simp only [parse] at h; cases h
  | .str, _ :: _ :: _, x, h => by simp only [parse] at h; cases h
  | .row t, _ :: _ :: _, x, h => by simp only [parse] at h; cases h

end
end Go.Proofs.YtpggnojbbibnnaaT

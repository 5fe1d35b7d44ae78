/- A state is told anew: other numbers, fewer things. -/
import Derived.Test.YtmbmapbdbbnaeaaTiN
set_option linter.unusedVariables false
set_option linter.unusedSimpArgs false
namespace Go.Proofs.YtmbmapbdbbnaeaaT
open Go

section
variable {P : Program} {B B2 : Base} {S T : St} {E E2 : Env} {a a2 : Act} {w : World}

def Tame (t : Ty) : Prop := (∀ n u, t = .deep n u → n = none ∧ u.one = true) ∧ ∀ u, t = .part u → u.one = true
theorem OwnB.nil {w : World} {t : Ty} {l : List t.T} {g : Nat} (h : OwnB w (.slice none 0 0) t l g) : False := by
  rcases h with h | h
  · simp [Value.ownBlock] at h
  · cases t with
    | deep n t => obtain ⟨j, u, h, _⟩ := h; simp [kids] at h
    | part t => obtain ⟨j, u, h, _⟩ := h; simp [kids] at h
    | _ => exact h.elim
theorem Sim.re (h : Sim B S E a w) (ρ γ : Nat → Nat) (hd : a2.defers = B2.dfs) (hsz : a2.tmps.size = B2.n)
    (htmps : ∀ t av, T.tmps t = some av → t < B2.n ∧ AVr w E2 av (a2.tmps.getD t undef))
    (hrows : ∀ k r, T.rows k = some r → r.own = true ∧ E2.U k ∧ E2.sz k = r.t.size ∧ ((S.rows (ρ k) = some r ∧ E2.hv k = E.hv (ρ k)) ∨ (E2.hv k = .slice none 0 0 ∧ r.l = [])))
    (hρ : ∀ k k' r r' g, T.rows k = some r → T.rows k' = some r' → OwnB w (E2.hv k) r.t r.l g → OwnB w (E2.hv k') r'.t r'.l g → ρ k = ρ k' → k = k')
    (hboxes : ∀ b cs, T.boxes b = some cs → E2.U b ∧ E2.β b = E.β (γ b) ∧ (∃ cs0, S.boxes (γ b) = some cs0) ∧ ∃ us ty, w.heap[E.β (γ b)]? = some (.cells us ty (0, 0)) ∧ ACs w E2 cs us.toList)
    (hγ : ∀ b b', T.boxes b ≠ none → T.boxes b' ≠ none → γ b = γ b' → b = b')
    (hF : ∀ b, E2.F b → E.F b) (hEnc : ∀ k r, T.rows k = some r → ∀ xs v, Body w E.U E.hv E.F r.t r.l xs v → Body w E2.U E2.hv E2.F r.t r.l xs v) (hone : ∀ k r, T.rows k = some r → Tame r.t)
    (hnewR : ∀ k r g, T.rows k = some r → OwnB w (E2.hv k) r.t r.l g → B2.new g) (hnewB : ∀ b cs, T.boxes b = some cs → B2.new (E2.β b))
    (hFA : ∀ b, B2.FA b → E2.F b) (hF2 : ∀ b, E2.F b → B2.FA b ∨ B2.new b) (hFAlt : ∀ b, B2.FA b → b < B2.w0.heap.size ∧ ¬ B2.M b)
    (hos : w.os = B2.w0.os) (htape : w.tape = B2.w0.tape) (hout : w.output = B2.w0.output) (hgrown : B2.w0.heap.size ≤ w.heap.size)
    (hframe : ∀ b, b < B2.w0.heap.size → ¬ B2.M b → w.heap[b]? = B2.w0.heap[b]?) (htab : TabOk B2.w0 B2.FA) : Sim B2 T E2 a2 w :=
  { defers := hd
    size := hsz
    tmps := htmps
    boxU := fun b cs hb => (hboxes b cs hb).1
    boxes := fun b cs hb => by
      obtain ⟨_, e, _, us, ty, g0, g1⟩ := hboxes b cs hb
      exact ⟨us, ty, by rw [e]; exact g0, g1⟩
    boxNew := fun b cs hb => by
      obtain ⟨_, e, ⟨cs0, h0⟩, h1⟩ := hboxes b cs hb
      exact ⟨hnewB b cs hb, fun hh => (h.boxNew _ _ h0).2 (by rw [← e]; exact hF _ hh)⟩
    boxInj := fun b b' cs cs' hb hb' e => by
      obtain ⟨_, e1, ⟨cs0, h0⟩, h1⟩ := hboxes b cs hb
      obtain ⟨_, e2, ⟨cs0', h0'⟩, h1'⟩ := hboxes b' cs' hb'
      exact hγ b b' (by rw [hb]; simp) (by rw [hb']; simp) (h.boxInj _ _ _ _ h0 h0' (by rw [← e1, ← e2, e]))
    rowU := fun k r hk => (hrows k r hk).2.1
    rows := fun k r hk => by
      obtain ⟨ho, _, e2, hs⟩ := hrows k r hk
      rcases hs with ⟨hs, e1⟩ | ⟨e1, hl⟩
      · obtain ⟨q1, q2, _⟩ := h.rows _ _ hs
        obtain ⟨xs, q3, q4⟩ := (h.rows _ _ hs).ownB ho
        refine ⟨e2, trivial, ?_⟩
        simp only [ho]
        rw [q1] at q3
        exact ⟨xs, by rw [e1, e2]; exact q3, hEnc k r hk xs _ (by rw [e1]; exact q4)⟩
      · refine ⟨e2, trivial, ?_⟩
        simp only [ho]
        refine ⟨[], ⟨by rw [hl]; simp, .inl ⟨e1, by rw [hl]; rfl⟩⟩, ?_⟩
        have hd := hone k r hk
        obtain ⟨ro, rt, rl⟩ := r
        simp only at hl hd
        subst hl
        cases rt with
        | deep n t =>
          obtain ⟨rfl, h1⟩ := hd.1 n t rfl
          exact show Kids w E2.U E2.hv none t [] [] (E2.hv k) from
            ⟨h1, fun j c u hc hu => by simp at hu, fun n hn => (by cases hn), fun j j' u u' g hu => (by simp at hu), fun j u g hu => by simp at hu⟩
        | part t =>
          exact show KidsP w t [] [] (E2.hv k) from
            ⟨hd.2 t rfl, fun u hu => (by simp at hu), fun j c u hc hu => by simp at hu, fun j j' u u' g hu => (by simp at hu), fun j u g hu => by simp at hu⟩
        | _ => exact show EncL w E2.F _ [] [] from fun i x hx => by simp at hx
    rowNew := fun k r g hk ho hg => by
      obtain ⟨_, _, e2, hs⟩ := hrows k r hk
      rcases hs with ⟨hs, e1⟩ | ⟨e1, hl⟩
      · have hg' := hg
        rw [e1] at hg'
        obtain ⟨n1, n2, n3, n4⟩ := h.rowNew _ _ g hs ho hg'
        refine ⟨hnewR k r g hk hg, fun hh => n2 (hF _ hh), fun b cs hb => ?_, fun k' r' hk' ho' hg'' => ?_⟩
        · obtain ⟨_, e, ⟨cs0, h0⟩, _⟩ := hboxes b cs hb
          rw [e]; exact n3 _ _ h0
        · obtain ⟨_, _, _, hs'⟩ := hrows k' r' hk'
          rcases hs' with ⟨hs', e1'⟩ | ⟨e1', _⟩
          · have hg3 := hg''
            rw [e1'] at hg3
            exact hρ k' k r' r g hk' hk hg'' hg (n4 _ _ hs' ho' hg3)
          · rw [e1'] at hg''; exact (OwnB.nil hg'').elim
      · rw [e1] at hg; exact (OwnB.nil hg).elim
    FA := hFA
    F := fun b hb => ⟨hF2 b hb, (h.F b (hF b hb)).2⟩
    FAlt := hFAlt
    os := hos
    tape := htape
    output := hout
    grown := hgrown
    frame := hframe
    tab := htab }

end
end Go.Proofs.YtmbmapbdbbnaeaaT

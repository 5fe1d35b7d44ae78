/- Calls: what comes back. -/
import Derived.Test.YtmbmapbdbbnaeaaTiT
set_option linter.unusedVariables false
set_option linter.unusedSimpArgs false
namespace Go.Proofs.YtmbmapbdbbnaeaaT
open Go

section
variable {P : Program} {B : Base} {S : St} {E E2 : Env} {a : Act} {w w' : World}

/-- Fewer rows and variables. -/
theorem Sim.sub (h : Sim B S E a w) {rows' : Nat → Option RowSt} {boxes' : Nat → Option (List AC)} (hr : ∀ k r, rows' k = some r → S.rows k = some r) (hb : ∀ b cs, boxes' b = some cs → S.boxes b = some cs) :
    Sim B { S with rows := rows', boxes := boxes' } E a w :=
  { h with
    boxU := fun b cs x => h.boxU b cs (hb b cs x)
    boxes := fun b cs x => h.boxes b cs (hb b cs x)
    boxNew := fun b cs x => h.boxNew b cs (hb b cs x)
    boxInj := fun b b' cs cs' x y => h.boxInj b b' cs cs' (hb b cs x) (hb b' cs' y)
    rowU := fun k r x => h.rowU k r (hr k r x)
    rows := fun k r x => h.rows k r (hr k r x)
    rowNew := fun k r g x ho hg => by
      obtain ⟨h0, h1, h2, h3⟩ := h.rowNew k r g (hr k r x) ho hg
      exact ⟨h0, h1, fun b cs y => h2 b cs (hb b cs y), fun k' r' y => h3 k' r' (hr k' r' y)⟩ }

/-- More is read. -/
theorem Sim.moreF (h : Sim B S E a w) {F' : Nat → Prop} (hF : ∀ b, E.F b → F' b) (hnew : ∀ b, F' b → (B.FA b ∨ B.new b) ∧ b < w.heap.size) (hB : ∀ b cs, S.boxes b = some cs → ¬ F' (E.β b))
    (hR : ∀ k r g, S.rows k = some r → r.own = true → OwnB w (E.hv k) r.t r.l g → ¬ F' g) : Sim B S { E with F := F' } a w ∧ E.le w w { E with F := F' } := by
  have L : E.le w w { E with F := F' } := ⟨fun _ h => h, fun _ _ => rfl, fun _ _ => rfl, fun _ _ => rfl, hF, fun _ _ => rfl⟩
  refine ⟨?_, L⟩
  exact { h with
    tmps := fun t x hx => ⟨(h.tmps t x hx).1, (h.tmps t x hx).2.mono L⟩
    boxes := fun b cs hb => by
      obtain ⟨us, e, h0, h1⟩ := h.boxes b cs hb
      exact ⟨us, e, h0, h1.mono L⟩
    boxNew := fun b cs hb => ⟨(h.boxNew b cs hb).1, hB b cs hb⟩
    rows := fun n r' hn => (h.rows n r' hn).mono L fun _ _ _ => rfl
    rowNew := fun n r' g' hn ho' hg' => by
      obtain ⟨m1, m2, m3, m4⟩ := h.rowNew n r' g' hn ho' hg'
      exact ⟨m1, hR n r' g' hn ho' hg', m3, m4⟩
    FA := fun b hb => hF b (h.FA b hb)
    F := hnew }

/-- Rows come to the state. -/
theorem Sim.addRows {l : List (Nat × Option RowSt)} : ∀ {S : St}, Sim B S E a w →
    (∀ p ∈ l, ∃ r, p.2 = some r ∧ E.U p.1 ∧ RowIs w E (E.hv p.1) (E.sz p.1) r ∧ ∀ g, OwnB w (E.hv p.1) r.t r.l g → Alone B S E w p.1 g) →
    (∀ p ∈ l, ∀ q ∈ l, ∀ r r' g, p.2 = some r → q.2 = some r' → OwnB w (E.hv p.1) r.t r.l g → OwnB w (E.hv q.1) r'.t r'.l g → p.1 = q.1) → Sim B { S with rows := setAll S.rows l } E a w := by
  induction l with
  | nil => intro S h _ _; exact h
  | cons p l ih =>
    intro S h h1 h2
    obtain ⟨k, o⟩ := p
    obtain ⟨r, e, hU, hr, ha⟩ := h1 (k, o) (by simp)
    simp only at e
    subst e
    have g1 := h.setRowSt hU hr (fun _ => ha)
    refine ih (S := { S with rows := upd S.rows k (some r) }) g1 (fun p hp => ?_) (fun p hp q hq => h2 p (by simp [hp]) q (by simp [hq]))
    obtain ⟨r', e', hU', hr', ha'⟩ := h1 p (by simp [hp])
    refine ⟨r', e', hU', hr', fun g hg => ?_⟩
    obtain ⟨n1, n2, n3, n4⟩ := ha' g hg
    refine ⟨n1, n2, n3, fun k' r'' hk' ho hg' => ?_⟩
    rcases upd_cases hk' with ⟨e1, _⟩ | ⟨_, hk'⟩
    · rw [e1] at hg' ⊢
      exact h2 (k, some r) (by simp) p (by simp [hp]) _ _ g rfl e' (by cases ‹some r = some _›; exact hg') hg
    · exact n4 k' r'' hk' ho hg'

/-- Variables come to the state. -/
theorem Sim.addBoxes {l : List (Nat × List AC)} : ∀ {S : St}, Sim B S E a w →
    (∀ p ∈ l, E.U p.1 ∧ (∃ us ty, w.heap[E.β p.1]? = some (.cells us ty (0, 0)) ∧ ACs w E p.2 us.toList) ∧ B.new (E.β p.1) ∧ ¬ E.F (E.β p.1) ∧ (∀ b' cs', S.boxes b' = some cs' → E.β b' = E.β p.1 → b' = p.1) ∧
      (∀ k r g, S.rows k = some r → r.own = true → OwnB w (E.hv k) r.t r.l g → E.β p.1 ≠ g)) →
    (∀ p ∈ l, ∀ q ∈ l, E.β p.1 = E.β q.1 → p.1 = q.1) → Sim B { S with boxes := setBoxes S.boxes l } E a w := by
  induction l with
  | nil => intro S h _ _; exact h
  | cons p l ih =>
    intro S h h1 h2
    obtain ⟨b, cs⟩ := p
    obtain ⟨hU, ⟨us, ty, hw, hc⟩, n1, n2, n3, n4⟩ := h1 (b, cs) (by simp)
    have g1 := h.setBoxSt (b := b) (cs := cs) hU hw hc n1 n2 n3 n4
    refine ih (S := { S with boxes := upd S.boxes b (some cs) }) g1 (fun p hp => ?_) (fun p hp q hq => h2 p (by simp [hp]) q (by simp [hq]))
    obtain ⟨hU', hh, m1, m2, m3, m4⟩ := h1 p (by simp [hp])
    refine ⟨hU', hh, m1, m2, fun b' cs' hb' e => ?_, m4⟩
    rcases upd_cases hb' with ⟨e1, _⟩ | ⟨_, hb'⟩
    · rw [e1] at e ⊢; exact h2 (b, cs) (by simp) p (by simp [hp]) e
    · exact m3 b' cs' hb' e

theorem resRows_mem : ∀ {ss : List CSh} {fl : List AC} {id : Nat} {p : Nat × Option RowSt}, p ∈ resRows id ss fl → ∃ (j : Nat) (r : RowSt), p = (id + j, some r) ∧ r.own = true ∧ (∃ t, ss[j]? = some (.own t)) ∧ fl[j]? = some (.v (.row r.t) r.l)
  | [], fl, id, p, h => by cases fl <;> simp [resRows] at h
  | s :: ss, [], id, p, h => by cases s <;> simp [resRows] at h
  | s :: ss, c :: fl, id, p, h => by
    unfold resRows at h
    split at h
    · rename_i e1 e2
      cases e1; cases e2
      rcases List.mem_cons.1 h with rfl | h
      · exact ⟨0, _, rfl, rfl, ⟨_, rfl⟩, rfl⟩
      · obtain ⟨j, r, h1, h2, h3, h4⟩ := resRows_mem h
        exact ⟨j + 1, r, by rw [h1]; congr 1; omega, h2, by simpa using h3, by simpa using h4⟩
    · rename_i e1 e2
      cases e1; cases e2
      obtain ⟨j, r, h1, h2, h3, h4⟩ := resRows_mem h
      exact ⟨j + 1, r, by rw [h1]; congr 1; omega, h2, by simpa using h3, by simpa using h4⟩
    · cases h

theorem ownIds_get : ∀ {ss : List CSh} {i k : Nat} {c : AC}, (ownIds k ss)[i]? = some c → ∃ (j : Nat), c = .own (k + j) ∧ ∃ t, ss[j]? = some (.own t) ∧ (ownShs ss)[i]? = some (.own t)
  | [], i, k, c, h => by simp [ownIds] at h
  | .val t :: ss, i, k, c, h => by
    simp only [ownIds] at h
    obtain ⟨j, h1, t', h2, h3⟩ := ownIds_get h
    exact ⟨j + 1, by rw [h1]; congr 1; omega, t', by simpa using h2, by simpa [ownShs] using h3⟩
  | .own t :: ss, i, k, c, h => by
    cases i with
    | zero => simp [ownIds] at h; exact ⟨0, by rw [← h]; rfl, t, rfl, by simp [ownShs]⟩
    | succ i =>
      simp only [ownIds, List.getElem?_cons_succ] at h
      obtain ⟨j, h1, t', h2, h3⟩ := ownIds_get h
      exact ⟨j + 1, by rw [h1]; congr 1; omega, t', by simpa using h2, by simpa [ownShs] using h3⟩

theorem backRows_mem : ∀ {ss : List CSh} {cs fs : List AC} {q : Nat} {p : Nat × Option RowSt}, p ∈ backRows ss cs fs →
    ∃ (j i k : Nat) (r : RowSt), p = (k, some r) ∧ r.own = true ∧ cs[j]? = some (.own k) ∧ (ownIds q ss)[i]? = some (.own (q + j)) ∧ fs[i]? = some (.v (.row r.t) r.l)
  | [], cs, fs, q, p, h => by simp [backRows] at h
  | s :: ss, [], fs, q, p, h => by cases s <;> simp [backRows] at h
  | .val t :: ss, c :: cs, fs, q, p, h => by
    simp only [backRows] at h
    obtain ⟨j, i, k, r, h1, h2, h3, h4, h5⟩ := backRows_mem (q := q + 1) h
    exact ⟨j + 1, i, k, r, h1, h2, by simpa using h3, by rw [show q + (j + 1) = q + 1 + j by omega]; exact h4, h5⟩
  | .own t :: ss, c :: cs, [], q, p, h => by cases c <;> simp [backRows] at h
  | .own t :: ss, c :: cs, f :: fs, q, p, h => by
    have rec_ : p ∈ backRows ss cs fs → ∃ (j i k : Nat) (r : RowSt), p = (k, some r) ∧ r.own = true ∧ (c :: cs)[j]? = some (.own k) ∧ (ownIds q (.own t :: ss))[i]? = some (.own (q + j)) ∧ (f :: fs)[i]? = some (.v (.row r.t) r.l) := fun h => by
      obtain ⟨j, i, k, r, h1, h2, h3, h4, h5⟩ := backRows_mem (q := q + 1) h
      exact ⟨j + 1, i + 1, k, r, h1, h2, by simpa using h3, by rw [show q + (j + 1) = q + 1 + j by omega]; simpa [ownIds] using h4, by simpa using h5⟩
    unfold backRows at h
    split at h
    · rename_i e1 e2 e3
      cases e1; cases e2; cases e3
      rcases List.mem_cons.1 h with rfl | h
      · exact ⟨0, 0, _, _, rfl, rfl, rfl, by simp [ownIds], rfl⟩
      · exact rec_ h
    · rename_i e1 e2 e3
      cases e1; cases e2; cases e3
      exact rec_ h
    · rename_i e1 e2; cases e1
    · cases h

end
end Go.Proofs.YtmbmapbdbbnaeaaT

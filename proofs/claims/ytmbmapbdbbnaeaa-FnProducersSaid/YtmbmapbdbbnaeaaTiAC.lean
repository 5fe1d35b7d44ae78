/- Regions that draw: every order. -/
import Derived.Test.YtmbmapbdbbnaeaaTiAB
set_option linter.unusedVariables false
set_option linter.unusedSimpArgs false
namespace Go.Proofs.YtmbmapbdbbnaeaaT
open Go

section
variable {R : Type} {P : Program} {G : List Spec} {k : Nat} {B : Base} {S S' V : St} {E E' : Env} {a : Act} {w w' : World}

theorem runDraw_some {ops : List Oper} {bs : List Nat} (ho : Order ops bs) {base : Nat} {κ : St → Option R} {z : R} :
    ∀ (rest : List Oper) (i : Nat) (acc : List Done), ops.drop i = rest → Drew P G k ops bs base S acc → acc.length = i → runDraw P G k base ops bs S i rest acc κ = some z →
      ∃ D, Drew P G k ops bs base S D ∧ fenceAll S ops bs D = true ∧ D.length = ops.length ∧ κ (applyIf S (fun _ => true) D) = some z
  | [], i, acc, hr, h, hl, hz => by
    simp only [runDraw] at hz
    have : ops.length ≤ i := List.drop_eq_nil_iff.1 hr
    split at hz
    · rename_i hf
      exact ⟨acc, h, hf, by have := h.1; omega, hz⟩
    · cases hz
  | o :: rest, i, acc, hr, h, hl, hz => by
    have hi : ops[i]? = some o := by
      have : (ops.drop i)[0]? = some o := by rw [hr]; rfl
      simpa using this
    have hlt := (List.getElem?_eq_some_iff.1 hi).1
    have hr' : ops.drop (i + 1) = rest := by
      rw [← List.tail_drop, hr]; rfl
    subst hl
    have doX : (∀ g want, o.guard = some (g, want) → ∃ d, guardOf ops (applyIf S (bit bs acc.length) acc) g = .bool d want) →
        (step P G k (view (applyIf S (Nat.testBit (bs.getD acc.length 0)) acc) o) (base + 64 * acc.length) o fun δ =>
          runDraw P G k base ops bs S (acc.length + 1) rest (acc ++ [⟨acc.length, o.dst, δ⟩]) κ) = some z →
        ∃ D, Drew P G k ops bs base S D ∧ fenceAll S ops bs D = true ∧ D.length = ops.length ∧ κ (applyIf S (fun _ => true) D) = some z := by
      intro hw hs
      obtain ⟨δ, he, hs⟩ := step_some hs
      exact runDraw_some ho rest (acc.length + 1) _ hr' (h.snoc ho hlt ⟨rfl, o, hi, rfl, .inl ⟨he, hw⟩⟩) (by simp) hs
    have doY : (∃ g want, o.guard = some (g, want) ∧ (guardOf ops (applyIf S (bit bs acc.length) acc) g = .undef ∨ ∃ d, guardOf ops (applyIf S (bit bs acc.length) acc) g = .bool d (!want))) →
        runDraw P G k base ops bs S (acc.length + 1) rest (acc ++ [⟨acc.length, o.dst, { val := .undef }⟩]) κ = some z →
        ∃ D, Drew P G k ops bs base S D ∧ fenceAll S ops bs D = true ∧ D.length = ops.length ∧ κ (applyIf S (fun _ => true) D) = some z := by
      intro hw hs
      exact runDraw_some ho rest (acc.length + 1) _ hr' (h.snoc ho hlt ⟨rfl, o, hi, rfl, .inr ⟨rfl, hw⟩⟩) (by simp) hs
    simp only [runDraw] at hz
    split at hz
    · rename_i hg
      exact doX (fun g want e => by rw [hg] at e; cases e) hz
    · rename_i j want hg
      split at hz
      · rename_i hgv
        exact doY ⟨j, want, hg, .inl hgv⟩ hz
      · rename_i d b hgv
        have hj : bit bs acc.length j = true := ho.guard _ o j want hi hg
        have hlit := h.lit ho hj hgv
        rcases brB_some hz with ⟨rfl, hz⟩ | ⟨rfl, hz⟩
        · rw [hlit] at hz
          cases want with
          | true => exact doX (fun g want e => by rw [hg] at e; cases e; exact ⟨d, hgv⟩) hz
          | false => exact doY ⟨j, false, hg, .inr ⟨d, hgv⟩⟩ hz
        · rw [hlit] at hz
          cases want with
          | true => exact doY ⟨j, true, hg, .inr ⟨d, hgv⟩⟩ hz
          | false => exact doX (fun g want e => by rw [hg] at e; cases e; exact ⟨d, hgv⟩) hz
      · cases hz

theorem Drew.insert {ops : List Oper} {bs : List Nat} {base : Nat} {D : List Done} (h : Drew P G k ops bs base S D) {p p' : Nat → Bool} {j : Nat} {x : Done} (hx : D[j]? = some x) (hp : p j = false)
    (hp' : ∀ i, p' i = (p i || Nat.beq i j))
    (hc : ∀ y ∈ D, p y.i = true → j < y.i → (∀ d, x.dst = some d → y.dst ≠ some d) ∧ (∀ n, keysB x.d n → ¬ keysB y.d n) ∧ (∀ n, keysR x.d n → ¬ keysR y.d n)) :
    applyIf S p' D = (applyIf S p D).app x.dst x.d := by
  have hlt := (List.getElem?_eq_some_iff.1 hx).1
  have e : ∃ D1 D2, D = D1 ++ x :: D2 ∧ D1.length = j := by
    refine ⟨D.take j, D.drop (j + 1), ?_, by simp; omega⟩
    have : D[j] = x := (List.getElem?_eq_some_iff.1 hx).2
    rw [← this, ← List.drop_eq_getElem_cons hlt, List.take_append_drop]
  obtain ⟨D1, D2, rfl, rfl⟩ := e
  have ne1 : ∀ y ∈ D1, p' y.i = p y.i := by
    intro y hy
    obtain ⟨i, hi⟩ := List.getElem?_of_mem hy
    have hil := (List.getElem?_eq_some_iff.1 hi).1
    have := (h.2 i y (by rw [List.getElem?_append_left hil]; exact hi)).idx
    rw [hp', this, beq_nat'.2 (by omega), Bool.or_false]
  have ne2 : ∀ y ∈ D2, p' y.i = p y.i := by
    intro y hy
    obtain ⟨i, hi⟩ := List.getElem?_of_mem hy
    have := (h.2 (D1.length + (i + 1)) y (by rw [List.getElem?_append_right (by omega)]; simpa using hi)).idx
    rw [hp', this, beq_nat'.2 (by omega), Bool.or_false]
  have hxi := (h.2 D1.length x hx).idx
  rw [applyIf_append, applyIf_append, applyIf_congr ne1]
  simp only [applyIf]
  rw [hxi, hp', hp, beq_nat.2 rfl]
  simp only [Bool.or_true, if_true, Bool.false_eq_true, if_false]
  rw [applyIf_congr ne2]
  refine applyIf_out fun y hy hyp => hc y (by simp [hy]) hyp ?_
  obtain ⟨i, hi⟩ := List.getElem?_of_mem hy
  have := (h.2 (D1.length + (i + 1)) y (by rw [List.getElem?_append_right (by omega)]; simpa using hi)).idx
  omega

/-- What an operation was shown is a part of the state in which it runs. -/
theorem Drew.part {ops : List Oper} {bs : List Nat} (ho : Order ops bs) (h200 : ops.length ≤ 200) {base : Nat} {D : List Done} (h : Drew P G k ops bs base S D) (hlen : D.length = ops.length)
    (hf : fenceAll S ops bs D = true) {p : Nat → Bool} (hcl : ∀ i m, i < ops.length → p i = true → bit bs i m = true → p m = true) {j : Nat} {o : Oper} (hj : ops[j]? = some o) (hp : p j = false)
    (hb : ∀ m, bit bs j m = true → p m = true) : Part (view (applyIf S (bit bs j) D) o) (applyIf S p D) := by
  have jlt := (List.getElem?_eq_some_iff.1 hj).1
  -- what was listed besides is not ordered with it
  have un : ∀ y ∈ D, bit bs j y.i ≠ p y.i → y.i < ops.length ∧ y.i ≠ j ∧ D[y.i]? = some y ∧ p y.i = true ∧ bit bs j y.i = false ∧ related bs y.i j = false := by
    intro y hy hne
    obtain ⟨h1, h2⟩ := h.idx hy
    rw [hlen] at h2
    have hbf : bit bs j y.i = false := by
      cases hb' : bit bs j y.i with
      | false => rfl
      | true => exact absurd (by rw [hb', hb _ hb']) hne
    have hpt : p y.i = true := by
      cases hp' : p y.i with
      | true => rfl
      | false => exact absurd (by rw [hbf, hp']) hne
    refine ⟨h2, fun e => ?_, h1, hpt, hbf, ?_⟩
    · rw [e, hp] at hpt; cases hpt
    · simp only [related, Bool.or_eq_false_iff]
      refine ⟨?_, hbf⟩
      cases hq : Nat.testBit (bs.getD y.i 0) j with
      | false => rfl
      | true => rw [hcl y.i j h2 hpt hq] at hp; cases hp
  -- what they write it does not look at
  have nokey : ∀ y ∈ D, bit bs j y.i ≠ p y.i → ∀ n, keys y.d n → touchB (touches (applyIf S (bit bs j) D) o) n = false := by
    intro y hy hne n hk
    obtain ⟨u1, u2, u3, u4, u5, u6⟩ := un y hy hne
    obtain ⟨x, hx⟩ : ∃ x, D[j]? = some x := ⟨D[j]'(by omega), by simp⟩
    exact (fence_apart hf u1 hj u3 hx u2 u6 n hk).1
  refine ⟨fun t x hx => ?_, fun b x hx => ?_, fun b x hx => ?_⟩
  · simp only [view] at hx
    split at hx
    · rename_i hm
      rw [← hx]
      refine (applyIf_tmps (p := bit bs j) (q := p) (fun y hy hne hd => ?_) rfl).symm
      obtain ⟨u1, u2, u3, u4, u5, u6⟩ := un y hy hne
      obtain ⟨o', g1, g2, _⟩ := (h.2 _ y u3).at_
      rw [ho.look y.i j o' o t g1 hj u2 u6 (g2.symm.trans hd)] at hm
      cases hm
    · cases hx
  · simp only [view] at hx
    split at hx
    · rename_i hs
      rw [← hx]
      refine (applyIf_boxes (p := bit bs j) (q := p) (fun y hy hne hk => ?_) rfl).symm
      rw [nokey y hy hne b (.inl hk)] at hs
      cases hs
    · cases hx
  · simp only [view] at hx
    split at hx
    · rename_i hs
      rw [← hx]
      refine (applyIf_rows (p := bit bs j) (q := p) (fun y hy hne hk => ?_) rfl).symm
      rw [nokey y hy hne b (.inr hk)] at hs
      cases hs
    · cases hx

end
end Go.Proofs.YtmbmapbdbbnaeaaT

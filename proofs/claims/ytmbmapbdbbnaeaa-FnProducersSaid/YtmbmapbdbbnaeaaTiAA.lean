/- Regions that draw: the deltas in the order of the text. -/
import Derived.Test.YtmbmapbdbbnaeaaTiZ
set_option linter.unusedVariables false
set_option linter.unusedSimpArgs false
namespace Go.Proofs.YtmbmapbdbbnaeaaT
open Go

section
variable {R : Type} {P : Program} {G : List Spec} {k : Nat} {B : Base} {S S' V : St} {E E' : Env} {a : Act} {w w' : World}

def keysB (δ : Delta) (n : Nat) : Prop := ∃ p ∈ δ.boxes, p.1 = n
def keysR (δ : Delta) (n : Nat) : Prop := ∃ p ∈ δ.rows, p.1 = n

theorem setBoxes_notk {α : Type} {n : Nat} : ∀ {l : List (Nat × α)} {f : Nat → Option α}, (∀ p ∈ l, p.1 ≠ n) → setBoxes f l n = f n
  | [], f, h => rfl
  | (m, x) :: l, f, h => by
    simp only [setBoxes]
    rw [setBoxes_notk fun p hp => h p (by simp [hp])]
    have : Nat.beq n m = false := beq_nat'.2 fun e => h (m, x) (by simp) e.symm
    rw [this]
theorem setAll_notk {α : Type} {n : Nat} : ∀ {l : List (Nat × Option α)} {f : Nat → Option α}, (∀ p ∈ l, p.1 ≠ n) → setAll f l n = f n
  | [], f, h => rfl
  | (m, x) :: l, f, h => by
    simp only [setAll]
    rw [setAll_notk fun p hp => h p (by simp [hp])]
    have : Nat.beq n m = false := beq_nat'.2 fun e => h (m, x) (by simp) e.symm
    rw [this]
theorem setBoxes_comm {α : Type} {f : Nat → Option α} {l m : List (Nat × α)} (h : ∀ p ∈ l, ∀ q ∈ m, p.1 ≠ q.1) : setBoxes (setBoxes f l) m = setBoxes (setBoxes f m) l := by
  funext n
  rcases setBoxes_or n l with ⟨y, hy⟩ | hy
  · rw [hy]
    by_cases hm : ∀ q ∈ m, q.1 ≠ n
    · rw [setBoxes_notk hm, hy]
    · have : ∃ q ∈ m, q.1 = n := by simpa using hm
      obtain ⟨q, hq, e⟩ := this
      have hl : ∀ p ∈ l, p.1 ≠ n := fun p hp e' => h p hp q hq (e'.trans e.symm)
      have := setBoxes_notk (f := fun _ => none) hl
      rw [hy] at this
      cases this
  · rw [hy]
    rcases setBoxes_or n m with ⟨y, hm⟩ | hm
    · rw [hm, hm]
    · rw [hm, hm, hy]
theorem setAll_get {α : Type} {n : Nat} : ∀ {l : List (Nat × Option α)}, (∃ p ∈ l, p.1 = n) → ∃ y, ∀ f : Nat → Option α, setAll f l n = y
  | [], h => by obtain ⟨p, hp, _⟩ := h; cases hp
  | (m, x) :: l, h => by
    by_cases hl : ∃ p ∈ l, p.1 = n
    · obtain ⟨y, hy⟩ := setAll_get hl
      exact ⟨y, fun f => hy _⟩
    · have hl' : ∀ p ∈ l, p.1 ≠ n := fun p hp e => hl ⟨p, hp, e⟩
      refine ⟨x, fun f => ?_⟩
      simp only [setAll]
      rw [setAll_notk hl']
      obtain ⟨p, hp, e⟩ := h
      rcases List.mem_cons.1 hp with rfl | hp
      · rw [beq_nat.2 e.symm]
      · exact absurd e (hl' p hp)
theorem setAll_comm {α : Type} {f : Nat → Option α} {l m : List (Nat × Option α)} (h : ∀ p ∈ l, ∀ q ∈ m, p.1 ≠ q.1) : setAll (setAll f l) m = setAll (setAll f m) l := by
  funext n
  by_cases hl : ∃ p ∈ l, p.1 = n
  · have hm : ∀ q ∈ m, q.1 ≠ n := fun q hq e => by
      obtain ⟨p, hp, e'⟩ := hl
      exact h p hp q hq (e'.trans e.symm)
    obtain ⟨y, hy⟩ := setAll_get hl
    rw [setAll_notk hm, hy, hy]
  · have hl' : ∀ p ∈ l, p.1 ≠ n := fun p hp e => hl ⟨p, hp, e⟩
    rw [setAll_notk hl']
    by_cases hm : ∃ p ∈ m, p.1 = n
    · obtain ⟨y, hy⟩ := setAll_get hm
      rw [hy, hy]
    · have hm' : ∀ p ∈ m, p.1 ≠ n := fun p hp e => hm ⟨p, hp, e⟩
      rw [setAll_notk hm', setAll_notk hm', setAll_notk hl']

theorem app_comm {d1 d2 : Option Nat} {δ1 δ2 : Delta} (hd : ∀ d, d1 = some d → d2 ≠ some d) (hb : ∀ n, keysB δ1 n → ¬ keysB δ2 n) (hr : ∀ n, keysR δ1 n → ¬ keysR δ2 n) :
    (S.app d1 δ1).app d2 δ2 = (S.app d2 δ2).app d1 δ1 := by
  unfold St.app
  congr 1
  · cases d1 with
    | none => rfl
    | some x =>
      cases d2 with
      | none => rfl
      | some y =>
        funext n
        have hxy : x ≠ y := fun e => hd x rfl (by rw [e])
        simp only
        cases e1 : Nat.beq n y with
        | true =>
          have : Nat.beq n x = false := beq_nat'.2 fun e => hxy (by rw [← e, beq_nat.1 e1])
          simp only [this]
        | false =>
          cases e2 : Nat.beq n x <;> simp only
  · exact setBoxes_comm fun p hp q hq e => hb p.1 ⟨p, hp, rfl⟩ ⟨q, hq, e.symm⟩
  · exact setAll_comm fun p hp q hq e => hr p.1 ⟨p, hp, rfl⟩ ⟨q, hq, e.symm⟩

theorem applyIf_append (p : Nat → Bool) : ∀ (D1 : List Done) (S : St) (D2 : List Done), applyIf S p (D1 ++ D2) = applyIf (applyIf S p D1) p D2
  | [], _, _ => rfl
  | x :: D1, S, D2 => by simp only [List.cons_append, applyIf]; exact applyIf_append p D1 _ D2
theorem applyIf_congr {p q : Nat → Bool} : ∀ {D : List Done} {S : St}, (∀ x ∈ D, p x.i = q x.i) → applyIf S p D = applyIf S q D
  | [], _, _ => rfl
  | x :: D, S, h => by
    simp only [applyIf]
    rw [h x (by simp)]
    exact applyIf_congr fun y hy => h y (by simp [hy])
theorem applyIf_out {p : Nat → Bool} {dst : Option Nat} {δ : Delta} : ∀ {D : List Done} {S : St},
    (∀ y ∈ D, p y.i = true → (∀ d, dst = some d → y.dst ≠ some d) ∧ (∀ n, keysB δ n → ¬ keysB y.d n) ∧ (∀ n, keysR δ n → ¬ keysR y.d n)) →
    applyIf (S.app dst δ) p D = (applyIf S p D).app dst δ
  | [], _, _ => rfl
  | x :: D, S, h => by
    simp only [applyIf]
    split
    · rename_i hp
      obtain ⟨h1, h2, h3⟩ := h x (by simp) hp
      rw [app_comm h1 h2 h3]
      exact applyIf_out fun y hy => h y (by simp [hy])
    · exact applyIf_out fun y hy => h y (by simp [hy])

theorem app_tmps {dst : Option Nat} {δ : Delta} {t : Nat} (h : dst ≠ some t) : (S.app dst δ).tmps t = S.tmps t := by
  cases dst with
  | none => rfl
  | some d =>
    have : Nat.beq t d = false := beq_nat'.2 fun e => h (by rw [e])
    simp only [St.app, this]
theorem app_tmps_same {d : Nat} {δ : Delta} : (S.app (some d) δ).tmps d = some δ.val := by simp only [St.app, beq_nat.2 rfl]
theorem applyIf_tmps {p q : Nat → Bool} {t : Nat} : ∀ {D : List Done} {S S' : St}, (∀ x ∈ D, p x.i ≠ q x.i → x.dst ≠ some t) → S.tmps t = S'.tmps t → (applyIf S p D).tmps t = (applyIf S' q D).tmps t
  | [], _, _, _, h => h
  | x :: D, S, S', h, e => by
    simp only [applyIf]
    refine applyIf_tmps (fun y hy => h y (by simp [hy])) ?_
    by_cases hd : x.dst = some t
    · have hpq : p x.i = q x.i := Decidable.byContradiction fun hne => h x (by simp) hne hd
      rw [hpq]
      split
      · rw [hd, app_tmps_same, app_tmps_same]
      · exact e
    · split <;> split <;> simp only [app_tmps hd, e]
theorem applyIf_get {p : Nat → Bool} {t : Nat} {v : AV} : ∀ {D : List Done} {S : St}, (∀ y ∈ D, p y.i = true → y.dst = some t → y.d.val = v) → (S.tmps t = some v ∨ ∃ y ∈ D, p y.i = true ∧ y.dst = some t) → (applyIf S p D).tmps t = some v
  | [], S, _, h => h.elim id fun ⟨y, hy, _⟩ => by cases hy
  | x :: D, S, h1, h2 => by
    simp only [applyIf]
    refine applyIf_get (fun y hy => h1 y (by simp [hy])) ?_
    by_cases hx : p x.i = true ∧ x.dst = some t
    · left
      rw [if_pos hx.1, hx.2, app_tmps_same, h1 x (by simp) hx.1 hx.2]
    · rcases h2 with h2 | ⟨y, hy, g1, g2⟩
      · left
        split
        · rename_i hp; rw [app_tmps fun e => hx ⟨hp, e⟩]; exact h2
        · exact h2
      · rcases List.mem_cons.1 hy with rfl | hy
        · exact absurd ⟨g1, g2⟩ hx
        · exact .inr ⟨y, hy, g1, g2⟩
theorem app_boxes {dst : Option Nat} {δ : Delta} {n : Nat} (h : ¬ keysB δ n) : (S.app dst δ).boxes n = S.boxes n := setBoxes_notk fun p hp e => h ⟨p, hp, e⟩
theorem app_rows {dst : Option Nat} {δ : Delta} {n : Nat} (h : ¬ keysR δ n) : (S.app dst δ).rows n = S.rows n := setAll_notk fun p hp e => h ⟨p, hp, e⟩
theorem app_boxes_eq {dst : Option Nat} {δ : Delta} {n : Nat} (h : S.boxes n = S'.boxes n) : (S.app dst δ).boxes n = (S'.app dst δ).boxes n := by
  show setBoxes S.boxes δ.boxes n = setBoxes S'.boxes δ.boxes n
  rcases setBoxes_or n δ.boxes with ⟨y, hy⟩ | hy
  · rw [hy, hy]
  · rw [hy, hy, h]
theorem app_rows_eq {dst : Option Nat} {δ : Delta} {n : Nat} (h : S.rows n = S'.rows n) : (S.app dst δ).rows n = (S'.app dst δ).rows n := by
  show setAll S.rows δ.rows n = setAll S'.rows δ.rows n
  rcases setAll_or n δ.rows with ⟨y, hy⟩ | hy
  · rw [hy, hy]
  · rw [hy, hy, h]
theorem applyIf_boxes {p q : Nat → Bool} {n : Nat} : ∀ {D : List Done} {S S' : St}, (∀ x ∈ D, p x.i ≠ q x.i → ¬ keysB x.d n) → S.boxes n = S'.boxes n → (applyIf S p D).boxes n = (applyIf S' q D).boxes n
  | [], _, _, _, h => h
  | x :: D, S, S', h, e => by
    simp only [applyIf]
    refine applyIf_boxes (fun y hy => h y (by simp [hy])) ?_
    by_cases hk : keysB x.d n
    · have hpq : p x.i = q x.i := Decidable.byContradiction fun hne => h x (by simp) hne hk
      rw [hpq]
      split
      · exact app_boxes_eq e
      · exact e
    · split <;> split <;> simp only [app_boxes hk, e]
theorem applyIf_rows {p q : Nat → Bool} {n : Nat} : ∀ {D : List Done} {S S' : St}, (∀ x ∈ D, p x.i ≠ q x.i → ¬ keysR x.d n) → S.rows n = S'.rows n → (applyIf S p D).rows n = (applyIf S' q D).rows n
  | [], _, _, _, h => h
  | x :: D, S, S', h, e => by
    simp only [applyIf]
    refine applyIf_rows (fun y hy => h y (by simp [hy])) ?_
    by_cases hk : keysR x.d n
    · have hpq : p x.i = q x.i := Decidable.byContradiction fun hne => h x (by simp) hne hk
      rw [hpq]
      split
      · exact app_rows_eq e
      · exact e
    · split <;> split <;> simp only [app_rows hk, e]
theorem applyIf_used {p : Nat → Bool} : ∀ {D : List Done} {S : St}, (applyIf S p D).used = S.used ∧ (applyIf S p D).prot = S.prot
  | [], _ => ⟨rfl, rfl⟩
  | x :: D, S => by
    simp only [applyIf]
    obtain ⟨h1, h2⟩ := applyIf_used (p := p) (D := D) (S := if p x.i = true then S.app x.dst x.d else S)
    rw [h1, h2]
    split <;> exact ⟨rfl, rfl⟩

end
end Go.Proofs.YtmbmapbdbbnaeaaT

/- What is kept at every place of the code. -/
import Derived.Test.YtmbmapbdbbnaeaaTiRB
import Derived.Control
set_option linter.unusedVariables false
set_option linter.unusedSimpArgs false
namespace Go.Proofs.YtmbmapbdbbnaeaaT
open Go

/-- Every temporary that is written is one of the function's. -/
def dstsOk (n : Nat) : Code → Bool
  | .region _ ops _ => ops.toList.all fun o => match o.dst with | some d => Nat.blt d n | none => true
  | .seq a b => dstsOk n a && dstsOk n b
  | .cond _ a b => dstsOk n a && dstsOk n b
  | .block _ c => dstsOk n c
  | .loop c => dstsOk n c
  | .rangeFunc _ ps a b => ps.toList.all (fun p => Nat.blt p n) && (dstsOk n a && dstsOk n b)
  | _ => true

section
variable {R : Type} {P : Program} {G : List Spec} {k : Nat} {B : Base} {S S' V : St} {E E' : Env} {a : Act} {w w' : World}

theorem least_nat {p : Nat → Prop} (h : ∃ n, p n) : ∃ n, p n ∧ ∀ m, p m → n ≤ m := by
  obtain ⟨n, hn⟩ := h
  induction n using Nat.strongRecOn with
  | _ n ih =>
    by_cases hx : ∃ m, m < n ∧ p m
    · obtain ⟨m, h1, h2⟩ := hx
      exact ih m h1 h2
    · exact ⟨n, hn, fun m hm => Decidable.byContradiction fun hlt => hx ⟨m, by omega, hm⟩⟩
open Classical in
noncomputable def leastOf (p : Nat → Prop) : Nat := if h : ∃ n, p n ∧ ∀ m, p m → n ≤ m then Classical.choose h else 0
theorem leastOf_ok {p : Nat → Prop} (h : ∃ n, p n) : p (leastOf p) ∧ ∀ m, p m → leastOf p ≤ m := by
  have := least_nat h
  simp only [leastOf, dif_pos this]
  exact Classical.choose_spec this

/-- What is kept at every place of the code. -/
structure Inv (B : Base) (pv : List Value) (pins : List Nat) (β0 : Nat → Nat) (S : St) (E : Env) (a : Act) (w : World) : Prop where
  sim : Sim B S E a w
  used : ∀ n, E.U n → n < 100000 ∨ ∃ r ∈ S.used, baseOf r ≤ n ∧ n < baseOf r + 16384
  len : S.prot.length = pv.length
  prot : ∀ (i j : Nat), S.prot[i]? = some j → E.U j ∧ pv[i]? = some (E.hv j)
  pins : ∀ b ∈ pins, E.U b ∧ E.β b = β0 b

variable {pv : List Value} {pins : List Nat} {β0 : Nat → Nat}

theorem Inv.fresh (h : Inv B pv pins β0 S E a w) {id : Nat} (hid : id ∉ S.used) {n : Nat} (h1 : baseOf id ≤ n) (h2 : n < baseOf id + 16384) : ¬ E.U n := by
  intro hn
  rcases h.used n hn with hn | ⟨r, hr, h3, h4⟩
  · simp only [baseOf] at h1; omega
  · have : r ≠ id := fun e => hid (by rw [← e]; exact hr)
    simp only [baseOf] at h1 h2 h3 h4
    omega

theorem Inv.left (h : Inv B pv pins β0 S E a w) {id : Nat} {w1 : World} {a' : Act} (l : Left B S (baseOf id) (baseOf id + 16384) E w1 S' E' a' w') : Inv B pv pins β0 { S' with used := id :: S.used } E' a' w' :=
  { sim := { l.sim with }
    used := fun n hn => by
      rcases l.U n hn with hn | hn
      · rcases h.used n hn with hn | ⟨r, hr, hb⟩
        · exact .inl hn
        · exact .inr ⟨r, by simp [hr], hb⟩
      · exact .inr ⟨id, by simp, hn⟩
    len := by show S'.prot.length = _; rw [l.same.2]; exact h.len
    prot := fun i j hij => by
      have hij : S'.prot[i]? = some j := hij
      rw [l.same.2] at hij
      obtain ⟨h1, h2⟩ := h.prot i j hij
      exact ⟨l.le.U _ h1, by rw [l.le.hv _ h1]; exact h2⟩
    pins := fun b hb => by
      obtain ⟨h1, h2⟩ := h.pins b hb
      exact ⟨l.le.U _ h1, by rw [l.le.β _ h1]; exact h2⟩ }

theorem keepOk_get {cells : List AC} : ∀ {ps js : List Nat}, keepOk cells ps js = true → ps.length = js.length ∧ ∀ (i p : Nat), ps[i]? = some p → ∃ j, js[i]? = some j ∧ cells[p]? = some (.own j)
  | [], [], _ => ⟨rfl, fun i p h => by simp at h⟩
  | [], _ :: _, h => by simp [keepOk] at h
  | _ :: _, [], h => by simp [keepOk] at h
  | p :: ps, j :: js, h => by
    simp only [keepOk, Bool.and_eq_true] at h
    obtain ⟨h1, h2⟩ := h
    obtain ⟨g1, g2⟩ := keepOk_get h2
    refine ⟨by simp [g1], fun i q hq => ?_⟩
    cases i with
    | zero =>
      simp at hq
      subst hq
      split at h1
      · rename_i x hx
        exact ⟨j, rfl, by rw [hx, beq_nat.1 h1]⟩
      · cases h1
    | succ i => exact g2 i q (by simpa using hq)

theorem Inv.extract (h : Inv B pv pins β0 S E a w) {hd : Head} {x : hd.ty.T} (hx : extract pins hd S = some x) (d : Bool) (mm : Nat) : ∃ E2, Inv B pv pins β0 (headSt d mm hd x (mkAt 0 hd.shs (flat hd.ty x))) E2 a w := by
  obtain ⟨E2, h1, h2, ⟨cells, h3, h4⟩, h5⟩ := extract_ok h.sim hx
  obtain ⟨g1, g2⟩ := keepOk_get h3
  refine ⟨E2, { h1 with }, fun n hn => .inl (h2 n hn), ?_, fun i j hij => ?_, fun b hb => ?_⟩
  · show hd.keep.length = _
    rw [g1]; exact h.len
  · obtain ⟨j0, q1, q2⟩ := g2 i j hij
    obtain ⟨r1, r2⟩ := h4 j j0 q2
    obtain ⟨s1, s2⟩ := h.prot i j0 q1
    exact ⟨r1, by rw [r2]; exact s2⟩
  · obtain ⟨r1, r2⟩ := h5 b hb
    exact ⟨r1, by rw [r2]; exact (h.pins b hb).2⟩

def Ex.out : Ex → Exit
  | .normal => .normal
  | .exit id => .exit id
  | .ret => .ret


theorem Inv.put {d : Nat} {av : AV} {v : Value} (h : Inv B pv pins β0 S E a w) (hd : d < B.n) (hv : AVr w E av v) : Inv B pv pins β0 (S.put d av) E (a.put (some d) v) w :=
  { h with
    sim := Sim.app (dst := some d) (δ := { val := av }) (fun _ e => by cases e; exact hd) hv h.sim }

/-- What runC gives holds of the code, in a round or not. -/
def CodeOk {R : Type} (P : Program) (G : List Spec) (k : Nat) (c : Code) : Prop :=
  ∀ (ro : Option Nat) (H : Hints) (β0 : Nat → Nat) (B : Base) (κ : Ex → St → Option R) (S : St) (z : R), (ro = none ∨ noRange c = true) → dstsOk B.n c = true → runC P G k H c κ S = some z →
    ∀ (pv : List Value) (E : Env) (a : Act) (w : World), Inv B pv H.pins β0 S E a w → ∀ Q : Exit → Act → World → Prop,
      (∀ B2 ex S' E' a' w', Ext B B2 → κ ex S' = some z → Inv B2 pv H.pins β0 S' E' a' w' → Q ex.out a' w') → c.wpIn (fr ro) 0 P Q a w

end
end Go.Proofs.YtmbmapbdbbnaeaaT

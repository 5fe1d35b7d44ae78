/- Regions that draw: what the check says, and what a reckoned region is. -/
import Derived.Test.YtmbmapbdbbnaeaaTiAA
set_option linter.unusedVariables false
set_option linter.unusedSimpArgs false
namespace Go.Proofs.YtmbmapbdbbnaeaaT
open Go

section
variable {R : Type} {P : Program} {G : List Spec} {k : Nat} {B : Base} {S S' V : St} {E E' : Env} {a : Act} {w w' : World}

abbrev bit (bs : List Nat) (i j : Nat) : Bool := Nat.testBit (bs.getD i 0) j

theorem nat_blt {m n : Nat} (h : Nat.blt m n = true) : m < n := by rwa [Nat.blt_eq] at h
theorem land_sub {x y m : Nat} (h : Nat.beq (Nat.land x y) x = true) (hm : Nat.testBit x m = true) : Nat.testBit y m = true := by
  have e : x &&& y = x := beq_nat.1 h
  rw [← e, Nat.testBit_and, Bool.and_eq_true] at hm
  exact hm.2
theorem edgeUnion_bit {bs : List Nat} {m : Nat} : ∀ {es : List Edge}, Nat.testBit (edgeUnion bs es) m = true → ∃ e ∈ es, Region.binds .any e = true ∧ (m = e.on ∨ bit bs e.on m = true)
  | [], h => by simp [edgeUnion] at h
  | e :: es, h => by
    simp only [edgeUnion] at h
    split at h
    · rename_i hb
      have h' : Nat.testBit (2 ^ e.on ||| bs.getD e.on 0 ||| edgeUnion bs es) m = true := h
      rw [Nat.testBit_or, Nat.testBit_or, Bool.or_eq_true, Bool.or_eq_true] at h'
      rcases h' with (h' | h') | h'
      · rw [Nat.testBit_two_pow] at h'
        exact ⟨e, by simp, hb, .inl (of_decide_eq_true h').symm⟩
      · exact ⟨e, by simp, hb, .inr h'⟩
      · obtain ⟨e', h1, h2⟩ := edgeUnion_bit h'
        exact ⟨e', by simp [h1], h2⟩
    · obtain ⟨e', h1, h2⟩ := edgeUnion_bit h
      exact ⟨e', by simp [h1], h2⟩

/-- What the check says. -/
structure Order (ops : List Oper) (bs : List Nat) : Prop where
  edge : ∀ (i : Nat) o, ops[i]? = some o → ∀ e ∈ o.after, Region.binds .any e = true → e.on < i
  lt : ∀ i m, i < ops.length → bit bs i m = true → m < i
  come : ∀ (i : Nat) o m, ops[i]? = some o → bit bs i m = true → ∃ e ∈ o.after, Region.binds .any e = true ∧ (m = e.on ∨ bit bs e.on m = true)
  guard : ∀ (i : Nat) o g b, ops[i]? = some o → o.guard = some (g, b) → bit bs i g = true
  dst : ∀ (i j : Nat) o p d, ops[i]? = some o → ops[j]? = some p → i ≠ j → o.dst = some d → p.dst ≠ some d
  look : ∀ (i j : Nat) o p d, ops[i]? = some o → ops[j]? = some p → i ≠ j → related bs i j = false → o.dst = some d → memB d (tmpsOf p) = false
  trans : ∀ i j m, i < ops.length → j < ops.length → i ≠ j → bit bs i j = true → bit bs j m = true → bit bs i m = true

theorem drawOk_order {ops : List Oper} {bs : List Nat} (h : drawOk ops bs = true) : Order ops bs := by
  simp only [drawOk, List.all_eq_true, List.mem_range] at h
  have one : ∀ (i : Nat) o, ops[i]? = some o → i < ops.length ∧ ((((∀ e ∈ o.after.toList, (!Region.binds .any e || Nat.blt e.on i) = true) ∧ Nat.blt (bs.getD i 0) (2 ^ i) = true) ∧
      Nat.beq (Nat.land (bs.getD i 0) (edgeUnion bs o.after.toList)) (bs.getD i 0) = true) ∧ (match o.guard with | some (g, _) => Nat.testBit (bs.getD i 0) g | none => true) = true) ∧
      ∀ j, j < ops.length → (Nat.beq i j || (match ops[j]? with | none => false | some p => pairOk bs i j o p)) = true := by
    intro i o ho
    have hi : i < ops.length := (List.getElem?_eq_some_iff.1 ho).1
    have := h i hi
    rw [ho] at this
    simp only [Bool.and_eq_true, List.all_eq_true, List.mem_range] at this
    exact ⟨hi, this.1, this.2⟩
  have pair : ∀ (i j : Nat) o p, ops[i]? = some o → ops[j]? = some p → i ≠ j → pairOk bs i j o p = true := by
    intro i j o p ho hp hne
    obtain ⟨_, _, h2⟩ := one i o ho
    have := h2 j (List.getElem?_eq_some_iff.1 hp).1
    rw [hp, beq_nat'.2 hne] at this
    simpa using this
  refine ⟨fun i o ho e he hb => ?_, fun i m hi hm => ?_, fun i o m ho hm => ?_, fun i o g b ho hg => ?_, fun i j o p d ho hp hne hd e => ?_, fun i j o p d ho hp hne hr hd => ?_, fun i j m hi hj hne h1 h2 => ?_⟩
  · obtain ⟨_, ⟨⟨⟨h1, _⟩, _⟩, _⟩, _⟩ := one i o ho
    have := h1 e (by simpa using he)
    rw [hb] at this
    simpa [Nat.blt_eq] using this
  · obtain ⟨_, ⟨⟨⟨_, h2⟩, _⟩, _⟩, _⟩ := one i ops[i] (by simp [hi])
    have h2' : bs.getD i 0 < 2 ^ i := nat_blt h2
    refine Decidable.byContradiction fun hlt => ?_
    have : Nat.testBit (bs.getD i 0) m = false := Nat.testBit_lt_two_pow (Nat.lt_of_lt_of_le h2' (Nat.pow_le_pow_right (by omega) (Nat.le_of_not_lt hlt)))
    rw [show bit bs i m = Nat.testBit (bs.getD i 0) m from rfl, this] at hm
    cases hm
  · obtain ⟨_, ⟨⟨_, h3⟩, _⟩, _⟩ := one i o ho
    obtain ⟨e, h1, h2⟩ := edgeUnion_bit (land_sub h3 hm)
    exact ⟨e, by simpa using h1, h2⟩
  · obtain ⟨_, ⟨_, h4⟩, _⟩ := one i o ho
    rw [hg] at h4
    exact h4
  · have := pair i j o p ho hp hne
    simp only [pairOk, hd, dstIs, e, beq_nat.2 rfl, Bool.not_true, Bool.false_and, Bool.false_eq_true] at this
  · have := pair i j o p ho hp hne
    simp only [pairOk, hd, hr, Bool.false_or, Bool.and_eq_true, Bool.not_eq_true'] at this
    exact this.1.2
  · have := pair i j ops[i] ops[j] (by simp [hi]) (by simp [hj]) hne
    simp only [pairOk, Bool.and_eq_true] at this
    have h3 := this.2
    rw [show Nat.testBit (bs.getD i 0) j = true from h1] at h3
    simp only [Bool.not_true, Bool.false_or] at h3
    exact land_sub h3 h2

def keys (δ : Delta) (n : Nat) : Prop := keysB δ n ∨ keysR δ n
theorem mem_memB {n : Nat} : ∀ {l : List Nat}, n ∈ l → memB n l = true
  | m :: l, h => by
    simp only [memB]
    split
    · rfl
    · rename_i e
      rcases List.mem_cons.1 h with rfl | h
      · exact absurd rfl (beq_nat'.1 e)
      · exact mem_memB h
theorem keys_mem {δ : Delta} {n : Nat} (h : keys δ n) : n ∈ keysOf δ := by
  rcases h with ⟨p, hp, rfl⟩ | ⟨p, hp, rfl⟩
  · exact List.mem_append.2 (.inl (List.mem_map.2 ⟨p, hp, rfl⟩))
  · exact List.mem_append.2 (.inr (List.mem_map.2 ⟨p, hp, rfl⟩))
/-- Two operations that are not ordered are apart. -/
theorem fence_apart {S : St} {ops : List Oper} {bs : List Nat} {D : List Done} (h : fenceAll S ops bs D = true) {i j : Nat} {o : Oper} {x y : Done} (hi : i < ops.length) (hj : ops[j]? = some o) (hx : D[i]? = some x) (hy : D[j]? = some y) (hne : i ≠ j) (hr : related bs i j = false) (n : Nat) (hk : keys x.d n) :
    touchB (touches (applyIf S (bit bs j) D) o) n = false ∧ ¬ keys y.d n := by
  simp only [fenceAll, List.all_eq_true, List.mem_range] at h
  have := h i hi j (List.getElem?_eq_some_iff.1 hj).1
  simp only [beq_nat'.2 hne, hr, Bool.false_or, apart1, hx, hy, hj, List.all_eq_true, Bool.and_eq_true, Bool.not_eq_true'] at this
  obtain ⟨h1, h2⟩ := this n (keys_mem hk)
  refine ⟨h1, fun hk' => ?_⟩
  rw [mem_memB (keys_mem hk')] at h2
  cases h2

/-- A region that was reckoned. -/
structure DrewAt (P : Program) (G : List Spec) (k : Nat) (ops : List Oper) (bs : List Nat) (base : Nat) (S : St) (D : List Done) (i : Nat) (x : Done) : Prop where
  idx : x.i = i
  at_ : ∃ o, ops[i]? = some o ∧ x.dst = o.dst ∧
    ((Eff P G k (view (applyIf S (bit bs i) D) o) (base + 64 * i) o x.d ∧ ∀ g want, o.guard = some (g, want) → ∃ d, guardOf ops (applyIf S (bit bs i) D) g = .bool d want) ∨
     (x.d = { val := .undef } ∧ ∃ g want, o.guard = some (g, want) ∧ (guardOf ops (applyIf S (bit bs i) D) g = .undef ∨ ∃ d, guardOf ops (applyIf S (bit bs i) D) g = .bool d (!want))))
def Drew (P : Program) (G : List Spec) (k : Nat) (ops : List Oper) (bs : List Nat) (base : Nat) (S : St) (D : List Done) : Prop :=
  D.length ≤ ops.length ∧ ∀ (i : Nat) x, D[i]? = some x → DrewAt P G k ops bs base S D i x

theorem Drew.idx {ops : List Oper} {bs : List Nat} {base : Nat} {D : List Done} (h : Drew P G k ops bs base S D) {x : Done} (hx : x ∈ D) : D[x.i]? = some x ∧ x.i < D.length := by
  obtain ⟨i, hi⟩ := List.getElem?_of_mem hx
  have := (h.2 i x hi).idx
  rw [this]
  exact ⟨hi, (List.getElem?_eq_some_iff.1 hi).1⟩

theorem Drew.snoc {ops : List Oper} {bs : List Nat} (ho : Order ops bs) {base : Nat} {D : List Done} (h : Drew P G k ops bs base S D) {x : Done} (hl : D.length < ops.length)
    (hx : DrewAt P G k ops bs base S D D.length x) : Drew P G k ops bs base S (D ++ [x]) := by
  have ext : ∀ i, i ≤ D.length → i < ops.length → applyIf S (bit bs i) (D ++ [x]) = applyIf S (bit bs i) D := by
    intro i hi hlt
    rw [applyIf_append]
    simp only [applyIf]
    rw [if_neg]
    intro hb
    have := ho.lt i x.i hlt hb
    have := hx.idx
    omega
  refine ⟨by simp; omega, fun i y hy => ?_⟩
  rw [List.getElem?_append] at hy
  split at hy
  · rename_i hi
    obtain ⟨q1, q2, q3⟩ := h.2 i y hy
    refine ⟨q1, q2, ?_⟩
    rw [ext i (by omega) (by omega)]
    exact q3
  · rename_i hi
    have hi' : i = D.length := by
      have : i - D.length < 1 := (List.getElem?_eq_some_iff.1 hy).1
      omega
    subst hi'
    simp only [Nat.sub_self, List.getElem?_cons_zero, Option.some.injEq] at hy
    subst hy
    obtain ⟨q1, q2, q3⟩ := hx
    refine ⟨q1, q2, ?_⟩
    rw [ext _ (Nat.le_refl _) hl]
    exact q3

/-- What a guard finds in the reckoned state. -/
theorem Drew.tmp {ops : List Oper} {bs : List Nat} (ho : Order ops bs) {base : Nat} {D : List Done} (h : Drew P G k ops bs base S D) {p : Nat → Bool} {g : Nat} {x : Done} {d : Nat}
    (hx : D[g]? = some x) (hp : p g = true) (hd : x.dst = some d) : (applyIf S p D).tmps d = some x.d.val := by
  refine applyIf_get (fun y hy _ hyd => ?_) (.inr ⟨x, List.mem_of_getElem? hx, by rw [(h.2 g x hx).idx]; exact hp, hd⟩)
  obtain ⟨hy1, hy2⟩ := h.idx hy
  by_cases e : g = y.i
  · rw [← e, hx] at hy1
    cases hy1
    rfl
  · obtain ⟨o1, p1, p2, _⟩ := (h.2 g x hx).at_
    obtain ⟨o2, p3, p4, _⟩ := (h.2 _ y hy1).at_
    exact absurd (p4.symm.trans hyd) (ho.dst g y.i o1 o2 d p1 p3 e (p2.symm.trans hd))

theorem setLit_same {g : Nat} {b : Bool} : ∀ {D : List Done}, (∀ x ∈ D, x.i = g → x.d.val = lit b) → setLit g b D = D
  | [], _ => rfl
  | x :: D, h => by
    simp only [setLit]
    rw [setLit_same fun y hy => h y (by simp [hy])]
    cases e : Nat.beq x.i g with
    | true =>
      have := h x (by simp) (beq_nat.1 e)
      obtain ⟨i, dst, ⟨v, bx, rw_⟩⟩ := x
      simp only at this
      subst this
      rfl
    | false => rfl

theorem guardOf_bool {ops : List Oper} {g d : Nat} {b : Bool} (h : guardOf ops S g = .bool d b) : ∃ o, ops[g]? = some o ∧ o.dst = some d ∧ S.tmps d = some (lit b) := by
  unfold guardOf at h
  split at h
  · rename_i o ho
    split at h
    · rename_i d' hd
      split at h
      · rename_i b' hs
        cases h
        exact ⟨o, ho, hd, hs⟩
      · cases h
      · cases h
    · cases h
  · cases h

theorem Drew.lit {ops : List Oper} {bs : List Nat} (ho : Order ops bs) {base : Nat} {D : List Done} (h : Drew P G k ops bs base S D) {p : Nat → Bool} {g d : Nat} {b : Bool} (hp : p g = true)
    (hg : guardOf ops (applyIf S p D) g = .bool d b) : setLit g b D = D := by
  obtain ⟨o, h1, h2, h3⟩ := guardOf_bool hg
  refine setLit_same fun x hx e => ?_
  obtain ⟨hx1, _⟩ := h.idx hx
  rw [e] at hx1
  obtain ⟨o', g1, g2, _⟩ := (h.2 g x hx1).at_
  rw [h1] at g1
  cases g1
  have := h.tmp ho hx1 hp (g2.trans h2)
  rw [h3] at this
  exact (Option.some.inj this).symm

end
end Go.Proofs.YtmbmapbdbbnaeaaT

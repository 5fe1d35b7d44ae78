/- Regions that draw: in memory. -/
import Derived.Test.YtmbmapbdbbnaeaaTiAC
set_option linter.unusedVariables false
set_option linter.unusedSimpArgs false
namespace Go.Proofs.YtmbmapbdbbnaeaaT
open Go

section
variable {R : Type} {P : Program} {G : List Spec} {k : Nat} {B : Base} {S S' V : St} {E E' : Env} {a : Act} {w w' : World}

theorem countP_lt {p q : Nat → Bool} : ∀ {l : List Nat}, (∀ x ∈ l, q x = true → p x = true) → (∃ x ∈ l, p x = true ∧ q x = false) → l.countP q < l.countP p
  | [], _, h => by obtain ⟨x, hx, _⟩ := h; cases hx
  | y :: l, h1, h2 => by
    have hle : l.countP q ≤ l.countP p := List.countP_mono_left fun x hx => h1 x (by simp [hx])
    simp only [List.countP_cons]
    obtain ⟨x, hx, g1, g2⟩ := h2
    rcases List.mem_cons.1 hx with rfl | hx
    · rw [g1, g2]; simp; omega
    · have := countP_lt (fun x hx => h1 x (by simp [hx])) ⟨x, hx, g1, g2⟩
      cases hq : q y with
      | true => rw [h1 y (by simp) hq]; simp; omega
      | false => simp; split <;> omega

theorem set_getD {l : Array Bool} {i j : Nat} {d : Bool} (hj : j < l.size) : (l.setIfInBounds j true).getD i d = if i = j then true else l.getD i d := by
  by_cases e : i = j
  · subst e; simp [hj]
  · rw [if_neg e, getD_set_ne d (Ne.symm e)]

theorem guardOf_eq {ops : List Oper} {g : Nat} (h : ∀ o d, ops[g]? = some o → o.dst = some d → S.tmps d = S'.tmps d) : guardOf ops S g = guardOf ops S' g := by
  unfold guardOf
  split
  · rename_i o ho
    split
    · rename_i d hd
      rw [h o d ho hd]
    · rfl
  · rfl

theorem drawn_ok (hG : ∀ sp ∈ G, Holds P sp) {ops : Array Oper} {bs : List Nat} (ho : Order ops.toList bs) (h200 : ops.size ≤ 200) {base : Nat} {D : List Done}
    (hdst : ∀ o ∈ ops.toList, ∀ d, o.dst = some d → d < B.n)
    (h : Drew P G k ops.toList bs base S D) (hf : fenceAll S ops.toList bs D = true) (hlen : D.length = ops.toList.length) {E0 : Env} {w0 : World} {ro : Option Nat} {nn : Nat}
    (hE0 : ∀ n, base ≤ n → n < base + 16384 → ¬ E0.U n) {Q : Exit → Act → World → Prop}
    (hQ : ∀ E' a' w', Left B S base (base + 16384) E0 w0 (applyIf S (fun _ => true) D) E' a' w' → Q .normal a' w') :
    ∀ (fuel : Nat) (listed : Array Bool) (E : Env) (a : Act) (w : World), listed.size = ops.size → (List.range ops.size).countP (fun i => !listed.getD i true) ≤ fuel →
      Sim B (applyIf S (fun i => listed.getD i false) D) E a w → (∀ i m, i < ops.size → listed.getD i false = true → bit bs i m = true → listed.getD m false = true) → E0.le w0 w E →
      (∀ n, E.U n → E0.U n ∨ ∃ i, listed.getD i false = true ∧ i < ops.size ∧ base + 64 * i ≤ n ∧ n < base + 64 * i + 64) → wpAnyIn (fr ro) nn P .any ops Q fuel listed a w := by
  have hl : ops.toList.length = ops.size := by simp
  -- nothing is left
  have fin : ∀ (listed : Array Bool) (E : Env) (a : Act) (w : World), listed.size = ops.size → Sim B (applyIf S (fun i => listed.getD i false) D) E a w → E0.le w0 w E →
      (∀ n, E.U n → E0.U n ∨ ∃ i, listed.getD i false = true ∧ i < ops.size ∧ base + 64 * i ≤ n ∧ n < base + 64 * i + 64) → Region.ready .any ops listed = [] → Q .normal a w := by
    intro listed E a w hsz hs hle hU hr
    have all : ∀ i, i < ops.size → listed.getD i false = true := by
      intro i
      induction i using Nat.strongRecOn with
      | _ i ih =>
        intro hi
        have hi' : i < listed.size := by omega
        cases hc : listed.getD i true with
        | true => simpa [Array.getD, hi'] using hc
        | false =>
          exfalso
          have : i ∈ Region.ready .any ops listed := mem_ready.2 ⟨hc, ops[i], by simp [hi], fun e he hb => by
            have := ho.edge i ops[i] (by simp [hi]) e he hb
            exact ih e.on this (by omega)⟩
          rw [hr] at this
          cases this
    have e : applyIf S (fun i => listed.getD i false) D = applyIf S (fun _ => true) D := applyIf_congr fun x hx => all x.i (by have := (h.idx hx).2; omega)
    rw [e] at hs
    refine hQ E a w ⟨applyIf_used, hs, hle, fun n hn => ?_⟩
    rcases hU n hn with hn | ⟨i, _, hi, h1, h2⟩
    · exact .inl hn
    · exact .inr ⟨by omega, by omega⟩
  intro fuel
  induction fuel with
  | zero =>
    intro listed E a w hsz hc hs hcl hle hU
    have hr : Region.ready .any ops listed = [] := by
      refine List.eq_nil_iff_forall_not_mem.2 fun j hj => ?_
      obtain ⟨h1, o, h2, _⟩ := mem_ready.1 hj
      have hjlt := (Array.getElem?_eq_some_iff.1 h2).1
      have := List.countP_eq_zero.1 (Nat.le_zero.1 hc) j (by simp [hjlt])
      rw [h1] at this
      simp at this
    exact ⟨hr, fin listed E a w hsz hs hle hU hr⟩
  | succ fuel ih =>
    intro listed E a w hsz hc hs hcl hle hU
    refine ⟨fin listed E a w hsz hs hle hU, fun j hj => ?_⟩
    obtain ⟨h1, o, h2, h3⟩ := mem_ready.1 hj
    have hjlt := (Array.getElem?_eq_some_iff.1 h2).1
    have hjl : j < listed.size := by omega
    have h2' : ops.toList[j]? = some o := by simpa using h2
    have hpj : listed.getD j false = false := by simpa [Array.getD, hjl] using h1
    have hmem : o ∈ ops.toList := List.mem_of_getElem? h2'
    have hd := hdst o hmem
    obtain ⟨x, hx⟩ : ∃ x, D[j]? = some x := ⟨D[j]'(by omega), by simp⟩
    have hX := h.2 j x hx
    obtain ⟨o', q1, q2, q3⟩ := hX.at_
    rw [h2'] at q1
    cases q1
    -- what comes before is listed
    have hb : ∀ m, bit bs j m = true → listed.getD m false = true := by
      intro m hm
      obtain ⟨e, e1, e2, e3⟩ := ho.come j o m h2' hm
      have := h3 e e1 e2
      rcases e3 with rfl | e3
      · exact this
      · refine hcl e.on m ?_ this e3
        have := ho.edge j o h2' e e1 e2
        omega
    have hcl' : ∀ i m, i < ops.toList.length → listed.getD i false = true → bit bs i m = true → listed.getD m false = true := fun i m hi => hcl i m (by omega)
    have hpart := h.part ho (by omega) hlen hf (p := fun i => listed.getD i false) hcl' h2' hpj hb
    have hins : applyIf S (fun i => (listed.setIfInBounds j true).getD i false) D = (applyIf S (fun i => listed.getD i false) D).app x.dst x.d := by
      refine h.insert hx hpj (fun i => ?_) fun y hy hyp hgt => ?_
      · simp only [set_getD hjl]
        by_cases e : i = j
        · subst e; simp [beq_nat.2 rfl]
        · simp only [if_neg e, beq_nat'.2 e, Bool.or_false]
      · obtain ⟨y1, y2⟩ := h.idx hy
        rw [hlen] at y2
        have hyp' : listed.getD y.i false = true := hyp
        have hne : j ≠ y.i := fun e => by rw [← e, hpj] at hyp'; cases hyp'
        obtain ⟨oy, r1, r2, _⟩ := (h.2 _ y y1).at_
        -- y is listed, j is not: y does not wait for j; if j waits for y they are ordered
        by_cases hbj : bit bs j y.i = true
        · have := ho.lt j y.i (by omega) hbj
          omega
        · have hrel : related bs j y.i = false := by
            simp only [related, Bool.or_eq_false_iff]
            refine ⟨Bool.eq_false_iff.2 hbj, ?_⟩
            cases hq : Nat.testBit (bs.getD y.i 0) j with
            | false => rfl
            | true =>
              have := hcl y.i j (by omega) hyp' hq
              rw [hpj] at this
              cases this
          have hk := fun n k1 => (fence_apart hf (i := j) (by omega) r1 hx y1 hne hrel n k1).2
          exact ⟨fun d hd' e => ho.dst j y.i o oy d h2' r1 hne (q2.symm.trans hd') (r2.symm.trans e), fun n k1 k2 => hk n (.inl k1) (.inl k2), fun n k1 k2 => hk n (.inr k1) (.inr k2)⟩
    have hcount : (List.range ops.size).countP (fun i => !(listed.setIfInBounds j true).getD i true) ≤ fuel := by
      have : (List.range ops.size).countP (fun i => !(listed.setIfInBounds j true).getD i true) < (List.range ops.size).countP (fun i => !listed.getD i true) := by
        refine countP_lt (fun i _ hi => ?_) ⟨j, by simp [hjlt], by rw [h1]; rfl, by rw [set_getD hjl, if_pos rfl]; rfl⟩
        rw [set_getD hjl] at hi
        by_cases e : i = j
        · rw [if_pos e] at hi; cases hi
        · rwa [if_neg e] at hi
      omega
    have next : ∀ (E1 : Env) (a1 : Act) (w1 : World), Sim B ((applyIf S (fun i => listed.getD i false) D).app x.dst x.d) E1 a1 w1 → E.le w w1 E1 → (∀ n, E1.U n → E.U n ∨ (base + 64 * j ≤ n ∧ n < base + 64 * j + 64)) →
        wpAnyIn (fr ro) nn P .any ops Q fuel (listed.setIfInBounds j true) a1 w1 := by
      intro E1 a1 w1 hs1 L1 hU1
      refine ih _ E1 a1 w1 (by simp [hsz]) hcount (by rw [hins]; exact hs1) (fun i m hi hli hm => ?_) (hle.trans L1) fun n hn => ?_
      · rw [set_getD hjl] at hli ⊢
        by_cases em : m = j
        · rw [if_pos em]
        · rw [if_neg em]
          by_cases e : i = j
          · subst e; exact hb m hm
          · rw [if_neg e] at hli; exact hcl i m hi hli hm
      · rcases hU1 n hn with hn | hn
        · rcases hU n hn with hn | ⟨i, g1, g2, g3⟩
          · exact .inl hn
          · refine .inr ⟨i, ?_, g2, g3⟩
            rw [set_getD hjl]
            split
            · rfl
            · exact g1
        · refine .inr ⟨j, ?_, hjlt, hn⟩
          rw [set_getD hjl, if_pos rfl]
    have hfresh : ∀ n, base + 64 * j ≤ n → n < base + 64 * j + 64 → ¬ E.U n := by
      intro n n1 n2 hn
      rcases hU n hn with hn | ⟨i, g1, g2, g3, g4⟩
      · exact hE0 n (by omega) (by omega) hn
      · have : i = j := by omega
        rw [this, hpj] at g1
        cases g1
    have hguard : ∀ g want, o.guard = some (g, want) → guardOf ops.toList (applyIf S (bit bs j) D) g = guardOf ops.toList (applyIf S (fun i => listed.getD i false) D) g := by
      intro g want hg
      have hgb := ho.guard j o g want h2' hg
      have hgl := hb g hgb
      refine guardOf_eq fun og d hog hdg => ?_
      have hglt := ho.lt j g (by omega) hgb
      obtain ⟨y, hy⟩ : ∃ y, D[g]? = some y := ⟨D[g]'(by omega), by simp⟩
      obtain ⟨oy, r1, r2, _⟩ := (h.2 g y hy).at_
      rw [hog] at r1
      cases r1
      rw [h.tmp ho hy hgb (r2.trans hdg), h.tmp ho (p := fun i => listed.getD i false) hy hgl (r2.trans hdg)]
    simp only [wpOpIn, h2]
    rcases q3 with ⟨he, hw⟩ | ⟨hu, g, want, hg, hw⟩
    · have hwant : Region.wanted o (yielded ops a.tmps) = true := by
        cases hgo : o.guard with
        | none => simp [Region.wanted, hgo]
        | some gw =>
          obtain ⟨g, want⟩ := gw
          obtain ⟨d, hgv⟩ := hw g want hgo
          rw [hguard g want hgo] at hgv
          simp [Region.wanted, hgo, (guard_bool hs hgv).1]
      rw [if_pos hwant]
      refine wpIn_of_wp he.nd (part_ok hG hs hpart hfresh he fun v w' E' L hv h' hU' => ?_)
      refine next E' _ w' ?_ L hU'
      rw [q2]
      exact Sim.app hd hv h'
    · have hwant : Region.wanted o (yielded ops a.tmps) = false := by
        rcases hw with hw | ⟨d, hw⟩
        · rw [hguard g want hg] at hw
          simp [Region.wanted, hg, guard_undef hs hw]
        · rw [hguard g want hg] at hw
          simp [Region.wanted, hg, (guard_bool hs hw).1]
      rw [hwant]
      simp only [Bool.false_eq_true, if_false]
      refine ⟨fun _ _ => trivial, next E _ w ?_ (Env.le.refl w E) fun n hn => .inl hn⟩
      rw [q2, hu]
      exact hs.skip hd

end
end Go.Proofs.YtmbmapbdbbnaeaaT

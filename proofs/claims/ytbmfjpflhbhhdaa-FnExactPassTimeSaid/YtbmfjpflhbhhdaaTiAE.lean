/- Code. -/
import Derived.Test.YtbmfjpflhbhhdaaTiAD
import Derived.Control
set_option linter.unusedVariables false
set_option linter.unusedSimpArgs false
namespace Go.Proofs.YtbmfjpflhbhhdaaT
open Go

/-- Every temporary that is written is one of the function's. -/
def dstsOk (n : Nat) : Code → Bool
  | .region _ ops _ => ops.toList.all fun o => match o.dst with | some d => Nat.blt d n | none => true
  | .seq a b => dstsOk n a && dstsOk n b
  | .cond _ a b => dstsOk n a && dstsOk n b
  | .block _ c => dstsOk n c
  | .loop c => dstsOk n c
  | _ => true

section
variable {R : Type} {P : Program} {G : List Spec} {k : Nat} {B : Base} {S S' V : St} {E E' : Env} {a : Act} {w w' : World}

theorem least_nat {p : Nat → Prop} (h : ∃ n, p n) : ∃ n, p n ∧ ∀ m, p m → n ≤ m := by
  obtain ⟨n, hn⟩ := h
  induction n using Nat.strongRecOn with
  | _ n ih =>
    by_cases hx : ∃ m, m < n ∧ p m
    · obtain ⟨m, h1, h2⟩ := hx
      exact ih m h1 h2
    · exact ⟨n, hn, fun m hm => Decidable.byContradiction fun hlt => hx ⟨m, by omega, hm⟩⟩
open Classical in
noncomputable def leastOf (p : Nat → Prop) : Nat := if h : ∃ n, p n ∧ ∀ m, p m → n ≤ m then Classical.choose h else 0
theorem leastOf_ok {p : Nat → Prop} (h : ∃ n, p n) : p (leastOf p) ∧ ∀ m, p m → leastOf p ≤ m := by
  have := least_nat h
  simp only [leastOf, dif_pos this]
  exact Classical.choose_spec this

/-- What is kept at every place of the code. -/
structure Inv (B : Base) (pv : List Value) (pins : List Nat) (β0 : Nat → Nat) (S : St) (E : Env) (a : Act) (w : World) : Prop where
  sim : Sim B S E a w
  used : ∀ n, E.U n → n < 100000 ∨ ∃ r ∈ S.used, baseOf r ≤ n ∧ n < baseOf r + 16384
  len : S.prot.length = pv.length
  prot : ∀ (i j : Nat), S.prot[i]? = some j → E.U j ∧ pv[i]? = some (E.hv j)
  pins : ∀ b ∈ pins, E.U b ∧ E.β b = β0 b

variable {pv : List Value} {pins : List Nat} {β0 : Nat → Nat}

theorem Inv.fresh (h : Inv B pv pins β0 S E a w) {id : Nat} (hid : id ∉ S.used) {n : Nat} (h1 : baseOf id ≤ n) (h2 : n < baseOf id + 16384) : ¬ E.U n := by
  intro hn
  rcases h.used n hn with hn | ⟨r, hr, h3, h4⟩
  · simp only [baseOf] at h1; omega
  · have : r ≠ id := fun e => hid (by rw [← e]; exact hr)
    simp only [baseOf] at h1 h2 h3 h4
    omega

theorem Inv.left (h : Inv B pv pins β0 S E a w) {id : Nat} {w1 : World} {a' : Act} (l : Left B S (baseOf id) (baseOf id + 16384) E w1 S' E' a' w') : Inv B pv pins β0 { S' with used := id :: S.used } E' a' w' :=
  { sim := { l.sim with }
    used := fun n hn => by
      rcases l.U n hn with hn | hn
      · rcases h.used n hn with hn | ⟨r, hr, hb⟩
        · exact .inl hn
        · exact .inr ⟨r, by simp [hr], hb⟩
      · exact .inr ⟨id, by simp, hn⟩
    len := by show S'.prot.length = _; rw [l.same.2]; exact h.len
    prot := fun i j hij => by
      have hij : S'.prot[i]? = some j := hij
      rw [l.same.2] at hij
      obtain ⟨h1, h2⟩ := h.prot i j hij
      exact ⟨l.le.U _ h1, by rw [l.le.hv _ h1]; exact h2⟩
    pins := fun b hb => by
      obtain ⟨h1, h2⟩ := h.pins b hb
      exact ⟨l.le.U _ h1, by rw [l.le.β _ h1]; exact h2⟩ }

theorem keepOk_get {cells : List AC} : ∀ {ps js : List Nat}, keepOk cells ps js = true → ps.length = js.length ∧ ∀ (i p : Nat), ps[i]? = some p → ∃ j, js[i]? = some j ∧ cells[p]? = some (.own j)
  | [], [], _ => ⟨rfl, fun i p h => by simp at h⟩
  | [], _ :: _, h => by simp [keepOk] at h
  | _ :: _, [], h => by simp [keepOk] at h
  | p :: ps, j :: js, h => by
    simp only [keepOk, Bool.and_eq_true] at h
    obtain ⟨h1, h2⟩ := h
    obtain ⟨g1, g2⟩ := keepOk_get h2
    refine ⟨by simp [g1], fun i q hq => ?_⟩
    cases i with
    | zero =>
      simp at hq
      subst hq
      split at h1
      · rename_i x hx
        exact ⟨j, rfl, by rw [hx, beq_nat.1 h1]⟩
      · cases h1
    | succ i => exact g2 i q (by simpa using hq)

theorem Inv.extract (h : Inv B pv pins β0 S E a w) {hd : Head} {x : hd.ty.T} (hx : extract pins hd S = some x) (d : Bool) (mm : Nat) : ∃ E2, Inv B pv pins β0 (headSt d mm hd x (mkAt 0 hd.shs (flat hd.ty x))) E2 a w := by
  obtain ⟨E2, h1, h2, ⟨cells, h3, h4⟩, h5⟩ := extract_ok h.sim hx
  obtain ⟨g1, g2⟩ := keepOk_get h3
  refine ⟨E2, { h1 with }, fun n hn => .inl (h2 n hn), ?_, fun i j hij => ?_, fun b hb => ?_⟩
  · show hd.keep.length = _
    rw [g1]; exact h.len
  · obtain ⟨j0, q1, q2⟩ := g2 i j hij
    obtain ⟨r1, r2⟩ := h4 j j0 q2
    obtain ⟨s1, s2⟩ := h.prot i j0 q1
    exact ⟨r1, by rw [r2]; exact s2⟩
  · obtain ⟨r1, r2⟩ := h5 b hb
    exact ⟨r1, by rw [r2]; exact (h.pins b hb).2⟩

def Ex.out : Ex → Exit
  | .normal => .normal
  | .exit id => .exit id
  | .ret => .ret

theorem runC_ok (hG : ∀ sp ∈ G, Holds P sp) (hm : P.follows .mixedOrders = true) (H : Hints) : ∀ (c : Code) (κ : Ex → St → Option R) (S : St) (z : R), dstsOk B.n c = true → runC P G k H c κ S = some z →
    ∀ (E : Env) (a : Act) (w : World), Inv B pv H.pins β0 S E a w → ∀ Q : Exit → Act → World → Prop, (∀ ex S' E' a' w', κ ex S' = some z → Inv B pv H.pins β0 S' E' a' w' → Q ex.out a' w') → c.wp P Q a w := by
  intro c
  induction c with
  | skip =>
    intro κ S z hd hz E a w hi Q hQ
    simp only [runC] at hz
    exact wp_skip (hQ .normal S E a w hz hi)
  | exit id =>
    intro κ S z hd hz E a w hi Q hQ
    simp only [runC] at hz
    exact wp_exit (hQ (.exit id) S E a w hz hi)
  | ret =>
    intro κ S z hd hz E a w hi Q hQ
    simp only [runC] at hz
    exact wp_ret (hQ .ret S E a w hz hi)
  | cond c x y ihx ihy =>
    intro κ S z hd hz E a w hi Q hQ
    simp only [dstsOk, Bool.and_eq_true] at hd
    simp only [runC] at hz
    split at hz
    · rename_i b hc
      have hv := hi.sim.evalC hc
      have hv' : a.eval c = .bool b := by simpa [ACr, Val, Enc] using hv.2
      rcases brB_some hz with ⟨rfl, hz⟩ | ⟨rfl, hz⟩
      · exact wp_cond_true hv' (ihx κ S z hd.1 hz E a w hi Q hQ)
      · exact wp_cond_false hv' (ihy κ S z hd.2 hz E a w hi Q hQ)
    · cases hz
  | block id c ih =>
    intro κ S z hd hz E a w hi Q hQ
    simp only [runC] at hz
    refine wp_block (ih _ S z hd hz E a w hi _ fun ex S' E' a' w' hk hi' => ?_)
    cases ex with
    | normal => exact hQ .normal S' E' a' w' hk hi'
    | ret => exact hQ .ret S' E' a' w' hk hi'
    | exit j =>
      simp only [Ex.out, Exit.inBlock]
      simp only at hk
      split at hk
      · rename_i e
        rw [if_pos (beq_nat.1 e)]
        exact hQ .normal S' E' a' w' hk hi'
      · rename_i e
        rw [if_neg fun e' => e (beq_nat.2 e')]
        exact hQ (.exit j) S' E' a' w' hk hi'
  | seq c d ihc ihd =>
    intro κ S z hd hz E a w hi Q hQ
    simp only [dstsOk, Bool.and_eq_true] at hd
    simp only [runC] at hz
    split at hz
    · refine wp_seq (ihc _ S z hd.1 hz E a w hi _ fun ex S' E' a' w' hk hi' => ?_)
      cases ex with
      | normal => exact ihd κ S' z hd.2 hk E' a' w' hi' Q hQ
      | ret => exact hQ .ret S' E' a' w' hk hi'
      | exit j => exact hQ (.exit j) S' E' a' w' hk hi'
    · rename_i h hh
      refine wp_seq (ihc _ S z hd.1 hz E a w hi _ fun ex S' E' a' w' hk hi' => ?_)
      cases ex with
      | normal =>
        obtain ⟨x, hx, hk⟩ := bnd_some hk
        rw [forceL_eq] at hk
        obtain ⟨E2, hi2⟩ := hi'.extract hx H.deep H.inpl
        exact ihd κ _ z hd.2 hk E2 a' w' hi2 Q hQ
      | ret => exact hQ .ret S' E' a' w' hk hi'
      | exit j => exact hQ (.exit j) S' E' a' w' hk hi'
  | loop c ih =>
    intro κ S z hd hz E a w hi Q hQ
    simp only [runC] at hz
    split at hz
    · rename_i h hh
      obtain ⟨x, hx, hz⟩ := bnd_some hz
      generalize hst : (fun (rec : h.ty.T → Option R) (x : h.ty.T) => forceL (mkAt 0 h.shs (flat h.ty x)) fun all => runC P G k H c (fun e S' => match e with
        | .normal => bnd (Go.Proofs.YtbmfjpflhbhhdaaT.extract H.pins h S') rec
        | e => κ e S') (headSt H.deep H.inpl h x all)) = stp at hz
      have hs1 : ∀ rec x, stp rec x = runC P G k H c (fun e S' => match e with
        | .normal => bnd (Go.Proofs.YtbmfjpflhbhhdaaT.extract H.pins h S') rec
        | e => κ e S') (headSt H.deep H.inpl h x (mkAt 0 h.shs (flat h.ty x))) := fun rec x => by rw [← hst]; simp only [forceL_eq]
      obtain ⟨E2, hi2⟩ := hi.extract hx H.deep H.inpl
      let I1 : Nat → Act → World → Prop := fun n a w => ∃ x E, iter stp n x = some z ∧ Inv B pv H.pins β0 (headSt H.deep H.inpl h x (mkAt 0 h.shs (flat h.ty x))) E a w
      refine wp_loop (fun a w => ∃ n, I1 n a w) (fun a w => leastOf fun n => I1 n a w) ⟨k, x, E2, hz, hi2⟩ fun a1 w1 h1 => ?_
      obtain ⟨⟨x1, E1, hz1, hi1⟩, hle⟩ := leastOf_ok h1
      generalize leastOf (fun n => I1 n a1 w1) = n1 at hz1 hle
      cases n1 with
      | zero => cases hz1
      | succ n1 =>
        simp only [iter] at hz1
        rw [hs1] at hz1
        refine ih _ _ z hd hz1 E1 a1 w1 hi1 _ fun ex S' E' a' w' hk hi' => ?_
        cases ex with
        | normal =>
          obtain ⟨x', hx', hk⟩ := bnd_some hk
          obtain ⟨E3, hi3⟩ := hi'.extract hx' H.deep H.inpl
          have hn : I1 n1 a' w' := ⟨x', E3, hk, hi3⟩
          exact ⟨⟨n1, hn⟩, Nat.lt_succ_of_le ((leastOf_ok ⟨n1, hn⟩).2 n1 hn)⟩
        | ret => exact hQ .ret S' E' a' w' hk hi'
        | exit j => exact hQ (.exit j) S' E' a' w' hk hi'
    · cases hz
  | region id ops draw =>
    intro κ S z hd hz E a w hi Q hQ
    simp only [runC] at hz
    split at hz
    · cases hz
    · rename_i hc
      simp only [Bool.or_eq_true, not_or, List.contains_eq_mem, decide_eq_true_eq] at hc
      obtain ⟨hid, h200⟩ := hc
      have h200' : ops.size ≤ 200 := by
        have : ¬ 200 ≤ ops.toList.length := fun h => h200 (Nat.ble_eq ▸ h)
        simp at this
        omega
      have hdst : ∀ o ∈ ops.toList, ∀ d, o.dst = some d → d < B.n := by
        intro o ho d hod
        simp only [dstsOk, List.all_eq_true] at hd
        have := hd o ho
        rw [hod] at this
        exact nat_blt this
      cases draw with
      | false =>
        simp only at hz
        refine wp_region ?_
        rw [List.range_eq_range']
        have := runOps_ok (Q := Q) hG hdst h200' ops.toList 0 S E a w rfl hi.sim (fun n h1 h2 => hi.fresh hid (by omega) h2) hz fun S' E' a' w' hk l => hQ .normal _ E' a' w' hk (hi.left l)
        simpa using this
      | true =>
        simp only at hz
        split at hz
        · rename_i bs hbs
          split at hz
          · rename_i hok
            have ho := drawOk_order hok
            obtain ⟨D, hD, hf, hl, hk⟩ := runDraw_some ho ops.toList 0 [] rfl ⟨by simp, fun i x h => by simp at h⟩ rfl hz
            refine wp_region_any hm ?_
            have e0 : ∀ i, (Array.replicate ops.size false).getD i false = false := by
              intro i
              simp only [Array.getD_eq_getD_getElem?, Array.getElem?_replicate]
              split <;> rfl
            have e1 : applyIf S (fun i => (Array.replicate ops.size false).getD i false) D = S := by
              rw [applyIf_congr (q := fun _ => false) fun x _ => e0 x.i]
              clear hD hl hk hf
              induction D with
              | nil => rfl
              | cons x D ih => simpa [applyIf] using ih
            refine drawn_ok hG ho h200' (D := D) hdst hD hf hl (E0 := E) (w0 := { w with drawn := w.drawn + 1 }) (fun n h1 h2 => hi.fresh hid h1 h2)
              (fun E' a' w' l => hQ .normal _ E' a' w' hk (hi.left l)) ops.size _ E a _ (by simp) (by
                have := List.countP_le_length (p := fun i => !(Array.replicate ops.size false).getD i true) (l := List.range ops.size)
                simpa using this) (by rw [e1]; exact hi.sim.draw) (fun i m _ hl' => by rw [e0] at hl'; cases hl') (Env.le.refl _ E) (fun n hn => .inl hn)
          · cases hz
        · cases hz
  | _ =>
    intros
    rename_i hz _ _ _ _ _ _
    simp only [runC] at hz
    cases hz

end
end Go.Proofs.YtbmfjpflhbhhdaaT

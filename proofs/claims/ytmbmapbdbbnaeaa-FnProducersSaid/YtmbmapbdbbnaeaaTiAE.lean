/- Code. -/
import Derived.Test.YtmbmapbdbbnaeaaTiRG
set_option linter.unusedVariables false
set_option linter.unusedSimpArgs false
namespace Go.Proofs.YtmbmapbdbbnaeaaT
open Go

section
variable {R : Type} {P : Program} {G : List Spec} {k : Nat} {B : Base} {S S' V : St} {E E' : Env} {a : Act} {w w' : World} {pv : List Value} {pins : List Nat} {β0 : Nat → Nat}

theorem codeOk (hG : ∀ sp ∈ G, Holds P sp) (hm : P.follows .mixedOrders = true) : ∀ c : Code, CodeOk (R := R) P G k c := by
  intro c
  have nr : ∀ {ro : Option Nat} {c d : Code} (h : ro = none ∨ noRange c = true) (k : noRange c = true → noRange d = true), ro = none ∨ noRange d = true := fun h k => h.imp id k
  induction c with
  | skip =>
    intro ro H β0 B κ S z hro hd hz pv E a w hi Q hQ
    simp only [runC] at hz
    exact wpIn_skip (hQ B .normal S E a w .refl hz hi)
  | exit id =>
    intro ro H β0 B κ S z hro hd hz pv E a w hi Q hQ
    simp only [runC] at hz
    exact wpIn_exit (hQ B (.exit id) S E a w .refl hz hi)
  | ret =>
    intro ro H β0 B κ S z hro hd hz pv E a w hi Q hQ
    simp only [runC] at hz
    exact wpIn_ret (hQ B .ret S E a w .refl hz hi)
  | cond c x y ihx ihy =>
    intro ro H β0 B κ S z hro hd hz pv E a w hi Q hQ
    simp only [dstsOk, Bool.and_eq_true] at hd
    simp only [runC] at hz
    split at hz
    · rename_i b hc
      have hv := hi.sim.evalC hc
      have hv' : a.eval c = .bool b := by simpa [ACr, Val, Enc] using hv.2
      rcases brB_some hz with ⟨rfl, hz⟩ | ⟨rfl, hz⟩
      · exact wpIn_cond_true hv' (ihx ro H β0 B κ S z (nr hro (fun h => by simp only [noRange, Bool.and_eq_true] at h; exact h.1)) hd.1 hz pv E a w hi Q hQ)
      · exact wpIn_cond_false hv' (ihy ro H β0 B κ S z (nr hro (fun h => by simp only [noRange, Bool.and_eq_true] at h; exact h.2)) hd.2 hz pv E a w hi Q hQ)
    · cases hz
  | block id c ih =>
    intro ro H β0 B κ S z hro hd hz pv E a w hi Q hQ
    simp only [runC] at hz
    refine wpIn_block (ih ro H β0 B _ S z (nr hro fun h => h) hd hz pv E a w hi _ fun B2 ex S' E' a' w' x2 hk hi' => ?_)
    cases ex with
    | normal => exact hQ B2 .normal S' E' a' w' x2 hk hi'
    | ret => exact hQ B2 .ret S' E' a' w' x2 hk hi'
    | exit j =>
      simp only [Ex.out, Exit.inBlock]
      simp only at hk
      split at hk
      · rename_i e
        rw [if_pos (beq_nat.1 e)]
        exact hQ B2 .normal S' E' a' w' x2 hk hi'
      · rename_i e
        rw [if_neg fun e' => e (beq_nat.2 e')]
        exact hQ B2 (.exit j) S' E' a' w' x2 hk hi'
  | seq c d ihc ihd =>
    intro ro H β0 B κ S z hro hd hz pv E a w hi Q hQ
    simp only [dstsOk, Bool.and_eq_true] at hd
    simp only [runC] at hz
    split at hz
    · refine wpIn_seq (ihc ro H β0 B _ S z (nr hro (fun h => by simp only [noRange, Bool.and_eq_true] at h; exact h.1)) hd.1 hz pv E a w hi _ fun B2 ex S' E' a' w' x2 hk hi' => ?_)
      cases ex with
      | normal => exact ihd ro H β0 B2 κ S' z (nr hro (fun h => by simp only [noRange, Bool.and_eq_true] at h; exact h.2)) (by rw [x2.n]; exact hd.2) hk pv E' a' w' hi' Q fun B3 ex S3 E3 a3 w3 x3 => hQ B3 ex S3 E3 a3 w3 (x2.trans x3)
      | ret => exact hQ B2 .ret S' E' a' w' x2 hk hi'
      | exit j => exact hQ B2 (.exit j) S' E' a' w' x2 hk hi'
    · rename_i h hh
      refine wpIn_seq (ihc ro H β0 B _ S z (nr hro (fun h => by simp only [noRange, Bool.and_eq_true] at h; exact h.1)) hd.1 hz pv E a w hi _ fun B2 ex S' E' a' w' x2 hk hi' => ?_)
      cases ex with
      | normal =>
        obtain ⟨x, hx, hk⟩ := bnd_some hk
        rw [forceL_eq] at hk
        obtain ⟨E2, hi2⟩ := hi'.extract hx H.deep H.inpl
        exact ihd ro H β0 B2 κ _ z (nr hro (fun h => by simp only [noRange, Bool.and_eq_true] at h; exact h.2)) (by rw [x2.n]; exact hd.2) hk pv E2 a' w' hi2 Q fun B3 ex S3 E3 a3 w3 x3 => hQ B3 ex S3 E3 a3 w3 (x2.trans x3)
      | ret => exact hQ B2 .ret S' E' a' w' x2 hk hi'
      | exit j => exact hQ B2 (.exit j) S' E' a' w' x2 hk hi'
  | loop c ih =>
    intro ro H β0 B κ S z hro hd hz pv E a w hi Q hQ
    simp only [runC] at hz
    split at hz
    · rename_i h hh
      obtain ⟨x, hx, hz⟩ := bnd_some hz
      generalize hst : (fun (rec : h.ty.T → Option R) (x : h.ty.T) => forceL (mkAt 0 h.shs (flat h.ty x)) fun all => runC P G k H c (fun e S' => match e with
        | .normal => bnd (Go.Proofs.YtmbmapbdbbnaeaaT.extract H.pins h S') rec
        | e => κ e S') (headSt H.deep H.inpl h x all)) = stp at hz
      have hs1 : ∀ rec x, stp rec x = runC P G k H c (fun e S' => match e with
        | .normal => bnd (Go.Proofs.YtmbmapbdbbnaeaaT.extract H.pins h S') rec
        | e => κ e S') (headSt H.deep H.inpl h x (mkAt 0 h.shs (flat h.ty x))) := fun rec x => by rw [← hst]; simp only [forceL_eq]
      obtain ⟨E2, hi2⟩ := hi.extract hx H.deep H.inpl
      let I1 : Nat → Act → World → Prop := fun n a w => ∃ B1 x E, Ext B B1 ∧ iter stp n x = some z ∧ Inv B1 pv H.pins β0 (headSt H.deep H.inpl h x (mkAt 0 h.shs (flat h.ty x))) E a w
      refine wpIn_loop (fun a w => ∃ n, I1 n a w) (fun a w => leastOf fun n => I1 n a w) ⟨k, B, x, E2, .refl, hz, hi2⟩ fun a1 w1 h1 => ?_
      obtain ⟨⟨B1, x1, E1, y1, hz1, hi1⟩, hle⟩ := leastOf_ok h1
      generalize leastOf (fun n => I1 n a1 w1) = n1 at hz1 hle
      cases n1 with
      | zero => cases hz1
      | succ n1 =>
        simp only [iter] at hz1
        rw [hs1] at hz1
        refine ih ro H β0 B1 _ _ z (nr hro fun h => h) (by rw [y1.n]; exact hd) hz1 pv E1 a1 w1 hi1 _ fun B2 ex S' E' a' w' x2 hk hi' => ?_
        cases ex with
        | normal =>
          obtain ⟨x', hx', hk⟩ := bnd_some hk
          obtain ⟨E3, hi3⟩ := hi'.extract hx' H.deep H.inpl
          have hn : I1 n1 a' w' := ⟨B2, x', E3, y1.trans x2, hk, hi3⟩
          exact ⟨⟨n1, hn⟩, Nat.lt_succ_of_le ((leastOf_ok ⟨n1, hn⟩).2 n1 hn)⟩
        | ret => exact hQ B2 .ret S' E' a' w' (y1.trans x2) hk hi'
        | exit j => exact hQ B2 (.exit j) S' E' a' w' (y1.trans x2) hk hi'
    · cases hz
  | region id ops draw =>
    intro ro H β0 B κ S z hro hd hz pv E a w hi Q hQ
    simp only [runC] at hz
    split at hz
    · cases hz
    · rename_i hc
      simp only [Bool.or_eq_true, not_or, List.contains_eq_mem, decide_eq_true_eq] at hc
      obtain ⟨hid, h200⟩ := hc
      have h200' : ops.size ≤ 200 := by
        have : ¬ 200 ≤ ops.toList.length := fun h => h200 (Nat.ble_eq ▸ h)
        simp at this
        omega
      have hdst : ∀ o ∈ ops.toList, ∀ d, o.dst = some d → d < B.n := by
        intro o ho d hod
        simp only [dstsOk, List.all_eq_true] at hd
        have := hd o ho
        rw [hod] at this
        exact nat_blt this
      cases draw with
      | false =>
        simp only at hz
        refine wpIn_region ?_
        rw [List.range_eq_range']
        have := runOps_ok (Q := Q) (ro := ro) (nn := 0) hG hdst h200' ops.toList 0 S E a w rfl hi.sim (fun n h1 h2 => hi.fresh hid (by omega) h2) hz fun S' E' a' w' hk l => hQ B .normal _ E' a' w' .refl hk (hi.left l)
        simpa using this
      | true =>
        simp only at hz
        split at hz
        · rename_i bs hbs
          split at hz
          · rename_i hok
            have ho := drawOk_order hok
            obtain ⟨D, hD, hf, hl, hk⟩ := runDraw_some ho ops.toList 0 [] rfl ⟨by simp, fun i x h => by simp at h⟩ rfl hz
            refine wpIn_region_any hm ?_
            have e0 : ∀ i, (Array.replicate ops.size false).getD i false = false := by
              intro i
              simp only [Array.getD_eq_getD_getElem?, Array.getElem?_replicate]
              split <;> rfl
            have e1 : applyIf S (fun i => (Array.replicate ops.size false).getD i false) D = S := by
              rw [applyIf_congr (q := fun _ => false) fun x _ => e0 x.i]
              clear hD hl hk hf
              induction D with
              | nil => rfl
              | cons x D ih => simpa [applyIf] using ih
            refine drawn_ok hG ho h200' (D := D) hdst hD hf hl (E0 := E) (w0 := { w with drawn := w.drawn + 1 }) (fun n h1 h2 => hi.fresh hid h1 h2)
              (fun E' a' w' l => hQ B .normal _ E' a' w' .refl hk (hi.left l)) ops.size _ E a _ (by simp) (by
                have := List.countP_le_length (p := fun i => !(Array.replicate ops.size false).getD i true) (l := List.range ops.size)
                simpa using this) (by rw [e1]; exact hi.sim.draw) (fun i m _ hl' => by rw [e0] at hl'; cases hl') (Env.le.refl _ E) (fun n hn => .inl hn)
          · cases hz
        · cases hz
  | rangeFunc g ps assign body iha ihb => exact range_ok hG iha ihb
  | _ =>
    intro ro H β0 B κ S z hro hd hz
    simp only [runC] at hz
    cases hz

/-- The same, for a function's code. -/
theorem runC_ok (hG : ∀ sp ∈ G, Holds P sp) (hm : P.follows .mixedOrders = true) (H : Hints) (c : Code) (κ : Ex → St → Option R) (S : St) (z : R) (hd : dstsOk B.n c = true) (hz : runC P G k H c κ S = some z)
    (E : Env) (a : Act) (w : World) (hi : Inv B pv H.pins β0 S E a w) (Q : Exit → Act → World → Prop) (hQ : ∀ B2 ex S' E' a' w', Ext B B2 → κ ex S' = some z → Inv B2 pv H.pins β0 S' E' a' w' → Q ex.out a' w') : c.wp P Q a w :=
  wpIn_wide.1 (codeOk hG hm c none H β0 B κ S z (.inl rfl) hd hz pv E a w hi Q hQ)

end
end Go.Proofs.YtmbmapbdbbnaeaaT

/- Calls: the callee's start. -/
import Derived.Test.YtmbmapbdbbnaeaaTiR
set_option linter.unusedVariables false
set_option linter.unusedSimpArgs false
namespace Go.Proofs.YtmbmapbdbbnaeaaT
open Go

section
variable {P : Program} {B : Base} {S : St} {E E2 : Env} {a : Act} {w : World}

/-- Values of whole arguments. -/
def AVs (w : World) (E : Env) (as : List AV) (vs : List Value) : Prop := as.length = vs.length ∧ ∀ (j : Nat) x v, as[j]? = some x → vs[j]? = some v → AVr w E x v
theorem AVs.cons_inv {c : AV} {cs : List AV} {us : List Value} (h : AVs w E (c :: cs) us) : ∃ u us', us = u :: us' ∧ AVr w E c u ∧ AVs w E cs us' := by
  cases us with
  | nil => cases h.1
  | cons u us => exact ⟨u, us, rfl, h.2 0 c u rfl rfl, by simpa using h.1, fun j c' u' hc hu => h.2 (j + 1) c' u' (by simpa using hc) (by simpa using hu)⟩

theorem gotArgs_ok {bs : List Nat} {L : List (Nat × Nat)} : ∀ {i : Nat} {ps : List PSh} {as : List AV} {cs : List AC} {vs : List Value}, gotArgs bs L i ps as = some cs → AVs w E as vs →
    cs.length = layTmpsN (inTmps i ps) ∧ ∃ us, ACs w E cs us ∧ ∀ (E2 : Env) ys zs, ACs w E2 ys us → (∀ b c, boxAt bs L b = some c → E2.U b ∧ E2.β b = E.β c) →
      ∀ t av, layTmps (inTmps i ps) (ys ++ zs) t = some av → i ≤ t ∧ ∃ v, vs[t - i]? = some v ∧ AVr w E2 av v
  | i, [], [], cs, vs, h, hv => by simp only [gotArgs] at h; cases h; exact ⟨rfl, [], ACs.mk_nil, fun E2 ys zs _ _ t av ht => by simp [inTmps, layTmps] at ht⟩
  | i, [], _ :: _, cs, vs, h, hv => by simp only [gotArgs] at h; cases h
  | i, _ :: _, [], cs, vs, h, hv => by simp only [gotArgs] at h; cases h
  | i, p :: ps, x :: as, cs, vs, h, hv => by
    simp only [gotArgs, Option.bind_eq_some_iff] at h
    obtain ⟨c1, h1, c2, h2, e⟩ := h
    cases e
    obtain ⟨v, vs', rfl, hx, hv'⟩ := hv.cons_inv
    obtain ⟨l1, us1, k1, f1⟩ := gotT_ok h1 hx
    obtain ⟨l2, us2, k2, f2⟩ := gotArgs_ok h2 hv'
    refine ⟨by simp [l1, l2, inTmps, layTmpsN], us1 ++ us2, k1.append k2, fun E2 ys zs hy hb t av ht => ?_⟩
    have e1 : us1.length = (p.lt i).n := by rw [← k1.1, l1]
    have hn : (p.lt i).n ≤ ys.length := by rw [hy.1, List.length_append]; omega
    simp only [inTmps, layTmps] at ht
    split at ht
    · rename_i hq
      obtain rfl := beq_nat.1 hq
      cases ht
      refine ⟨Nat.le_refl _, v, by simp, f1 E2 _ ?_ hb⟩
      have := hy.take (p.lt t).n
      rw [List.take_left' e1] at this
      rwa [List.take_append_of_le_length hn]
    · rename_i hq
      rw [List.drop_append_of_le_length hn] at ht
      have := hy.drop (p.lt i).n
      rw [List.drop_left' e1] at this
      obtain ⟨g1, u, g2, g3⟩ := f2 E2 _ zs this hb t av ht
      exact ⟨by omega, u, by rw [show t - i = (t - (i + 1)) + 1 by omega]; simpa using g2, g3⟩

theorem findSpec_some {f : FuncId} {as : List AV} : ∀ {G : List Spec} {r : Found}, findSpec S f as G = some r → r.sp ∈ G ∧ r.sp.sig.f = f ∧ r.refs = refIds r.sp.sig.ins as ∧
    gotArgs r.refs (refBoxes 0 r.sp.sig.ins) 0 r.sp.sig.ins as = some r.cells ∧ boxCells S r.refs (refBoxes 0 r.sp.sig.ins) = some r.cells2 ∧ leaves S r.sp.sig.shs (r.cells ++ r.cells2) = some r.x ∧
      r.refs.Nodup ∧ (∀ b n, (b, n) ∈ refBoxes 0 r.sp.sig.ins → b ≤ 1000) ∧ (outShs r.sp.sig.outs).length + (refShs r.sp.sig.ins).length ≤ 63 ∧ (∀ o ∈ r.sp.sig.outs, o.1 = true ∨ o.2.length = 1) ∧ (∀ s ∈ r.sp.sig.back, s.ty.cell = true ∧ s.good = true) ∧ (∀ s ∈ r.sp.sig.shs, s.ty.cell = true)
  | [], r, h => by simp only [findSpec] at h; cases h
  | sp :: G, r, h => by
    simp only [findSpec] at h
    have rec_ : findSpec S f as G = some r → _ := fun h => by
      obtain ⟨h1, h2⟩ := findSpec_some h
      exact (⟨List.mem_cons_of_mem _ h1, h2⟩ : r.sp ∈ sp :: G ∧ _)
    split at h
    · exact rec_ h
    · rename_i hf
      split at h
      · exact rec_ h
      · rename_i c1 hc1
        simp only [Option.bind_eq_some_iff] at h
        obtain ⟨c2, hc2, x, hx, h⟩ := h
        split at h
        · rename_i hc
          cases h
          simp only [Bool.and_eq_true, List.all_eq_true, Bool.or_eq_true] at hc
          obtain ⟨⟨⟨⟨⟨g1, g2⟩, g4⟩, g5⟩, g6⟩, g7⟩ := hc
          exact ⟨by simp, beq_nat.1 hf, rfl, hc1, hc2, hx, nodupB_iff g1, fun b n hb => Nat.le_of_ble_eq_true (g2 (b, n) hb), Nat.le_of_ble_eq_true g4, fun o ho => (g5 o ho).imp id beq_nat.1, g6, g7⟩
        · cases h

/-- The blocks that the callee may write. -/
def MB (S : St) (E : Env) (w : World) (ss : List CSh) (cells : List AC) (refs : List Nat) (L : List (Nat × Nat)) (g : Nat) : Prop :=
  (∃ (j k : Nat) (r : RowSt), (∃ t, ss[j]? = some (.own t)) ∧ cells[j]? = some (.own k) ∧ S.rows k = some r ∧ r.own = true ∧ OwnB w (E.hv k) r.t r.l g) ∨ (∃ b c, boxAt refs L b = some c ∧ E.β c = g)

theorem refIds_ok : ∀ {ps : List PSh} {as : List AV} {vs : List Value}, AVs w E as vs → ∀ c ∈ refIds ps as, E.U c
  | [], as, vs, h, c, hc => by cases as <;> simp [refIds] at hc
  | p :: ps, [], vs, h, c, hc => by cases p <;> simp [refIds] at hc
  | p :: ps, x :: as, vs, h, c, hc => by
    obtain ⟨v, vs', rfl, hx, hv'⟩ := h.cons_inv
    unfold refIds at hc
    split at hc
    · rename_i e1 e2
      cases e1; cases e2
      rcases List.mem_cons.1 hc with rfl | hc
      · exact hx.1
      · exact refIds_ok hv' c hc
    · rename_i e1 e2
      cases e1; cases e2
      rcases List.mem_cons.1 hc with rfl | hc
      · obtain ⟨us, e, hu⟩ := hx
        have hlen := hu.1
        match us, hlen with
        | u :: _, _ =>
          have h1 : ACr w E (.ptr c _) u := hu.2 0 _ u rfl rfl
          exact h1.1
      · exact refIds_ok hv' c hc
    · rename_i e1 e2
      cases e1; cases e2
      obtain ⟨us, e, hu⟩ := hx
      have hlen := hu.1
      match us, hlen with
      | [u, v], _ =>
        rcases List.mem_cons.1 hc with rfl | hc
        · have h1 : ACr w E (.ptr c _) u := hu.2 0 _ u rfl rfl
          exact h1.1
        · rcases List.mem_cons.1 hc with rfl | hc
          · have h1 : ACr w E (.ptr c _) v := hu.2 1 _ v rfl rfl
            exact h1.1
          · exact refIds_ok hv' c hc
    · rename_i e1 e2
      cases e1; cases e2
      exact refIds_ok hv' c hc
    · cases hc

theorem call_start (h : Sim B S E a w) {f : FuncId} {as : List AV} {G : List Spec} {r : Found} {vs : List Value} (hf : findSpec S f as G = some r) (hv : AVs w E as vs) {p : List Nat × List Nat} (hp : splitToks r.sp.sig.shs (r.cells ++ r.cells2) = some p) :
    ∃ Es us1 us2, ACs w E r.cells us1 ∧ ACs w E r.cells2 us2 ∧
      Sim ⟨w, FZ S E w p.2, MB S E w r.sp.sig.shs (r.cells ++ r.cells2) r.refs (refBoxes 0 r.sp.sig.ins), vs.length, []⟩ (startSt r.sp.sig r.x) Es ⟨vs.toArray, []⟩ w ∧
      (∀ n, Es.U n ↔ n < 100000) ∧ (∀ b c, boxAt r.refs (refBoxes 0 r.sp.sig.ins) b = some c → Es.β b = E.β c) ∧ (∀ (j : Nat) u, us1[j]? = some u → Es.hv j = u) ∧ (∀ (j : Nat) u, us2[j]? = some u → Es.hv (r.cells.length + j) = u) := by
  obtain ⟨i1, i2, i3, i4, hc2, i6, i7, i8, i10, i11, i12, i13⟩ := findSpec_some hf
  obtain ⟨l1, us1, k1, f1⟩ := gotArgs_ok i4 hv
  obtain ⟨us2, k2, f2⟩ := boxCells_ok h hc2
  obtain ⟨p', hp', h1, h2, h3, h4, h5⟩ := leaves_some i6
  rw [hp] at hp'
  cases hp'
  obtain ⟨s1, s2, s3, s4⟩ := splitToks_some hp
  have hx' : leaves S r.sp.sig.shs (r.cells ++ (r.cells2 ++ [])) = some r.x := by rw [List.append_nil]; exact i6
  have hU : ∀ c ∈ r.refs, E.U c := by rw [i3]; exact refIds_ok hv
  have hMlt : ∀ g, MB S E w r.sp.sig.shs (r.cells ++ r.cells2) r.refs (refBoxes 0 r.sp.sig.ins) g → ¬ FZ S E w p.2 g := by
    intro g hg hz
    rcases hg with ⟨j, k, r0, ⟨t, ht⟩, hck, hr0, hown, hgb⟩ | ⟨b, c, hb, hgb⟩
    · obtain ⟨n1, n2, n3, n4⟩ := h.rowNew k r0 g hr0 hown hgb
      rcases hz with hz | ⟨k', hk', r', hr', ho', hg', _⟩
      · exact n2 hz
      · have := n4 k' r' hr' ho' hg'
        subst this
        rcases s3 j t _ ht hck with hh | ⟨k2, hh, hk2⟩
        · cases hh
        · cases hh; exact h2 k' hk2 hk'
    · have hcs : ∃ cs, S.boxes c = some cs := by
        have hin : ∀ {bs : List Nat} {L : List (Nat × Nat)} {cs : List AC}, boxCells S bs L = some cs → ∀ c ∈ bs, ∃ cs, S.boxes c = some cs := by
          intro bs
          induction bs with
          | nil => intro L cs _ c hc; cases hc
          | cons x bs ih =>
            intro L cs hbc c hc
            cases L with
            | nil => simp only [boxCells] at hbc; cases hbc
            | cons q L =>
              simp only [boxCells, Option.bind_eq_some_iff] at hbc
              obtain ⟨c1, hc1, hbc⟩ := hbc
              split at hbc
              · simp only [Option.bind_eq_some_iff] at hbc
                obtain ⟨c3, hc3, _⟩ := hbc
                rcases List.mem_cons.1 hc with rfl | hc
                · exact ⟨_, hc1⟩
                · exact ih hc3 c hc
              · cases hbc
        exact hin hc2 c (boxAt_mem hb).1
      obtain ⟨cs, hcs⟩ := hcs
      subst hgb
      rcases hz with hz | ⟨k', hk', r', hr', ho', hg', _⟩
      · exact (h.boxNew c cs hcs).2 hz
      · exact (h.rowNew k' r' _ hr' ho' hg').2.2.1 c cs hcs rfl
  have hFlt : ∀ b, FZ S E w p.2 b → b < w.heap.size := fun b hb => by
    rcases hb with hb | ⟨k', hk', r', hr', ho', hg', _⟩
    · exact (h.F b hb).2
    · exact h.lt_row hr' ho' hg'
  obtain ⟨E1, Es, g1, g2, g3, g4, g5, g6, g7, g8⟩ := lay_sim (B2 := ⟨w, FZ S E w p.2, MB S E w r.sp.sig.shs (r.cells ++ r.cells2) r.refs (refBoxes 0 r.sp.sig.ins), vs.length, []⟩) (a2 := ⟨vs.toArray, []⟩) (L := r.sp.sig.lay) h k1 l1 k2 ACs.mk_nil hx' i7
    (fun E1 E2 ys zs L hy hb t av ht => by
      obtain ⟨q1, v, q2, q3⟩ := f1 E2 ys zs hy (fun b c hbc => by
        obtain ⟨m1, m2⟩ := hb b c hbc
        exact ⟨m1, by rw [m2, L.β c (hU c (boxAt_mem hbc).1)]⟩) t av ht
      rw [Nat.sub_zero] at q2
      have hlt := (List.getElem?_eq_some_iff.1 q2).1
      refine ⟨hlt, ?_⟩
      have : (vs.toArray).getD t undef = v := by
        simp only [Array.getD_eq_getD_getElem?, List.getElem?_toArray, q2, Option.getD_some]
      show AVr w E2 av ((vs.toArray).getD t undef)
      rw [this]; exact q3)
    f2 (fun b c hb => ⟨hU c (boxAt_mem hb).1, by obtain ⟨_, m, hm⟩ := boxAt_mem hb; have := i8 b m hm; omega⟩) rfl (by simp)
    (fun rows1 E1 q _ hz => by
      have hz' := hz p (by rw [List.append_nil]; exact hp)
      exact ⟨fun b hb => (hz' b).2 hb, fun b hb => .inl ((hz' b).1 hb), fun b hb => ⟨hFlt b hb, fun hm => hMlt b hm hb⟩⟩)
    (fun j k r0 g hjk ht hr0 hown hg => .inr (.inl ⟨j, k, r0, ht, by rw [List.append_nil] at hjk; exact hjk, hr0, hown, hg⟩))
    (fun b c cs0 hb _ => .inr (.inr ⟨b, c, hb, rfl⟩)) rfl rfl rfl (Nat.le_refl _) (fun _ _ _ => rfl) (h.tabNow fun _ hb => .inl hb)
  refine ⟨Es, us1, us2, k1, k2, g3, fun n => ⟨g5 n, g7 n⟩, g4, fun j u hu => g6 j u ?_, fun j u hu => g6 _ u ?_⟩
  · rw [List.getElem?_append, if_pos (List.getElem?_eq_some_iff.1 hu).1]
    exact hu
  · rw [k1.1, List.getElem?_append_right (by omega), Nat.add_sub_cancel_left, List.getElem?_append, if_pos (List.getElem?_eq_some_iff.1 hu).1]
    exact hu

end
end Go.Proofs.YtmbmapbdbbnaeaaT

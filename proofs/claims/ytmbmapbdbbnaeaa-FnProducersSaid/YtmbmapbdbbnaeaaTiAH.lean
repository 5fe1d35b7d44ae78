/- A function's contract, from what it computes: the end, and the whole. -/
import Derived.Test.YtmbmapbdbbnaeaaTiAG
set_option linter.unusedVariables false
set_option linter.unusedSimpArgs false
namespace Go.Proofs.YtmbmapbdbbnaeaaT
open Go

section
variable {P : Program} {G : List Spec} {B : Base} {S : St} {E E2 : Env} {a : Act} {w w' : World} {pv : List Value} {pins : List Nat} {β0 : Nat → Nat}

theorem ownShs_mem : ∀ {ss : List CSh} {s : CSh}, s ∈ ownShs ss → s ∈ ss
  | [], s, h => by cases h
  | .val t :: ss, s, h => List.mem_cons_of_mem _ (ownShs_mem (ss := ss) h)
  | .own t :: ss, s, h => by
    rcases List.mem_cons.1 h with rfl | h
    · simp
    · exact List.mem_cons_of_mem _ (ownShs_mem h)
theorem keep_none {ps : List PSh} (h : ownShs (inShs ps) = []) : ownShs (keepShs ps) = [] := by
  apply List.eq_nil_iff_forall_not_mem.2
  intro s hs
  obtain ⟨t, rfl⟩ := ownShs_own hs
  obtain ⟨j, hj⟩ := List.getElem?_of_mem (ownShs_mem hs)
  have := own_mem (List.mem_of_getElem? (keep_own hj))
  rw [h] at this
  cases this
def dropN : Bool → Nat
  | false => 0
  | true => 1
theorem protOf_some {st : Bool} {p : List Nat} {b : List AC} {l : List Nat} (h : protOf st p b = some l) : l = p.drop (dropN st) ∧ (st = true → ∃ j : Nat, b = [.own j] ∧ p[0]? = some j) := by
  cases st with
  | false => simp only [protOf] at h; cases h; exact ⟨rfl, fun h => by cases h⟩
  | true =>
    simp only [protOf] at h
    split at h
    · rename_i k j r
      split at h
      · rename_i e
        cases h
        obtain rfl := beq_nat.1 e
        exact ⟨rfl, fun _ => ⟨k, rfl, rfl⟩⟩
      · cases h
    · cases h
theorem finish_ok {fn : Func} {s : Sig} {st : Bool} (hs : sigOk s = true) (hi : Inv B pv ((refBoxes 0 s.ins).map (·.1)) β0 S E a w) (hl : pv.length = (s.prot0 st).length) {y : s.outTy.T} (hf : finish P fn s st S = some y) :
    a.defers = B.dfs ∧ ∃ v, (results fn a.tmps).run P w = .ok v w ∧ ∃ E2, Sim ⟨B.w0, B.FA, B.M, 1, []⟩ (endSt s y) E2 ⟨#[v], []⟩ w ∧
      (∀ (i : Nat) u, pv[i + dropN st]? = some u → E2.hv ((outShs s.outs).length + ((refShs s.ins).length + i)) = u) ∧ (∀ b n, (b, n) ∈ refBoxes 0 s.ins → E2.β b = β0 b) ∧ (st = true → ∀ u, pv[0]? = some u → E2.hv (outShs s.outs).length = u) := by
  have h := hi.sim
  unfold finish at hf
  obtain ⟨ws, hws, hf⟩ := Option.bind_eq_some_iff.1 hf
  obtain ⟨c1, hc1, hf⟩ := Option.bind_eq_some_iff.1 hf
  obtain ⟨c2, hc2, hf⟩ := Option.bind_eq_some_iff.1 hf
  obtain ⟨pl, hpl, hx⟩ := Option.bind_eq_some_iff.1 hf
  obtain ⟨hpl1, hpl2⟩ := protOf_some hpl
  have hll : pl.length = (ownNums 0 (keepShs s.ins)).length := by
    rw [hpl1, List.length_drop, hi.len, hl]
    cases st <;> simp [Sig.prot0, dropN]
  have hpg : ∀ (j j1 : Nat), pl[j]? = some j1 → S.prot[j + dropN st]? = some j1 := fun j j1 e => by
    rw [hpl1, List.getElem?_drop] at e
    rw [Nat.add_comm]; exact e
  obtain ⟨vs, hvs, hrun⟩ := results_ok h hws
  obtain ⟨l1, us1, k1, f1⟩ := fitWs_ok hc1 hvs
  obtain ⟨us2, k2, f2⟩ := boxCells_ok h hc2
  have l1' : c1.length = (outShs s.outs).length := by rw [l1]; exact outN_n s.outs
  have l2' : c2.length = (refShs s.ins).length := by rw [boxCells_len hc2, refShs_len]
  refine ⟨h.defers, _, hrun, ?_⟩
  -- the rows that were handed
  have k3 : ACs w E (pl.map AC.own) (pl.map E.hv) := by
    refine ⟨by simp, fun j c u hc hu => ?_⟩
    simp only [List.getElem?_map, Option.map_eq_some_iff] at hc hu
    obtain ⟨j1, e1, rfl⟩ := hc
    obtain ⟨j2, e2, rfl⟩ := hu
    rw [e1] at e2
    cases e2
    refine ⟨(hi.prot _ j1 (hpg j j1 e1)).1, rfl, ?_⟩
    obtain ⟨p, hp, h1, h2, h3, h4, h5⟩ := leaves_some hx
    obtain ⟨s1, s2, s3, s4⟩ := splitToks_some hp
    have hj : j < pl.length := (List.getElem?_eq_some_iff.1 e1).1
    have hjo : j < (ownShs (keepShs s.ins)).length := by rw [← ownShs_len (i := 0), ← hll]; exact hj
    obtain ⟨t, ht⟩ := ownShs_own (List.getElem_mem hjo)
    have q1 : s.back[(outShs s.outs).length + ((refShs s.ins).length + j)]? = some (.own t) := by
      unfold Sig.back
      rw [List.getElem?_append_right (by omega), List.getElem?_append_right (by omega)]
      have : (outShs s.outs).length + ((refShs s.ins).length + j) - (outShs s.outs).length - (refShs s.ins).length = j := by omega
      rw [this, List.getElem?_eq_getElem hjo, ht]
    have q2 : (c1 ++ (c2 ++ pl.map AC.own))[(outShs s.outs).length + ((refShs s.ins).length + j)]? = some (.own j1) := by
      rw [List.getElem?_append_right (by omega), List.getElem?_append_right (by omega)]
      have : (outShs s.outs).length + ((refShs s.ins).length + j) - c1.length - c2.length = j := by omega
      rw [this, List.getElem?_map, e1]
      rfl
    rcases s3 _ t _ q1 q2 with e | ⟨k', e, hk⟩
    · cases e
    · cases e
      obtain ⟨r, hr, ho⟩ := h3 _ hk
      obtain ⟨xs, hown, _⟩ := (h.rows _ r hr).ownB ho
      rcases hown.2 with ⟨e, _⟩ | ⟨g, cap, cur, ee, e, _⟩ <;> rw [e] <;> rfl
  have hnd : ((refBoxes 0 s.ins).map (·.1)).Nodup := refBoxes_nodup
  have hpin : ∀ b c, boxAt ((refBoxes 0 s.ins).map (·.1)) s.outLay.boxes b = some c → c = b ∧ E.U c ∧ b < 100000 := by
    intro b c hb
    have e := boxAt_self (L := refBoxes 0 s.ins) hb
    subst e
    obtain ⟨hm, n, hn⟩ := boxAt_mem hb
    refine ⟨rfl, (hi.pins _ hm).1, ?_⟩
    have := refBoxes_ge hn
    simp only [sigOk, Bool.and_eq_true] at hs
    have h1 := Nat.le_of_ble_eq_true hs.2
    have h2 : c < 2 * (0 + s.ins.length) := (refBoxes_ge hn).2
    omega
  obtain ⟨E1, E2, g1, g2, g3, g4, g5, g6, g7, g8⟩ := lay_sim (B2 := ⟨B.w0, B.FA, B.M, 1, []⟩) (a2 := ⟨#[single vs], []⟩) (L := s.outLay) (ss := s.back) h k1
    (by simp only [Sig.outLay, layTmpsN]; rw [outLT_n, l1', Nat.add_zero]) k2 k3 hx hnd
    (fun E1 E2 ys zs L hy hb t av ht => by
      simp only [Sig.outLay, layTmps] at ht
      split at ht
      · rename_i e
        have e' := beq_nat.1 e
        subst e'
        cases ht
        refine ⟨Nat.zero_lt_one, ?_⟩
        have hlen : ys.length = capsN (outN s.outs) := by rw [hy.1, ← k1.1, l1]; rfl
        rw [outLT_len, List.take_append_of_le_length (by omega), List.take_of_length_le (by omega)]
        exact outLT_ok hlen (f1 E2 ys hy)
      · cases ht)
    f2 (fun b c hb => (hpin b c hb).2) rfl rfl
    (fun rows1 E1 q _ _ => ⟨q.FA, fun b hb => (q.F b hb).1, q.FAlt⟩)
    (fun j k r g _ _ hr ho hg => (h.rowNew k r g hr ho hg).1) (fun b c cs0 _ hcs => (h.boxNew c cs0 hcs).1) h.os h.tape h.output h.grown h.frame h.tab
  refine ⟨E2, g3, fun i u hu => g6 _ _ ?_, fun b n hb => ?_, fun hst u hu => g6 _ _ ?_⟩
  · have e1 : us1.length = (outShs s.outs).length := by rw [← k1.1, l1']
    have e2 : us2.length = (refShs s.ins).length := by rw [← k2.1, l2']
    rw [List.getElem?_append_right (by omega), List.getElem?_append_right (by omega)]
    have : (outShs s.outs).length + ((refShs s.ins).length + i) - us1.length - us2.length = i := by omega
    rw [this, List.getElem?_map]
    have hip : i < pl.length := by
      rw [hpl1, List.length_drop, hi.len]
      have := (List.getElem?_eq_some_iff.1 hu).1
      omega
    have hpi : pl[i]? = some pl[i] := List.getElem?_eq_getElem hip
    have := (hi.prot _ pl[i] (hpg i _ hpi)).2
    rw [hu] at this
    rw [hpi, Option.map_some, Option.some.inj this]
  · have hb' := boxAt_have hb
    rw [g4 b b hb']
    exact (hi.pins b (boxAt_mem hb').1).2
  · obtain ⟨j, hj1, hj2⟩ := hpl2 hst
    have e1 : us1.length = (outShs s.outs).length := by rw [← k1.1, l1']
    subst hj1
    have e2 : us2.length = 1 := by rw [← k2.1]; rfl
    rw [List.getElem?_append_right (by omega), List.getElem?_append_left (by omega), e1, Nat.sub_self]
    have hu2 : us2[0]? = some us2[0] := List.getElem?_eq_getElem (by omega)
    obtain ⟨_, hv, _⟩ := k2.2 0 _ us2[0] rfl hu2
    have := (hi.prot 0 j hj2).2
    rw [hu] at this
    rw [hu2, hv, Option.some.inj this]

theorem finishB_ok {fn : Func} {s : Sig} (hok : boxedOk s = true) (hi : Inv B pv pins β0 S E a w) {y : s.outTy.T} (hf : finishB P fn s S = some y) :
    a.defers = B.dfs ∧ ∃ g, (results fn a.tmps).run P w = .ok (.pointer (some ⟨g, 0, none⟩)) w ∧ ((∀ b, ¬ B.M b) → ∃ (us : Array Value) (t : TypeId) (E2 : Env), w.heap[g]? = some (.cells us t (0, 0)) ∧ B.w0.heap.size ≤ g ∧ ¬ E2.F g ∧
      Sim ⟨B.w0, B.FA, B.M, 1, []⟩ (endSt s y) E2 ⟨#[.agg us], []⟩ w) := by
  have h := hi.sim
  simp only [boxedOk, Bool.and_eq_true, List.isEmpty_iff, List.all_eq_true] at hok
  obtain ⟨⟨⟨o1, o2⟩, o3⟩, o4⟩ := hok
  obtain ⟨os, ho'⟩ : ∃ os, s.outs = [(true, os)] := by
    split at o4
    · rename_i os e; exact ⟨os, e⟩
    · cases o4
  have hr : refShs s.ins = [] := by
    have := refShs_len (ps := s.ins)
    rw [o1] at this
    exact List.eq_nil_of_length_eq_zero this
  unfold finishB at hf
  split at hf
  · rename_i b hws
    obtain ⟨cs, hcs, hf⟩ := Option.bind_eq_some_iff.1 hf
    split at hf
    · rename_i hlen
      have hlen := beq_nat.1 hlen
      obtain ⟨vs, hvs, hrun⟩ := results_ok h hws
      have hv1 := hvs.1
      match vs, hv1 with
      | [v], _ =>
        obtain ⟨hU, ev⟩ := hvs.2 0 _ v rfl rfl
        subst ev
        refine ⟨h.defers, E.β b, hrun, fun hM => ?_⟩
        obtain ⟨us, t, hg, hc⟩ := h.boxes b cs hcs
        obtain ⟨hnew, hF⟩ := h.boxNew b cs hcs
        have hx : leaves S s.back (cs ++ ([] ++ [])) = some y := by
          rw [List.append_nil, List.append_nil]; exact hf
        have hn : s.back.length = (outShs s.outs).length := by simp [Sig.back, hr, keep_none o2]
        obtain ⟨E1, E2, g1, g2, g3, g4, g5, g6, g7, g8⟩ := lay_sim (B2 := ⟨B.w0, B.FA, B.M, 1, []⟩) (a2 := ⟨#[.agg us], []⟩) (L := s.outLay) (ss := s.back) (bs := []) h hc
          (by simp only [Sig.outLay, layTmpsN]; rw [outLT_n, Nat.add_zero, hlen, hn]) ACs.mk_nil ACs.mk_nil hx List.nodup_nil
          (fun E1 E2 ys zs L hy hb t av ht => by
            simp only [Sig.outLay, layTmps] at ht
            split at ht
            · rename_i e
              have e' := beq_nat.1 e
              subst e'
              cases ht
              refine ⟨Nat.zero_lt_one, ?_⟩
              have hl2 : ys.length = (outLT s.outs).n := by rw [outLT_n, hy.1, ← hc.1, hlen, hn]
              rw [List.take_append_of_le_length (by omega), List.take_of_length_le (by omega), ho']
              exact ⟨us.toList, by simp, hy⟩
            · cases ht)
          (fun E2 ys zs hy b cs' hb => by simp [Sig.outLay, o1, layBoxes] at hb) (fun b c hb => by simp [boxAt] at hb) rfl rfl
          (fun rows1 E1 q _ _ => ⟨q.FA, fun b hb => (q.F b hb).1, q.FAlt⟩)
          (fun j k r g _ _ hr ho hg => (h.rowNew k r g hr ho hg).1) (fun b c cs0 _ hcs => (h.boxNew c cs0 hcs).1) h.os h.tape h.output h.grown h.frame h.tab
        obtain ⟨p, hp, _⟩ := leaves_some hx
        refine ⟨us, t, E2, hg, hnew.resolve_right (hM _), fun hf => ?_, g3⟩
        rw [g2] at hf
        rcases (g8 p hp _).1 hf with hf | ⟨k', hk', r', hr', ho2, hg', _⟩
        · exact hF hf
        · exact (h.rowNew k' r' _ hr' ho2 hg').2.2.1 b cs hcs rfl
    · cases hf
  · cases hf

def fin2 (P : Program) (fn : Func) (sp : Spec) (S : St) : Option sp.sig.outTy.T := match sp.boxed with
  | false => finish P fn sp.sig sp.stay S
  | true => finishB P fn sp.sig S
/-- The blocks for the rounds' deferred calls are shutAll. -/
def shutAll (Ds : List Nat) (w : World) : World := Ds.foldl (fun w D => w.putObj D (.deferred none)) w
theorem shutAll_same : ∀ (Ds : List Nat) (w : World), (shutAll Ds w).os = w.os ∧ (shutAll Ds w).tape = w.tape ∧ (shutAll Ds w).output = w.output ∧ (shutAll Ds w).heap.size = w.heap.size ∧ ∀ b, b ∉ Ds → (shutAll Ds w).heap[b]? = w.heap[b]?
  | [], w => ⟨rfl, rfl, rfl, rfl, fun _ _ => rfl⟩
  | D :: Ds, w => by
    obtain ⟨h1, h2, h3, h4, h5⟩ := shutAll_same Ds (w.putObj D (.deferred none))
    refine ⟨h1, h2, h3, h4.trans World.putObj_size, fun b hb => ?_⟩
    simp only [List.mem_cons, not_or] at hb
    exact (h5 b hb.2).trans (World.putObj_heap_other hb.1)
theorem leaves_marks {fn : Func} {tmps : Array Value} {Q : Ending → World → Prop} : ∀ (Ds : List Nat) (w : World), Ds.Nodup → (∀ D ∈ Ds, w.heap[D]? = some (.deferred (some []))) → LeavesIn Fence.wide 0 P fn tmps Q [] .returning (shutAll Ds w) →
    LeavesInM Fence.wide 0 P fn tmps Q (Ds.map mark) .returning w
  | [], w, _, _, h => h
  | D :: Ds, w, hn, hD, h => by
    obtain ⟨n1, n2⟩ := List.nodup_cons.1 hn
    refine ⟨by simp, .inl ⟨D, w.putObj D (.deferred none), rfl, run_takeDeferred (hD D (by simp)), leaves_marks Ds _ n2 (fun D' h' => ?_) h⟩⟩
    rw [World.putObj_heap_other fun e => n1 (by rw [← e]; exact h')]
    exact hD D' (by simp [h'])
/-- At the end of a function's code, over the base of its beginning. -/
theorem Inv.atEnd {B B2 : Base} {S : St} {E : Env} {a : Act} {w : World} {pv : List Value} {pins : List Nat} {β0 : Nat → Nat} (h : Inv B2 pv pins β0 S E a w) (x : Ext B B2) (hd : B.dfs = []) (hF : ∀ b, B.FA b → b < B.w0.heap.size ∧ ¬ B.M b) (ht : TabOk B.w0 B.FA) :
    ∃ Ds : List Nat, a.defers = Ds.map mark ∧ Ds.Nodup ∧ (∀ D ∈ Ds, w.heap[D]? = some (.deferred (some []))) ∧ Inv B pv pins β0 S E ⟨a.tmps, []⟩ (shutAll Ds w) := by
  obtain ⟨Ds, e1, nd, hD⟩ := x.dfs
  rw [hd, List.append_nil] at e1
  obtain ⟨s1, s2, s3, s4, s5⟩ := shutAll_same Ds w
  have notD : ∀ g, B2.FA g ∨ B2.new g → g ∉ Ds := fun g hg hm => by
    obtain ⟨_, q2, q3, q4, _⟩ := hD g hm
    exact hg.elim q4 fun h => h.elim (fun h => by omega) q3
  refine ⟨Ds, h.sim.defers.trans e1, nd, fun D hm => ?_, ?_⟩
  · obtain ⟨_, q2, q3, _, q5⟩ := hD D hm
    rw [h.sim.frame D q2 q3]; exact q5
  · have hu : Sim B S E ⟨a.tmps, []⟩ w := h.sim.unbase x.toExt0 hF ht rfl hd.symm
    exact { sim := hu.world s1 s2 s3 (by rw [s4]; exact Nat.le_refl _) (fun b hb => s5 b (notD b (h.sim.F b hb).1)) (fun b cs hb => s5 _ (notD _ (.inr (h.sim.boxNew b cs hb).1)))
              (fun k r g hk ho hg => s5 g (notD g (.inr (h.sim.rowNew k r g hk ho hg).1))) (fun b hb hm => s5 b fun hm' => by have := (hD b hm').1; omega)
            used := h.used, len := h.len, prot := h.prot, pins := h.pins }

/-- A function holds what its code is seen to give. -/
theorem holds_of_code {sp : Spec} {fn : Func} {c : Code} (hf : P.funcs[sp.sig.f]? = some fn) (hname : (fn.name == "runtime.NumGoroutine") = false)
    (hb : fn.body = some c) (hd : dstsOk fn.ntmps c = true) (hs : sigOk sp.sig = true) (hbo : sp.boxed = true → boxedOk sp.sig = true)
    (hdl : sp.del = none) (hch : sp.chunk = none)
    (hwp : ∀ k x y, sp.fn k x = some y → ∀ (B : Base) (pv : List Value) (β0 : Nat → Nat) (E : Env) (a : Act) (w : World), dstsOk B.n c = true → fn.ntmps ≤ B.n → (∀ n, E.U n → n < 100000) →
      Inv B pv ((refBoxes 0 sp.sig.ins).map (·.1)) β0 { startSt sp.sig x with prot := sp.sig.prot0 sp.stay } E a w →
      ∀ Q : Exit → Act → World → Prop, (∀ B2 (ex : Ex) S' E' a' w', Ext B B2 → (match ex with | .exit _ => False | _ => fin2 P fn sp S' = some y) → Inv B2 pv ((refBoxes 0 sp.sig.ins).map (·.1)) β0 S' E' a' w' → Q ex.out a' w') → c.wp P Q a w) : Holds P sp := by
  refine ⟨⟨fn, hf, hname, by rw [hb]; rfl, hbo⟩, fun k x y hy w FA M E args hU h => ?_, extra_none hdl hch⟩
  refine callsIn_wide.1 (callsIn_of_wp_marks (n := 0) hf hb trivial (wpIn_wide.2 ?_))
  generalize ha : (⟨args.toArray ++ Array.replicate (fn.ntmps - args.toArray.size) undef, []⟩ : Act) = a0
  have hsz : a0.tmps.size = args.length + (fn.ntmps - args.length) := by rw [← ha]; simp
  have h0 : Sim ⟨w, FA, M, a0.tmps.size, []⟩ (startSt sp.sig x) E a0 w :=
    { defers := by rw [← ha]
      size := rfl
      tmps := fun t av ht => by
        obtain ⟨h1, h2⟩ := h.tmps t av ht
        have h1 : t < args.length := h1
        refine ⟨by show t < a0.tmps.size; omega, ?_⟩
        have : a0.tmps.getD t undef = args.toArray.getD t undef := by
          rw [← ha]
          simp only [Array.getD_eq_getD_getElem?]
          rw [Array.getElem?_append_left (by simpa using h1)]
        rw [this]
        exact h2
      boxU := h.boxU
      boxes := h.boxes
      boxNew := h.boxNew
      boxInj := h.boxInj
      rowU := h.rowU
      rows := h.rows
      rowNew := h.rowNew
      FA := h.FA
      F := h.F
      FAlt := h.FAlt
      os := h.os
      tape := h.tape
      output := h.output
      grown := h.grown
      frame := h.frame
      tab := h.tab }
  have hs' := hs
  simp only [sigOk, Bool.and_eq_true] at hs'
  have hs1 := Nat.le_of_ble_eq_true hs'.1
  have hs2 := Nat.le_of_ble_eq_true hs'.2
  have hin : (keepShs sp.sig.ins).length ≤ 1000 := by
    rw [keep_len]
    simp only [Sig.shs, List.length_append] at hs1
    omega
  have hin2 : (inShs sp.sig.ins).length ≤ 1000 := by rw [← keep_len]; exact hin
  have hinv : Inv ⟨w, FA, M, a0.tmps.size, []⟩ ((sp.sig.prot0 sp.stay).map E.hv) ((refBoxes 0 sp.sig.ins).map (·.1)) E.β { laySt sp.sig.lay sp.sig.shs (flat sp.sig.inTy x) (mkAt 0 sp.sig.shs (flat sp.sig.inTy x)) with prot := sp.sig.prot0 sp.stay } E a0 w :=
    { sim := { h0 with }
      used := fun n hn => .inl ((hU n).1 hn)
      len := by simp
      prot := fun i j hij => by
        have hij : (sp.sig.prot0 sp.stay)[i]? = some j := hij
        have hlt : j < 100000 := by
          have hm := List.mem_of_getElem? hij
          generalize sp.stay = st at hm
          cases st with
          | false => have := ownNums_lt hm; omega
          | true =>
            rcases List.mem_cons.1 hm with rfl | hm
            · omega
            · have := ownNums_lt hm; omega
        exact ⟨(hU j).2 hlt, by rw [List.getElem?_map, hij]; rfl⟩
      pins := fun b hb => by
        obtain ⟨p, hp, rfl⟩ := List.mem_map.1 hb
        have := refBoxes_ge hp
        exact ⟨(hU _).2 (by omega), rfl⟩ }
  have hd' : dstsOk a0.tmps.size c = true := by
    have mono : ∀ {m n : Nat}, m ≤ n → ∀ c, dstsOk m c = true → dstsOk n c = true := by
      intro m n hmn c
      induction c with
      | region id ops dr =>
        intro h
        simp only [dstsOk, List.all_eq_true] at h ⊢
        intro o ho
        have := h o ho
        split
        · rename_i d hd; rw [hd] at this; have := nat_blt this; rw [Nat.blt_eq]; omega
        · rfl
      | seq a b iha ihb => intro h; simp only [dstsOk, Bool.and_eq_true] at h ⊢; exact ⟨iha h.1, ihb h.2⟩
      | cond _ a b iha ihb => intro h; simp only [dstsOk, Bool.and_eq_true] at h ⊢; exact ⟨iha h.1, ihb h.2⟩
      | block _ a iha => intro h; simp only [dstsOk] at h ⊢; exact iha h
      | loop a iha => intro h; simp only [dstsOk] at h ⊢; exact iha h
      | rangeFunc _ ps a b iha ihb =>
        intro h
        simp only [dstsOk, Bool.and_eq_true, List.all_eq_true] at h ⊢
        exact ⟨fun p hp => by have := nat_blt (h.1 p hp); rw [Nat.blt_eq]; omega, iha h.2.1, ihb h.2.2⟩
      | _ => intro _; rfl
    exact mono (by rw [hsz]; omega) c hd
  refine hwp k x y hy ⟨w, FA, M, a0.tmps.size, []⟩ _ E.β E a0 w hd' (by show fn.ntmps ≤ a0.tmps.size; omega) (fun n hn => (hU n).1 hn) hinv _ fun B2 ex S' E' a' w0 x2 hk hi2 => ?_
  obtain ⟨Ds, d1, d2, d3, hi⟩ := hi2.atEnd x2 rfl h0.FAlt h0.tab
  generalize hW : shutAll Ds w0 = w' at hi
  have fin : fin2 P fn sp S' = some y → LeavesInM Fence.wide 0 P fn a'.tmps (Post sp y w FA M E) a'.defers .returning w0 := by
    intro hfin
    rw [d1]
    refine leaves_marks Ds w0 d2 d3 ?_
    rw [hW]
    show ∃ v, (results fn a'.tmps).run P w' = .ok v w' ∧ Post sp y w FA M E (.returned v) w'
    cases hbx : sp.boxed with
    | false =>
      simp only [fin2, hbx] at hfin
      obtain ⟨f1, v, f2, E2, f3, f4, f5, f6⟩ := finish_ok hs hi (by simp) hfin
      refine ⟨v, f2, ?_⟩
      simp only [Post, hbx]
      refine ⟨v, E2, rfl, f3, fun i j hij => f4 i _ ?_, f5, fun hst => f6 hst _ ?_⟩
      · rw [ownNums_ids, List.getElem?_map] at hij
        rw [List.getElem?_map]
        have hp0 : (sp.sig.prot0 sp.stay)[i + dropN sp.stay]? = (ownNums 0 (keepShs sp.sig.ins))[i]? := by
          unfold Sig.prot0
          cases sp.stay <;> rfl
        rw [hp0]
        cases hq : (ownNums 0 (keepShs sp.sig.ins))[i]? with
        | none => rw [hq] at hij; cases hij
        | some j' => rw [hq] at hij; cases hij; rfl
      · rw [hst]; rfl
    | true =>
      simp only [fin2, hbx] at hfin
      obtain ⟨f1, g, f2, f3⟩ := finishB_ok (hbo hbx) hi hfin
      refine ⟨_, f2, ?_⟩
      simp only [Post, hbx]
      intro hM
      obtain ⟨us, t, E2, q1, q2, q3, q4⟩ := f3 hM
      exact ⟨us, t, g, E2, rfl, q1, q2, q3, q4⟩
  cases ex with
  | normal => exact fin hk
  | ret => exact fin hk
  | exit j => exact hk.elim

/-- A function holds what it is seen to compute. -/
theorem holds_of_run {sp : Spec} (hG : ∀ sp ∈ G, Holds P sp) (hm : P.follows .mixedOrders = true) (H : Hints) {fn : Func} {c : Code} (hf : P.funcs[sp.sig.f]? = some fn) (hname : (fn.name == "runtime.NumGoroutine") = false)
    (hb : fn.body = some c) (hd : dstsOk fn.ntmps c = true) (hs : sigOk sp.sig = true) (hfn : ∀ k x y, sp.fn k x = some y → runF P G H fn sp.sig k x = some y) (hbx : sp.boxed = false := by rfl) (hst : H.stay = sp.stay := by rfl) (hdl : sp.del = none := by rfl) (hch : sp.chunk = none := by rfl) : Holds P sp := by
  refine holds_of_code hf hname hb hd hs (fun h => by rw [hbx] at h; cases h) hdl hch fun k x y hy B pv β0 E a w hd' _ _ hinv Q hQ => ?_
  have hz := hfn k x y hy
  simp only [runF, hb, forceL_eq, hst] at hz
  refine runC_ok hG hm (sp.sig.H H) c _ _ y hd' hz E a w { sim := { hinv.sim with }, used := hinv.used, len := hinv.len, prot := hinv.prot, pins := hinv.pins } Q fun B2 ex S' E' a' w' x2 hk hi => hQ B2 ex S' E' a' w' x2 ?_ hi
  cases ex with
  | normal => simp only [fin2, hbx]; exact hk
  | ret => simp only [fin2, hbx]; exact hk
  | exit j => cases hk

/-- The same for a function that gives a pointer to a new variable. -/
theorem holds_of_box {sp : Spec} (hbx : sp.boxed = true) (hG : ∀ sp ∈ G, Holds P sp) (hm : P.follows .mixedOrders = true) (H : Hints) {fn : Func} {c : Code} (hf : P.funcs[sp.sig.f]? = some fn) (hname : (fn.name == "runtime.NumGoroutine") = false)
    (hb : fn.body = some c) (hd : dstsOk fn.ntmps c = true) (hs : sigOk sp.sig = true) (hbo : boxedOk sp.sig = true) (hfn : ∀ k x y, sp.fn k x = some y → runB P G H fn sp.sig k x = some y) (hst : sp.stay = false := by rfl) (hdl : sp.del = none := by rfl) (hch : sp.chunk = none := by rfl) : Holds P sp := by
  refine holds_of_code hf hname hb hd hs (fun _ => hbo) hdl hch fun k x y hy B pv β0 E a w hd' _ _ hinv Q hQ => ?_
  have hz := hfn k x y hy
  simp only [runB, hb, forceL_eq] at hz
  rw [hst] at hinv
  refine runC_ok hG hm (sp.sig.H H) c _ _ y hd' hz E a w { sim := { hinv.sim with }, used := hinv.used, len := hinv.len, prot := hinv.prot, pins := hinv.pins } Q fun B2 ex S' E' a' w' x2 hk hi => hQ B2 ex S' E' a' w' x2 ?_ hi
  cases ex with
  | normal => simp only [fin2, hbx]; exact hk
  | ret => simp only [fin2, hbx]; exact hk
  | exit j => cases hk

/-- A function that calls itself: a contract for each depth. -/
theorem holds_diag {sig : Sig} {f : Nat → Nat → sig.inTy.T → Option sig.outTy.T} {st : Bool} (h : ∀ d, Holds P { sig := sig, fn := fun k x => f k d x, stay := st }) : Holds P { sig := sig, fn := fun k x => f k k x, stay := st } :=
  ⟨(h 0).1, fun k => (h k).2.1 k, extra_none rfl rfl⟩

theorem holds_nil : ∀ sp ∈ ([] : List Spec), Holds P sp := fun sp h => by cases h
theorem holds_cons {sp : Spec} {G : List Spec} (h : Holds P sp) (hG : ∀ sp ∈ G, Holds P sp) : ∀ sp' ∈ sp :: G, Holds P sp' := fun sp' hm => by
  rcases List.mem_cons.1 hm with rfl | hm
  · exact h
  · exact hG _ hm

end
end Go.Proofs.YtmbmapbdbbnaeaaT

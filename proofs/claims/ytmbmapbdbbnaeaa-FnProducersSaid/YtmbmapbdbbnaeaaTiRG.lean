/- A range over slices.Chunk. -/
import Derived.Test.YtmbmapbdbbnaeaaTiRA
import Derived.RangeFuncIn
set_option linter.unusedVariables false
set_option linter.unusedSimpArgs false
namespace Go.Proofs.YtmbmapbdbbnaeaaT
open Go

section
variable {R : Type} {P : Program} {G : List Spec} {k : Nat} {B B2 : Base} {S S' : St} {E E' : Env} {a : Act} {w w' : World} {pv : List Value} {pins : List Nat} {β0 : Nat → Nat}

theorem closureOf_some : ∀ {G : List Spec} {f : FuncId} {u : Ty}, closureOf f G = some u → ∃ sp ∈ G, sp.chunk = some (f, u)
  | [], f, u, h => by simp [closureOf] at h
  | sp :: G, f, u, h => by
    simp only [closureOf] at h
    have rec_ : closureOf f G = some u → ∃ sp' ∈ sp :: G, sp'.chunk = some (f, u) := fun h => by
      obtain ⟨sp', h1, h2⟩ := closureOf_some h
      exact ⟨sp', List.mem_cons_of_mem _ h1, h2⟩
    split at h
    · rename_i q hq
      split at h
      · rename_i he
        cases h
        obtain ⟨q1, q2⟩ := q
        simp only at he
        rw [beq_nat.1 he] at hq
        exact ⟨sp, by simp, hq⟩
      · exact rec_ h
    · exact rec_ h
theorem rangeArgs_some {H : Hints} {g : Operand} {ps : Array Nat} {assign body : Code} {r : RangeArgs} (h : rangeArgs G H S g ps assign body = some r) :
    (∃ f, evalS S g = some (.fn f [.c (.ptr r.b 0), .c (.ptr r.c 0)]) ∧ ∃ sp ∈ G, sp.chunk = some (f, r.u)) ∧ ps.toList = [r.p] ∧ S.boxes r.b = some [.v (.row r.u) r.l] ∧ S.boxes r.c = some [.v (.int .i64) r.n] ∧
      noRange assign = true ∧ noRange body = true ∧ r.b ≠ r.c ∧ ptrsIn (r.h.lay.boxes.map (·.1)) r.h.lay.tmps = true := by
  unfold rangeArgs at h
  split at h
  · rename_i f b c p hd hg hps hh
    split at h
    · rename_i u u' l n hu hb hc
      split at h
      · rename_i hcond
        cases h
        simp only [Bool.and_eq_true, decide_eq_true_eq, Bool.not_eq_true'] at hcond
        obtain ⟨rfl, h1, h2, h3, h4⟩ := hcond
        exact ⟨⟨f, hg, closureOf_some hu⟩, hps, hb, hc, h1, h2, beq_nat'.1 h3, h4⟩
      · cases h
    · cases h
  · cases h

theorem hide_some {b c n : Nat} {cs : List AC} (h : (S.hide b c).boxes n = some cs) : S.boxes n = some cs ∧ n ≠ b ∧ n ≠ c := by
  simp only [St.hide] at h
  split at h
  · cases h
  · rename_i e
    simp only [Bool.or_eq_false_iff] at e
    exact ⟨h, beq_nat'.1 e.1, beq_nat'.1 e.2⟩
theorem Sim.hide (h : Sim B S E a w) (b c : Nat) : Sim B (S.hide b c) E a w :=
  { h with
    boxU := fun n cs hn => h.boxU n cs (hide_some hn).1
    boxes := fun n cs hn => h.boxes n cs (hide_some hn).1
    boxNew := fun n cs hn => h.boxNew n cs (hide_some hn).1
    boxInj := fun n m cs cs' hn hm => h.boxInj n m cs cs' (hide_some hn).1 (hide_some hm).1
    rowNew := fun n r g hn ho hg => by
      obtain ⟨h0, h1, h2, h3⟩ := h.rowNew n r g hn ho hg
      exact ⟨h0, h1, fun b' cs hb => h2 b' cs (hide_some hb).1, h3⟩ }
theorem hide_named (h : Sim B S E a w) {b c d : Nat} {cs : List AC} (hd : d = b ∨ d = c) (hb : S.boxes d = some cs) : ¬ Named (S.hide b c) E w (E.β d) := by
  rintro (⟨n, cs', hn, e⟩ | ⟨k, r, hk, ho, hg⟩)
  · obtain ⟨q1, q2, q3⟩ := hide_some hn
    have := h.boxInj n d _ _ q1 hb e
    exact hd.elim (fun e => q2 (this.trans e)) fun e => q3 (this.trans e)
  · exact (h.rowNew k r _ hk ho hg).2.2.1 d cs hb rfl

theorem extract_pins {hd : Head} {x : hd.ty.T} (hx : extract pins hd S = some x) : ∀ b ∈ pins, b ∈ hd.lay.boxes.map (·.1) := by
  simp only [extract, Option.bind_eq_some_iff] at hx
  obtain ⟨bs, hbs, c1, h1, c2, h2, hx⟩ := hx
  split at hx
  · rename_i hc
    simp only [Bool.and_eq_true] at hc
    intro b hb
    obtain ⟨_, n, hn⟩ := boxAt_mem (pinsOk_mem hc.2 b hb).1
    exact List.mem_map.2 ⟨_, hn, rfl⟩
  · cases hx
theorem memB_mem {n : Nat} : ∀ {l : List Nat}, memB n l = true → n ∈ l
  | [], h => by simp [memB] at h
  | m :: l, h => by
    simp only [memB] at h
    split at h
    · rename_i e; rw [beq_nat.1 e]; simp
    · exact List.mem_cons_of_mem _ (memB_mem h)
theorem ptrsIn_tmps {L : List Nat} : ∀ {l : List (Nat × LT)} {cs : List AC} {t : Nat} {av : AV}, ptrsIn L l = true → layTmps l cs t = some av → ∃ b o, av = .w (.c (.ptr b o)) ∧ b ∈ L
  | [], cs, t, av, _, h => by simp only [layTmps] at h; cases h
  | (t0, lt) :: l, cs, t, av, hp, h => by
    cases lt with
    | ptr b o =>
      simp only [ptrsIn, Bool.and_eq_true] at hp
      simp only [layTmps] at h
      split at h
      · cases h; exact ⟨b, o, rfl, memB_mem hp.1⟩
      · exact ptrsIn_tmps hp.2 h
    | _ => simp only [ptrsIn] at hp; cases hp
theorem putObj_same {w : World} {l : Nat} {o : Obj} (h : w.heap[l]? = some o) : w.putObj l o = w := by
  have : w.heap.setIfInBounds l o = w.heap := by
    apply Array.ext_getElem?
    intro i
    rw [Array.getElem?_setIfInBounds]
    split
    · rename_i e; subst e
      split
      · exact h.symm
      · rename_i hl
        have := (Array.getElem?_eq_some_iff.1 h).1
        exact absurd this hl
    · rfl
  show { w with heap := w.heap.setIfInBounds l o } = w
  rw [this]

/-- The chunk's value. -/
theorem chunk_val {w w' : World} {F F' : Nat → Prop} (hF : ∀ b, F b → F' b) (hw : ∀ b, F b → w'.heap[b]? = w.heap[b]?) {u : Ty} {l : List u.T} {p : Option Addr} {cap : Nat} (h : Val w F (.row u) l (.slice p l.length cap)) {i : Nat} {n : Int} (h1 : 1 ≤ n) (h2 : n ≤ 65536) (h3 : (l.length : Int) * 8 ≤ 35184372088832) (hi : i < l.length) :
    Val w' F' (.row u) (chunkAt l i n) (chunkV p i (min n.toNat (l.length - i)) u.size) := by
  have hx : chunkAt l i n = (l.take (i + min n.toNat (l.length - i))).drop i := by
    unfold chunkAt rSub iMin iAdd rLen
    rw [IntKind.wrap_i64, show ((i : Nat) : Int).toNat = i by omega]
    congr 2
    split <;> omega
  rw [hx]
  have h' : Val w' F' (.row u) l (.slice p l.length cap) := Enc.mono hF hw (fun _ _ => rfl) h
  obtain ⟨_, hc, hs⟩ := Enc.sub h' (lo := i) (hi := i + min n.toNat (l.length - i)) (by omega) (by omega)
  rw [if_neg (by omega)] at hs
  unfold chunkV
  have hm : i + min n.toNat (l.length - i) - i = min n.toNat (l.length - i) := by omega
  rw [hm] at hs
  simp only [Val, Enc, Option.some.injEq, Value.slice.injEq] at hs ⊢
  obtain ⟨p', c', ⟨rfl, e2, rfl⟩, q3, q4⟩ := hs
  exact ⟨_, _, ⟨rfl, e2, rfl⟩, by omega, q4⟩

/-- A range over slices.Chunk's function value: each round, and what is behind. -/
theorem range_ok (hG : ∀ sp ∈ G, Holds P sp) {g : Operand} {ps : Array Tmp} {assign body : Code} (iha : CodeOk (R := R) P G k assign) (ihb : CodeOk (R := R) P G k body) : CodeOk (R := R) P G k (.rangeFunc g ps assign body) := by
  intro ro H β0 B κ S z hro hd hz pv E a w hi Q hQ
  rcases hro with rfl | hro
  case inr => simp [noRange] at hro
  simp only [runC] at hz
  split at hz
  case h_2 => cases hz
  rename_i r hr
  obtain ⟨hok, hz⟩ := chk_some hz
  obtain ⟨x0, hx0, hz⟩ := bnd_some hz
  obtain ⟨⟨f, hg, sp, hsp, hspc⟩, hps, hbb, hbc, hna, hnb, hbne, hpt⟩ := rangeArgs_some hr
  simp only [dstsOk, Bool.and_eq_true] at hd
  obtain ⟨hdp, hda, hdb⟩ := hd
  have hps' : ps = #[r.p] := Array.ext' hps
  have hdp : r.p < B.n := by
    rw [hps] at hdp
    simp only [List.all_cons, List.all_nil, Bool.and_true] at hdp
    exact nat_blt hdp
  simp only [bAnd, Bool.and_eq_true] at hok
  obtain ⟨hn, hlen⟩ := hok
  have hn : 1 ≤ r.n ∧ r.n ≤ 65536 := by simp only [cSub, decide_eq_true_eq] at hn; exact hn.2
  have hlen : (r.l.length : Int) * 8 ≤ 35184372088832 := by
    unfold cLen rLen maxBytes at hlen
    have := @of_decide_eq_true _ (Classical.propDecidable _) hlen
    omega
  obtain ⟨_, ⟨fn0, f1, f2, f3⟩, _, hclo⟩ := (show ChunkRaw P sp.sig.f f r.u.size from (hG sp hsp).2.2.2 _ hspc)
  have eg : ∀ args w, (callFunc f args).run P w = .ok (.enter f args) w := fun args w => by
    simp only [callFunc, Sem.run_bind, run_program, Result.andThen_ok, f1, f2, f3, Bool.false_eq_true, if_false, Sem.run_ite, Sem.run_pure]
  have hsim := hi.sim
  obtain ⟨us, hge, hlus, hus⟩ := hsim.eval hg
  have hus2 : us = [.pointer (some ⟨E.β r.b, 0, none⟩), .pointer (some ⟨E.β r.c, 0, none⟩)] := by
    match us, hlus, hus with
    | [u0, u1], _, hus =>
      have q0 : ACr w E (.ptr r.b 0) u0 := hus 0 _ u0 rfl rfl
      have q1 : ACr w E (.ptr r.c 0) u1 := hus 1 _ u1 rfl rfl
      rw [q0.2, q1.2]
  subst hus2
  obtain ⟨ub, tb, hwb, hub⟩ := hsim.boxes _ _ hbb
  obtain ⟨uc, tc, hwc, huc⟩ := hsim.boxes _ _ hbc
  obtain ⟨p, cap, hub0, hval⟩ : ∃ p cap, ub = #[.slice p r.l.length cap] ∧ Val w E.F (.row r.u) r.l (.slice p r.l.length cap) := by
    obtain ⟨ul⟩ := ub
    match ul, hub with
    | [u0], hub =>
      have q0 : ACr w E (.v (.row r.u) r.l) u0 := hub.2 0 _ u0 rfl rfl
      have q1 := q0.2
      obtain ⟨p, cap, e, _⟩ := q0.2
      simp only [Option.some.injEq] at e
      exact ⟨p, cap, by rw [e], by rw [← e]; exact q1⟩
    | [], hub => cases hub.1
    | _ :: _ :: _, hub => cases hub.1
  have huc0 : uc = #[.int .i64 r.n] := by
    obtain ⟨ul⟩ := uc
    match ul, huc with
    | [u0], huc =>
      have q0 : ACr w E (.v (.int .i64) r.n) u0 := huc.2 0 _ u0 rfl rfl
      rw [val_int q0.2]
    | [], huc => cases huc.1
    | _ :: _ :: _, huc => cases huc.1
  have hcap : r.l.length ≤ cap := by
    have := hval
    simp only [Val, Enc, Option.some.injEq, Value.slice.injEq] at this
    obtain ⟨_, _, ⟨_, _, rfl⟩, h, _⟩ := this
    exact h
  subst hub0
  subst huc0
  refine wpIn_rangeFunc ?_
  intro fn _
  obtain ⟨lr, hrec⟩ : ∃ lr : LoopState → Option Code → Loop, lr = fun st pe => { state := st, pending := pe, fn, tmps := a.tmps, params := ps, assign, body, defers := w.heap.size } := ⟨_, rfl⟩
  obtain ⟨w1, hw1⟩ : ∃ w1, (w.alloc (.deferred (some []))).alloc (.loop (lr .ready none)) = w1 := ⟨_, rfl⟩
  have hsz1 : w1.heap.size = w.heap.size + 2 := by rw [← hw1]; simp
  have hL1 : w1.heap[w.heap.size + 1]? = some (.loop (lr .ready none)) := by
    rw [← hw1]; have := World.alloc_heap_new (w.alloc (.deferred (some []))) (.loop (lr .ready none)); rwa [World.size_alloc] at this
  have hK1 : w1.heap[w.heap.size]? = some (.deferred (some [])) := by
    rw [← hw1]; exact (heap_alloc_lt _ _ (by simp)).trans (World.alloc_heap_new w _)
  have hold : ∀ b, b < w.heap.size → w1.heap[b]? = w.heap[b]? := fun b hb => by
    rw [← hw1]; exact (heap_alloc_lt _ _ (by simp; omega)).trans (heap_alloc_lt _ _ hb)
  have hos1 : w1.os = w.os ∧ w1.tape = w.tape ∧ w1.output = w.output := by rw [← hw1]; exact ⟨rfl, rfl, rfl⟩
  have hh := hsim.hide r.b r.c
  obtain ⟨B0, hB0⟩ : ∃ B0, B0 = Base.at_ B.n (S.hide r.b r.c) E w [] w1 := ⟨_, rfl⟩
  have hs0 : Sim B0 (S.hide r.b r.c) E ⟨a.tmps, []⟩ w1 := by rw [hB0]; exact hh.rebase [] (by omega) hos1.1 hos1.2.1 hos1.2.2 (fun b hb _ => hold b hb)
  have hx1 : Ext0 B B0 := by rw [hB0]; exact hh.rebase_ext [] (by omega) hos1.1 hos1.2.1 hos1.2.2 (fun b hb _ => hold b (Nat.lt_of_lt_of_le hb hsim.grown))
  have hB0n : B0.n = B.n := by rw [hB0]; rfl
  have hB0w : B0.w0 = w1 := by rw [hB0]; rfl
  have hB0F : ∀ b, B0.FA b ↔ E.F b := fun b => by rw [hB0]; exact Iff.rfl
  have hB0M : ∀ b, B0.M b ↔ Named (S.hide r.b r.c) E w b := fun b => by rw [hB0]; exact Iff.rfl
  have hB0l : B0.putObj (w.heap.size + 1) (.loop (lr .ready none)) = B0 := by
    rw [hB0]
    show Base.mk (w1.putObj (w.heap.size + 1) (.loop (lr .ready none))) _ _ _ _ = _
    rw [putObj_same hL1]; rfl
  have hout : ∀ g, (g = w.heap.size ∨ g = w.heap.size + 1 ∨ g = E.β r.b ∨ g = E.β r.c) → g < w1.heap.size ∧ ¬ B0.new g ∧ ¬ B0.FA g := by
    have h1 := hsim.lt_box hbb
    have h2 := hsim.lt_box hbc
    intro g hg
    refine ⟨by omega, fun hn => ?_, fun hf => ?_⟩
    · have hn : w1.heap.size ≤ g ∨ Named (S.hide r.b r.c) E w g := hn.imp (fun h => by rw [hB0w] at h; exact h) (hB0M g).1
      rcases hn with hn | hn
      · omega
      · have hlt := (hh.named hn).2.2
        rcases hg with rfl | rfl | rfl | rfl
        · omega
        · omega
        · exact hide_named hsim (.inl rfl) hbb hn
        · exact hide_named hsim (.inr rfl) hbc hn
    · have hf := (hB0F g).1 hf
      have hlt := (hsim.F g hf).2
      rcases hg with rfl | rfl | rfl | rfl
      · omega
      · omega
      · exact (hsim.boxNew _ _ hbb).2 hf
      · exact (hsim.boxNew _ _ hbc).2 hf
  obtain ⟨l, hl0⟩ : ∃ l, l = w.heap.size + 1 := ⟨_, rfl⟩
  have toRst : ∀ {pins : List Nat} {βx : Nat → Nat} {xx : r.h.ty.T} {E2 : Env} {W : World}, Inv B0 pv pins βx (headSt H.deep H.inpl r.h xx (mkAt 0 r.h.shs (flat r.h.ty xx))) E2 ⟨a.tmps, []⟩ W →
      Inv B0 pv pins βx (roundSt H S r.h xx (mkAt 0 r.h.shs (flat r.h.ty xx))) E2 ⟨a.tmps, []⟩ W := fun {pins βx xx E2 W} h =>
    { sim := { h.sim with
        tmps := fun t av ht => by
          simp only [roundSt] at ht
          split at ht
          · rename_i av' hav
            cases ht
            exact h.sim.tmps t _ hav
          · obtain ⟨q1, q2⟩ := constAV_ok ht
            obtain ⟨q3, q4⟩ := hsim.tmps t _ q1
            refine ⟨by rw [hB0n]; exact q3, q2 (fun b hb => h.sim.FA b ((hB0F b).2 hb)) (fun b hb => ?_) q4⟩
            have := hs0.FAlt b ((hB0F b).2 hb)
            rw [h.sim.frame b this.1 this.2, hB0w]
            exact hold b (hsim.F b hb).2 }
      used := h.used
      len := h.len
      prot := h.prot
      pins := h.pins }
  have hi0 : Inv B0 pv H.pins β0 (S.hide r.b r.c) E ⟨a.tmps, []⟩ w1 := { sim := hs0, used := hi.used, len := hi.len, prot := hi.prot, pins := hi.pins }
  obtain ⟨E1, hi1⟩ := hi0.extract hx0 H.deep H.inpl
  have hi1 := toRst hi1
  have hpin : ∀ b ∈ H.pins, b ∈ (H.inRange r.h).pins ∧ E1.β b = β0 b := fun b hb => ⟨extract_pins hx0 b hb, (hi1.pins b hb).2⟩
  have hi1' : Inv B0 pv (H.inRange r.h).pins E1.β (roundSt H S r.h x0 (mkAt 0 r.h.shs (flat r.h.ty x0))) E1 ⟨a.tmps, []⟩ w1 :=
    { sim := hi1.sim, used := hi1.used, len := hi1.len, prot := hi1.prot
      pins := fun b hb => by
        obtain ⟨⟨b', n⟩, hm, rfl⟩ := List.mem_map.1 hb
        obtain ⟨cs, hcs⟩ := layBoxes_some (cs := (mkAt 0 r.h.shs (flat r.h.ty x0)).drop (layTmpsN r.h.lay.tmps)) hm
        exact ⟨hi1.sim.boxU b' cs hcs, rfl⟩ }
  generalize hst : (fun (rec : Int × r.h.ty.T → Option R) (x : Int × r.h.ty.T) => forceL (mkAt 0 r.h.shs (flat r.h.ty x.2)) fun all => brB (iLt x.1 (rLen r.l))
          (runC P G k (H.inRange r.h) assign (fun e S1 => match e with
            | .normal => runC P G k (H.inRange r.h) body (fun e S2 => match e with
              | .normal => bnd (Go.Proofs.YtmbmapbdbbnaeaaT.extract (H.inRange r.h).pins r.h { S2 with tmps := (roundSt H S r.h x.2 all).tmps }) fun y => rec (iAdd .i64 x.1 r.n, y)
              | .ret => κ .ret { S2 with tmps := (roundSt H S r.h x.2 all).tmps }
              | .exit _ => none) S1
            | _ => none) ((roundSt H S r.h x.2 all).put r.p (.w (.c (.v (.row r.u) (chunkAt r.l x.1 r.n))))))
          (κ .normal (roundSt H S r.h x.2 all))) = stp at hz
  have hs1 : ∀ rec x, stp rec x = brB (iLt x.1 (rLen r.l))
          (runC P G k (H.inRange r.h) assign (fun e S1 => match e with
            | .normal => runC P G k (H.inRange r.h) body (fun e S2 => match e with
              | .normal => bnd (Go.Proofs.YtmbmapbdbbnaeaaT.extract (H.inRange r.h).pins r.h { S2 with tmps := (roundSt H S r.h x.2 (mkAt 0 r.h.shs (flat r.h.ty x.2))).tmps }) fun y => rec (iAdd .i64 x.1 r.n, y)
              | .ret => κ .ret { S2 with tmps := (roundSt H S r.h x.2 (mkAt 0 r.h.shs (flat r.h.ty x.2))).tmps }
              | .exit _ => none) S1
            | _ => none) ((roundSt H S r.h x.2 (mkAt 0 r.h.shs (flat r.h.ty x.2))).put r.p (.w (.c (.v (.row r.u) (chunkAt r.l x.1 r.n))))))
          (κ .normal (roundSt H S r.h x.2 (mkAt 0 r.h.shs (flat r.h.ty x.2)))) := fun rec x => by rw [← hst]; simp only [forceL_eq]
  clear hst
  -- what stands at the loop's record, and outside
  have hat : ∀ {X : Obj} {Sx : St} {Ex : Env} {W : World}, Sim (B0.putObj l X) Sx Ex ⟨a.tmps, []⟩ W → W.heap[l]? = some X ∧ ∀ g, (g = w.heap.size ∨ g = E.β r.b ∨ g = E.β r.c) → W.heap[g]? = w1.heap[g]? := fun {X Sx Ex W} h => by
    have hlt : l < w1.heap.size := by omega
    refine ⟨?_, fun g hg => ?_⟩
    · have ho := hout l (by omega)
      rw [h.frame l (by show l < (B0.w0.putObj l X).heap.size; rw [World.putObj_size, hB0w]; exact hlt) (fun hm => ho.2.1 (.inr hm))]
      exact World.putObj_heap_same (by rw [hB0w]; exact hlt)
    · have ho := hout g (by omega)
      have hne : g ≠ l := by
        have h1 := hsim.lt_box hbb
        have h2 := hsim.lt_box hbc
        omega
      rw [h.frame g (by show g < (B0.w0.putObj l X).heap.size; rw [World.putObj_size, hB0w]; exact ho.1) (fun hm => ho.2.1 (.inr hm))]
      show (B0.w0.putObj l X).heap[g]? = _
      rw [World.putObj_heap_other hne, hB0w]
  -- behind the loop
  have fin : ∀ {X : Obj} {Sx : St} {Ex : Env} {W : World} (o : Obj), Inv (B0.putObj l X) pv (H.inRange r.h).pins E1.β Sx Ex ⟨a.tmps, []⟩ W → ∀ ex, κ ex Sx = some z → Q ex.out { a with defers := [mark w.heap.size] ++ a.defers } (W.putObj l o) := fun {X Sx Ex W} o h ex hk => by
    have hx2 : Ext0 B (B0.putObj l X) := hx1.putR (by have := hsim.grown; omega)
    have hx3 := hx2.trans (h.sim.rebase_ext (mark w.heap.size :: B.dfs) (Nat.le_refl _) rfl rfl rfl (fun _ _ _ => rfl))
    have hx4 := hx3.putR (l := l) (o := o) (by have := hsim.grown; omega)
    have hW : w1.heap.size ≤ W.heap.size := by
      have : (B0.w0.putObj l X).heap.size ≤ W.heap.size := h.sim.grown
      rwa [World.putObj_size, hB0w] at this
    have nn : ∀ g, (g = w.heap.size ∨ g = w.heap.size + 1) → ¬ Named Sx Ex W g ∧ ¬ Ex.F g := fun g hg => by
      have ho := hout g (by omega)
      have new_ : (B0.putObj l X).new g → B0.new g := fun hn => hn.imp (fun h => by
        have h : (B0.w0.putObj l X).heap.size ≤ g := h
        rwa [World.putObj_size] at h) id
      exact ⟨fun hn => ho.2.1 (new_ (h.sim.named hn).1), fun hf => ((h.sim.F g hf).1).elim ho.2.2 fun hn => ho.2.1 (new_ hn)⟩
    have hsB := h.sim.rebase (mark w.heap.size :: B.dfs) (w' := W.putObj l o) (by rw [World.putObj_size]; exact Nat.le_refl _) rfl rfl rfl (fun b hb hn => World.putObj_heap_other fun e => by
      obtain ⟨q1, q2⟩ := nn l (.inr hl0)
      subst e
      exact hn.elim q2 q1)
    have ea : ({ a with defers := [mark w.heap.size] ++ a.defers } : Act) = ⟨a.tmps, mark w.heap.size :: B.dfs⟩ := by rw [← hsim.defers]; rfl
    rw [ea]
    obtain ⟨q1, q2⟩ := nn w.heap.size (.inl rfl)
    refine hQ _ ex Sx Ex _ _ { hx4 with dfs := ⟨[w.heap.size], rfl, by simp, fun D hD => ?_⟩ } hk { sim := hsB, used := h.used, len := h.len, prot := h.prot, pins := fun b hb => ?_ }
    · simp only [List.mem_singleton] at hD
      subst hD
      refine ⟨hsim.grown, ?_, q1, q2, ?_⟩
      · show w.heap.size < (W.putObj l o).heap.size
        rw [World.putObj_size]; omega
      · show (W.putObj l o).heap[w.heap.size]? = _
        rw [World.putObj_heap_other (by omega), (hat h.sim).2 _ (.inl rfl)]
        exact hK1
    · obtain ⟨p1, p2⟩ := hpin b hb
      obtain ⟨p3, p4⟩ := h.pins b p1
      exact ⟨p3, p4.trans p2⟩
  let J : Nat → World → Prop := fun i W => ∃ xx E2 m, iter stp m ((i : Int), xx) = some z ∧ Inv B0 pv (H.inRange r.h).pins E1.β (roundSt H S r.h xx (mkAt 0 r.h.shs (flat r.h.ty xx))) E2 ⟨a.tmps, []⟩ W
  let Jx : World → Prop := fun W => ∃ Sx Ex, κ .ret Sx = some z ∧ Inv (B0.putObj l (.loop (lr .done (some .ret)))) pv (H.inRange r.h).pins E1.β Sx Ex ⟨a.tmps, []⟩ W
  have hJl : ∀ i W, J i W → W.heap[l]? = some (.loop (lr .ready none)) ∧ ∀ g, (g = w.heap.size ∨ g = E.β r.b ∨ g = E.β r.c) → W.heap[g]? = w1.heap[g]? := fun i W ⟨xx, E2, m, hit, hinv⟩ =>
    hat (X := .loop (lr .ready none)) (by rw [hl0, hB0l]; exact hinv.sim)
  have round : ∀ i W, J i W → i < r.l.length → YieldAt Fence.wide 0 P l #[chunkV p i (min r.n.toNat (r.l.length - i)) r.u.size] W fun e W' => (e = .returned (.bool true) ∧ J (i + r.n.toNat) W') ∨ (e = .returned (.bool false) ∧ Jx W') := by
    intro i W hJ hil
    have hlW := (hJl i W hJ).1
    obtain ⟨xx, E2, m, hit, hinv⟩ := hJ
    cases m with
    | zero => cases hit
    | succ m =>
      simp only [iter] at hit
      rw [hs1] at hit
      have hlt : iLt ((i : Nat) : Int) (rLen r.l) = true := by unfold iLt rLen; exact decide_eq_true (by omega)
      simp only [hlt, brB] at hit
      generalize hv : chunkV p i (min r.n.toNat (r.l.length - i)) r.u.size = v
      have hy := run_yield (P := P) (args := #[v]) hlW (by rw [hrec, hps']; rfl)
      rw [hrec] at hy
      refine ⟨fn, _, assign, body, hy, roundIn_of_wpIn trivial ?_⟩
      have htm : ((ps.zip #[v]).foldl (fun tmps (x : Tmp × Value) => match x with | (t, a) => tmps.setIfInBounds t a) a.tmps) = (Act.put ⟨a.tmps, []⟩ (some r.p) v).tmps := by rw [hps']; simp [Act.put]
      show assign.wpIn (fr (some l)) 0 P _ ⟨((ps.zip #[v]).foldl (fun tmps (x : Tmp × Value) => match x with | (t, a) => tmps.setIfInBounds t a) a.tmps), []⟩ W
      rw [htm]
      -- the round's base
      have hBr := hinv.sim.rebase [] (w' := W) (Nat.le_refl _) rfl rfl rfl (fun _ _ _ => rfl)
      have hxr := hinv.sim.rebase_ext [] (w' := W) (Nat.le_refl _) rfl rfl rfl (fun _ _ _ => rfl)
      obtain ⟨Br, hBre⟩ : ∃ Br, Br = Base.at_ B0.n (roundSt H S r.h xx (mkAt 0 r.h.shs (flat r.h.ty xx))) E2 W [] W := ⟨_, rfl⟩
      rw [← hBre] at hBr hxr
      have hBrn : Br.n = B.n := by rw [hBre]; exact hB0n
      have hBrw : Br.w0 = W := by rw [hBre]; rfl
      have hBrF : ∀ b, Br.FA b ↔ E2.F b := fun b => by rw [hBre]; exact Iff.rfl
      have hW : w1.heap.size ≤ W.heap.size := by have := hinv.sim.grown; rwa [hB0w] at this
      have hlo := hout l (by omega)
      have hlW' : l < W.heap.size := by omega
      have hlnew : ¬ Br.new l := fun h => hlo.2.1 (hxr.new h)
      have hlF : ¬ Br.FA l := fun h => ((hinv.sim.F l ((hBrF l).1 h)).1).elim hlo.2.2 hlo.2.1
      have hlBr : l < Br.w0.heap.size := by rw [hBrw]; exact hlW'
      have hBinv : Inv Br pv (H.inRange r.h).pins E1.β (roundSt H S r.h xx (mkAt 0 r.h.shs (flat r.h.ty xx))) E2 ⟨a.tmps, []⟩ W := { sim := hBr, used := hinv.used, len := hinv.len, prot := hinv.prot, pins := hinv.pins }
      have hFE : ∀ b, E.F b → E2.F b ∧ W.heap[b]? = w.heap[b]? := fun b hb => by
        have h1 := (hB0F b).2 hb
        have h2 := hs0.FAlt b h1
        refine ⟨hinv.sim.FA b h1, ?_⟩
        rw [hinv.sim.frame b h2.1 h2.2, hB0w]
        exact hold b (hsim.F b hb).2
      have hput := hBinv.put (d := r.p) (av := .w (.c (.v (.row r.u) (chunkAt r.l i r.n)))) (v := v) (by rw [hBrn]; exact hdp) ⟨rfl, by
        rw [← hv]
        exact chunk_val (fun b hb => (hFE b hb).1) (fun b hb => (hFE b hb).2) hval hn.1 hn.2 hlen hil⟩
      refine iha (some l) (H.inRange r.h) E1.β Br _ _ z (.inr hna) (by rw [hBrn]; exact hda) hit pv E2 _ W hput _ ?_
      intro Ba ex S1 Ea a1 wa x1 hk1 hia
      cases ex with
      | ret => cases hk1
      | exit id => cases hk1
      | normal =>
        have hk1 := (show runC P G k (H.inRange r.h) body _ S1 = some z from hk1)
        have hla : wa.heap[l]? = some (.loop (lr .ready none)) := by
          rw [hia.sim.frame l (Nat.lt_of_lt_of_le hlBr x1.size) (x1.toExt0.old hlBr fun h => hlnew (.inr h)), x1.frame l hlBr (fun h => hlnew (.inr h)), hBrw]
          exact hlW
        have haM : ¬ Ba.M l := x1.toExt0.old hlBr fun h => hlnew (.inr h)
        have haF : ¬ Ba.FA l := fun h => (x1.FA' l h).elim hlF hlnew
        refine ⟨_, run_beginRound hla (by rw [hrec]), ?_⟩
        generalize hbu : (Obj.loop { lr .ready none with state := .busy }) = busy
        have hib : Inv (Ba.putObj l busy) pv (H.inRange r.h).pins E1.β S1 Ea a1 (wa.putObj l busy) :=
          { sim := hia.sim.putObj busy (Nat.lt_of_lt_of_le hlBr x1.size) haM haF, used := hia.used, len := hia.len, prot := hia.prot, pins := hia.pins }
        refine ihb (some l) (H.inRange r.h) E1.β (Ba.putObj l busy) _ S1 z (.inr hnb) (by show dstsOk Ba.n body = true; rw [x1.n, hBrn]; exact hdb) hk1 pv Ea a1 _ hib _ ?_
        intro B2 ex S2 E3 a3 w3 x2 hk2 hi3
        have hBb := hBr.putObj busy hlBr (fun h => hlnew (.inr h)) hlF
        have hxb : Ext0 (Br.putObj l busy) B2 := (x1.toExt0.putObj hlBr (fun h => hlnew (.inr h)) hlF).trans x2.toExt0
        have h3 : Sim (Br.putObj l busy) S2 E3 ⟨a3.tmps, []⟩ w3 := hi3.sim.unbase hxb hBb.FAlt hBb.tab rfl (by rw [hBre]; rfl)
        have hszb : (Br.putObj l busy).w0.heap.size = W.heap.size := by show (Br.w0.putObj l busy).heap.size = _; rw [World.putObj_size, hBrw]
        have hl3 : w3.heap[l]? = some busy := by
          rw [h3.frame l (by rw [hszb]; exact hlW') (fun h => hlnew (.inr h))]
          exact World.putObj_heap_same hlBr
        have ho3 : ∀ g, g < W.heap.size → ¬ Br.M g → g ≠ l → w3.heap[g]? = W.heap[g]? := fun g h1 h2 h3' => by
          rw [h3.frame g (by rw [hszb]; exact h1) h2]
          show (Br.w0.putObj l busy).heap[g]? = _
          rw [World.putObj_heap_other h3', hBrw]
        have hF23 : ∀ b, E2.F b → E3.F b := fun b hb => h3.FA b ((hBrF b).2 hb)
        have hT : Sim (Br.putObj l busy) { S2 with tmps := (roundSt H S r.h xx (mkAt 0 r.h.shs (flat r.h.ty xx))).tmps } E3 ⟨a.tmps, []⟩ w3 :=
          { h3 with
            size := hBr.size
            tmps := fun t av ht => by
              obtain ⟨q1, q2⟩ := hinv.sim.tmps t av ht
              refine ⟨by show t < Br.n; rw [hBrn, ← hB0n]; exact q1, ?_⟩
              simp only [roundSt] at ht
              split at ht
              · rename_i av' hav
                cases ht
                obtain ⟨b', o', rfl, hb'⟩ := ptrsIn_tmps hpt hav
                obtain ⟨p1, p2⟩ := hi3.pins b' hb'
                obtain ⟨p3, p4⟩ := hinv.pins b' hb'
                have q2 : E2.U b' ∧ _ = Value.pointer (some ⟨E2.β b', o', none⟩) := q2
                exact ⟨p1, by rw [q2.2, p2, p4]⟩
              · obtain ⟨q3, q4⟩ := constAV_ok ht
                exact q4 hF23 (fun b hb => ho3 b (hinv.sim.F b hb).2 (hBr.FAlt b ((hBrF b).2 hb)).2 (fun e => hlF (by rw [← e]; exact (hBrF b).2 hb))) q2 }
        have backX : ∀ X : Obj, Inv (B0.putObj l X) pv (H.inRange r.h).pins E1.β { S2 with tmps := (roundSt H S r.h xx (mkAt 0 r.h.shs (flat r.h.ty xx))).tmps } E3 ⟨a.tmps, []⟩ (w3.putObj l X) := fun X => by
          have hl0' : l < B0.w0.heap.size := by rw [hB0w]; omega
          have hX := hs0.putObj X hl0' (fun h => hlo.2.1 (.inr h)) hlo.2.2
          have nl : ∀ b, (Br.putObj l busy).FA b ∨ (Br.putObj l busy).new b → b ≠ l := fun b hb e => by
            subst e
            refine hb.elim hlF fun hn => hn.elim (fun h => ?_) fun h => hlnew (.inr h)
            rw [hszb] at h
            omega
          have newc : ∀ b, (Br.putObj l busy).new b → (B0.putObj l X).new b := fun b hb => by
            have h1 : Br.new b := hb.imp (fun h => by rw [hszb] at h; rw [hBrw]; exact h) id
            exact (hxr.new h1).imp (fun h => by show (B0.w0.putObj l X).heap.size ≤ b; rw [World.putObj_size]; exact h) id
          have fc : ∀ b, E2.F b → (B0.putObj l X).FA b ∨ (B0.putObj l X).new b := fun b hb => ((hinv.sim.F b hb).1).imp id fun h => h.imp (fun h => by show (B0.w0.putObj l X).heap.size ≤ b; rw [World.putObj_size]; exact h) id
          have hg3 : W.heap.size ≤ w3.heap.size := by have := h3.grown; rwa [hszb] at this
          refine ⟨hT.base rfl (by rw [hB0]; rfl) ?_ (by rw [World.putObj_size]; exact Nat.le_refl _) (fun b hb => World.putObj_heap_other (nl b (h3.F b hb).1)) (fun b cs hb => World.putObj_heap_other (nl _ (.inr (hT.boxNew b cs hb).1)))
              (fun k' r' g hk ho hg => World.putObj_heap_other (nl g (.inr (hT.rowNew k' r' g hk ho hg).1))) (fun b cs hb => newc _ (hT.boxNew b cs hb).1) (fun k' r' g hk ho hg => newc g (hT.rowNew k' r' g hk ho hg).1)
              (fun b hb => hF23 b ((hBrF b).1 (hxr.FA b hb))) (fun b hb => ((h3.F b hb).1).elim (fun h => fc b ((hBrF b).1 h)) fun h => .inr (newc b h)) hX.FAlt
              ?_ ?_ ?_ ?_ (fun b hb hm => ?_) hX.tab, hi3.used, hi3.len, hi3.prot, hi3.pins⟩
          · show B0.n = Br.n
            rw [hBrn, hB0n]
          · exact (h3.os.trans (by show Br.w0.os = W.os; rw [hBrw])).trans hinv.sim.os
          · exact (h3.tape.trans (by show Br.w0.tape = W.tape; rw [hBrw])).trans hinv.sim.tape
          · exact (h3.output.trans (by show Br.w0.output = W.output; rw [hBrw])).trans hinv.sim.output
          · show (B0.w0.putObj l X).heap.size ≤ (w3.putObj l X).heap.size
            rw [World.putObj_size, World.putObj_size, hB0w]; omega
          · have hb : b < B0.w0.heap.size := by have : b < (B0.w0.putObj l X).heap.size := hb; rwa [World.putObj_size] at this
            show (w3.putObj l X).heap[b]? = (B0.w0.putObj l X).heap[b]?
            by_cases e : b = l
            · subst e
              rw [World.putObj_heap_same (by omega), World.putObj_heap_same hl0']
            · rw [World.putObj_heap_other e, World.putObj_heap_other e, ho3 b (by rw [hB0w] at hb; omega) (hxr.old hb hm) e]
              exact hinv.sim.frame b hb hm
        have hl3' : w3.heap[l]? = some (.loop { lr .ready none with state := .busy }) := by rw [hbu]; exact hl3
        cases ex with
        | exit id => cases hk2
        | normal =>
          obtain ⟨y, hy', hrec'⟩ := bnd_some (show bnd _ _ = some z from hk2)
          have he := run_endRound (P := P) none hl3'
          have hX : ({ ({ lr .ready none with state := .busy } : Loop) with state := if (none : Option Code).isNone then .ready else .done, pending := none } : Loop) = lr .ready none := by rw [hrec]; rfl
          rw [hX] at he
          have hb := backX (.loop (lr .ready none))
          have hb' : Inv B0 pv (H.inRange r.h).pins E1.β { S2 with tmps := (roundSt H S r.h xx (mkAt 0 r.h.shs (flat r.h.ty xx))).tmps } E3 ⟨a.tmps, []⟩ (w3.putObj l (.loop (lr .ready none))) := by
            rw [← hB0l, ← hl0]; exact hb
          obtain ⟨E4, hi4⟩ := hb'.extract hy' H.deep H.inpl
          have hadd : iAdd .i64 (i : Int) r.n = ((i + r.n.toNat : Nat) : Int) := by
            unfold iAdd; rw [IntKind.wrap_i64]; omega
          exact ⟨_, _, he, .inl ⟨rfl, y, E4, m, by rw [← hadd]; exact hrec', toRst hi4⟩⟩
        | ret =>
          have he := run_endRound (P := P) (some .ret) hl3'
          have hX : ({ ({ lr .ready none with state := .busy } : Loop) with state := if (some Code.ret).isNone then .ready else .done, pending := some .ret } : Loop) = lr .done (some .ret) := by rw [hrec]; rfl
          rw [hX] at he
          exact ⟨_, _, he, .inr ⟨rfl, _, E3, hk2, backX _⟩⟩
  refine ⟨w.heap.size + 1, [mark w.heap.size], w1, { target := .fn (.func f) #[.pointer (some ⟨E.β r.b, 0, none⟩), .pointer (some ⟨E.β r.c, 0, none⟩)], args := #[.func (.yield (w.heap.size + 1)) #[] #[]] }, w1, f,
    #[.func (.yield (w.heap.size + 1)) #[] #[], .pointer (some ⟨E.β r.b, 0, none⟩), .pointer (some ⟨E.β r.c, 0, none⟩)], w1, ?_, ?_, fun _ _ => trivial, ?_, fun e => (by cases e), ?_⟩
  · rw [← hw1, hrec]; exact run_enterLoop_outer _ _ _ _ _
  · simp only [resolve, hge]
    simp [go_sem]
  · simp [invoke, go_sem, eg]
  · rw [← hl0]
    refine CallsIn.mono (calls_fr (callsIn_wide.1 (hclo l (E.β r.b) (E.β r.c) w1 p r.l.length cap r.n J Jx hn.1 hn.2 hlen hcap (fun i W hJ => ?_) (fun i W hJ => ?_) round ⟨x0, E1, k, hz, hi1'⟩))) ?_
    · have h2 := (hJl i W hJ).2
      refine ⟨?_, ?_⟩
      · rw [cell_row (by rw [h2 _ (.inr (.inl rfl)), hold _ (hsim.lt_box hbb)]; exact hwb)]; rfl
      · rw [cell_row (by rw [h2 _ (.inr (.inr rfl)), hold _ (hsim.lt_box hbc)]; exact hwc)]; rfl
    · obtain ⟨xx, E2, m, hit, hinv⟩ := hJ
      exact ⟨xx, E2, m, hit, { sim := hinv.sim.draw, used := hinv.used, len := hinv.len, prot := hinv.prot, pins := hinv.pins }⟩
    · rintro e W2 ⟨⟨v, rfl⟩, ⟨i, hJ, hle⟩ | ⟨Sx, Ex, hk, hinv⟩⟩
      · have hlW := (hJl i W2 hJ).1
        obtain ⟨xx, E2, m, hit, hinv⟩ := hJ
        cases m with
        | zero => cases hit
        | succ m =>
          simp only [iter] at hit
          rw [hs1] at hit
          have hlt : iLt ((i : Nat) : Int) (rLen r.l) = false := by unfold iLt rLen; exact decide_eq_false (by omega)
          simp only [hlt, brB] at hit
          have he := run_endLoop (P := P) hlW (by rw [hrec]; simp)
          rw [show (lr .ready none).pending = none by rw [hrec]] at he
          exact ⟨none, _, he, fin (X := .loop (lr .ready none)) _ (by rw [hl0, hB0l]; exact hinv) .normal hit⟩
      · have he := run_endLoop (P := P) (hat hinv.sim).1 (by rw [hrec]; simp)
        rw [show (lr .done (some .ret)).pending = some .ret by rw [hrec]] at he
        exact ⟨some .ret, _, he, wpIn_ret (fin _ hinv .ret hk)⟩

end
end Go.Proofs.YtmbmapbdbbnaeaaT

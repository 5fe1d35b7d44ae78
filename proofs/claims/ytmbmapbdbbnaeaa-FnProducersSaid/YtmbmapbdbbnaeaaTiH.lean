/- The operations: what they do in memory. -/
import Derived.Test.YtmbmapbdbbnaeaaTiG
set_option linter.unusedVariables false
set_option linter.unusedSimpArgs false
namespace Go.Proofs.YtmbmapbdbbnaeaaT
open Go

section
variable {P : Program} {B : Base} {S : St} {E : Env} {a : Act} {w : World}

theorem run_sizeB {t : TypeId} {n : Nat} (h : sizeB P t = some n) (w : World) : (sizeOf t).run P w = .ok n w := by
  unfold sizeB at h
  cases hi : P.info? t with
  | none => rw [hi] at h; cases h
  | some i => rw [hi] at h; cases h; simp [sizeOf, typeInfo, hi]
theorem run_aggB {t : TypeId} {g : Bool} (h : aggB P t = some g) (w : World) : (isAgg t).run P w = .ok g w := by
  unfold aggB at h
  split at h <;> cases h
  · rename_i hu; simp [isAgg, run_underlying hu]
  · rename_i hu; simp [isAgg, run_underlying hu]
  · rename_i d h1 h2 hu
    simp only [isAgg, Sem.run_bind, run_underlying hu, Result.andThen_ok]
    cases d <;> first | rfl | (exact absurd rfl (h1 _)) | (exact absurd rfl (h2 _ _))
theorem run_zeroB {t : TypeId} {z : List Value} (h : zeroB P t = some z) (w : World) : ∃ v, (zeroValue t).run P w = .ok v w ∧ v.cells.toList = z := by
  unfold zeroB at h
  simp only [Option.bind_eq_some_iff, Option.map_eq_some_iff] at h
  obtain ⟨i, hi, v, hv, e⟩ := h
  exact ⟨v, by simp [zeroValue, typeInfo, hi, hv], e⟩
theorem sliceB_some {t e : TypeId} (h : sliceB P t = some e) : P.underlying t = some (.slice e) := by
  unfold sliceB at h
  split at h <;> cases h
  assumption

theorem addr_add (b f n : Nat) : (⟨b, f, none⟩ : Addr).add n = ⟨b, f + n, none⟩ := by
  unfold Addr.add
  split
  · rename_i h; subst h; rfl
  · rfl

/-- Cells as a whole value. -/
theorem shut_aw {g : Bool} {l : List AC} {x : AW} (h : shut g l = some x) {us : List Value} (hc : ACs w E l us) :
    (g = true ∧ AWr w E x (.agg us.toArray)) ∨ (g = false ∧ ∃ u, us = [u] ∧ AWr w E x u) := by
  unfold shut at h
  cases g with
  | true => simp only [if_true] at h; cases h; exact .inl ⟨rfl, us, rfl, hc⟩
  | false =>
    simp only [Bool.false_eq_true, if_false] at h
    split at h
    · cases h
      obtain ⟨u, us', rfl, h1, h2⟩ := hc.cons_inv
      obtain rfl := h2.nil_inv
      exact .inr ⟨rfl, u, rfl, h1⟩
    · cases h

theorem run_loadVarB {t : TypeId} {n : Nat} {g : Bool} (hs : sizeB P t = some n) (hg : aggB P t = some g) {b f : Nat} {us : List Value} (hl : us.length = n)
    (hc : ∀ j u, us[j]? = some u → w.cell? ⟨b, f + j, none⟩ = some u) {l : List AC} {x : AW} (hx : shut g l = some x) (ha : ACs w E l us) :
    ∃ v, (loadVar t ⟨b, f, none⟩).run P w = .ok v w ∧ AWr w E x v := by
  rcases shut_aw hx ha with ⟨rfl, h⟩ | ⟨rfl, u, rfl, h⟩
  · refine ⟨_, ?_, h⟩
    have := run_loadCells_list (P := P) w ⟨b, f, none⟩ us (fun j v hv => by rw [addr_add]; exact hc j v hv)
    rw [hl] at this
    simp [loadVar, run_aggB hg, run_sizeB hs, this]
  · refine ⟨u, ?_, h⟩
    have := hc 0 u rfl
    simp only [Nat.add_zero] at this
    simp [loadVar, run_aggB hg, this]

theorem window_some {l m : List AC} {o n : Nat} (h : window l o n = some m) : o + n ≤ l.length ∧ m = (l.drop o).take n := by
  unfold window at h
  split at h
  · rename_i hb; cases h; exact ⟨Nat.le_of_ble_eq_true hb, rfl⟩
  · cases h
theorem splice_some {l m vs : List AC} {o : Nat} (h : splice l o vs = some m) : o + vs.length ≤ l.length ∧ m = l.take o ++ (vs ++ l.drop (o + vs.length)) := by
  unfold splice at h
  split at h
  · rename_i hb; cases h; exact ⟨Nat.le_of_ble_eq_true hb, rfl⟩
  · cases h
theorem window_acs {l m : List AC} {o n : Nat} {us : List Value} (h : window l o n = some m) (hc : ACs w E l us) : ACs w E m ((us.drop o).take n) ∧ ((us.drop o).take n).length = n := by
  obtain ⟨h1, rfl⟩ := window_some h
  exact ⟨(hc.drop o).take n, by rw [List.length_take, List.length_drop, ← hc.1]; omega⟩
theorem splice_acs {l m vs : List AC} {o : Nat} {us xs : List Value} (h : splice l o vs = some m) (hc : ACs w E l us) (hv : ACs w E vs xs) :
    ACs w E m (us.take o ++ (xs ++ us.drop (o + xs.length))) := by
  obtain ⟨h1, rfl⟩ := splice_some h
  rw [← hv.1]
  exact (hc.take o).append (hv.append (hc.drop _))

theorem ACr.one {c : AC} {u : Value} (h : ACr w E c u) : u.oneCell' = true := by
  cases c with
  | v t x =>
    obtain ⟨ht, hv⟩ := h
    cases t <;> simp only [Val, Enc, Ty.cell] at ht hv <;> first | (cases ht; done) | skip
    · cases hv; rfl
    · cases hv; rfl
    · cases hv; rfl
    · obtain ⟨p, c, e, _⟩ := hv; cases e; rfl
    · obtain ⟨u', e, h1⟩ := hv; cases e; exact h1
  | own k => exact h.2.2
  | nil => rw [show u = .slice none 0 0 from h]; rfl
  | ptr b o => rw [h.2]; rfl
  | eS t x o => obtain ⟨b, f, e, _⟩ := h; rw [e]; rfl
  | eO k i o => obtain ⟨_, g, n, c, _, _, _, e⟩ := h; rw [e]; rfl
  | inn k m s => exact h.2.2.1
  | sub k lo hi => obtain ⟨_, p, n, c, _, _, _, _, e⟩ := h; rw [e]; rfl
  | ownR k m => obtain ⟨_, _, p, n, c, e, _⟩ := h; rw [e]; rfl


theorem ACs.one {cs : List AC} {us : List Value} (h : ACs w E cs us) : ∀ u ∈ us, u.oneCell' = true := by
  intro u hu
  obtain ⟨j, hj, rfl⟩ := List.getElem_of_mem hu
  have hc : j < cs.length := by rw [h.1]; exact hj
  exact (h.2 j cs[j] us[j] (by simp [hc]) (by simp [hj])).one
theorem oneCell_cells {v : Value} (h : v.oneCell' = true) : v.cells = #[v] := by cases v <;> first | rfl | cases h
/-- A whole value's cells. -/
theorem AWr.cells {x : AW} {u : Value} (h : AWr w E x u) : ACs w E x.cells u.cells.toList := by
  cases x with
  | c c => rw [oneCell_cells (ACr.one h)]; exact ACs.mk_cons h ACs.mk_nil
  | agg l => obtain ⟨us, rfl, h⟩ := h; simpa [AW.cells, Value.cells] using h

/-- What an operation does. -/
structure OpOk (P : Program) (B : Base) (S : St) (E : Env) (a : Act) (w : World) (id : Nat) (o : Oper) (δ : Delta) : Prop where
  intro ::
  run : ∃ n v w' E', (execOp a.eval o).run P w = .ok n w' ∧ (n = .value v ∨ (n = .skip ∧ v = undef)) ∧ E.le w w' E' ∧ AVr w' E' δ.val v ∧
    Sim B { S with boxes := setBoxes S.boxes δ.boxes, rows := setAll S.rows δ.rows } E' a w' ∧ (∀ n, E'.U n → E.U n ∨ (id ≤ n ∧ n < id + 64))

theorem U_row0 {E E1 : Env} (h : ∀ n, E1.U n ↔ E.U n) {id sz : Nat} {v : Value} : ∀ n, (E1.row id v sz).U n → E.U n ∨ (id ≤ n ∧ n < id + 64) :=
  fun n hn => hn.elim (fun x => .inl ((h n).1 x)) fun e => .inr (by subst e; exact ⟨Nat.le_refl _, by omega⟩)
theorem OpOk.same (h : Sim B S E a w) {id : Nat} {o : Oper} {v : Value} {av : AV} (hr : (execOp a.eval o).run P w = .ok (.value v) w) (hv : AVr w E av v) : OpOk P B S E a w id o { val := av } :=
  ⟨_, v, w, E, hr, .inl rfl, Env.le.refl w E, hv, h, fun _ h => .inl h⟩

theorem op_move (h : Sim B S E a w) {id : Nat} {o : Oper} {x : Operand} (ho : o.op = .move x ∨ o.op = .assign x) {r : Out} (hb : opB P S id (.move x) = some r) : r.ok = true ∧ OpOk P B S E a w id o r.d := by
  simp only [opB] at hb
  split at hb
  · cases hb
    refine ⟨rfl, OpOk.same h (v := .pointer none) ?_ trivial⟩
    rcases ho with ho | ho <;> simp [execOp, ho, Act.eval]
  · simp only [Option.bind_eq_some_iff] at hb
    obtain ⟨v, hv, e⟩ := hb
    cases e
    refine ⟨rfl, OpOk.same h ?_ (h.eval hv)⟩
    rcases ho with ho | ho <;> simp [execOp, ho]

theorem op_pick (h : Sim B S E a w) {id : Nat} {o : Oper} {c x y : Operand} (ho : o.op = .pick c x y) {r : Out} (hb : opB P S id (.pick c x y) = some r) : r.ok = true ∧ OpOk P B S E a w id o r.d := by
  simp only [opB, Option.bind_eq_some_iff] at hb
  obtain ⟨cc, hc, hb⟩ := hb
  have h1 := h.evalC hc
  split at hb
  · simp only [Option.bind_eq_some_iff] at hb
    obtain ⟨p, hp, q, hq, e⟩ := hb
    cases e
    rename_i b
    have e1 : a.eval c = .bool b := by have := h1.2; simp only [Val, Enc] at this; exact Option.some.inj this
    refine ⟨rfl, OpOk.same h (v := if b = true then a.eval x else a.eval y) (by simp only [execOp, ho, Sem.run_bind, asBool, e1, Sem.run_pure, Result.andThen_ok]) ?_⟩
    cases b
    · exact h.eval hq
    · exact h.eval hp
  · cases hb

theorem op_alloc (h : Sim B S E a w) {id : Nat} {o : Oper} {t : TypeId} (ho : o.op = .alloc t) (hid : ¬ E.U id) {r : Out} (hb : opB P S id (.alloc t) = some r) : r.ok = true ∧ OpOk P B S E a w id o r.d := by
  simp only [opB, Option.bind_eq_some_iff] at hb
  obtain ⟨z, hz, cs, hcs, e⟩ := hb
  cases e
  obtain ⟨v, hv, hvz⟩ := run_zeroB hz w
  have hc : ACs w E cs v.cells.toList := by rw [hvz]; exact acsOf_acs hcs
  obtain ⟨h1, L⟩ := h.newBox hid (us := v.cells) t hc
  refine ⟨rfl, ?_⟩
  refine ⟨_, .pointer (some ⟨w.heap.size, 0, none⟩), w.alloc (.cells v.cells t), E.box id w.heap.size, ?_, .inl rfl, L, ?_, h1, fun n hn => hn.imp_right fun e => by subst e; exact ⟨Nat.le_refl _, by omega⟩⟩
  · simp only [execOp, ho, Instr.alloc, Sem.run_bind, hv, Result.andThen_ok, newVar, newRow, run_newObj, Sem.run_pure]
    rfl
  · exact ⟨.inr rfl, by simp [Env.box]⟩

theorem op_box (h : Sim B S E a w) {id : Nat} {o : Oper} {t : TypeId} {x : Operand} (ho : o.op = .box t x) (hid : ¬ E.U id) {r : Out} (hb : opB P S id (.box t x) = some r) : r.ok = true ∧ OpOk P B S E a w id o r.d := by
  simp only [opB, Option.bind_eq_some_iff] at hb
  obtain ⟨x', hx, e⟩ := hb
  cases e
  obtain ⟨h1, L⟩ := h.newBox hid (us := (a.eval x).cells) t (h.evalW hx).cells
  refine ⟨rfl, ?_⟩
  refine ⟨_, .pointer (some ⟨w.heap.size, 0, none⟩), w.alloc (.cells (a.eval x).cells t), E.box id w.heap.size, ?_, .inl rfl, L, ?_, h1, fun n hn => hn.imp_right fun e => by subst e; exact ⟨Nat.le_refl _, by omega⟩⟩
  · simp only [execOp, ho, Instr.box, Sem.run_bind, Result.andThen_ok, newVar, newRow, run_newObj, Sem.run_pure]
    rfl
  · exact ⟨.inr rfl, by simp [Env.box]⟩

theorem Enc.list {w : World} {F : Nat → Prop} : ∀ {t : Ty} {x : t.T} {g : Nat → Option Value}, Enc w F t x g →
    ∃ us : List Value, us.length = t.size ∧ (∀ (j : Nat) u, us[j]? = some u → g j = some u) ∧ Enc w F t x (fun j => us[j]?)
  | .unit, _, _, _ => ⟨[], rfl, fun j u h => by simp at h, trivial⟩
  | .int k, x, g, h => one rfl (u := .int k x) (by simp only [Enc] at h; exact h) (by simp only [Enc]; rfl)
  | .bool, x, g, h => one rfl (u := .bool x) (by simp only [Enc] at h; exact h) (by simp only [Enc]; rfl)
  | .str, x, g, h => one rfl (u := .string x) (by simp only [Enc] at h; exact h) (by simp only [Enc]; rfl)
  | .row t, x, g, h => by
    simp only [Enc] at h
    obtain ⟨p, c, h0, h1, h2⟩ := h
    exact one rfl h0 (by simp only [Enc]; exact ⟨p, c, rfl, h1, h2⟩)
  | .pair p q, x, g, h => by
    simp only [Enc] at h
    obtain ⟨us, l1, g1, e1⟩ := Enc.list h.1
    obtain ⟨vs, l2, g2, e2⟩ := Enc.list h.2
    refine ⟨us ++ vs, by simp [Ty.size, l1, l2], fun j u hj => ?_, ?_⟩
    · rw [List.getElem?_append] at hj
      split at hj
      · exact g1 j u hj
      · rename_i hn
        have := g2 _ u hj
        rw [l1] at this hn
        rw [show p.size + (j - p.size) = j by omega] at this
        exact this
    · simp only [Enc]
      refine ⟨e1.congr fun j hj => ?_, e2.congr fun j hj => ?_⟩
      · rw [List.getElem?_append, if_pos (by omega)]
      · rw [List.getElem?_append, if_neg (by omega), l1, show p.size + j - p.size = j by omega]
  | .deep _ t, x, g, h => by
    simp only [Enc] at h
    obtain ⟨us, l1, g1, e1⟩ := Enc.list h
    exact ⟨us, by simp only [Ty.size]; exact l1, g1, by simp only [Enc]; exact e1⟩
  | .dead, x, g, h => by
    simp only [Enc] at h
    obtain ⟨u, h0, h1⟩ := h
    exact one rfl h0 (by simp only [Enc]; exact ⟨u, rfl, h1⟩)
  | .part t, x, g, h => by
    simp only [Enc] at h
    have h' : ∀ j : Fin t.size, ∃ u, g j.1 = some u ∧ u.oneCell' = true := fun j => h j.1 j.2
    refine ⟨List.ofFn fun j => Classical.choose (h' j), by simp [Ty.size], fun j u hj => ?_, ?_⟩
    · rw [List.getElem?_ofFn] at hj
      split at hj
      · rename_i hlt
        cases hj
        exact (Classical.choose_spec (h' ⟨j, hlt⟩)).1
      · cases hj
    · simp only [Enc]
      intro j hj
      refine ⟨_, by rw [List.getElem?_ofFn, dif_pos hj], (Classical.choose_spec (h' ⟨j, hj⟩)).2⟩
where
  one {w : World} {F : Nat → Prop} {t : Ty} {x : t.T} {g : Nat → Option Value} (ht : t.size = 1) {u : Value} (hg : g 0 = some u) (he : Enc w F t x (fun j => [u][j]?)) :
      ∃ us : List Value, us.length = t.size ∧ (∀ (j : Nat) u, us[j]? = some u → g j = some u) ∧ Enc w F t x (fun j => us[j]?) :=
    ⟨[u], by simp [ht], fun j v hj => by
      cases j with
      | zero => simp at hj; subst hj; exact hg
      | succ j => simp at hj, he⟩

/-- An element of a row that the state keeps. -/
theorem Sim.elem (h : Sim B S E a w) {k : Nat} {i : Int} {off : Nat} {u : Value} (hc : ACr w E (.eO k i off) u) {r : RowSt} (hr : S.rows k = some r) (hd : (r.own && r.t.isDeep) = false) :
    ∃ (g c : Nat) (us : List Value), E.hv k = .slice (some ⟨g, 0, none⟩) r.l.length c ∧ E.sz k = r.t.size ∧ i.toNat < r.l.length ∧ u = .pointer (some ⟨g, i.toNat * r.t.size + off, none⟩) ∧ us.length = r.t.size ∧
      (∀ (j : Nat) u, us[j]? = some u → w.cell? ⟨g, i.toNat * r.t.size + j, none⟩ = some u) ∧ Enc w E.F r.t (rGet r.t.dflt r.l i) (fun j => us[j]?) := by
  obtain ⟨hU, g, n, c, h0, h1, h2, h3⟩ := hc
  obtain ⟨hs, hs0, _⟩ := h.rows k r hr
  rw [hs] at h3
  cases ho : r.own with
  | true =>
    obtain ⟨xs, hx, hl⟩ := (h.rows k r hr).own ho (by rw [ho] at hd; exact hd)
    obtain ⟨cap, cur, e, e1, e2, e3, e4, e5, e6⟩ := hx.blk (g := g) (by rw [h0]; rfl)
    have en : n = r.l.length := by rw [h0] at e1; cases e1; rfl
    subst en
    have hi : i.toNat < r.l.length := by omega
    have hget : r.l[i.toNat]? = some (rGet r.t.dflt r.l i) := by simp [rGet, hi]
    obtain ⟨us, l1, g1, en⟩ := Enc.list (hl _ _ hget)
    refine ⟨g, c, us, h0, hs, hi, h3, l1, fun j v hj => ?_, en⟩
    rw [cell_row e2]
    have := g1 j v hj
    rw [← e6, List.getElem?_take] at this
    split at this
    · simpa using this
    · cases this
  | false =>
    obtain ⟨_, he⟩ := (h.rows k r hr).shut ho
    simp only [Enc] at he
    obtain ⟨p, c', e0, e1, e2⟩ := he
    rw [h0] at e0
    simp only [Option.some.injEq, Value.slice.injEq] at e0
    obtain ⟨rfl, rfl, rfl⟩ := e0
    have hi : i.toNat < r.l.length := by omega
    have hget : r.l[i.toNat]? = some (rGet r.t.dflt r.l i) := by simp [rGet, hi]
    rcases e2 with e2 | ⟨ad, e3, e4, e5, e6⟩
    · omega
    · cases e3
      obtain ⟨us, l1, g1, en⟩ := Enc.list (e6 _ _ hget)
      refine ⟨g, c, us, h0, hs, hi, h3, l1, fun j v hj => ?_, en⟩
      have := g1 j v hj
      simpa using this

/-- An element of a deep row. -/
theorem Sim.elemD (h : Sim B S E a w) {k : Nat} {i : Int} {off : Nat} {u : Value} (hc : ACr w E (.eO k i off) u) {n : Option Note} {t : Ty} {l : List t.T} (hr : S.rows k = some ⟨true, .deep n t, l⟩) :
    ∃ (g c : Nat) (xs : List Value), E.hv k = .slice (some ⟨g, 0, none⟩) l.length c ∧ E.sz k = t.size ∧ i.toNat < l.length ∧ u = .pointer (some ⟨g, i.toNat * t.size + off, none⟩) ∧ Owned w t.size (E.hv k) l.length xs ∧
      Kids w E.U E.hv n t l xs (E.hv k) ∧ (∀ (j : Nat) u, xs[j]? = some u → w.cell? ⟨g, j, none⟩ = some u) ∧ l[i.toNat]? = some (rGet t.dflt l i) := by
  obtain ⟨hU, g, m, c, h0, h1, h2, h3⟩ := hc
  obtain ⟨hs, hs0, _⟩ := h.rows k _ hr
  obtain ⟨xs, hx, hl⟩ := (h.rows k _ hr).ownB rfl
  have hs : E.sz k = t.size := hs
  rw [hs] at h3 hx
  obtain ⟨cap, cur, e, e1, e2, e3, e4, e5, e6⟩ := hx.blk (g := g) (by rw [h0]; rfl)
  have en : m = l.length := by rw [h0] at e1; cases e1; rfl
  subst en
  have hi : i.toNat < l.length := by omega
  refine ⟨g, c, xs, h0, hs, hi, h3, hx, hl, fun j v hj => ?_, by simp [rGet, hi]⟩
  rw [cell_row e2]
  rw [← e6, List.getElem?_take] at hj
  split at hj
  · simpa using hj
  · cases hj
theorem Kid.acr {c : AC} {u : Value} (hk : Kid w c u) (hp : plainCells [c] = true) : ACr w E c u := by
  cases c with
  | v t x =>
    cases t with
    | row t => simp [plainCells, Ty.hasRow] at hp
    | _ => exact ⟨hk.2.1, Enc.mono (fun _ h => h.elim) (fun _ h => h.elim) (fun _ _ => rfl) hk.2.2⟩
  | _ => simp [plainCells] at hp
theorem plain_mem : ∀ {l : List AC}, plainCells l = true → ∀ c ∈ l, plainCells [c] = true
  | [], _, c, h => by cases h
  | d :: l, hp, c, h => by
    cases d with
    | v t x =>
      simp only [plainCells, Bool.and_eq_true] at hp
      rcases List.mem_cons.1 h with rfl | h
      · simp only [plainCells, Bool.and_true]; exact hp.1
      · exact plain_mem hp.2 c h
    | _ => simp [plainCells] at hp
/-- Cells of an element of a deep row. -/
theorem Kids.window {n : Option Note} {t : Ty} {l : List t.T} {xs : List Value} {v : Value} (hk : Kids w E.U E.hv n t l xs v) (hl : xs.length = l.length * t.size) {i o m : Nat} {x : t.T} (hx : l[i]? = some x) {cs : List AC} (hw : Go.Proofs.YtmbmapbdbbnaeaaT.window (flat t x) o m = some cs) :
    o + m ≤ t.size ∧ cs.length = m ∧ ((xs.drop (i * t.size + o)).take m).length = m ∧ ∀ (j : Nat) c, cs[j]? = some c → (cellsL t l)[i * t.size + (o + j)]? = some c ∧ ∃ u, ((xs.drop (i * t.size + o)).take m)[j]? = some u ∧ xs[i * t.size + (o + j)]? = some u := by
  obtain ⟨h1, rfl⟩ := window_some hw
  rw [flat_len] at h1
  have hil := (List.getElem?_eq_some_iff.1 hx).1
  have hlt : i * t.size + t.size ≤ xs.length := by
    have := Nat.mul_le_mul_right t.size (Nat.succ_le_of_lt hil)
    rw [Nat.succ_mul] at this
    omega
  refine ⟨h1, by rw [List.length_take, List.length_drop, flat_len]; omega, by rw [List.length_take, List.length_drop]; omega, fun j c hc => ?_⟩
  rw [List.getElem?_take] at hc
  split at hc
  · rename_i hj
    rw [List.getElem?_drop] at hc
    refine ⟨by rw [cellsL_get hx (by omega)]; exact hc, xs[i * t.size + (o + j)]'(by omega), ?_, by simp⟩
    rw [List.getElem?_take, if_pos hj, List.getElem?_drop, Nat.add_assoc]
    simp
  · cases hc
theorem lent_row {n : Option Note} {t : Ty} {l : List t.T} {xs : List Value} {v : Value} (hk : Kids w E.U E.hv n t l xs v) {j : Nat} {c : AC} (hc : (cellsL t l)[j]? = some c) (hp : plainCells [c] = true) : lentPos t n ≠ some j := by
  intro e
  cases n with
  | none => cases e
  | some m =>
    obtain ⟨_, _, _, _, _, u, x, h⟩ := hk.note m rfl
    have : m.i.toNat * t.size + m.o = j := by
      obtain ⟨b, i, o, q⟩ := m
      cases b <;> simp [lentPos] at e
      exact e
    rw [this, hc] at h
    cases h
    simp [plainCells, Ty.hasRow] at hp

/-- Where a pointer points to: the cells that are there. -/
theorem op_load (h : Sim B S E a w) {id : Nat} (hid : ¬ E.U id) {o : Oper} {t : TypeId} {x : Operand} (ho : o.op = .load t x) {r : Out} (hb : opB P S id (.load t x) = some r) : r.ok = true ∧ OpOk P B S E a w id o r.d := by
  simp only [opB, Option.bind_eq_some_iff] at hb
  obtain ⟨c, hc, n, hn, g, hg, hb⟩ := hb
  have h1 := h.evalC hc
  have fin : ∀ {b f : Nat} {us : List Value} {l : List AC} {x' : AW}, a.eval x = .pointer (some ⟨b, f, none⟩) → us.length = n → (∀ (j : Nat) u, us[j]? = some u → w.cell? ⟨b, f + j, none⟩ = some u) → shut g l = some x' → ACs w E l us →
      OpOk P B S E a w id o { val := .w x' } := fun he hl hu hx ha => by
    obtain ⟨v, hv, hvr⟩ := run_loadVarB hn hg hl hu hx ha
    refine OpOk.same h ?_ hvr
    simp only [execOp, ho, Instr.loadAt, he, Instr.sureAddr, Sem.run_bind, Sem.run_pure, Result.andThen_ok, hv]
  split at hb
  · simp only [Option.bind_eq_some_iff] at hb
    obtain ⟨cs, hcs, l, hl, x', hx', e⟩ := hb
    cases e
    obtain ⟨us, e, hw, ha⟩ := h.boxes _ cs hcs
    obtain ⟨h2, h3⟩ := window_acs hl ha
    refine ⟨rfl, fin h1.2 h3 (fun j u hu => ?_) hx' h2⟩
    rw [cell_row hw]
    rw [List.getElem?_take] at hu
    split at hu
    · rw [List.getElem?_drop] at hu; simpa using hu
    · cases hu
  · rename_i u y k
    simp only [Option.bind_eq_some_iff] at hb
    obtain ⟨l, hl, x', hx', e⟩ := hb
    cases e
    obtain ⟨b, f, e1, hF, he⟩ := h1
    obtain ⟨us, l1, g1, en⟩ := Enc.list he
    obtain ⟨h2, h3⟩ := window_acs hl (flat_acs l1 en)
    refine ⟨rfl, fin e1 h3 (fun j u hu => ?_) hx' h2⟩
    rw [List.getElem?_take] at hu
    split at hu
    · rw [List.getElem?_drop] at hu
      have := g1 _ u hu
      rw [← Nat.add_assoc] at this
      exact this
    · cases hu
  · rename_i k i k'
    simp only [Option.bind_eq_some_iff] at hb
    obtain ⟨r, hr, l, hl, hb⟩ := hb
    split at hb
    · rename_i hd
      simp only [Bool.and_eq_true] at hd
      obtain ⟨ro, rt, rl⟩ := r
      obtain ⟨hd1, hd2⟩ := hd
      simp only at hd1 hd2
      subst hd1
      cases rt with
      | deep m u =>
        simp only [Option.bind_eq_some_iff] at hb
        obtain ⟨p, hp, e⟩ := hb
        cases e
        obtain ⟨g', c', xs, e1, e2, e3, e4, e5, e6, e7, e8⟩ := h.elemD h1 hr
        have hl' : window (flat u (rGet u.dflt rl i)) k' n = some l := hl
        obtain ⟨q1, q2, q3, q4⟩ := e6.window e5.1 e8 hl'
        have cells_ : ∀ (j : Nat) v, ((xs.drop (i.toNat * u.size + k')).take n)[j]? = some v → w.cell? ⟨g', i.toNat * u.size + k' + j, none⟩ = some v := fun j v hv => by
          rw [List.getElem?_take] at hv
          split at hv
          · rw [List.getElem?_drop] at hv; exact e7 _ v hv
          · cases hv
        unfold deepLoad at hp
        simp only at hp
        split at hp
        · rename_i hpl
          simp only [Option.bind_eq_some_iff] at hp
          obtain ⟨x', hx', e⟩ := hp
          cases e
          refine ⟨rfl, fin e4 q3 cells_ hx' ⟨by rw [q2, q3], fun j c v hc hv => ?_⟩⟩
          obtain ⟨r1, v', r2, r3⟩ := q4 j c hc
          rw [hv] at r2
          cases r2
          have hpc := plain_mem hpl c (List.mem_of_getElem? hc)
          exact (e6.kid _ c v r1 r3 (lent_row e6 r1 hpc)).acr hpc
        · split at hp
          · rename_i t0 m0 rl hpl
            split at hp
            · cases hp
            · cases hp
              obtain ⟨r1, v', r2, r3⟩ := q4 0 _ rfl
              have hn1 : n = 1 := q2.symm
              subst hn1
              have hkid := e6.kid _ _ v' r1 r3 (by simp [lentPos])
              obtain ⟨hnr, ys, hyo, hye⟩ := hkid
              have h1c : v'.oneCell' = true := by
                rcases hyo.2 with ⟨e, _⟩ | ⟨_, _, _, _, e, _⟩ <;> rw [e] <;> rfl
              have L : E.le w w (E.row id v' t0.size) := Env.le_row hid fun _ _ => rfl
              have hvid : (E.row id v' t0.size).hv id = v' := if_pos rfl
              have hU := h.rowU k _ hr
              have hvk : (E.row id v' t0.size).hv k = E.hv k := L.hv k hU
              have hkids := Body.mono L e5 (t := .deep none u) e6 (fun _ _ => rfl)
              have hk2 : Kids w (E.row id v' t0.size).U (E.row id v' t0.size).hv (some ⟨false, i, k', id⟩) u rl xs (E.hv k) :=
                { one := e6.one
                  kid := fun j c v hc hv _ => e6.kid j c v hc hv (by simp [lentPos])
                  note := fun n hn => by
                    cases hn
                    refine ⟨.inr rfl, e3, (show k' < u.size by omega), ?_, by rw [hvid]; exact h1c, t0, m0, r1⟩
                    rw [hvid]; exact r3
                  inj := fun j j' v v' b hv hv' _ _ hb hb' => e6.inj j j' v v' b hv hv' (by simp [lentPos]) (by simp [lentPos]) hb hb'
                  out := fun j v b hv _ hb => e6.out j v b hv (by simp [lentPos]) hb }
              have hS := (h.env L fun _ => Iff.rfl).setRowSt (k := k) (r := ⟨true, .deep (some ⟨false, i, k', id⟩) u, rl⟩) (L.U _ hU)
                ⟨by rw [L.sz _ hU]; exact e2, trivial, xs, by rw [hvk, L.sz _ hU, e2]; exact e5, by rw [hvk]; exact hk2⟩ (fun _ b hb => by
                  rw [hvk] at hb
                  have hb' : OwnB w (E.hv k) (.deep none u) rl b := hb.imp (fun h => h) fun ⟨j, v, r1, r2, r3⟩ => ⟨j, v, r1, by simp [lentPos], r3⟩
                  obtain ⟨n1, n2, n3, n4⟩ := h.rowNew k _ b hr rfl hb'
                  exact ⟨n1, n2, n3, fun k' r' hk' ho' hg' => by
                    rw [L.hv _ (h.rowU k' r' hk')] at hg'
                    exact n4 k' r' hk' ho' hg'⟩)
              obtain ⟨v, hv, hvr⟩ := run_loadVarB (us := (xs.drop (i.toNat * u.size + k')).take 1) (w := w) (E := E.row id v' t0.size) hn hg q3 cells_ (l := [.inn k id t0.size]) (x := .c (.inn k id t0.size)) rfl
                ⟨by rw [q3]; rfl, fun j c z hc hz => by
                  cases j with
                  | zero =>
                    simp only [List.getElem?_cons_zero, Option.some.injEq] at hc
                    subst hc
                    rw [hz] at r2
                    cases r2
                    exact ⟨.inr rfl, hvid.symm, h1c, if_pos rfl⟩
                  | succ j => simp at hc⟩
              refine ⟨rfl, .value v, v, w, E.row id v' t0.size, ?_, .inl rfl, L, hvr, hS, U_row0 (fun _ => Iff.rfl)⟩
              simp only [execOp, ho, Instr.loadAt, e4, Instr.sureAddr, Sem.run_bind, Sem.run_pure, Result.andThen_ok, hv]
          · cases hp
      | part t0 =>
        simp only [deepLoad, Option.bind_none] at hb
        cases hb
      | _ => cases hd2
    · rename_i hd
      simp only [Option.bind_eq_some_iff] at hb
      obtain ⟨x', hx', e⟩ := hb
      cases e
      obtain ⟨g, c, us, e1, e2, e3, e4, l1, g1, en⟩ := h.elem h1 hr (by simpa using hd)
      obtain ⟨h2, h3⟩ := window_acs hl (flat_acs l1 en)
      refine ⟨rfl, fin e4 h3 (fun j u hu => ?_) hx' h2⟩
      rw [List.getElem?_take] at hu
      split at hu
      · rw [List.getElem?_drop] at hu
        have := g1 _ u hu
        rw [← Nat.add_assoc] at this
        exact this
      · cases hu
  · cases hb

end
end Go.Proofs.YtmbmapbdbbnaeaaT

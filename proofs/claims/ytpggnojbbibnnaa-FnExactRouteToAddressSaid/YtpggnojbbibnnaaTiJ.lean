/- The operations, continued: literals, rows that are made, addresses, stores. -/
import Derived.Test.YtpggnojbbibnnaaTiI
import Derived.Great.BuildSlice
set_option linter.unusedVariables false
set_option linter.unusedSimpArgs false
namespace Go.Proofs.YtpggnojbbibnnaaT
open Go

section
variable {P : Program} {B : Base} {S : St} {E : Env} {a : Act} {w : World}

/-- Writing values one by one from a place on. -/
theorem fold_set (off : Nat) : ∀ (vs : List Value) (i : Nat) (cs : Array Value), off + i + vs.length ≤ cs.size →
    ((vs.zipIdx i).foldl (fun cs (c, j) => cs.setIfInBounds (off + j) c) cs).toList = cs.toList.take (off + i) ++ (vs ++ cs.toList.drop (off + i + vs.length))
  | [], i, cs, h => by simp
  | v :: vs, i, cs, h => by
    simp only [List.length_cons] at h
    simp only [List.zipIdx_cons, List.foldl_cons]
    rw [fold_set off vs (i + 1) (cs.setIfInBounds (off + i) v) (by simp only [Array.size_setIfInBounds]; omega)]
    rw [Array.toList_setIfInBounds]
    have h1 : (cs.toList.set (off + i) v).take (off + (i + 1)) = cs.toList.take (off + i) ++ [v] := by
      rw [show off + (i + 1) = (off + i) + 1 by omega, List.take_succ_eq_append_getElem (by simp; omega)]
      congr 1
      · rw [List.take_set_of_le (by omega)]
      · simp
    have h2 : (cs.toList.set (off + i) v).drop (off + (i + 1) + vs.length) = cs.toList.drop (off + i + (vs.length + 1)) := by
      rw [show off + (i + 1) + vs.length = off + i + (vs.length + 1) by omega, List.drop_set_of_lt (by omega)]
    rw [h1, h2]
    simp

theorem fold_setA (off : Nat) (vs : Array Value) (cs : Array Value) (h : off + vs.size ≤ cs.size) :
    (vs.zipIdx.foldl (fun cs (c, j) => cs.setIfInBounds (off + j) c) cs).toList = cs.toList.take off ++ (vs.toList ++ cs.toList.drop (off + vs.size)) := by
  have := fold_set off vs.toList 0 cs (by simpa using h)
  simp only [Nat.add_zero, Array.length_toList] at this
  rw [← this, ← Array.foldl_toList]
  simp

theorem fill_acs {place : Nat → Option (Nat × Nat)} : ∀ {ps : List (Nat × AW)} {vs : List (Nat × Value)} {l m : List AC} {cs : Array Value},
    ps.length = vs.length → (∀ (j : Nat) i x i' v, ps[j]? = some (i, x) → vs[j]? = some (i', v) → i = i' ∧ AWr w E x v) → ACs w E l cs.toList → fillC place l ps = some m →
    ∃ ds, Instr.fill place cs vs = some ds ∧ ACs w E m ds.toList
  | [], [], l, m, cs, _, _, hc, h => by simp only [fillC] at h; cases h; exact ⟨cs, rfl, hc⟩
  | [], _ :: _, _, _, _, hl, _, _, _ => by cases hl
  | _ :: _, [], _, _, _, hl, _, _, _ => by cases hl
  | (i, x) :: ps, (i', v) :: vs, l, m, cs, hl, hv, hc, h => by
    obtain ⟨rfl, hx⟩ := hv 0 i x i' v rfl rfl
    simp only [fillC, Option.bind_eq_some_iff] at h
    obtain ⟨p, hp, h⟩ := h
    split at h
    · rename_i hsz
      have hsz := beq_nat.1 hsz
      simp only [Option.bind_eq_some_iff] at h
      obtain ⟨c, hcc, h⟩ := h
      have hcells := hx.cells
      have e1 : x.cells.length = v.cells.size := by rw [hcells.1, Array.length_toList]
      obtain ⟨hle, _⟩ := splice_some hcc
      have hle2 : p.1 + v.cells.size ≤ cs.size := by rw [← e1, ← Array.length_toList (xs := cs), ← hc.1]; exact hle
      have hfold := fold_setA p.1 v.cells cs hle2
      have hc' : ACs w E c (v.cells.zipIdx.foldl (fun cs (c, j) => cs.setIfInBounds (p.1 + j) c) cs).toList := by
        rw [hfold]
        have := splice_acs hcc hc hcells
        rwa [Array.length_toList] at this
      obtain ⟨ds, h1, h2⟩ := fill_acs (by simpa using hl) (fun j i x i' v h1 h2 => hv (j + 1) i x i' v (by simpa using h1) (by simpa using h2)) hc' h
      refine ⟨ds, ?_, h2⟩
      rw [Instr.fill, hp]
      simp only
      rw [if_neg]
      · exact h1
      · rw [← e1, hsz]
        simp only [ne_eq, not_true_eq_false, decide_false, Bool.false_or, decide_eq_true_eq]
        rw [hsz] at hle
        rw [hc.1, Array.length_toList] at hle
        omega
    · cases h

theorem parts_fill (h : Sim B S E a w) {l : List (Nat × Operand)} {m : List (Nat × AW)} (e : partsS S l = some m) :
    m.length = (l.map fun (i, x) => (i, a.eval x)).length ∧ ∀ (j : Nat) i x i' v, m[j]? = some (i, x) → (l.map fun (i, x) => (i, a.eval x))[j]? = some (i', v) → i = i' ∧ AWr w E x v := by
  obtain ⟨h1, h2⟩ := partsS_aws h e
  refine ⟨by simp [h1], fun j i x i' v hx hv => ?_⟩
  simp only [List.getElem?_map, Option.map_eq_some_iff] at hv
  obtain ⟨⟨i'', y⟩, hy, e⟩ := hv
  cases e
  obtain ⟨e1, e2⟩ := h2 j i'' y i x hy hx
  exact ⟨e1, e2⟩

theorem run_places : ∀ {fs : List Field} {pl : List (Nat × Nat)}, placesB P fs = some pl →
    (fs.mapM fun f => do pure (f.offset, ← sizeOf f.type) : Sem (List (Nat × Nat))).run P w = .ok pl w
  | [], pl, h => by simp only [placesB] at h; cases h; rfl
  | f :: fs, pl, h => by
    simp only [placesB, Option.bind_eq_some_iff] at h
    obtain ⟨n, hn, r, hr, e⟩ := h
    cases e
    simp only [List.mapM_cons, Sem.run_bind, run_sizeB hn, Result.andThen_ok, Sem.run_pure, run_places hr]

theorem op_build (h : Sim B S E a w) {id : Nat} {o : Oper} {t : TypeId} {ps : Array (Nat × Operand)} (ho : o.op = .build t ps) {r : Out} (hb : opB P S id (.build t ps) = some r) (hok : r.ok = true) :
    OpOk P B S E a w id o r.d := by
  simp only [opB] at hb
  split at hb
  · rename_i fs hs
    simp only [Option.bind_eq_some_iff] at hb
    obtain ⟨z, hz, cs, hcs, m, hm, pl, hpl, l, hl, e⟩ := hb
    cases e
    obtain ⟨v, hv, hvz⟩ := run_zeroB hz w
    obtain ⟨h1, h2⟩ := parts_fill h hm
    have hc : ACs w E cs v.cells.toList := by rw [hvz]; exact acsOf_acs hcs
    obtain ⟨ds, h3, h4⟩ := fill_acs h1 h2 hc hl
    refine OpOk.same h (v := .agg ds) ?_ ⟨ds.toList, by simp, h4⟩
    have hmap : (fs.mapM fun f => do pure (f.offset, ← sizeOf f.type) : Sem (Array (Nat × Nat))).run P w = .ok pl.toArray w := by
      rw [Array.mapM_eq_mapM_toList]
      simp only [Sem.run_map, run_places hpl, Result.andThen_ok]
    simp only [execOp, ho, Instr.build, Sem.run_bind, hv, Result.andThen_ok, run_underlying hs, hmap]
    have e3 : (ps.map fun (x : Nat × Operand) => (x.1, a.eval x.2)).toList = ps.toList.map fun (i, x) => (i, a.eval x) := by rw [Array.toList_map]
    have e4 : Instr.fill (fun x => pl.toArray[x]?) v.cells (ps.map fun (x : Nat × Operand) => (x.1, a.eval x.2)).toList = some ds := by rw [e3]; simpa using h3
    simp only [e4, Sem.run_pure]
    rfl
  · cases hb

theorem repC_acs {z : List AC} {us : List Value} (h : ACs w E z us) : ∀ n, ACs w E (repC z n) (List.replicate n us).flatten
  | 0 => ACs.mk_nil
  | n + 1 => by simp only [repC, List.replicate_succ, List.flatten_cons]; exact h.append (repC_acs h n)
theorem range_rep (z : Array Value) : ∀ n, ((Array.range (n * z.size)).map (z[· % z.size]!)).toList = (List.replicate n z.toList).flatten
  | 0 => by simp
  | n + 1 => by
    rw [List.replicate_succ', List.flatten_append, ← range_rep z n]
    apply List.ext_getElem
    · simp [Nat.succ_mul]
    · intro i h1 h2
      simp only [Array.toList_map, Array.toList_range, List.length_map, List.length_range] at h1
      simp only [Array.toList_map, Array.toList_range, List.getElem_map, List.getElem_range, List.flatten_cons, List.flatten_nil, List.append_nil]
      rw [List.getElem_append]
      split
      · simp
      · rename_i hn
        simp only [List.length_map, List.length_range, Nat.not_lt] at hn
        have hz : 0 < z.size := by
          rcases Nat.eq_zero_or_pos z.size with e | e
          · rw [e] at h1; simp at h1
          · exact e
        rw [Nat.succ_mul] at h1
        simp only [List.length_map, List.length_range, Array.getElem_toList]
        have hmod : i % z.size = i - n * z.size := by
          rw [show i = (i - n * z.size) + n * z.size by omega, Nat.add_mul_mod_self_right, Nat.mod_eq_of_lt (by omega)]
          omega
        rw [getElem!_pos z (i % z.size) (Nat.mod_lt _ hz)]
        simp only [hmod]

theorem parse_len {S : St} : ∀ {u : Ty} {l : List AC} {x : u.T}, parse S u l = some x → l.length = u.size
  | .unit, [], _, _ => rfl
  | .unit, _ :: _, _, h => by simp only [parse] at h; cases h
  | .pair p q, l, x, h => by
    simp only [parse, Option.bind_eq_some_iff] at h
    obtain ⟨y, hy, z, hz, _⟩ := h
    have h1 := parse_len hy
    have h2 := parse_len hz
    rw [List.length_take] at h1
    rw [List.length_drop] at h2
    simp only [Ty.size]
    omega
  | .int k, [c], _, _ => rfl
  | .bool, [c], _, _ => rfl
  | .str, [c], _, _ => rfl
  | .row t, [c], _, _ => rfl
  | .int k, [], x, h => by simp only [parse] at h; cases h
  | .bool, [], x, h => by simp only [parse] at h; cases h
  | .str, [], x, h => by simp only [parse] at h; cases h
  | .row t, [], x, h => by simp only [parse] at h; cases h
  | .int k, _ :: _ :: _, x, h => by simp only [parse] at h; cases h
  | .bool, _ :: _ :: _, x, h => by simp only [parse] at h; cases h
  | .str, _ :: _ :: _, x, h => by simp only [parse] at h; cases h
  | .row t, _ :: _ :: _, x, h => by simp only [parse] at h; cases h

theorem elems_some {S : St} {t : Ty} : ∀ {n : Nat} {l : List AC} {r : List t.T}, elems S t n l = some r → r.length = n ∧ l.length = n * t.size ∧
    ∀ (i : Nat) x, r[i]? = some x → parse S t ((l.drop (i * t.size)).take t.size) = some x
  | 0, [], r, h => by simp only [elems] at h; cases h; exact ⟨rfl, by simp, fun i x hx => by simp at hx⟩
  | 0, _ :: _, r, h => by simp only [elems] at h; cases h
  | n + 1, l, r, h => by
    simp only [elems, Option.bind_eq_some_iff] at h
    obtain ⟨x, hx, q, hq, e⟩ := h
    cases e
    obtain ⟨h1, h2, h3⟩ := elems_some hq
    rw [List.length_drop] at h2
    have hle : t.size ≤ l.length := by
      have := parse_len hx
      rw [List.length_take] at this
      omega
    refine ⟨by simp [h1], by rw [Nat.succ_mul]; omega, fun i y hy => ?_⟩
    cases i with
    | zero => simp at hy; subst hy; simpa using hx
    | succ i =>
      have := h3 i y (by simpa using hy)
      rw [List.drop_drop] at this
      rw [Nat.succ_mul, Nat.add_comm]
      exact this

theorem size_ofList : ∀ {ts : List Ty}, (∀ t ∈ ts, t.size = 1) → (Ty.ofList ts).size = ts.length
  | [], _ => rfl
  | [t], h => h t (by simp)
  | t :: u :: ts, h => by
    simp only [Ty.ofList, Ty.size, h t (by simp), size_ofList (ts := u :: ts) (fun x hx => h x (List.mem_cons_of_mem _ hx)), List.length_cons]
    omega
theorem fieldsOf_cell {g : TypeId → Option (List Ty)} (hg : ∀ t ts, g t = some ts → ∀ x ∈ ts, x.size = 1) : ∀ {fs : List Field} {ts : List Ty}, fieldsOf g fs = some ts → ∀ x ∈ ts, x.size = 1
  | [], ts, h => by simp only [fieldsOf] at h; cases h; simp
  | f :: fs, ts, h => by
    simp only [fieldsOf, Option.bind_eq_some_iff] at h
    obtain ⟨a, ha, b, hb, e⟩ := h
    cases e
    intro x hx
    rcases List.mem_append.1 hx with hx | hx
    · exact hg _ _ ha x hx
    · exact fieldsOf_cell hg hb x hx
theorem cellsOf_cell : ∀ (n : Nat) (t : TypeId) (ts : List Ty), cellsOf P n t = some ts → ∀ x ∈ ts, x.size = 1
  | 0, t, ts, h => by simp only [cellsOf] at h; cases h
  | n + 1, t, ts, h => by
    simp only [cellsOf] at h
    split at h
    · cases h; simp [Ty.size]
    · cases h; simp [Ty.size]
    · cases h; simp [Ty.size]
    · simp only [Option.bind_eq_some_iff] at h
      obtain ⟨_, _, e⟩ := h
      cases e; simp [Ty.size]
    · exact fieldsOf_cell (cellsOf_cell n) h
    · cases h
theorem zerosFit_len : ∀ {ts : List Ty} {vs : List Value}, zerosFit ts vs = true → vs.length = ts.length
  | [], [], _ => rfl
  | [], _ :: _, h => by simp [zerosFit] at h
  | _ :: _, [], h => by simp [zerosFit] at h
  | t :: ts, v :: vs, h => by
    simp only [zerosFit, Bool.and_eq_true] at h
    simp [zerosFit_len h.2]

structure ElemIs (P : Program) (e : TypeId) (t : Ty) (bytes : Nat) : Prop where
  intro ::
  info : ∃ i z, P.info? e = some i ∧ i.zero = some z ∧ i.size = t.size ∧ i.bytes = bytes ∧ z.cells.size = t.size ∧ 0 < t.size ∧ 0 < bytes ∧ bytes ≤ 4096 ∧ ∃ ts, t = Ty.ofList ts ∧ zerosFit ts z.cells.toList = true ∧ (∀ x ∈ ts, x.size = 1)
theorem elemB_some {e : TypeId} {eb : Ty × Nat} (h : elemB P e = some eb) : ElemIs P e eb.1 eb.2 := by
  simp only [elemB, Option.bind_eq_some_iff] at h
  obtain ⟨ts, hts, i, hi, z, hz, h⟩ := h
  split at h
  · rename_i hc
    cases h
    simp only [Bool.and_eq_true, beq_iff_eq] at hc
    obtain ⟨⟨⟨⟨h1, h2⟩, h3⟩, h4⟩, h5⟩ := hc
    have hcell := cellsOf_cell (P := P) 6 e ts hts
    have hsz := size_ofList hcell
    refine ⟨i, z, hi, hz, by rw [hsz]; exact h2, rfl, ?_, by rw [hsz]; exact Nat.le_of_ble_eq_true h3, Nat.le_of_ble_eq_true h4, Nat.le_of_ble_eq_true h5, ts, rfl, h1, hcell⟩
    rw [hsz, ← zerosFit_len h1, Array.length_toList]
  · cases h

/-- A row that has just been made. -/
theorem newRow_ok (h : Sim B S E a w) {id : Nat} (hid : ¬ E.U id) {t : Ty} (ht : 0 < t.size) {l : List t.T} {ds : Array Value} {e : TypeId} {n cap : Nat} (hn : l.length = n) (hle : n ≤ cap) (hcap : cap ≤ maxLen) (hds : ds.size = cap * t.size)
    (hl : EncL w E.F t l (ds.toList.take (n * t.size))) :
    Sim B { S with rows := upd S.rows id (some ⟨true, t, l⟩) } (E.row id (.slice (some ⟨w.heap.size, 0, none⟩) n cap) t.size) a (w.alloc (.cells ds e)) ∧
      E.le w (w.alloc (.cells ds e)) (E.row id (.slice (some ⟨w.heap.size, 0, none⟩) n cap) t.size) := by
  have h1 := h.alloc (.cells ds e)
  have hlt : ∀ b, E.F b → b < w.heap.size := fun b hb => (h.F b hb).2
  have hF : ∀ b, E.F b → (w.alloc (.cells ds e)).heap[b]? = w.heap[b]? := fun b hb => heap_alloc_lt w _ (hlt b hb)
  have hrow : RowIs (w.alloc (.cells ds e)) E (.slice (some ⟨w.heap.size, 0, none⟩) n cap) t.size ⟨true, t, l⟩ := by
    subst hn
    refine ⟨rfl, trivial, ds.toList.take (l.length * t.size), ⟨?_, .inr ⟨w.heap.size, cap, ds, e, rfl, heap_alloc_eq w _, hle, hcap, hds, rfl⟩⟩, hl.mono (fun _ h => h) hF⟩
    rw [List.length_take, Array.length_toList (xs := ds), hds]
    exact Nat.min_eq_left (Nat.mul_le_mul_right _ hle)
  have halone : ∀ g, (Value.slice (some ⟨w.heap.size, 0, none⟩) n cap).ownBlock = some g → Alone B S E id g := by
    intro g hg
    simp only [Value.ownBlock, Option.some.injEq] at hg
    subst hg
    exact ⟨.inl h.grown, fun hF => Nat.lt_irrefl _ (hlt _ hF), fun b cs hb => Nat.ne_of_lt (h.lt_box hb), fun k' r' hk' ho' hg' => absurd (h.lt_row hk' ho' hg') (Nat.lt_irrefl _)⟩
  obtain ⟨h2, h3⟩ := h1.newRow hid hrow (fun _ => halone)
  exact ⟨h2, Env.le.trans ⟨fun _ h => h, fun _ _ => rfl, fun _ _ => rfl, fun _ _ => rfl, fun _ h => h, hF⟩ h3⟩

theorem setAll_one {α : Type} (f : Nat → Option α) (l : List (Nat × Option α)) (k : Nat) (x : Option α) : setAll f (l ++ [(k, x)]) = upd (setAll f l) k x := by
  rw [setAll_append]; rfl

theorem U_row {E E1 : Env} (h : ∀ n, E1.U n ↔ E.U n) {id sz : Nat} {v : Value} : ∀ n, (E1.row id v sz).U n → E.U n ∨ (id ≤ n ∧ n < id + 64) :=
  fun n hn => hn.elim (fun x => .inl ((h n).1 x)) fun e => .inr (by subst e; exact ⟨Nat.le_refl _, by omega⟩)

theorem op_buildSlice (h : Sim B S E a w) {id : Nat} (hid : ¬ E.U id) {o : Oper} {t : TypeId} {len : Nat} {ps : Array (Nat × Operand)} (ho : o.op = .buildSlice t len ps) {r : Out} (hb : opB P S id (.buildSlice t len ps) = some r) (hok : r.ok = true) :
    OpOk P B S E a w id o r.d := by
  simp only [opB, Option.bind_eq_some_iff] at hb
  obtain ⟨e, he, eb, heb, z, hz, cs, hcs, m, hm, hb⟩ := hb
  split at hb
  · rename_i hlen
    have hlen := Nat.le_of_ble_eq_true hlen
    simp only [Option.bind_eq_some_iff] at hb
    obtain ⟨l, hl, q, hq, e'⟩ := hb
    cases e'
    obtain ⟨i, zv, hi, hiz, hisz, hib, hzs, hpos, _, _, _⟩ := (elemB_some heb).info
    have hzz : z = zv.cells.toList := by unfold zeroB at hz; rw [hi] at hz; simp [hiz] at hz; exact hz.symm
    subst hzz
    obtain ⟨h1, h2⟩ := parts_fill h hm
    have hc0 : ACs w E (repC cs len) ((Array.range (len * i.size)).map (zv.cells[· % zv.cells.size]!)).toList := by
      rw [hisz, ← hzs, range_rep]
      exact repC_acs (acsOf_acs hcs) len
    obtain ⟨ds, h3, h4⟩ := fill_acs h1 h2 hc0 hl
    obtain ⟨e1, e2, e3⟩ := elems_some hq
    have hds : ds.size = len * eb.1.size := by rw [← Array.length_toList, ← h4.1, e2]
    obtain ⟨E1, g1, g2, g3, g4, g5⟩ := h.freeze (toks l)
    have hEncL : EncL w E1.F eb.1 q (ds.toList.take (len * eb.1.size)) := by
      intro j x hx
      have hw : ACs w E1 ((l.drop (j * eb.1.size)).take eb.1.size) ((ds.toList.drop (j * eb.1.size)).take eb.1.size) := ((h4.drop _).take _).mono g2
      have hrd : Reads S E1 w E1.F (toks ((l.drop (j * eb.1.size)).take eb.1.size)) := fun k hk r hr => by
        have := g4 k (toks_mem_drop (toks_mem_take hk)) r hr
        rw [← g2.hv k (h.rowU k r hr)] at this
        exact this
      obtain ⟨_, hen⟩ := parse_enc (fun _ h => h) hrd hw (e3 j x hx)
      refine hen.congr fun n hn => ?_
      rw [List.take_of_length_le (by rw [Array.length_toList (xs := ds), hds]; exact Nat.le_refl _), List.getElem?_take, if_pos hn, List.getElem?_drop]
    have hid1 : ¬ E1.U id := fun hh => hid ((g3 id).1 hh)
    have hle : len ≤ maxLen := by
      have := Nat.le_mul_of_pos_right len hpos
      unfold maxLen
      omega
    obtain ⟨k1, k2⟩ := newRow_ok g1 hid1 hpos (e := e) (ds := ds) e1 (Nat.le_refl _) hle hds hEncL
    refine ⟨_, .slice (some ⟨w.heap.size, 0, none⟩) len len, _, _, ?_, .inl rfl, g2.trans k2, ⟨.inr rfl, by simp [Env.row], rfl⟩, by rw [setAll_one]; exact k1, U_row g3⟩
    have e5 : (ps.map fun (x : Nat × Operand) => (x.1, a.eval x.2)).toList = ps.toList.map fun (i, x) => (i, a.eval x) := by rw [Array.toList_map]
    have e6 : (fun i => some (i * eb.1.size, eb.1.size)) = (fun j => some (j * i.size, i.size)) := by rw [hisz]
    rw [e6, ← e5] at h3
    have hrun : (Instr.buildSlice t len (ps.map fun (x : Nat × Operand) => (x.1, a.eval x.2))).run P w = .ok (.slice (some ⟨w.heap.size, 0, none⟩) len len) (w.alloc (.cells ds e)) := by
      by_cases hz0 : len * i.size = 0
      · rw [hz0] at h3
        simp only [Instr.buildSlice, Sem.run_bind, run_underlying (sliceB_some he), sizeOf, typeInfo, run_program, hi, Result.andThen_ok, Sem.run_pure, hz0, Nat.not_lt_zero, gt_iff_lt, if_false, if_true]
        have h3' : Instr.fill (fun j => some (j * i.size, i.size)) ((Array.range 0).map fun x => (#[] : Array Value)[x % (#[] : Array Value).size]!) (ps.map fun (x : Nat × Operand) => (x.1, a.eval x.2)).toList = some ds := by
          have h0 : ∀ f : Nat → Value, (Array.range 0).map f = #[] := fun f => by simp
          rw [h0] at h3 ⊢
          exact h3
        simp only [h3', newRow, Sem.run_bind, run_newObj, Result.andThen_ok, Sem.run_pure]
        rfl
      · exact run_buildSlice w t e len _ ds i zv (sliceB_some he) hi hiz (by rw [hisz]; omega) hz0 h3
    simp only [execOp, ho, Sem.run_bind, hrun, Result.andThen_ok, Sem.run_pure]
  · cases hb

end
end Go.Proofs.YtpggnojbbibnnaaT

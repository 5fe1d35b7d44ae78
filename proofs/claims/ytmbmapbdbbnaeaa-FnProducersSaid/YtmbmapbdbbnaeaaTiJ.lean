/- The operations, continued: literals, rows that are made, addresses, stores. -/
import Derived.Test.YtmbmapbdbbnaeaaTiI
import Derived.Great.BuildSlice
set_option linter.unusedVariables false
set_option linter.unusedSimpArgs false
namespace Go.Proofs.YtmbmapbdbbnaeaaT
open Go

section
variable {P : Program} {B : Base} {S : St} {E : Env} {a : Act} {w : World}

/-- Writing values one by one from a place on. -/
theorem fold_set (off : Nat) : ∀ (vs : List Value) (i : Nat) (cs : Array Value), off + i + vs.length ≤ cs.size →
    ((vs.zipIdx i).foldl (fun cs (c, j) => cs.setIfInBounds (off + j) c) cs).toList = cs.toList.take (off + i) ++ (vs ++ cs.toList.drop (off + i + vs.length))
  | [], i, cs, h => by simp
  | v :: vs, i, cs, h => by
    simp only [List.length_cons] at h
    simp only [List.zipIdx_cons, List.foldl_cons]
    rw [fold_set off vs (i + 1) (cs.setIfInBounds (off + i) v) (by simp only [Array.size_setIfInBounds]; omega)]
    rw [Array.toList_setIfInBounds]
    have h1 : (cs.toList.set (off + i) v).take (off + (i + 1)) = cs.toList.take (off + i) ++ [v] := by
      rw [show off + (i + 1) = (off + i) + 1 by omega, List.take_succ_eq_append_getElem (by simp; omega)]
      congr 1
      · rw [List.take_set_of_le (by omega)]
      · simp
    have h2 : (cs.toList.set (off + i) v).drop (off + (i + 1) + vs.length) = cs.toList.drop (off + i + (vs.length + 1)) := by
      rw [show off + (i + 1) + vs.length = off + i + (vs.length + 1) by omega, List.drop_set_of_lt (by omega)]
    rw [h1, h2]
    simp

theorem fold_setA (off : Nat) (vs : Array Value) (cs : Array Value) (h : off + vs.size ≤ cs.size) :
    (vs.zipIdx.foldl (fun cs (c, j) => cs.setIfInBounds (off + j) c) cs).toList = cs.toList.take off ++ (vs.toList ++ cs.toList.drop (off + vs.size)) := by
  have := fold_set off vs.toList 0 cs (by simpa using h)
  simp only [Nat.add_zero, Array.length_toList] at this
  rw [← this, ← Array.foldl_toList]
  simp

theorem fill_acs {place : Nat → Option (Nat × Nat)} : ∀ {ps : List (Nat × AW)} {vs : List (Nat × Value)} {l m : List AC} {cs : Array Value},
    ps.length = vs.length → (∀ (j : Nat) i x i' v, ps[j]? = some (i, x) → vs[j]? = some (i', v) → i = i' ∧ AWr w E x v) → ACs w E l cs.toList → fillC place l ps = some m →
    ∃ ds, Instr.fill place cs vs = some ds ∧ ACs w E m ds.toList
  | [], [], l, m, cs, _, _, hc, h => by simp only [fillC] at h; cases h; exact ⟨cs, rfl, hc⟩
  | [], _ :: _, _, _, _, hl, _, _, _ => by cases hl
  | _ :: _, [], _, _, _, hl, _, _, _ => by cases hl
  | (i, x) :: ps, (i', v) :: vs, l, m, cs, hl, hv, hc, h => by
    obtain ⟨rfl, hx⟩ := hv 0 i x i' v rfl rfl
    simp only [fillC, Option.bind_eq_some_iff] at h
    obtain ⟨p, hp, h⟩ := h
    split at h
    · rename_i hsz
      have hsz := beq_nat.1 hsz
      simp only [Option.bind_eq_some_iff] at h
      obtain ⟨c, hcc, h⟩ := h
      have hcells := hx.cells
      have e1 : x.cells.length = v.cells.size := by rw [hcells.1, Array.length_toList]
      obtain ⟨hle, _⟩ := splice_some hcc
      have hle2 : p.1 + v.cells.size ≤ cs.size := by rw [← e1, ← Array.length_toList (xs := cs), ← hc.1]; exact hle
      have hfold := fold_setA p.1 v.cells cs hle2
      have hc' : ACs w E c (v.cells.zipIdx.foldl (fun cs (c, j) => cs.setIfInBounds (p.1 + j) c) cs).toList := by
        rw [hfold]
        have := splice_acs hcc hc hcells
        rwa [Array.length_toList] at this
      obtain ⟨ds, h1, h2⟩ := fill_acs (by simpa using hl) (fun j i x i' v h1 h2 => hv (j + 1) i x i' v (by simpa using h1) (by simpa using h2)) hc' h
      refine ⟨ds, ?_, h2⟩
      rw [Instr.fill, hp]
      simp only
      rw [if_neg]
      · exact h1
      · rw [← e1, hsz]
        simp only [ne_eq, not_true_eq_false, decide_false, Bool.false_or, decide_eq_true_eq]
        rw [hsz] at hle
        rw [hc.1, Array.length_toList] at hle
        omega
    · cases h

theorem parts_fill (h : Sim B S E a w) {l : List (Nat × Operand)} {m : List (Nat × AW)} (e : partsS S l = some m) :
    m.length = (l.map fun (i, x) => (i, a.eval x)).length ∧ ∀ (j : Nat) i x i' v, m[j]? = some (i, x) → (l.map fun (i, x) => (i, a.eval x))[j]? = some (i', v) → i = i' ∧ AWr w E x v := by
  obtain ⟨h1, h2⟩ := partsS_aws h e
  refine ⟨by simp [h1], fun j i x i' v hx hv => ?_⟩
  simp only [List.getElem?_map, Option.map_eq_some_iff] at hv
  obtain ⟨⟨i'', y⟩, hy, e⟩ := hv
  cases e
  obtain ⟨e1, e2⟩ := h2 j i'' y i x hy hx
  exact ⟨e1, e2⟩

theorem run_places : ∀ {fs : List Field} {pl : List (Nat × Nat)}, placesB P fs = some pl →
    (fs.mapM fun f => do pure (f.offset, ← sizeOf f.type) : Sem (List (Nat × Nat))).run P w = .ok pl w
  | [], pl, h => by simp only [placesB] at h; cases h; rfl
  | f :: fs, pl, h => by
    simp only [placesB, Option.bind_eq_some_iff] at h
    obtain ⟨n, hn, r, hr, e⟩ := h
    cases e
    simp only [List.mapM_cons, Sem.run_bind, run_sizeB hn, Result.andThen_ok, Sem.run_pure, run_places hr]

theorem op_build (h : Sim B S E a w) {id : Nat} {o : Oper} {t : TypeId} {ps : Array (Nat × Operand)} (ho : o.op = .build t ps) {r : Out} (hb : opB P S id (.build t ps) = some r) (hok : r.ok = true) :
    OpOk P B S E a w id o r.d := by
  simp only [opB] at hb
  split at hb
  · rename_i fs hs
    simp only [Option.bind_eq_some_iff] at hb
    obtain ⟨z, hz, cs, hcs, m, hm, pl, hpl, l, hl, e⟩ := hb
    cases e
    obtain ⟨v, hv, hvz⟩ := run_zeroB hz w
    obtain ⟨h1, h2⟩ := parts_fill h hm
    have hc : ACs w E cs v.cells.toList := by rw [hvz]; exact acsOf_acs hcs
    obtain ⟨ds, h3, h4⟩ := fill_acs h1 h2 hc hl
    refine OpOk.same h (v := .agg ds) ?_ ⟨ds.toList, by simp, h4⟩
    have hmap : (fs.mapM fun f => do pure (f.offset, ← sizeOf f.type) : Sem (Array (Nat × Nat))).run P w = .ok pl.toArray w := by
      rw [Array.mapM_eq_mapM_toList]
      simp only [Sem.run_map, run_places hpl, Result.andThen_ok]
    simp only [execOp, ho, Instr.build, Sem.run_bind, hv, Result.andThen_ok, run_underlying hs, hmap]
    have e3 : (ps.map fun (x : Nat × Operand) => (x.1, a.eval x.2)).toList = ps.toList.map fun (i, x) => (i, a.eval x) := by rw [Array.toList_map]
    have e4 : Instr.fill (fun x => pl.toArray[x]?) v.cells (ps.map fun (x : Nat × Operand) => (x.1, a.eval x.2)).toList = some ds := by rw [e3]; simpa using h3
    simp only [e4, Sem.run_pure]
    rfl
  · cases hb

theorem repC_acs {z : List AC} {us : List Value} (h : ACs w E z us) : ∀ n, ACs w E (repC z n) (List.replicate n us).flatten
  | 0 => ACs.mk_nil
  | n + 1 => by simp only [repC, List.replicate_succ, List.flatten_cons]; exact h.append (repC_acs h n)
theorem range_rep (z : Array Value) : ∀ n, ((Array.range (n * z.size)).map (z[· % z.size]!)).toList = (List.replicate n z.toList).flatten
  | 0 => by simp
  | n + 1 => by
    rw [List.replicate_succ', List.flatten_append, ← range_rep z n]
    apply List.ext_getElem
    · simp [Nat.succ_mul]
    · intro i h1 h2
      simp only [Array.toList_map, Array.toList_range, List.length_map, List.length_range] at h1
      simp only [Array.toList_map, Array.toList_range, List.getElem_map, List.getElem_range, List.flatten_cons, List.flatten_nil, List.append_nil]
      rw [List.getElem_append]
      split
      · simp
      · rename_i hn
        simp only [List.length_map, List.length_range, Nat.not_lt] at hn
        have hz : 0 < z.size := by
          rcases Nat.eq_zero_or_pos z.size with e | e
          · rw [e] at h1; simp at h1
          · exact e
        rw [Nat.succ_mul] at h1
        simp only [List.length_map, List.length_range, Array.getElem_toList]
        have hmod : i % z.size = i - n * z.size := by
          rw [show i = (i - n * z.size) + n * z.size by omega, Nat.add_mul_mod_self_right, Nat.mod_eq_of_lt (by omega)]
          omega
        rw [getElem!_pos z (i % z.size) (Nat.mod_lt _ hz)]
        simp only [hmod]

theorem parse_len {S : St} : ∀ {u : Ty} {l : List AC} {x : u.T}, parse S u l = some x → l.length = u.size
  | .unit, [], _, _ => rfl
  | .unit, _ :: _, _, h => by simp only [parse] at h; cases h
  | .pair p q, l, x, h => by
    simp only [parse, Option.bind_eq_some_iff] at h
    obtain ⟨y, hy, z, hz, _⟩ := h
    have h1 := parse_len hy
    have h2 := parse_len hz
    rw [List.length_take] at h1
    rw [List.length_drop] at h2
    simp only [Ty.size]
    omega
  | .deep _ t, l, x, h => by
    simp only [parse] at h
    simp only [Ty.size]
    exact parse_len h
  | .dead, [c], _, _ => rfl
  | .dead, [], x, h => by simp only [parse] at h; cases h
  | .dead, _ :: _ :: _, x, h => by simp only [parse] at h; cases h
  | .part t, cs, x, h => by
    cases cs with
    | nil => simp only [parse] at h; cases h
    | cons c cs => cases cs <;> (simp only [parse] at h; cases h)
  | .int k, [c], _, _ => rfl
  | .bool, [c], _, _ => rfl
  | .str, [c], _, _ => rfl
  | .row t, [c], _, _ => rfl
  | .int k, [], x, h => by simp only [parse] at h; cases h
  | .bool, [], x, h => by simp only [parse] at h; cases h
  | .str, [], x, h => by simp only [parse] at h; cases h
  | .row t, [], x, h => by simp only [parse] at h; cases h
  | .int k, _ :: _ :: _, x, h => by simp only [parse] at h; cases h
  | .bool, _ :: _ :: _, x, h => by simp only [parse] at h; cases h
  | .str, _ :: _ :: _, x, h => by simp only [parse] at h; cases h
  | .row t, _ :: _ :: _, x, h => by simp only [parse] at h; cases h

theorem elems_some {S : St} {t : Ty} : ∀ {n : Nat} {l : List AC} {r : List t.T}, elems S t n l = some r → r.length = n ∧ l.length = n * t.size ∧
    ∀ (i : Nat) x, r[i]? = some x → parse S t ((l.drop (i * t.size)).take t.size) = some x
  | 0, [], r, h => by simp only [elems] at h; cases h; exact ⟨rfl, by simp, fun i x hx => by simp at hx⟩
  | 0, _ :: _, r, h => by simp only [elems] at h; cases h
  | n + 1, l, r, h => by
    simp only [elems, Option.bind_eq_some_iff] at h
    obtain ⟨x, hx, q, hq, e⟩ := h
    cases e
    obtain ⟨h1, h2, h3⟩ := elems_some hq
    rw [List.length_drop] at h2
    have hle : t.size ≤ l.length := by
      have := parse_len hx
      rw [List.length_take] at this
      omega
    refine ⟨by simp [h1], by rw [Nat.succ_mul]; omega, fun i y hy => ?_⟩
    cases i with
    | zero => simp at hy; subst hy; simpa using hx
    | succ i =>
      have := h3 i y (by simpa using hy)
      rw [List.drop_drop] at this
      rw [Nat.succ_mul, Nat.add_comm]
      exact this

theorem size_ofList : ∀ {ts : List Ty}, (∀ t ∈ ts, t.size = 1) → (Ty.ofList ts).size = ts.length
  | [], _ => rfl
  | [t], h => h t (by simp)
  | t :: u :: ts, h => by
    simp only [Ty.ofList, Ty.size, h t (by simp), size_ofList (ts := u :: ts) (fun x hx => h x (List.mem_cons_of_mem _ hx)), List.length_cons]
    omega
theorem fieldsOf_cell {g : TypeId → Option (List Ty)} (hg : ∀ t ts, g t = some ts → ∀ x ∈ ts, x.size = 1) : ∀ {fs : List Field} {ts : List Ty}, fieldsOf g fs = some ts → ∀ x ∈ ts, x.size = 1
  | [], ts, h => by simp only [fieldsOf] at h; cases h; simp
  | f :: fs, ts, h => by
    simp only [fieldsOf, Option.bind_eq_some_iff] at h
    obtain ⟨a, ha, b, hb, e⟩ := h
    cases e
    intro x hx
    rcases List.mem_append.1 hx with hx | hx
    · exact hg _ _ ha x hx
    · exact fieldsOf_cell hg hb x hx
theorem cellsOf_cell : ∀ (n : Nat) (t : TypeId) (ts : List Ty), cellsOf P n t = some ts → ∀ x ∈ ts, x.size = 1
  | 0, t, ts, h => by simp only [cellsOf] at h; cases h
  | n + 1, t, ts, h => by
    simp only [cellsOf] at h
    split at h
    · cases h; simp [Ty.size]
    · cases h; simp [Ty.size]
    · cases h; simp [Ty.size]
    · simp only [Option.bind_eq_some_iff] at h
      obtain ⟨_, _, e⟩ := h
      cases e; simp [Ty.size]
    · exact fieldsOf_cell (cellsOf_cell n) h
    · cases h
theorem zerosFit_len : ∀ {ts : List Ty} {vs : List Value}, zerosFit ts vs = true → vs.length = ts.length
  | [], [], _ => rfl
  | [], _ :: _, h => by simp [zerosFit] at h
  | _ :: _, [], h => by simp [zerosFit] at h
  | t :: ts, v :: vs, h => by
    simp only [zerosFit, Bool.and_eq_true] at h
    simp [zerosFit_len h.2]

structure ElemIs (P : Program) (e : TypeId) (t : Ty) (bytes : Nat) : Prop where
  intro ::
  info : ∃ i z, P.info? e = some i ∧ i.zero = some z ∧ i.size = t.size ∧ i.bytes = bytes ∧ z.cells.size = t.size ∧ 0 < t.size ∧ 0 < bytes ∧ bytes ≤ 4096 ∧ ∃ ts, t = Ty.ofList ts ∧ zerosFit ts z.cells.toList = true ∧ (∀ x ∈ ts, x.size = 1)
theorem elemB_some {e : TypeId} {eb : Ty × Nat} (h : elemB P e = some eb) : ElemIs P e eb.1 eb.2 := by
  simp only [elemB, Option.bind_eq_some_iff] at h
  obtain ⟨ts, hts, i, hi, z, hz, h⟩ := h
  split at h
  · rename_i hc
    cases h
    simp only [Bool.and_eq_true, beq_iff_eq] at hc
    obtain ⟨⟨⟨⟨h1, h2⟩, h3⟩, h4⟩, h5⟩ := hc
    have hcell := cellsOf_cell (P := P) 6 e ts hts
    have hsz := size_ofList hcell
    refine ⟨i, z, hi, hz, by rw [hsz]; exact h2, rfl, ?_, by rw [hsz]; exact Nat.le_of_ble_eq_true h3, Nat.le_of_ble_eq_true h4, Nat.le_of_ble_eq_true h5, ts, rfl, h1, hcell⟩
    rw [hsz, ← zerosFit_len h1, Array.length_toList]
  · cases h

/-- Without rows nothing is read from memory. -/
theorem Enc.plain {w w' : World} {F F' : Nat → Prop} : ∀ {t : Ty} {x : t.T} {g : Nat → Option Value}, t.hasRow = false → Enc w F t x g → Enc w' F' t x g
  | .unit, _, _, _, _ => trivial
  | .part t, _, _, _, h => by simp only [Enc] at h ⊢; exact h
  | .int k, _, _, _, h => by simp only [Enc] at h ⊢; exact h
  | .bool, _, _, _, h => by simp only [Enc] at h ⊢; exact h
  | .str, _, _, _, h => by simp only [Enc] at h ⊢; exact h
  | .row t, _, _, h0, _ => by simp [Ty.hasRow] at h0
  | .deep _ t, x, g, h0, h => by
    simp only [Ty.hasRow] at h0
    simp only [Enc] at h ⊢
    exact h.plain h0
  | .pair a b, x, g, h0, h => by
    simp only [Ty.hasRow, Bool.or_eq_false_iff] at h0
    simp only [Enc] at h ⊢
    exact ⟨h.1.plain h0.1, h.2.plain h0.2⟩

/-- What a parsed value's cells are. -/
theorem parse_flat {S : St} : ∀ {u : Ty} {cs : List AC} {x : u.T}, parse S u cs = some x → (flat u x).length = cs.length ∧
    ∀ (j : Nat) c c', cs[j]? = some c → (flat u x)[j]? = some c' → ∃ t y, c' = .v t y ∧ t.cell = true ∧ asT S t c = some y
  | .unit, [], x, h => ⟨rfl, fun j c c' hc => by simp at hc⟩
  | .unit, _ :: _, x, h => by simp only [parse] at h; cases h
  | .pair p q, cs, x, h => by
    have hl := parse_len h
    simp only [parse, Option.bind_eq_some_iff] at h
    obtain ⟨y, hy, z, hz, e⟩ := h
    cases e
    obtain ⟨l1, f1⟩ := parse_flat hy
    obtain ⟨l2, f2⟩ := parse_flat hz
    simp only [Ty.size] at hl
    have e1 : (cs.take p.size).length = p.size := by rw [List.length_take]; omega
    refine ⟨by simp only [flat, List.length_append, l1, l2, List.length_take, List.length_drop]; omega, fun j c c' hc hc' => ?_⟩
    simp only [flat] at hc'
    rw [List.getElem?_append, l1, e1] at hc'
    split at hc'
    · rename_i hj
      exact f1 j c c' (by rw [List.getElem?_take, if_pos hj]; exact hc) hc'
    · rename_i hj
      exact f2 (j - p.size) c c' (by rw [List.getElem?_drop, show p.size + (j - p.size) = j by omega]; exact hc) hc'
  | .deep _ t, cs, x, h => parse_flat (u := t) (by simpa only [parse] using h)
  | .dead, [c], x, h => ⟨rfl, fun j d d' hd hd' => by cases j with | zero => simp [flat] at hd hd'; subst hd; subst hd'; exact ⟨_, _, rfl, rfl, h⟩ | succ j => simp at hd⟩
  | .dead, [], x, h => by simp only [parse] at h; cases h
  | .dead, _ :: _ :: _, x, h => by simp only [parse] at h; cases h
  | .part t, cs, x, h => by
    cases cs with
    | nil => simp only [parse] at h; cases h
    | cons c cs => cases cs <;> (simp only [parse] at h; cases h)
  | .int k, [c], x, h => ⟨rfl, fun j d d' hd hd' => by cases j with | zero => simp [flat] at hd hd'; subst hd; subst hd'; exact ⟨_, _, rfl, rfl, h⟩ | succ j => simp at hd⟩
  | .bool, [c], x, h => ⟨rfl, fun j d d' hd hd' => by cases j with | zero => simp [flat] at hd hd'; subst hd; subst hd'; exact ⟨_, _, rfl, rfl, h⟩ | succ j => simp at hd⟩
  | .str, [c], x, h => ⟨rfl, fun j d d' hd hd' => by cases j with | zero => simp [flat] at hd hd'; subst hd; subst hd'; exact ⟨_, _, rfl, rfl, h⟩ | succ j => simp at hd⟩
  | .row t, [c], x, h => ⟨rfl, fun j d d' hd hd' => by cases j with | zero => simp [flat] at hd hd'; subst hd; subst hd'; exact ⟨_, _, rfl, rfl, h⟩ | succ j => simp at hd⟩
  | .int k, [], x, h => by simp only [parse] at h; cases h
  | .bool, [], x, h => by simp only [parse] at h; cases h
  | .str, [], x, h => by simp only [parse] at h; cases h
  | .row t, [], x, h => by simp only [parse] at h; cases h
  | .int k, _ :: _ :: _, x, h => by simp only [parse] at h; cases h
  | .bool, _ :: _ :: _, x, h => by simp only [parse] at h; cases h
  | .str, _ :: _ :: _, x, h => by simp only [parse] at h; cases h
  | .row t, _ :: _ :: _, x, h => by simp only [parse] at h; cases h


theorem flat_one {t : Ty} (ht : t.cell = true) (x : t.T) : flat t x = [.v t x] := by cases t <;> first | rfl | cases ht
theorem flat_ofList : ∀ {ts : List Ty}, (∀ t ∈ ts, t.cell = true) → ∀ (x : (Ty.ofList ts).T), (flat (Ty.ofList ts) x).length = ts.length ∧
    ∀ (j : Nat) t c, ts[j]? = some t → (flat (Ty.ofList ts) x)[j]? = some c → ∃ y, c = .v t y
  | [], _, x => ⟨rfl, fun j t c h => by simp at h⟩
  | [t], h, x => by
    have e : flat (Ty.ofList [t]) x = [.v t x] := flat_one (h t (by simp)) x
    refine ⟨by rw [e]; rfl, fun j t' c ht hc => ?_⟩
    rw [e] at hc
    cases j with
    | zero => simp at ht hc; subst ht; subst hc; exact ⟨x, rfl⟩
    | succ j => simp at ht
  | t :: u :: ts, h, x => by
    obtain ⟨l1, f1⟩ := flat_ofList (ts := u :: ts) (fun s hs => h s (List.mem_cons_of_mem _ hs)) x.2
    have e : flat (Ty.ofList (t :: u :: ts)) x = .v t x.1 :: flat (Ty.ofList (u :: ts)) x.2 := by
      show flat t x.1 ++ _ = _
      rw [flat_one (h t (by simp))]
      rfl
    refine ⟨by rw [e, List.length_cons, l1]; rfl, fun j t' c ht hc => ?_⟩
    rw [e] at hc
    cases j with
    | zero => simp at ht hc; subst ht; subst hc; exact ⟨x.1, rfl⟩
    | succ j => exact f1 j t' c (by simpa using ht) (by simpa using hc)

theorem zeros_flat : ∀ {ts : List Ty} {vs : List Value}, zerosFit ts vs = true → (Ty.ofList ts).isDeep = false
  | [], _, _ => rfl
  | [t], [], h => by simp [zerosFit] at h
  | [t], v :: vs, h => by
    simp only [zerosFit, Bool.and_eq_true] at h
    have h1 := h.1
    show t.isDeep = false
    cases t <;> first | rfl | (simp [zeroFits] at h1)
  | t :: u :: ts, _, _ => rfl
theorem ElemIs.flat {e : TypeId} {t : Ty} {n : Nat} (h : ElemIs P e t n) : t.isDeep = false := by
  obtain ⟨_, _, _, _, _, _, _, _, _, _, ts, rfl, hz, _⟩ := h.info
  exact zeros_flat hz
theorem one_row : ∀ {t : Ty} {x : t.T} {j : Nat} {u : Ty} {m : List u.T}, t.one = true → (flat t x)[j]? = some (.v (.row u) m) → u.hasRow = false
  | .unit, x, j, u, m, _, h => by simp [flat] at h
  | .int k, x, j, u, m, _, h => by cases j <;> simp [flat] at h
  | .bool, x, j, u, m, _, h => by cases j <;> simp [flat] at h
  | .str, x, j, u, m, _, h => by cases j <;> simp [flat] at h
  | .row t, x, j, u, m, ho, h => by
    cases j with
    | zero =>
      simp only [flat, List.getElem?_cons_zero, Option.some.injEq] at h
      cases h
      simp only [Ty.one, Bool.and_eq_true, Bool.not_eq_true'] at ho
      exact ho.1
    | succ j => simp [flat] at h
  | .pair p q, x, j, u, m, ho, h => by
    simp only [Ty.one, Bool.and_eq_true] at ho
    simp only [flat] at h
    rw [List.getElem?_append] at h
    split at h
    · exact one_row ho.1 h
    · exact one_row ho.2 h
  | .deep _ t, x, j, u, m, ho, h => by simp [Ty.one] at ho
theorem one_flat : ∀ {t : Ty} {x : t.T} {j : Nat} {u : Ty} {m : List u.T}, t.one = true → (flat t x)[j]? = some (.v (.row u) m) → u.isDeep = false
  | .unit, x, j, u, m, _, h => by simp [flat] at h
  | .int k, x, j, u, m, _, h => by cases j <;> simp [flat] at h
  | .bool, x, j, u, m, _, h => by cases j <;> simp [flat] at h
  | .str, x, j, u, m, _, h => by cases j <;> simp [flat] at h
  | .row t, x, j, u, m, ho, h => by
    cases j with
    | zero =>
      simp only [flat, List.getElem?_cons_zero, Option.some.injEq] at h
      cases h
      simp only [Ty.one, Bool.and_eq_true, Bool.not_eq_true'] at ho
      exact ho.2
    | succ j => simp [flat] at h
  | .pair p q, x, j, u, m, ho, h => by
    simp only [Ty.one, Bool.and_eq_true] at ho
    simp only [flat] at h
    rw [List.getElem?_append] at h
    split at h
    · exact one_flat ho.1 h
    · exact one_flat ho.2 h
  | .deep _ t, x, j, u, m, ho, h => by simp [Ty.one] at ho
theorem one_cells {t : Ty} (ho : t.one = true) : ∀ {l : List t.T} {j : Nat} {u : Ty} {m : List u.T}, (cellsL t l)[j]? = some (.v (.row u) m) → u.hasRow = false
  | [], j, u, m, h => by simp [cellsL] at h
  | x :: l, j, u, m, h => by
    have e : cellsL t (x :: l) = flat t x ++ cellsL t l := by simp [cellsL]
    rw [e, List.getElem?_append] at h
    split at h
    · exact one_row ho h
    · exact one_cells ho h
/-- Elements' cells. -/
theorem elems_flat {S : St} {t : Ty} : ∀ {n : Nat} {l : List AC} {r : List t.T}, elems S t n l = some r →
    ∀ (j : Nat) c c', l[j]? = some c → (cellsL t r)[j]? = some c' → ∃ u y, c' = .v u y ∧ u.cell = true ∧ asT S u c = some y
  | 0, [], r, h, j, c, c', hc, _ => by simp at hc
  | 0, _ :: _, r, h, _, _, _, _, _ => by simp only [elems] at h; cases h
  | n + 1, l, r, h, j, c, c', hc, hc' => by
    simp only [elems, Option.bind_eq_some_iff] at h
    obtain ⟨x, hx, r', hr, e⟩ := h
    cases e
    obtain ⟨l1, f1⟩ := parse_flat hx
    have e : cellsL t (x :: r') = flat t x ++ cellsL t r' := by simp [cellsL]
    rw [e, List.getElem?_append] at hc'
    split at hc'
    · rename_i hj
      rw [flat_len] at hj
      exact f1 j c c' (by rw [List.getElem?_take, if_pos hj]; exact hc) hc'
    · rename_i hj
      rw [flat_len] at hj hc'
      exact elems_flat hr (j - t.size) c c' (by rw [List.getElem?_drop, show t.size + (j - t.size) = j by omega]; exact hc) hc'

structure Taken (S : St) (l : List AC) (ks : List Nat) : Prop where
  own : ∀ (j : Nat) k, l[j]? = some (.own k) → k ∈ ks ∧ ∃ r, S.rows k = some r ∧ r.own = true ∧ r.t.hasRow = false ∧ r.t.isDeep = false
  inj : ∀ (j j' : Nat) k, l[j]? = some (.own k) → l[j']? = some (.own k) → j = j'
  only : ∀ (j : Nat) c, l[j]? = some c → (∃ k, c = .own k) ∨ c = .nil ∨ ∃ (t : Ty) (x : t.T), c = .v t x ∧ t.hasRow = false
  has : ∀ k ∈ ks, ∃ j : Nat, l[j]? = some (.own k)
theorem Taken.skip {S : St} {l : List AC} {ks : List Nat} (h : Taken S l ks) {c : AC} (hn : ∀ k, c ≠ .own k) (hc : c = .nil ∨ ∃ (t : Ty) (x : t.T), c = .v t x ∧ t.hasRow = false) : Taken S (c :: l) ks where
  own := fun j k hj => by
    cases j with
    | zero => simp at hj; exact absurd hj (hn k)
    | succ j => exact h.own j k (by simpa using hj)
  inj := fun j j' k hj hj' => by
    cases j with
    | zero => simp at hj; exact absurd hj (hn k)
    | succ j =>
      cases j' with
      | zero => simp at hj'; exact absurd hj' (hn k)
      | succ j' => rw [h.inj j j' k (by simpa using hj) (by simpa using hj')]
  only := fun j d hj => by
    cases j with
    | zero => simp at hj; subst hj; exact .inr hc
    | succ j => exact h.only j d (by simpa using hj)
  has := fun k hk => by
    obtain ⟨j, hj⟩ := h.has k hk
    exact ⟨j + 1, by simpa using hj⟩
theorem takeOwn_ok {S : St} : ∀ {l : List AC} {ks : List Nat}, takeOwn S l = some ks → Taken S l ks
  | [], ks, h => by
    simp only [takeOwn] at h
    cases h
    exact ⟨fun j k h => by simp at h, fun j j' k h => by simp at h, fun j c h => by simp at h, fun k h => by cases h⟩
  | .nil :: l, ks, h => by
    simp only [takeOwn] at h
    exact (takeOwn_ok h).skip (fun k e => by cases e) (.inl rfl)
  | .v t x :: l, ks, h => by
    simp only [takeOwn] at h
    split at h
    · cases h
    · rename_i ht
      exact (takeOwn_ok h).skip (fun k e => by cases e) (.inr ⟨t, x, rfl, ht⟩)
  | .own k :: l, ks, h => by
    simp only [takeOwn] at h
    split at h
    · rename_i q hq
      split at h
      · rename_i hc
        simp only [Bool.and_eq_true, Bool.not_eq_true'] at hc
        simp only [Option.bind_eq_some_iff] at h
        obtain ⟨ks', h1, h⟩ := h
        split at h
        · cases h
        · rename_i hk
          cases h
          have hk : k ∉ ks' := fun hm => by
            rw [List.contains_eq_mem, decide_eq_false_iff_not] at hk
            exact hk hm
          have T := takeOwn_ok h1
          refine ⟨fun j k' hj => ?_, fun j j' k' hj hj' => ?_, fun j c hj => ?_, fun k' hk' => ?_⟩
          · cases j with
            | zero => simp at hj; subst hj; exact ⟨by simp, q, hq, hc.1.1, hc.1.2, hc.2⟩
            | succ j =>
              obtain ⟨h2, h3⟩ := T.own j k' (by simpa using hj)
              exact ⟨List.mem_cons_of_mem _ h2, h3⟩
          · cases j with
            | zero =>
              simp at hj
              subst hj
              cases j' with
              | zero => rfl
              | succ j' => exact absurd (T.own j' k (by simpa using hj')).1 hk
            | succ j =>
              cases j' with
              | zero => simp at hj'; subst hj'; exact absurd (T.own j k (by simpa using hj)).1 hk
              | succ j' => rw [T.inj j j' k' (by simpa using hj) (by simpa using hj')]
          · cases j with
            | zero => simp at hj; exact .inl ⟨k, hj.symm⟩
            | succ j => exact T.only j c (by simpa using hj)
          · rcases List.mem_cons.1 hk' with rfl | hk'
            · exact ⟨0, rfl⟩
            · obtain ⟨j, hj⟩ := T.has k' hk'
              exact ⟨j + 1, by simpa using hj⟩
      · cases h
    · cases h
  | .ptr _ _ :: l, ks, h => by simp only [takeOwn] at h; cases h
  | .eS _ _ _ :: l, ks, h => by simp only [takeOwn] at h; cases h
  | .eO _ _ _ :: l, ks, h => by simp only [takeOwn] at h; cases h
  | .inn _ _ _ :: l, ks, h => by simp only [takeOwn] at h; cases h

/-- A cell that a deep row takes. -/
theorem Taken.kid (h : Sim B S E a w) {l : List AC} {ks : List Nat} (T : Taken S l ks) {j : Nat} {c : AC} {v : Value} (hc : l[j]? = some c) (hv : ACr w E c v) {u : Ty} {y : u.T} (hu : u.cell = true) (ha : asT S u c = some y)
    (h1 : ∀ t', u = .row t' → t'.hasRow = false) : Kid w (.v u y) v ∧ ∀ g, v.ownBlock = some g → ∃ k r, c = .own k ∧ k ∈ ks ∧ S.rows k = some r ∧ r.own = true ∧ OwnB w (E.hv k) r.t r.l g := by
  rcases T.only j c hc with ⟨k, rfl⟩ | rfl | ⟨t, x, rfl, ht⟩
  · obtain ⟨hk, r, hr, ho, hr1, hr2⟩ := T.own j k hc
    obtain ⟨hU, ev, _⟩ := hv
    subst ev
    simp only [asT, hr] at ha
    obtain ⟨ro, rt, rl⟩ := r
    simp only at ho hr1 hr2
    have ha' : cast? (.row rt) u rl = some y := by cases rt <;> first | exact ha | cases hr2
    obtain ⟨e1, e2⟩ := cast?_some ha'
    subst e1; subst e2
    obtain ⟨xs, x1, x2⟩ := (h.rows k _ hr).own ho hr2
    have hs : E.sz k = rt.size := (h.rows k _ hr).1
    rw [hs] at x1
    exact ⟨⟨hr1, xs, x1, fun i z hz => (x2 i z hz).plain hr1⟩, fun g hg => ⟨k, _, rfl, hk, hr, ho, .inl hg⟩⟩
  · have hv : v = .slice none 0 0 := hv
    subst hv
    cases u <;> simp only [asT] at ha <;> cases ha
    exact ⟨⟨h1 _ rfl, [], ⟨by simp, .inl ⟨rfl, rfl⟩⟩, fun i x hx => by simp at hx⟩, fun g hg => by simp [Value.ownBlock] at hg⟩
  · simp only [asT] at ha
    obtain ⟨e1, e2⟩ := cast?_some ha
    subst e1; subst e2
    obtain ⟨hcell, hval⟩ := hv
    have hk : Kid w (.v t y) v := by
      cases t with
      | row t => simp [Ty.hasRow] at ht
      | _ => exact ⟨ht, hcell, Enc.plain ht hval⟩
    refine ⟨hk, fun g hg => ?_⟩
    exfalso
    cases t <;> simp only [Val, Enc, Option.some.injEq] at hval <;> first | (subst hval; simp [Value.ownBlock] at hg; done) | (cases hcell; done) | (simp [Ty.hasRow] at ht; done) | skip

theorem setAll_drops : ∀ {ks : List Nat} {f : Nat → Option RowSt} {k : Nat} {r : RowSt}, setAll f (drops ks) k = some r → f k = some r ∧ k ∉ ks
  | [], f, k, r, h => ⟨h, by simp⟩
  | q :: ks, f, k, r, h => by
    simp only [drops, setAll_cons] at h
    obtain ⟨h1, h2⟩ := setAll_drops (ks := ks) h
    obtain ⟨h3, h4⟩ := upd_none h1
    exact ⟨h4, fun hm => (List.mem_cons.1 hm).elim h3 h2⟩
/-- Fewer rows. -/
theorem Sim.fewer (h : Sim B S E a w) {rows' : Nat → Option RowSt} (hr : ∀ k r, rows' k = some r → S.rows k = some r) : Sim B { S with rows := rows' } E a w :=
  { h with
    rowU := fun k r x => h.rowU k r (hr k r x)
    rows := fun k r x => h.rows k r (hr k r x)
    rowNew := fun k r g x ho hg => by
      obtain ⟨h0, h1, h2, h3⟩ := h.rowNew k r g (hr k r x) ho hg
      exact ⟨h0, h1, h2, fun k' r' y => h3 k' r' (hr k' r' y)⟩ }
/-- A block of a row that leaves the state is alone. -/
theorem Sim.left_alone (h : Sim B S E a w) {k : Nat} {r : RowSt} {g : Nat} (hk : S.rows k = some r) (ho : r.own = true) (hg : OwnB w (E.hv k) r.t r.l g) {rows' : Nat → Option RowSt} (hr : ∀ k r, rows' k = some r → S.rows k = some r) (hn : ∀ r, rows' k ≠ some r) (id : Nat) :
    g < w.heap.size ∧ Alone B { S with rows := rows' } E w id g := by
  obtain ⟨n1, n2, n3, n4⟩ := h.rowNew k r g hk ho hg
  refine ⟨h.lt_row hk ho hg, n1, n2, n3, fun k' r' hk' ho' hg' => ?_⟩
  have := n4 k' r' (hr k' r' hk') ho' hg'
  subst this
  exact absurd hk' (hn r')

/-- A row that has just been made. -/
theorem newRow_body (h : Sim B S E a w) {id : Nat} (hid : ¬ E.U id) {t : Ty} {l : List t.T} {ds : Array Value} {e : TypeId} {n cap : Nat} (hn : l.length = n) (hle : n ≤ cap) (hcap : cap ≤ maxLen) (hds : ds.size = cap * t.size)
    (hl : Body w E.U E.hv E.F t l (ds.toList.take (n * t.size)) (.slice (some ⟨w.heap.size, 0, none⟩) n cap))
    (hin : ∀ g, InX t l (ds.toList.take (n * t.size)) g → g < w.heap.size ∧ Alone B S E w id g) :
    Sim B { S with rows := upd S.rows id (some ⟨true, t, l⟩) } (E.row id (.slice (some ⟨w.heap.size, 0, none⟩) n cap) t.size) a (w.alloc (.cells ds e)) ∧
      E.le w (w.alloc (.cells ds e)) (E.row id (.slice (some ⟨w.heap.size, 0, none⟩) n cap) t.size) := by
  have h1 := h.alloc (.cells ds e)
  have hlt : ∀ b, E.F b → b < w.heap.size := fun b hb => (h.F b hb).2
  have hF : ∀ b, E.F b → (w.alloc (.cells ds e)).heap[b]? = w.heap[b]? := fun b hb => heap_alloc_lt w _ (hlt b hb)
  have L0 : E.le w (w.alloc (.cells ds e)) E := ⟨fun _ h => h, fun _ _ => rfl, fun _ _ => rfl, fun _ _ => rfl, fun _ h => h, hF⟩
  have hown : Owned (w.alloc (.cells ds e)) t.size (.slice (some ⟨w.heap.size, 0, none⟩) n cap) l.length (ds.toList.take (n * t.size)) := by
    subst hn
    refine ⟨?_, .inr ⟨w.heap.size, cap, ds, e, rfl, heap_alloc_eq w _, hle, hcap, hds, rfl⟩⟩
    rw [List.length_take, Array.length_toList (xs := ds), hds]
    exact Nat.min_eq_left (Nat.mul_le_mul_right _ hle)
  have hrow : RowIs (w.alloc (.cells ds e)) E (.slice (some ⟨w.heap.size, 0, none⟩) n cap) t.size ⟨true, t, l⟩ :=
    ⟨rfl, trivial, ds.toList.take (n * t.size), hown, Body.mono0 L0 hl fun g hg => heap_alloc_lt w _ (hin g hg).1⟩
  have old : ∀ k r g, S.rows k = some r → r.own = true → OwnB (w.alloc (.cells ds e)) (E.hv k) r.t r.l g → OwnB w (E.hv k) r.t r.l g := fun k r g hk ho hg =>
    (OwnB.world fun g hg => heap_alloc_lt w _ (h.lt_row hk ho (.inl hg))).1 hg
  have halone : ∀ g, OwnB (w.alloc (.cells ds e)) (.slice (some ⟨w.heap.size, 0, none⟩) n cap) t l g → Alone B S E (w.alloc (.cells ds e)) id g := by
    intro g hg
    rcases hg with hg | hg
    · simp only [Value.ownBlock, Option.some.injEq] at hg
      subst hg
      exact ⟨.inl h.grown, fun hF => Nat.lt_irrefl _ (hlt _ hF), fun b cs hb => Nat.ne_of_lt (h.lt_box hb), fun k' r' hk' ho' hg' => absurd (h.lt_row hk' ho' (old k' r' _ hk' ho' hg')) (Nat.lt_irrefl _)⟩
    · rw [kids_owned hown] at hg
      obtain ⟨_, n1, n2, n3, n4⟩ := hin g hg
      exact ⟨n1, n2, n3, fun k' r' hk' ho' hg' => n4 k' r' hk' ho' (old k' r' g hk' ho' hg')⟩
  obtain ⟨h2, h3⟩ := h1.newRow hid hrow (fun _ => halone)
  exact ⟨h2, Env.le.trans L0 h3⟩
theorem newRow_ok (h : Sim B S E a w) {id : Nat} (hid : ¬ E.U id) {t : Ty} (ht : t.isDeep = false) {l : List t.T} {ds : Array Value} {e : TypeId} {n cap : Nat} (hn : l.length = n) (hle : n ≤ cap) (hcap : cap ≤ maxLen) (hds : ds.size = cap * t.size)
    (hl : EncL w E.F t l (ds.toList.take (n * t.size))) :
    Sim B { S with rows := upd S.rows id (some ⟨true, t, l⟩) } (E.row id (.slice (some ⟨w.heap.size, 0, none⟩) n cap) t.size) a (w.alloc (.cells ds e)) ∧
      E.le w (w.alloc (.cells ds e)) (E.row id (.slice (some ⟨w.heap.size, 0, none⟩) n cap) t.size) :=
  newRow_body h hid hn hle hcap hds ((Body.flat ht).2 hl) fun g hX => (hX.flat ht).elim

theorem setAll_one {α : Type} (f : Nat → Option α) (l : List (Nat × Option α)) (k : Nat) (x : Option α) : setAll f (l ++ [(k, x)]) = upd (setAll f l) k x := by
  rw [setAll_append]; rfl

theorem U_row {E E1 : Env} (h : ∀ n, E1.U n ↔ E.U n) {id sz : Nat} {v : Value} : ∀ n, (E1.row id v sz).U n → E.U n ∨ (id ≤ n ∧ n < id + 64) :=
  fun n hn => hn.elim (fun x => .inl ((h n).1 x)) fun e => .inr (by subst e; exact ⟨Nat.le_refl _, by omega⟩)

theorem op_buildSlice (h : Sim B S E a w) {id : Nat} (hid : ¬ E.U id) {o : Oper} {t : TypeId} {len : Nat} {ps : Array (Nat × Operand)} (ho : o.op = .buildSlice t len ps) {r : Out} (hb : opB P S id (.buildSlice t len ps) = some r) (hok : r.ok = true) :
    OpOk P B S E a w id o r.d := by
  simp only [opB, Option.bind_eq_some_iff] at hb
  obtain ⟨e, he, eb, heb, z, hz, cs, hcs, m, hm, hb⟩ := hb
  split at hb
  · rename_i hlen
    have hlen := Nat.le_of_ble_eq_true hlen
    simp only [Option.bind_eq_some_iff] at hb
    obtain ⟨l, hl, q, hq, hb⟩ := hb
    obtain ⟨i, zv, hi, hiz, hisz, hib, hzs, hpos, _, _, _⟩ := (elemB_some heb).info
    have hzz : z = zv.cells.toList := by unfold zeroB at hz; rw [hi] at hz; simp [hiz] at hz; exact hz.symm
    subst hzz
    obtain ⟨h1, h2⟩ := parts_fill h hm
    have hc0 : ACs w E (repC cs len) ((Array.range (len * i.size)).map (zv.cells[· % zv.cells.size]!)).toList := by
      rw [hisz, ← hzs, range_rep]
      exact repC_acs (acsOf_acs hcs) len
    obtain ⟨ds, h3, h4⟩ := fill_acs h1 h2 hc0 hl
    obtain ⟨e1, e2, e3⟩ := elems_some hq
    have hds : ds.size = len * eb.1.size := by rw [← Array.length_toList, ← h4.1, e2]
    have hle : len ≤ maxLen := by
      have := Nat.le_mul_of_pos_right len hpos
      unfold maxLen
      omega
    have e5 : (ps.map fun (x : Nat × Operand) => (x.1, a.eval x.2)).toList = ps.toList.map fun (i, x) => (i, a.eval x) := by rw [Array.toList_map]
    have e6 : (fun i => some (i * eb.1.size, eb.1.size)) = (fun j => some (j * i.size, i.size)) := by rw [hisz]
    rw [e6, ← e5] at h3
    have hrun : (Instr.buildSlice t len (ps.map fun (x : Nat × Operand) => (x.1, a.eval x.2))).run P w = .ok (.slice (some ⟨w.heap.size, 0, none⟩) len len) (w.alloc (.cells ds e)) := by
      by_cases hz0 : len * i.size = 0
      · rw [hz0] at h3
        simp only [Instr.buildSlice, Sem.run_bind, run_underlying (sliceB_some he), sizeOf, typeInfo, run_program, hi, Result.andThen_ok, Sem.run_pure, hz0, Nat.not_lt_zero, gt_iff_lt, if_false, if_true]
        have h3' : Instr.fill (fun j => some (j * i.size, i.size)) ((Array.range 0).map fun x => (#[] : Array Value)[x % (#[] : Array Value).size]!) (ps.map fun (x : Nat × Operand) => (x.1, a.eval x.2)).toList = some ds := by
          have h0 : ∀ f : Nat → Value, (Array.range 0).map f = #[] := fun f => by simp
          rw [h0] at h3 ⊢
          exact h3
        simp only [h3', newRow, Sem.run_bind, run_newObj, Result.andThen_ok, Sem.run_pure]
        rfl
      · exact run_buildSlice w t e len _ ds i zv (sliceB_some he) hi hiz (by rw [hisz]; omega) hz0 h3
    have hrun' : (execOp a.eval o).run P w = .ok (.value (.slice (some ⟨w.heap.size, 0, none⟩) len len)) (w.alloc (.cells ds e)) := by
      simp only [execOp, ho, Sem.run_bind, hrun, Result.andThen_ok, Sem.run_pure]
    have htk : ds.toList.take (len * eb.1.size) = ds.toList := List.take_of_length_le (by rw [Array.length_toList (xs := ds), hds]; exact Nat.le_refl _)
    split at hb
    · rename_i hdeep
      simp only [Option.bind_eq_some_iff] at hb
      obtain ⟨ks, hks, e'⟩ := hb
      cases e'
      have T := takeOwn_ok hks
      simp only [deepB, Bool.and_eq_true] at hdeep
      have ho1 := hdeep.2.2
      have hsub : ∀ k r, setAll S.rows (drops ks) k = some r → S.rows k = some r := fun k r hk => (setAll_drops (f := S.rows) hk).1
      have hS1 := h.fewer hsub
      have kid_ : ∀ (j : Nat) c u, (cellsL eb.1 q)[j]? = some c → ds.toList[j]? = some u → Kid w c u ∧ ∀ g, u.ownBlock = some g → ∃ k r, l[j]? = some (.own k) ∧ k ∈ ks ∧ S.rows k = some r ∧ r.own = true ∧ OwnB w (E.hv k) r.t r.l g := by
        intro j c u hc hu
        have hjl : j < l.length := by rw [h4.1]; exact (List.getElem?_eq_some_iff.1 hu).1
        have hcl : l[j]? = some l[j] := by simp [hjl]
        obtain ⟨t', y, rfl, hcell, has⟩ := elems_flat hq j _ c hcl hc
        obtain ⟨r1, r2⟩ := T.kid h hcl (h4.2 j _ u hcl hu) hcell has (fun t'' e => by subst e; exact one_cells ho1 hc)
        refine ⟨r1, fun g hg => ?_⟩
        obtain ⟨k, r, e, q1, q2, q3, q4⟩ := r2 g hg
        exact ⟨k, r, by rw [hcl, e], q1, q2, q3, q4⟩
      have cell_ : ∀ (j : Nat) u, ds.toList[j]? = some u → ∃ c, (cellsL eb.1 q)[j]? = some c := fun j u hu => by
        have hj := (List.getElem?_eq_some_iff.1 hu).1
        have : j < (cellsL eb.1 q).length := by rw [cellsL_len, e1, ← hds]; simpa using hj
        exact ⟨_, List.getElem?_eq_getElem this⟩
      have hbody : Body w E.U E.hv E.F (.deep none eb.1) q (ds.toList.take (len * (Ty.deep none eb.1).size)) (.slice (some ⟨w.heap.size, 0, none⟩) len len) := by
        show Kids w E.U E.hv none eb.1 q (ds.toList.take (len * eb.1.size)) _
        rw [htk]
        exact
        { one := ho1
          kid := fun j c u hc hu _ => (kid_ j c u hc hu).1
          note := fun n hn => by cases hn
          inj := fun j j' u u' g hu hu' _ _ hg hg' => by
            obtain ⟨c, hc⟩ := cell_ j u hu
            obtain ⟨c', hc'⟩ := cell_ j' u' hu'
            obtain ⟨k, r, q1, q2, q3, q4, q5⟩ := (kid_ j c u hc hu).2 g hg
            obtain ⟨k', r', q1', q2', q3', q4', q5'⟩ := (kid_ j' c' u' hc' hu').2 g hg'
            have := (h.rowNew k r g q3 q4 q5).2.2.2 k' r' q3' q4' q5'
            subst this
            exact T.inj j j' k' q1 q1'
          out := fun j u g hu _ hg e => by
            obtain ⟨c, hc⟩ := cell_ j u hu
            obtain ⟨k, r, q1, q2, q3, q4, q5⟩ := (kid_ j c u hc hu).2 g hg
            have := h.lt_row q3 q4 q5
            simp only [Value.ownBlock, Option.some.injEq] at e
            omega }
      obtain ⟨k1, k2⟩ := newRow_body hS1 hid (e := e) (ds := ds) (t := .deep none eb.1) e1 (Nat.le_refl _) hle hds hbody (fun g hX => by
        obtain ⟨j, u, hu, _, hg⟩ := hX
        have hu : ds.toList[j]? = some u := by rw [← htk]; exact hu
        obtain ⟨c, hc⟩ := cell_ j u hu
        obtain ⟨k, r, q1, q2, q3, q4, q5⟩ := (kid_ j c u hc hu).2 g hg
        exact h.left_alone q3 q4 q5 hsub (fun r hr => (setAll_drops (f := S.rows) hr).2 q2) id)
      exact ⟨_, .slice (some ⟨w.heap.size, 0, none⟩) len len, _, _, hrun', .inl rfl, k2, ⟨.inr rfl, by simp [Env.row], rfl⟩, by rw [setAll_one]; exact k1, U_row (fun _ => Iff.rfl)⟩
    cases hb
    obtain ⟨E1, g1, g2, g3, g4, g5⟩ := h.freeze (toks l)
    have hEncL : EncL w E1.F eb.1 q (ds.toList.take (len * eb.1.size)) := by
      intro j x hx
      have hw : ACs w E1 ((l.drop (j * eb.1.size)).take eb.1.size) ((ds.toList.drop (j * eb.1.size)).take eb.1.size) := ((h4.drop _).take _).mono g2
      have hrd : Reads S E1 w E1.F (toks ((l.drop (j * eb.1.size)).take eb.1.size)) := fun k hk r hr hh => by
        have := g4 k (toks_mem_drop (toks_mem_take hk)) r hr hh
        rw [← g2.hv k (h.rowU k r hr)] at this
        exact this
      obtain ⟨_, hen⟩ := parse_enc (fun _ h => h) hrd hw (e3 j x hx)
      refine hen.congr fun n hn => ?_
      rw [List.take_of_length_le (by rw [Array.length_toList (xs := ds), hds]; exact Nat.le_refl _), List.getElem?_take, if_pos hn, List.getElem?_drop]
    have hid1 : ¬ E1.U id := fun hh => hid ((g3 id).1 hh)
    obtain ⟨k1, k2⟩ := newRow_ok g1 hid1 (elemB_some heb).flat (e := e) (ds := ds) e1 (Nat.le_refl _) hle hds hEncL
    exact ⟨_, .slice (some ⟨w.heap.size, 0, none⟩) len len, _, _, hrun', .inl rfl, g2.trans k2, ⟨.inr rfl, by simp [Env.row], rfl⟩, by rw [setAll_one]; exact k1, U_row g3⟩
  · cases hb

end
end Go.Proofs.YtmbmapbdbbnaeaaT

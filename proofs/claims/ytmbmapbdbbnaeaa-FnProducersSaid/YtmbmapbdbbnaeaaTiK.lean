/- The operations, continued: make, slices, elements, stores. -/
import Derived.Test.YtmbmapbdbbnaeaaTiJ
import Derived.IntWalk
set_option linter.unusedVariables false
set_option linter.unusedSimpArgs false
namespace Go.Proofs.YtmbmapbdbbnaeaaT
open Go

section
variable {P : Program} {B : Base} {S : St} {E : Env} {a : Act} {w : World}

theorem zeroFits_enc {w : World} {F : Nat → Prop} : ∀ {t : Ty} {v : Value} {g : Nat → Option Value}, zeroFits t v = true → g 0 = some v → t.size = 1 ∧ Enc w F t t.dflt g := by
  intro t v g h hg
  unfold zeroFits at h
  split at h
  · simp only [Bool.and_eq_true, beq_iff_eq] at h
    obtain ⟨rfl, rfl⟩ := h
    exact ⟨rfl, by simp only [Enc]; exact hg⟩
  · rename_i b
    have : b = false := by simpa using h
    subst this
    exact ⟨rfl, by simp only [Enc]; exact hg⟩
  · rename_i s
    have : s = ByteArray.empty := by
      have h0 : s.size = 0 := by simpa using h
      cases s with
      | mk d =>
        have : d = #[] := by simpa [ByteArray.size] using h0
        subst this; rfl
    subst this
    exact ⟨rfl, by simp only [Enc]; exact hg⟩
  · exact ⟨rfl, by simp only [Enc]; exact ⟨none, 0, hg, Nat.le_refl _, .inl rfl⟩⟩
  · cases h
theorem zeros_enc {w : World} {F : Nat → Prop} : ∀ {ts : List Ty} {vs : List Value} {g : Nat → Option Value}, zerosFit ts vs = true → (∀ j, j < vs.length → g j = vs[j]?) → Enc w F (Ty.ofList ts) (Ty.ofList ts).dflt g
  | [], _, _, _, _ => trivial
  | [t], [v], g, h, hg => by
    simp only [zerosFit, Bool.and_eq_true] at h
    exact (zeroFits_enc h.1 (by rw [hg 0 (by simp)]; rfl)).2
  | [t], [], _, h, _ => by simp [zerosFit] at h
  | [t], _ :: _ :: _, _, h, _ => by simp [zerosFit] at h
  | t :: u :: ts, [], _, h, _ => by simp [zerosFit] at h
  | t :: u :: ts, v :: vs, g, h, hg => by
    have h' := h
    rw [zerosFit, Bool.and_eq_true] at h'
    obtain ⟨e1, e2⟩ := zeroFits_enc (w := w) (F := F) h'.1 (show g 0 = some v by rw [hg 0 (by simp)]; rfl)
    simp only [Ty.ofList, Enc, Ty.dflt]
    refine ⟨e2, zeros_enc h'.2 (fun j hj => ?_)⟩
    rw [e1, Nat.add_comm, hg _ (by simp; omega)]
    rfl

theorem rep_get {α : Type} (us : List α) : ∀ (n i j : Nat), i < n → j < us.length → (List.replicate n us).flatten[i * us.length + j]? = us[j]?
  | 0, _, _, h, _ => by omega
  | n + 1, i, j, hi, hj => by
    rw [List.replicate_succ, List.flatten_cons, List.getElem?_append]
    cases i with
    | zero => rw [Nat.zero_mul, Nat.zero_add, if_pos hj]
    | succ i =>
      rw [if_neg (by rw [Nat.succ_mul]; omega), show (i + 1) * us.length + j - us.length = i * us.length + j by rw [Nat.succ_mul]; omega]
      exact rep_get us n i j (by omega) hj

theorem wrap_small {x : Int} (h0 : 0 ≤ x) (h1 : x ≤ 9223372036854775807) : IntKind.i64.wrap x = x := by
  exact IntWalk.i64_in _ (by omega)

theorem cells_dflt {w : World} {v : Value} : ∀ {ts : List Ty} {vs : List Value} {j : Nat} {c : AC}, zerosFit ts vs = true → (∀ t ∈ ts, t.size = 1) → (flat (Ty.ofList ts) (Ty.ofList ts).dflt)[j]? = some c → vs[j]? = some v →
    (∀ u, c = .v (.row u) [] → u.hasRow = false) → Kid w c v ∧ v.ownBlock = none
  | [], [], j, c, _, _, hc, hv, _ => by simp at hv
  | [], _ :: _, _, _, h, _, _, _, _ => by simp [zerosFit] at h
  | _ :: _, [], _, _, h, _, _, _, _ => by simp [zerosFit] at h
  | [t], v0 :: vs, j, c, h, h1, hc, hv, hr => by
    rw [zerosFit, Bool.and_eq_true] at h
    exact one h.1 (h1 t (by simp)) hc (by
      have hj : j < (flat t t.dflt).length := (List.getElem?_eq_some_iff.1 hc).1
      rw [flat_len, h1 t (by simp)] at hj
      rw [show j = 0 by omega] at hv
      simpa using hv) hr
  | t :: t2 :: ts, v0 :: vs, j, c, h, h1, hc, hv, hr => by
    rw [zerosFit, Bool.and_eq_true] at h
    have e : flat (Ty.ofList (t :: t2 :: ts)) (Ty.ofList (t :: t2 :: ts)).dflt = flat t t.dflt ++ flat (Ty.ofList (t2 :: ts)) (Ty.ofList (t2 :: ts)).dflt := rfl
    rw [e, List.getElem?_append, flat_len, h1 t (by simp)] at hc
    split at hc
    · rename_i hj
      rw [show j = 0 by omega] at hv hc
      exact one h.1 (h1 t (by simp)) hc (by simpa using hv) hr
    · rename_i hj
      exact cells_dflt h.2 (fun x hx => h1 x (List.mem_cons_of_mem _ hx)) hc (by
        rw [show j = (j - 1) + 1 by omega] at hv
        simpa using hv) hr
where
  one {w : World} {t : Ty} {v v0 : Value} {j : Nat} {c : AC} (h : zeroFits t v0 = true) (h1 : t.size = 1) (hc : (flat t t.dflt)[j]? = some c) (hv : v0 = v) (hr : ∀ u, c = .v (.row u) [] → u.hasRow = false) : Kid w c v ∧ v.ownBlock = none := by
    subst hv
    have hj : j < (flat t t.dflt).length := (List.getElem?_eq_some_iff.1 hc).1
    rw [flat_len, h1] at hj
    have hj0 : j = 0 := by omega
    subst hj0
    have henc := (zeroFits_enc (w := w) (F := fun _ => False) (g := fun _ => some v0) h rfl).2
    cases t with
    | row u =>
      simp only [flat, List.getElem?_cons_zero, Option.some.injEq] at hc
      subst hc
      unfold zeroFits at h
      split at h <;> first | (cases h; done) | skip
      all_goals first | contradiction | skip
      all_goals exact ⟨⟨hr _ rfl, [], ⟨by simp [Ty.dflt], .inl ⟨rfl, rfl⟩⟩, fun i x hx => by simp [Ty.dflt] at hx⟩, rfl⟩
    | int k =>
      simp only [flat, List.getElem?_cons_zero, Option.some.injEq] at hc
      subst hc
      refine ⟨⟨rfl, rfl, henc⟩, ?_⟩
      simp only [Enc, Option.some.injEq] at henc
      rw [henc]; rfl
    | bool =>
      simp only [flat, List.getElem?_cons_zero, Option.some.injEq] at hc
      subst hc
      refine ⟨⟨rfl, rfl, henc⟩, ?_⟩
      simp only [Enc, Option.some.injEq] at henc
      rw [henc]; rfl
    | str =>
      simp only [flat, List.getElem?_cons_zero, Option.some.injEq] at hc
      subst hc
      refine ⟨⟨rfl, rfl, henc⟩, ?_⟩
      simp only [Enc, Option.some.injEq] at henc
      rw [henc]; rfl
    | _ => simp [zeroFits] at h

theorem makeSlice_aux (h : Sim B S E a w) {id : Nat} (hid : ¬ E.U id) {o : Oper} {t e : TypeId} {x y : Operand} (ho : o.op = .makeSlice t x y) {eb : Ty × Nat} (he : sliceB P t = some e) (heb : elemB P e = some eb) {m n : Int}
    (hx : a.eval x = .int .i64 m) (hy : a.eval y = .int .i64 n) (hok' : cMake m n eb.2 = true) :
    OpOk P B S E a w id o { val := .w (.c (.own id)), rows := [(id, some ⟨true, eb.1, rRep eb.1.dflt m⟩)] } ∧
    (eb.1.one = true → OpOk P B S E a w id o { val := .w (.c (.own id)), rows := [(id, some ⟨true, .deep none eb.1, rRep eb.1.dflt m⟩)] }) := by
  obtain ⟨i, zv, hi, hiz, hisz, hib, hzs, hpos, hb0, hb1, ts, hts, hzf, hcell⟩ := (elemB_some heb).info
  unfold cMake at hok'
  obtain ⟨k0, k1, k2⟩ := (@of_decide_eq_true _ (Classical.propDecidable _) hok')
  have hmb : ((maxBytes : Nat) : Int) = 35184372088832 := rfl
  rw [hmb] at k2
  have hbi : (1 : Int) ≤ (eb.2 : Int) := by omega
  have hn : n ≤ 35184372088832 := by
    have := Int.mul_le_mul_of_nonneg_left hbi (show 0 ≤ n by omega)
    simp only [Int.mul_one] at this
    omega
  have hcells : ((Array.range (n.toNat * i.size)).map (zv.cells[· % zv.cells.size]!)).toList = (List.replicate n.toNat zv.cells.toList).flatten := by rw [hisz, ← hzs, range_rep]
  have hsz : ((Array.range (n.toNat * i.size)).map (zv.cells[· % zv.cells.size]!)).size = n.toNat * eb.1.size := by simp [hisz]
  have hEncL : EncL w E.F eb.1 (rRep eb.1.dflt m) (((Array.range (n.toNat * i.size)).map (zv.cells[· % zv.cells.size]!)).toList.take (m.toNat * eb.1.size)) := by
    intro j z hz
    have hj : j < m.toNat := by have := (List.getElem?_eq_some_iff.1 hz).1; simpa [rRep] using this
    have ez : z = eb.1.dflt := by simp [rRep, hj] at hz; exact hz.symm
    subst ez
    have hlen : zv.cells.toList.length = eb.1.size := by rw [Array.length_toList (xs := zv.cells), hzs]
    rw [hts]
    refine zeros_enc hzf (fun q hq => ?_)
    rw [← hts, hcells, List.getElem?_take, if_pos, ← hlen]
    · exact rep_get _ _ _ _ (by omega) hq
    · rw [hlen] at hq
      have := Nat.mul_le_mul_right eb.1.size (Nat.succ_le_of_lt hj)
      rw [Nat.succ_mul] at this
      omega
  have hmax : n.toNat ≤ maxLen := by unfold maxLen; omega
  have hrun : (execOp a.eval o).run P w = .ok (.value (.slice (some ⟨w.heap.size, 0, none⟩) m.toNat n.toNat)) (w.alloc (.cells ((Array.range (n.toNat * i.size)).map (zv.cells[· % zv.cells.size]!)) e)) := by
    have w1 : IntKind.i64.wrap m = m := wrap_small k0 (by omega)
    have w2 : IntKind.i64.wrap n = n := wrap_small (by omega) (by omega)
    have hty : (typeInfo e).run P w = .ok i w := by simp [typeInfo, hi]
    have hs : (sizeOf e).run P w = .ok i.size w := by simp [sizeOf, typeInfo, hi]
    have hzr : (zeroValue e).run P w = .ok zv w := by simp [zeroValue, typeInfo, hi, hiz]
    have hbig : ¬ (i.bytes : Int) * n > 2 ^ 48 := by rw [hib, Int.mul_comm]; omega
    have hcond : ((decide (n < 0) || decide ((i.bytes : Int) * n > 2 ^ 48)) || decide (m < 0) || decide (m > n)) = false := by
      simp only [Bool.or_eq_false_iff, decide_eq_false_iff_not]
      exact ⟨⟨⟨by omega, hbig⟩, by omega⟩, by omega⟩
    simp only [execOp, ho, Instr.makeSlice, hx, hy, Sem.run_bind, run_underlying (sliceB_some he), Result.andThen_ok, asInt, asIntOf, Sem.run_pure, hty, w1, w2, Sem.run_ite, hcond, Bool.false_eq_true, if_false, run_askRoom, hs]
    by_cases hz0 : n.toNat * i.size = 0
    · have e0 : ((Array.range (n.toNat * i.size)).map (zv.cells[· % zv.cells.size]!)) = #[] := by rw [hz0]; simp
      rw [e0]
      simp only [hz0, if_true, Result.andThen_ok, newRow, Sem.run_bind, run_newObj, Sem.run_pure]
      have e1 : (Array.range 0).map (fun x => (#[] : Array Value)[x % (#[] : Array Value).size]!) = #[] := by simp
      rw [e1]
      rfl
    · simp only [hz0, if_false, hzr, Result.andThen_ok, newRow, Sem.run_bind, run_newObj, Sem.run_pure]
      rfl
  refine ⟨?_, fun hone => ?_⟩
  · obtain ⟨g1, g2⟩ := newRow_ok h hid (elemB_some heb).flat (e := e) (cap := n.toNat) (n := m.toNat) (by simp [rRep]) (by omega) hmax hsz hEncL
    exact ⟨_, .slice (some ⟨w.heap.size, 0, none⟩) m.toNat n.toNat, _, _, hrun, .inl rfl, g2, ⟨.inr rfl, by simp [Env.row], rfl⟩, g1, U_row (fun _ => Iff.rfl)⟩
  · have hlen : zv.cells.toList.length = eb.1.size := by rw [Array.length_toList (xs := zv.cells), hzs]
    have cell_ : ∀ (j : Nat) u, (((Array.range (n.toNat * i.size)).map (zv.cells[· % zv.cells.size]!)).toList.take (m.toNat * eb.1.size))[j]? = some u →
        ∃ c, (cellsL eb.1 (rRep eb.1.dflt m))[j]? = some c ∧ Kid w c u ∧ u.ownBlock = none := by
      intro j u hu
      rw [List.getElem?_take] at hu
      split at hu
      · rename_i hj
        have hq : j / eb.1.size < m.toNat := by rw [Nat.div_lt_iff_lt_mul hpos]; exact hj
        have hm := Nat.mod_lt j hpos
        have ej := Nat.div_add_mod' j eb.1.size
        rw [← ej] at hu ⊢
        generalize j / eb.1.size = q at hu hq ⊢
        generalize j % eb.1.size = p at hu hm ⊢
        rw [hcells, ← hlen, rep_get _ _ _ _ (by omega) (by rw [hlen]; exact hm)] at hu
        have hx : (rRep eb.1.dflt m)[q]? = some eb.1.dflt := by simp [rRep, hq]
        have hp : p < (flat eb.1 eb.1.dflt).length := by rw [flat_len]; exact hm
        obtain ⟨c, hc⟩ : ∃ c, (flat eb.1 eb.1.dflt)[p]? = some c := ⟨_, List.getElem?_eq_getElem hp⟩
        refine ⟨c, by rw [cellsL_get hx hm]; exact hc, ?_⟩
        have key : ∀ t : Ty, t = Ty.ofList ts → t.one = true → (flat t t.dflt)[p]? = some c → Kid w c u ∧ u.ownBlock = none := by
          intro t e ho hc
          subst e
          exact cells_dflt hzf hcell hc hu (fun u e => one_row ho (by rw [hc, e]))
        exact key _ hts hone hc
      · cases hu
    have hbody : Body w E.U E.hv E.F (.deep none eb.1) (rRep eb.1.dflt m) (((Array.range (n.toNat * i.size)).map (zv.cells[· % zv.cells.size]!)).toList.take (m.toNat * (Ty.deep none eb.1).size)) (.slice (some ⟨w.heap.size, 0, none⟩) m.toNat n.toNat) := by
      show Kids w E.U E.hv none eb.1 (rRep eb.1.dflt m) (((Array.range (n.toNat * i.size)).map (zv.cells[· % zv.cells.size]!)).toList.take (m.toNat * eb.1.size)) _
      exact
      { one := hone
        kid := fun j c u hc hu _ => by
          obtain ⟨c', hc', hk, _⟩ := cell_ j u hu
          rw [hc] at hc'
          cases hc'
          exact hk
        note := fun n hn => by cases hn
        inj := fun j j' u u' g hu _ _ _ hg _ => by
          obtain ⟨_, _, _, hk⟩ := cell_ j u hu
          rw [hk] at hg; cases hg
        out := fun j u g hu _ hg => by
          obtain ⟨_, _, _, hk⟩ := cell_ j u hu
          rw [hk] at hg; cases hg }
    obtain ⟨g1, g2⟩ := newRow_body h hid (t := .deep none eb.1) (e := e) (cap := n.toNat) (n := m.toNat) (l := rRep eb.1.dflt m) (by simp [rRep]) (by omega) hmax hsz hbody (fun g hX => by
      obtain ⟨j, u, hu, _, hg⟩ := hX
      obtain ⟨_, _, _, hk⟩ := cell_ j u hu
      rw [hk] at hg; cases hg)
    exact ⟨_, .slice (some ⟨w.heap.size, 0, none⟩) m.toNat n.toNat, _, _, hrun, .inl rfl, g2, ⟨.inr rfl, by simp [Env.row], rfl⟩, g1, U_row (fun _ => Iff.rfl)⟩

theorem op_makeSlice (h : Sim B S E a w) {id : Nat} (hid : ¬ E.U id) {o : Oper} {t : TypeId} {x y : Operand} (ho : o.op = .makeSlice t x y) {r : Out} (hb : opB P S id (.makeSlice t x y) = some r) (hok : r.ok = true) :
    OpOk P B S E a w id o r.d := by
  simp only [opB, Option.bind_eq_some_iff] at hb
  obtain ⟨e, he, eb, heb, c1, hc1, c2, hc2, hb⟩ := hb
  have h1 := h.evalC hc1
  have h2 := h.evalC hc2
  split at hb
  · split at hb
    · rename_i hd
      cases hb
      simp only [deepB, Bool.and_eq_true] at hd
      exact (makeSlice_aux h hid ho he heb (val_int h1.2) (val_int h2.2) hok).2 hd.2.2
    · cases hb
      exact (makeSlice_aux h hid ho he heb (val_int h1.2) (val_int h2.2) hok).1
  · cases hb

end
end Go.Proofs.YtmbmapbdbbnaeaaT

/- The operations, continued: make, slices, elements, stores. -/
import Derived.Test.YtpggnojbbibnnaaTiJ
import Derived.IntWalk
set_option linter.unusedVariables false
set_option linter.unusedSimpArgs false
namespace Go.Proofs.YtpggnojbbibnnaaT
open Go

section
variable {P : Program} {B : Base} {S : St} {E : Env} {a : Act} {w : World}

theorem zeroFits_enc {w : World} {F : Nat → Prop} : ∀ {t : Ty} {v : Value} {g : Nat → Option Value}, zeroFits t v = true → g 0 = some v → t.size = 1 ∧ Enc w F t t.dflt g := by
  intro t v g h hg
  unfold zeroFits at h
  split at h
  · simp only [Bool.and_eq_true, beq_iff_eq] at h
    obtain ⟨rfl, rfl⟩ := h
    exact ⟨rfl, by simp only [Enc]; exact hg⟩
  · rename_i b
    have : b = false := by simpa using h
    subst this
    exact ⟨rfl, by simp only [Enc]; exact hg⟩
  · rename_i s
    have : s = ByteArray.empty := by
      have h0 : s.size = 0 := by simpa using h
      cases s with
      | mk d =>
        have : d = #[] := by simpa [ByteArray.size] using h0
        subst this; rfl
    subst this
    exact ⟨rfl, by simp only [Enc]; exact hg⟩
  · exact ⟨rfl, by simp only [Enc]; exact ⟨none, 0, hg, Nat.le_refl _, .inl rfl⟩⟩
  · cases h
theorem zeros_enc {w : World} {F : Nat → Prop} : ∀ {ts : List Ty} {vs : List Value} {g : Nat → Option Value}, zerosFit ts vs = true → (∀ j, j < vs.length → g j = vs[j]?) → Enc w F (Ty.ofList ts) (Ty.ofList ts).dflt g
  | [], _, _, _, _ => trivial
  | [t], [v], g, h, hg => by
    simp only [zerosFit, Bool.and_eq_true] at h
    exact (zeroFits_enc h.1 (by rw [hg 0 (by simp)]; rfl)).2
  | [t], [], _, h, _ => by simp [zerosFit] at h
  | [t], _ :: _ :: _, _, h, _ => by simp [zerosFit] at h
  | t :: u :: ts, [], _, h, _ => by simp [zerosFit] at h
  | t :: u :: ts, v :: vs, g, h, hg => by
    have h' := h
    rw [zerosFit, Bool.and_eq_true] at h'
    obtain ⟨e1, e2⟩ := zeroFits_enc (w := w) (F := F) h'.1 (show g 0 = some v by rw [hg 0 (by simp)]; rfl)
    simp only [Ty.ofList, Enc, Ty.dflt]
    refine ⟨e2, zeros_enc h'.2 (fun j hj => ?_)⟩
    rw [e1, Nat.add_comm, hg _ (by simp; omega)]
    rfl

theorem rep_get {α : Type} (us : List α) : ∀ (n i j : Nat), i < n → j < us.length → (List.replicate n us).flatten[i * us.length + j]? = us[j]?
  | 0, _, _, h, _ => by omega
  | n + 1, i, j, hi, hj => by
    rw [List.replicate_succ, List.flatten_cons, List.getElem?_append]
    cases i with
    | zero => rw [Nat.zero_mul, Nat.zero_add, if_pos hj]
    | succ i =>
      rw [if_neg (by rw [Nat.succ_mul]; omega), show (i + 1) * us.length + j - us.length = i * us.length + j by rw [Nat.succ_mul]; omega]
      exact rep_get us n i j (by omega) hj

theorem wrap_small {x : Int} (h0 : 0 ≤ x) (h1 : x ≤ 9223372036854775807) : IntKind.i64.wrap x = x := by
  exact IntWalk.i64_in _ (by omega)

theorem makeSlice_aux (h : Sim B S E a w) {id : Nat} (hid : ¬ E.U id) {o : Oper} {t e : TypeId} {x y : Operand} (ho : o.op = .makeSlice t x y) {eb : Ty × Nat} (he : sliceB P t = some e) (heb : elemB P e = some eb) {m n : Int}
    (hx : a.eval x = .int .i64 m) (hy : a.eval y = .int .i64 n) (hok' : cMake m n eb.2 = true) :
    OpOk P B S E a w id o { val := .w (.c (.own id)), rows := [(id, some ⟨true, eb.1, rRep eb.1.dflt m⟩)] } := by
  obtain ⟨i, zv, hi, hiz, hisz, hib, hzs, hpos, hb0, hb1, ts, hts, hzf, hcell⟩ := (elemB_some heb).info
  unfold cMake at hok'
  obtain ⟨k0, k1, k2⟩ := (@of_decide_eq_true _ (Classical.propDecidable _) hok')
  have hmb : ((maxBytes : Nat) : Int) = 35184372088832 := rfl
  rw [hmb] at k2
  have hbi : (1 : Int) ≤ (eb.2 : Int) := by omega
  have hn : n ≤ 35184372088832 := by
    have := Int.mul_le_mul_of_nonneg_left hbi (show 0 ≤ n by omega)
    simp only [Int.mul_one] at this
    omega
  have hcells : ((Array.range (n.toNat * i.size)).map (zv.cells[· % zv.cells.size]!)).toList = (List.replicate n.toNat zv.cells.toList).flatten := by rw [hisz, ← hzs, range_rep]
  have hsz : ((Array.range (n.toNat * i.size)).map (zv.cells[· % zv.cells.size]!)).size = n.toNat * eb.1.size := by simp [hisz]
  have hEncL : EncL w E.F eb.1 (rRep eb.1.dflt m) (((Array.range (n.toNat * i.size)).map (zv.cells[· % zv.cells.size]!)).toList.take (m.toNat * eb.1.size)) := by
    intro j z hz
    have hj : j < m.toNat := by have := (List.getElem?_eq_some_iff.1 hz).1; simpa [rRep] using this
    have ez : z = eb.1.dflt := by simp [rRep, hj] at hz; exact hz.symm
    subst ez
    have hlen : zv.cells.toList.length = eb.1.size := by rw [Array.length_toList (xs := zv.cells), hzs]
    rw [hts]
    refine zeros_enc hzf (fun q hq => ?_)
    rw [← hts, hcells, List.getElem?_take, if_pos, ← hlen]
    · exact rep_get _ _ _ _ (by omega) hq
    · rw [hlen] at hq
      have := Nat.mul_le_mul_right eb.1.size (Nat.succ_le_of_lt hj)
      rw [Nat.succ_mul] at this
      omega
  have hmax : n.toNat ≤ maxLen := by unfold maxLen; omega
  obtain ⟨g1, g2⟩ := newRow_ok h hid hpos (e := e) (cap := n.toNat) (n := m.toNat) (by simp [rRep]) (by omega) hmax hsz hEncL
  refine ⟨_, .slice (some ⟨w.heap.size, 0, none⟩) m.toNat n.toNat, _, _, ?_, .inl rfl, g2, ⟨.inr rfl, by simp [Env.row], rfl⟩, g1, U_row (fun _ => Iff.rfl)⟩
  have w1 : IntKind.i64.wrap m = m := wrap_small k0 (by omega)
  have w2 : IntKind.i64.wrap n = n := wrap_small (by omega) (by omega)
  have hty : (typeInfo e).run P w = .ok i w := by simp [typeInfo, hi]
  have hs : (sizeOf e).run P w = .ok i.size w := by simp [sizeOf, typeInfo, hi]
  have hzr : (zeroValue e).run P w = .ok zv w := by simp [zeroValue, typeInfo, hi, hiz]
  have hbig : ¬ (i.bytes : Int) * n > 2 ^ 48 := by rw [hib, Int.mul_comm]; omega
  have hcond : ((decide (n < 0) || decide ((i.bytes : Int) * n > 2 ^ 48)) || decide (m < 0) || decide (m > n)) = false := by
    simp only [Bool.or_eq_false_iff, decide_eq_false_iff_not]
    exact ⟨⟨⟨by omega, hbig⟩, by omega⟩, by omega⟩
  simp only [execOp, ho, Instr.makeSlice, hx, hy, Sem.run_bind, run_underlying (sliceB_some he), Result.andThen_ok, asInt, asIntOf, Sem.run_pure, hty, w1, w2, Sem.run_ite, hcond, Bool.false_eq_true, if_false, run_askRoom, hs]
  by_cases hz0 : n.toNat * i.size = 0
  · have e0 : ((Array.range (n.toNat * i.size)).map (zv.cells[· % zv.cells.size]!)) = #[] := by rw [hz0]; simp
    rw [e0]
    simp only [hz0, if_true, Result.andThen_ok, newRow, Sem.run_bind, run_newObj, Sem.run_pure]
    have e1 : (Array.range 0).map (fun x => (#[] : Array Value)[x % (#[] : Array Value).size]!) = #[] := by simp
    rw [e1]
    rfl
  · simp only [hz0, if_false, hzr, Result.andThen_ok, newRow, Sem.run_bind, run_newObj, Sem.run_pure]
    rfl

theorem op_makeSlice (h : Sim B S E a w) {id : Nat} (hid : ¬ E.U id) {o : Oper} {t : TypeId} {x y : Operand} (ho : o.op = .makeSlice t x y) {r : Out} (hb : opB P S id (.makeSlice t x y) = some r) (hok : r.ok = true) :
    OpOk P B S E a w id o r.d := by
  simp only [opB, Option.bind_eq_some_iff] at hb
  obtain ⟨e, he, eb, heb, c1, hc1, c2, hc2, hb⟩ := hb
  have h1 := h.evalC hc1
  have h2 := h.evalC hc2
  split at hb
  · cases hb
    exact makeSlice_aux h hid ho he heb (val_int h1.2) (val_int h2.2) hok
  · cases hb

end
end Go.Proofs.YtpggnojbbibnnaaT

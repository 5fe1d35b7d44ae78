/- What is stored stays lent; an element of a deep row is deleted. -/
import Derived.Test.YtmbmapbdbbnaeaaTiWD
set_option linter.unusedVariables false
set_option linter.unusedSimpArgs false
namespace Go.Proofs.YtmbmapbdbbnaeaaT
open Go

section
variable {P : Program} {G : List Spec} {B : Base} {S : St} {E : Env} {a : Act} {w : World}

theorem isLent_pos {t : Ty} {h : Option Note} (e : isLent h = false) : lentPos t h = none := by
  unfold lentPos
  split
  · simp [isLent] at e
  · rfl
theorem ownPos_some : ∀ {cs : List AC} {j q m : Nat}, ownPos j cs = some (q, m) → j ≤ q ∧ cs[q - j]? = some (.own m)
  | [], j, q, m, h => by simp [ownPos] at h
  | c :: cs, j, q, m, h => by
    have step : ownPos (j + 1) cs = some (q, m) → j ≤ q ∧ (c :: cs)[q - j]? = some (.own m) := fun h => by
      obtain ⟨h1, h2⟩ := ownPos_some h
      refine ⟨by omega, ?_⟩
      rw [show q - j = (q - (j + 1)) + 1 by omega]
      exact h2
    cases c with
    | own k =>
      simp only [ownPos] at h
      cases h
      exact ⟨Nat.le_refl _, by rw [Nat.sub_self]; rfl⟩
    | _ => exact step (by simpa only [ownPos] using h)

/-- A cell of a deep row is noted. -/
theorem Sim.note (h : Sim B S E a w) {k : Nat} {t : Ty} {l : List t.T} (hr : S.rows k = some ⟨true, .deep none t, l⟩) {i : Int} {o m : Nat} (hU : E.U m) (n2 : i.toNat < l.length) (n3 : o < t.size)
    (hcell : ∀ xs, Owned w t.size (E.hv k) l.length xs → xs[i.toNat * t.size + o]? = some (E.hv m)) (h1 : (E.hv m).oneCell' = true) (hrow : ∃ u y, (flat t (rGet t.dflt l i))[o]? = some (.v (.row u) y)) :
    Sim B { S with rows := upd S.rows k (some ⟨true, .deep (some ⟨false, i, o, m⟩) t, l⟩) } E a w := by
  obtain ⟨xs, hx, hk, hxl, _, hown, hs⟩ := h.deepRow hr
  have hget : l[i.toNat]? = some (rGet t.dflt l i) := by simp [rGet, n2]
  obtain ⟨u, y, hy⟩ := hrow
  have hk2 : Kids w E.U E.hv (some ⟨false, i, o, m⟩) t l xs (E.hv k) :=
    { one := hk.one
      kid := fun j c v hc hv _ => hk.kid j c v hc hv (by simp [lentPos])
      note := fun n hn => by
        cases hn
        exact ⟨hU, n2, n3, hcell xs hx, h1, u, y, by rw [cellsL_get (t := t) hget n3]; exact hy⟩
      inj := fun j j' v v' b hv hv' _ _ hb hb' => hk.inj j j' v v' b hv hv' (by simp [lentPos]) (by simp [lentPos]) hb hb'
      out := fun j v b hv _ hb => hk.out j v b hv (by simp [lentPos]) hb }
  refine h.setRowSt (k := k) (r := ⟨true, .deep (some ⟨false, i, o, m⟩) t, l⟩) (h.rowU k _ hr) ⟨hs, trivial, xs, by rw [hs]; exact hx, hk2⟩ (fun _ b hb => ?_)
  have hb' : OwnB w (E.hv k) (.deep none t) l b := hb.imp (fun h => h) fun ⟨j, v, r1, r2, r3⟩ => ⟨j, v, r1, by simp [lentPos], r3⟩
  obtain ⟨z1, z2, z3, z4⟩ := h.rowNew k _ b hr rfl hb'
  exact ⟨z1, z2, z3, z4⟩

theorem keep_store (h : Sim B S E a w) {id : Nat} {o : Oper} {t : TypeId} {x y : Operand} (ho : o.op = .store t x y) {r : Out} (hb : keepStore P S t x y = some r) : r.ok = true ∧ OpOk P B S E a w id o r.d := by
  simp only [keepStore, Option.bind_eq_some_iff] at hb
  obtain ⟨c, hc, v, hv, n, hn, hb⟩ := hb
  have h1 := h.evalC hc
  have h2 := (h.evalW hv).cells
  split at hb
  · rename_i k i off
    split at hb
    · rename_i hcond
      simp only [Bool.and_eq_true, Bool.not_eq_true', List.contains_eq_mem, decide_eq_false_iff_not] at hcond
      obtain ⟨hsz, hk⟩ := hcond
      have hsz := beq_nat.1 hsz
      have hcs : (a.eval y).cells.size = n := by rw [← hsz, h2.1, Array.length_toList]
      simp only [Option.bind_eq_some_iff] at hb
      obtain ⟨r0, hr0, hb⟩ := hb
      split at hb
      · rename_i hown
        obtain ⟨ro, rt, rl⟩ := r0
        simp only at hown hb
        subst hown
        cases rt with
        | deep h0 u =>
          simp only [keepRow] at hb
          split at hb
          · cases hb
          · rename_i hl0
            simp only [Option.bind_eq_some_iff] at hb
            obtain ⟨l', hl', x', hx', ks, hks, p, hp, hb⟩ := hb
            split at hb
            · rename_i m u' y' hy'
              split at hb
              · rename_i hc3
                cases hb
                refine ⟨rfl, ?_⟩
                simp only [Bool.and_eq_true, Bool.not_eq_true'] at hc3
                obtain ⟨⟨hm, hkm⟩, hms⟩ := hc3
                have hm := beq_nat.1 hm
                have hkm := beq_nat'.1 hkm
                obtain ⟨p1, p2⟩ := p
                simp only at hm hy' ⊢
                subst hm
                obtain ⟨_, hpc⟩ := ownPos_some hp
                rw [Nat.sub_zero] at hpc
                have hlent := isLent_pos (t := u) hl0
                have T := takeOwn_ok hks
                obtain ⟨_, q, hq, _⟩ := T.own p1 m hpc
                have hUm := h.rowU m q hq
                have hszm : E.sz m = u'.size := by
                  unfold sizeOf' at hms
                  rw [hq] at hms
                  rw [(h.rows m q hq).1]; exact beq_nat.1 hms
                obtain ⟨g, f, cur, e, r1, r2, r3, r4, r5⟩ := store_deep h hr0 h1 hlent h2 hks hk hl' hx'
                have hst := run_storeB (P := P) (f := f) hn r2 hcs (by rw [← hcs, ← Array.length_toList]; exact r3) h2.one
                obtain ⟨gg, cc, xs, e1, e2, e3, e4, e5, e6, e7, e8⟩ := h.elemD h1 hr0
                have hf : g = gg ∧ f = i.toNat * u.size + off := by
                  rw [r1] at e4; cases e4; exact ⟨rfl, rfl⟩
                obtain ⟨rfl, rfl⟩ := hf
                -- the state behind the store
                have hrk : (setAll S.rows (drops [m] ++ [(k, some ⟨true, .deep none u, rSet rl i x'⟩)])) k = some ⟨true, .deep none u, rSet rl i x'⟩ := by
                  show upd (upd S.rows m none) k _ k = _
                  rw [upd_same]
                have hlen : (rSet rl i x').length = rl.length := by simp [rSet]
                have hget : rGet u.dflt (rSet rl i x') i = x' := by
                  simp [rGet, rSet, e3]
                have hfit := splice_some hl'
                rw [flat_len] at hfit
                have hp1 : p1 < v.cells.length := (List.getElem?_eq_some_iff.1 hpc).1
                have hpv : (a.eval y).cells.toList[p1]? = some (E.hv m) := by
                  have hlt : p1 < (a.eval y).cells.toList.length := by rw [← h2.1]; exact hp1
                  have := h2.2 p1 _ _ hpc (List.getElem?_eq_getElem hlt)
                  rw [List.getElem?_eq_getElem hlt, this.2.1]
                have h1c : (E.hv m).oneCell' = true := h2.one _ (List.mem_of_getElem? hpv)
                have hn1 := r4.note (k := k) (t := u) (l := rSet rl i x') hrk (i := i) (o := off + p1) (m := m) hUm (by rw [hlen]; exact e3) (by omega) (fun ys hys => by
                    have hblk : (E.hv k).ownBlock = some g := by rw [e1]; rfl
                    obtain ⟨cap, cur', e', f1, f2, f3, f4, f5, f6⟩ := hys.blk hblk
                    have := setRow_heap w g cur ((cur.toList.take (i.toNat * u.size + off) ++ ((a.eval y).cells.toList ++ cur.toList.drop (i.toNat * u.size + off + (a.eval y).cells.toList.length))).toArray) e _ r2
                    rw [this] at f2
                    cases f2
                    have hi1 : i.toNat * u.size + u.size ≤ rl.length * u.size := by
                      have := Nat.mul_le_mul_right u.size (Nat.succ_le_of_lt e3)
                      rwa [Nat.succ_mul] at this
                    rw [← f6, List.getElem?_take, if_pos (by rw [hlen]; omega)]
                    show (cur.toList.take (i.toNat * u.size + off) ++ ((a.eval y).cells.toList ++ cur.toList.drop (i.toNat * u.size + off + (a.eval y).cells.toList.length)))[i.toNat * u.size + (off + p1)]? = _
                    have hpl : p1 < (a.eval y).cells.toList.length := by rw [← h2.1]; exact hp1
                    rw [splice_get _ _ _ _ (by rw [Array.length_toList (xs := cur)]; exact r3), if_neg (by omega), if_pos (by omega), show i.toNat * u.size + (off + p1) - (i.toNat * u.size + off) = p1 by omega]
                    exact hpv) h1c ⟨u', y', by rw [hget]; exact hy'⟩
                have hl1 : lend { S with rows := upd (setAll S.rows (drops [m] ++ [(k, some ⟨true, .deep none u, rSet rl i x'⟩)])) k (some ⟨true, .deep (some ⟨false, i, off + p1, m⟩) u, rSet rl i x'⟩) } k m u'.size =
                    some { S with rows := setAll (upd (setAll S.rows (drops [m] ++ [(k, some ⟨true, .deep none u, rSet rl i x'⟩)])) k (some ⟨true, .deep (some ⟨false, i, off + p1, m⟩) u, rSet rl i x'⟩)) [(k, some ⟨true, .deep (some ⟨true, i, off + p1, m⟩) u, rSet rl i x'⟩), (m, some ⟨true, u', y'⟩)] } := by
                  have hb3 : Nat.beq u'.size u'.size = true := beq_nat.2 rfl
                  simp only [lend, upd_same, lendRow, hget, hy', beq_nat.2 (rfl : m = m), beq_nat'.2 hkm, Bool.not_false, Bool.and_self, hb3, Option.bind_some]
                obtain ⟨hS, _⟩ := lend_ok hn1 ⟨hUm, hszm⟩ hl1
                refine ⟨_, undef, _, E, ?_, .inr ⟨rfl, rfl⟩, r5, rfl, ?_, fun n hn => .inl hn⟩
                · simp only [execOp, ho, Instr.storeAt, r1, Instr.sureAddr, Sem.run_bind, Sem.run_pure, Result.andThen_ok, hst]
                · have e9 : setAll (upd (setAll S.rows (drops [m] ++ [(k, some ⟨true, .deep none u, rSet rl i x'⟩)])) k (some ⟨true, .deep (some ⟨false, i, off + p1, m⟩) u, rSet rl i x'⟩)) [(k, some ⟨true, .deep (some ⟨true, i, off + p1, m⟩) u, rSet rl i x'⟩), (m, some ⟨true, u', y'⟩)] =
                      setAll S.rows [(m, none), (k, some ⟨true, .deep (some ⟨true, i, off + p1, m⟩) u, rSet rl i x'⟩), (m, some ⟨true, u', y'⟩)] := by
                    show upd (upd (upd (upd (upd S.rows m none) k _) k _) k _) m _ = upd (upd (upd S.rows m none) k _) m _
                    rw [upd_upd, upd_upd]
                  rw [← e9]
                  exact hS
              · cases hb
            · cases hb
        | _ => simp only [keepRow] at hb; cases hb
      · cases hb
    · cases hb
  · cases hb

theorem keep_load (h : Sim B S E a w) {id : Nat} {o : Oper} {t : TypeId} {x : Operand} (ho : o.op = .load t x) {r : Out} (hb : keepLoad P S t x = some r) : r.ok = true ∧ OpOk P B S E a w id o r.d := by
  simp only [keepLoad, Option.bind_eq_some_iff] at hb
  obtain ⟨c, hc, n, hn, hb⟩ := hb
  have h1 := h.evalC hc
  split at hb
  · rename_i b off hg
    simp only [Option.bind_eq_some_iff] at hb
    obtain ⟨cs, hcs, l, hl, p, hp, δ, hδ, e⟩ := hb
    cases e
    refine ⟨rfl, ?_⟩
    obtain ⟨us, e, hw, ha⟩ := h.boxes _ cs hcs
    obtain ⟨h2, h3⟩ := window_acs hl ha
    obtain ⟨v, hv, hvr⟩ := run_loadVarB (P := P) (b := E.β b) (f := off) (x := .agg l) hn hg h3 (fun j u hu => by
      rw [cell_row hw]
      rw [List.getElem?_take] at hu
      split at hu
      · rw [List.getElem?_drop] at hu; simpa using hu
      · cases hu) rfl h2
    obtain ⟨q1, q2, q3⟩ := giveBack_ok (S := S) (S1 := S) (E2 := E) (w2 := w) (a := a) (B := B) (δ0 := { val := .w (.agg l) }) h ⟨S.rows, rfl, fun _ _ _ => rfl⟩ hδ
    refine ⟨_, v, w, E, ?_, .inl rfl, Env.le.refl w E, by rw [q1]; exact hvr, by rw [q2]; exact q3, fun n hn => .inl hn⟩
    simp only [execOp, ho, Instr.loadAt, h1.2, Instr.sureAddr, Sem.run_bind, Sem.run_pure, Result.andThen_ok, hv]
  · cases hb

theorem cellsL_app {t : Ty} (l m : List t.T) : cellsL t (l ++ m) = cellsL t l ++ cellsL t m := by simp [cellsL]
theorem cellsL_take {t : Ty} (l : List t.T) (i : Nat) : cellsL t (l.take i) = (cellsL t l).take (i * t.size) := by
  by_cases hi : i ≤ l.length
  · have h : cellsL t l = cellsL t (l.take i) ++ cellsL t (l.drop i) := by rw [← cellsL_app, List.take_append_drop]
    have hl : (cellsL t (l.take i)).length = i * t.size := by rw [cellsL_len, List.length_take, Nat.min_eq_left hi]
    rw [h, ← hl, List.take_left']
    rfl
  · have h1 := Nat.mul_le_mul_right t.size (show l.length ≤ i by omega)
    rw [List.take_of_length_le (by omega), List.take_of_length_le (by rw [cellsL_len]; exact h1)]
theorem cellsL_drop {t : Ty} (l : List t.T) (i : Nat) : cellsL t (l.drop i) = (cellsL t l).drop (i * t.size) := by
  by_cases hi : i ≤ l.length
  · have h : cellsL t l = cellsL t (l.take i) ++ cellsL t (l.drop i) := by rw [← cellsL_app, List.take_append_drop]
    have hl : (cellsL t (l.take i)).length = i * t.size := by rw [cellsL_len, List.length_take, Nat.min_eq_left hi]
    rw [h, ← hl, List.drop_left']
    rfl
  · have h1 := Nat.mul_le_mul_right t.size (show l.length ≤ i by omega)
    rw [List.drop_eq_nil_of_le (by omega), List.drop_eq_nil_of_le (by rw [cellsL_len]; exact h1)]; rfl

theorem delOf_some : ∀ {G : List Spec} {g : FuncId} {t : Ty}, delOf g G = some t → ∃ sp ∈ G, sp.sig.f = g ∧ sp.del = some t
  | [], g, t, h => by simp [delOf] at h
  | sp :: G, g, t, h => by
    simp only [delOf] at h
    split at h
    · rename_i t' h1 h2
      cases h
      exact ⟨sp, by simp, beq_nat.1 h1, h2⟩
    · obtain ⟨sp', h1, h2⟩ := delOf_some h
      exact ⟨sp', List.mem_cons_of_mem _ h1, h2⟩

theorem Kid.one' {c : AC} {v : Value} (h : Kid w c v) : v.oneCell' = true := h.one
theorem cut_get {α : Type} (l : List α) (m s p : Nat) (h : m + s ≤ l.length) : (l.take m ++ l.drop (m + s))[p]? = if p < m then l[p]? else l[p + s]? := by
  rw [List.getElem?_append, List.length_take, Nat.min_eq_left (by omega)]
  split
  · rename_i hp; rw [List.getElem?_take, if_pos hp]
  · rename_i hp; rw [List.getElem?_drop, show m + s + (p - m) = p + s by omega]
/-- The cells of a deep row without one element. -/
theorem del_core {g0 : FuncId} {u : Ty} (hraw : DelRaw P g0 u.size) (h : Sim B S E a w) {id : Nat} (hid : ¬ E.U id) {k : Nat} {h0 : Option Note} {l : List u.T} (hr : S.rows k = some ⟨true, .deep h0 u, l⟩) {i : Int}
    (hl : ∀ m, h0 = some m → m.lent = true → m.i = i) (i0 : 0 ≤ i) (i1 : i.toNat < l.length) :
    Calls P g0 #[E.hv k, .int .i64 i, .int .i64 (i + 1)] w fun e' w' => ∃ v', e' = .returned v' ∧ E.le w w' (E.row id v' u.size) ∧ AVr w' (E.row id v' u.size) (.w (.c (.own id))) v' ∧
      Sim B { S with rows := upd (upd S.rows k none) id (some ⟨true, .deep none u, l.take i.toNat ++ l.drop (i.toNat + 1)⟩) } (E.row id v' u.size) a w' := by
  obtain ⟨xs, hx, hk⟩ := (h.rows k _ hr).ownB rfl
  have hs : E.sz k = u.size := (h.rows k _ hr).1
  rw [hs] at hx
  have hk : Kids w E.U E.hv h0 u l xs (E.hv k) := hk
  simp only at hx
  have hUk := h.rowU k _ hr
  have hxl : xs.length = l.length * u.size := hx.1
  obtain ⟨g, hblk⟩ : ∃ g, (E.hv k).ownBlock = some g := by
    rcases hx.2 with ⟨_, hz⟩ | ⟨g, cap, cur, e, hv, _⟩
    · omega
    · exact ⟨g, by rw [hv]; rfl⟩
  obtain ⟨cap, cur, e, e1, e2, e3, e4, e5, e6⟩ := hx.blk hblk
  -- a lent cell belongs to the element
  have hlo : ∀ p, lentPos u h0 = some p → i.toNat * u.size ≤ p ∧ p < i.toNat * u.size + u.size := fun p hp => by
    cases h0 with
    | none => cases hp
    | some m =>
      obtain ⟨_, _, n3, _⟩ := hk.note m rfl
      have hm := hl m rfl
      obtain ⟨b, i', o', q⟩ := m
      cases b with
      | false => simp [lentPos] at hp
      | true =>
        simp only [lentPos, Option.some.injEq] at hp
        have hm : i' = i := hm rfl
        have n3 : o' < u.size := n3
        subst hm
        omega
  have hi1 : i.toNat * u.size + u.size ≤ l.length * u.size := by
    have := Nat.mul_le_mul_right u.size (Nat.succ_le_of_lt i1)
    rwa [Nat.succ_mul] at this
  have hone : ∀ v ∈ cur.toList.take (l.length * u.size), v.oneCell' = true := fun v hv => by
    rw [e6] at hv
    obtain ⟨p, hp, rfl⟩ := List.getElem_of_mem hv
    by_cases hlp : lentPos u h0 = some p
    · cases h0 with
      | none => cases hlp
      | some m =>
        obtain ⟨_, _, _, n4, n5, _⟩ := hk.note m rfl
        have : m.i.toNat * u.size + m.o = p := by
          obtain ⟨b, i', o', q⟩ := m
          cases b <;> simp [lentPos] at hlp
          exact hlp
        rw [this, List.getElem?_eq_getElem hp] at n4
        rw [Option.some.inj n4]; exact n5
    · have hc : p < (cellsL u l).length := by rw [cellsL_len, ← hxl]; exact hp
      exact (hk.kid p _ _ (List.getElem?_eq_getElem hc) (List.getElem?_eq_getElem hp) hlp).one
  have hml : maxLen = 9223372036854775807 := rfl
  have hcall := hraw.2 w g l.length cap i.toNat cur e e2 e3 (by rw [← hml]; exact e4) e5 hone i1
  rw [show ((i.toNat : Nat) : Int) = i by omega, show ((i.toNat + 1 : Nat) : Int) = i + 1 by omega] at hcall
  rw [e1]
  refine hcall.mono fun e' w' hp => ?_
  obtain ⟨rfl, w1, w2, w3, w4, w5, cur', w6, w7, w8⟩ := hp
  obtain ⟨n1, n2, n3, n4⟩ := h.rowNew k _ g hr rfl (.inl hblk)
  refine ⟨_, rfl, ?_⟩
  generalize hv' : (Value.slice (some ⟨g, 0, none⟩) (l.length - 1) cap) = v'
  have hb' : v'.ownBlock = some g := by rw [← hv']; rfl
  -- the state without the row, in the new world
  have g1 := (h.dropRow k).world (w' := w') w1 w2 w3 (by omega) (fun b hb => w5 b fun e => n2 (e ▸ hb)) (fun b cs hb => w5 _ (n3 b cs hb))
    (fun k' r' g' hk' ho' hg' => w5 _ fun e => (upd_none hk').1 (n4 k' r' (upd_none hk').2 ho' (e ▸ hg'))) (fun b hb hm => w5 b fun e => by
      rcases n1 with n1 | n1
      · rw [e] at hb; omega
      · rw [e] at hm; exact hm n1)
  rw [e6] at w8
  generalize hys : xs.take (i.toNat * u.size) ++ xs.drop ((i.toNat + 1) * u.size) = ys at w8
  generalize hm : l.take i.toNat ++ l.drop (i.toNat + 1) = m
  have hml' : m.length = l.length - 1 := by rw [← hm, List.length_append, List.length_take, List.length_drop]; omega
  have hsub1 : (l.length - 1) * u.size = l.length * u.size - u.size := by rw [Nat.sub_mul, Nat.one_mul]
  have hyl : ys.length = m.length * u.size := by
    rw [hml', ← hys, List.length_append, List.length_take, List.length_drop, hxl, Nat.succ_mul, hsub1]; omega
  have hyg : ∀ p, ys[p]? = if p < i.toNat * u.size then xs[p]? else xs[p + u.size]? := fun p => by
    rw [← hys, Nat.succ_mul]; exact cut_get xs _ _ p (by omega)
  have hcg : ∀ p, (cellsL u m)[p]? = if p < i.toNat * u.size then (cellsL u l)[p]? else (cellsL u l)[p + u.size]? := fun p => by
    rw [← hm, cellsL_app, cellsL_take, cellsL_drop, Nat.succ_mul]; exact cut_get _ _ _ p (by rw [cellsL_len]; omega)
  have back : ∀ (p : Nat) v, ys[p]? = some v → ∃ p', xs[p']? = some v ∧ lentPos u h0 ≠ some p' ∧ (cellsL u m)[p]? = (cellsL u l)[p']? ∧ (p < i.toNat * u.size ∧ p' = p ∨ i.toNat * u.size ≤ p ∧ p' = p + u.size) := fun p v hv => by
    rw [hyg] at hv
    split at hv
    · rename_i hp
      refine ⟨p, hv, fun e => ?_, by rw [hcg, if_pos hp], .inl ⟨hp, rfl⟩⟩
      have := hlo p e; omega
    · rename_i hp
      refine ⟨p + u.size, hv, fun e => ?_, by rw [hcg, if_neg hp], .inr ⟨by omega, rfl⟩⟩
      have := hlo _ e; omega
  have ownOld : ∀ (p : Nat) v b, xs[p]? = some v → lentPos u h0 ≠ some p → v.ownBlock = some b → OwnB w (E.hv k) (.deep h0 u) l b := fun p v b hv hp hb => OwnB.kid (t := u) (h := h0) (kids_owned hx) hv hp hb
  have L : E.le w w' (E.row id v' u.size) := Env.le_row hid fun b hb => w5 b fun e => n2 (e ▸ hb)
  have hown : Owned w' u.size v' m.length ys := ⟨hyl, .inr ⟨g, cap, cur', e, by rw [← hv', hml'], w6, by omega, e4, w7, by rw [hml']; exact w8⟩⟩
  have hkid : ∀ (U : Nat → Prop) (hv : Nat → Value), Kids w' U hv none u m ys v' := fun U hv =>
    { one := hk.one
      kid := fun p c v hc hv _ => by
        obtain ⟨p', q1, q2, q3, _⟩ := back p v hv
        rw [q3] at hc
        exact (hk.kid p' c v hc q1 q2).world fun b hb => w5 b fun e => hk.out p' v b q1 q2 hb (by rw [e]; exact hblk)
      note := fun n hn => by cases hn
      inj := fun p p' v v2 b hv hv2 _ _ hb hb2 => by
        obtain ⟨q, q1, q2, _, q4⟩ := back p v hv
        obtain ⟨q', q1', q2', _, q4'⟩ := back p' v2 hv2
        have := hk.inj q q' v v2 b q1 q1' q2 q2' hb hb2
        omega
      out := fun p v b hv _ hb e => by
        obtain ⟨q, q1, q2, _, _⟩ := back p v hv
        rw [hb'] at e
        exact hk.out q v b q1 q2 hb (by rw [← Option.some.inj e]; exact hblk) }
  have hbk : ∀ k' r' b, (upd S.rows k none) k' = some r' → r'.own = true → OwnB w' (E.hv k') r'.t r'.l b → k' ≠ k ∧ S.rows k' = some r' ∧ OwnB w (E.hv k') r'.t r'.l b := fun k' r' b hk' ho' hg' => by
    obtain ⟨q1, q2⟩ := upd_none hk'
    refine ⟨q1, q2, (OwnB.world fun b' hb' => w5 b' fun e => ?_).1 hg'⟩
    exact q1 (n4 k' r' q2 ho' (.inl (e ▸ hb')))
  obtain ⟨g2, _⟩ := g1.newRow (id := id) (sz := u.size) (v := v') (r := ⟨true, .deep none u, m⟩) hid ⟨rfl, trivial, ys, hown, hkid E.U E.hv⟩ (fun _ b hb => by
    have hob : OwnB w (E.hv k) (.deep h0 u) l b := by
      rcases hb with hb | ⟨p, v, q1, _, q3⟩
      · rw [hb'] at hb; cases hb; exact .inl hblk
      · change (kids _ _ u.size)[p]? = some v at q1
        rw [kids_owned (sz := u.size) hown] at q1
        obtain ⟨p', q4, q5, _⟩ := back p v q1
        exact ownOld p' v b q4 q5 q3
    obtain ⟨m1, m2, m3, m4⟩ := h.rowNew k _ b hr rfl hob
    exact ⟨m1, m2, m3, fun k' r' hk' ho' hg' => by
      obtain ⟨q1, q2, q3⟩ := hbk k' r' b hk' ho' hg'
      exact absurd (m4 k' r' q2 ho' q3) q1⟩)
  refine ⟨L, ⟨.inr rfl, ?_, ?_⟩, g2⟩
  · simp [Env.row]
  · rw [← hv']; rfl

theorem keep_del (hG : ∀ sp ∈ G, Holds P sp) (h : Sim B S E a w) {id : Nat} (hid : ∀ n, id ≤ n → n < id + 64 → ¬ E.U n) {o : Oper} {c : Call} (ho : o.op = .call c) {r : Out} (hb : keepDel G S id c = some r) (hok : r.ok = true)
    {K : Act → World → Prop} {Q : Exit → Act → World → Prop}
    (hK : ∀ v w' E', E.le w w' E' → AVr w' E' r.d.val v → Sim B { S with boxes := setBoxes S.boxes r.d.boxes, rows := setAll S.rows r.d.rows } E' a w' → (∀ n, E'.U n → E.U n ∨ (id ≤ n ∧ n < id + 64)) → K (a.put o.dst v) w') :
    o.wp P a w K Q := by
  unfold keepDel at hb
  split at hb
  · rename_i f x y z hcal hargs
    split at hb
    · rename_i g0 k i j hf hx hy hz
      simp only [Option.bind_eq_some_iff] at hb
      obtain ⟨u, hu, r0, hr0, hb⟩ := hb
      obtain ⟨sp, hsp, hspf, hspd⟩ := delOf_some hu
      have hraw := (hG sp hsp).2.2.1 u hspd
      rw [hspf] at hraw
      obtain ⟨⟨fn, f1, f2, f3⟩, _⟩ := (show _ from hraw : DelRaw P g0 u.size)
      split at hb
      · rename_i hown
        obtain ⟨ro, rt, rl⟩ := r0
        simp only at hown hb
        subst hown
        obtain ⟨us, e1, hcaps⟩ := h.eval hf
        have hus : us = [] := List.eq_nil_of_length_eq_zero hcaps.1.symm
        subst hus
        have hxv := h.evalC hx
        have hyv : a.eval y = .int .i64 i := val_int (h.evalC hy).2
        have hzv : a.eval z = .int .i64 j := val_int (h.evalC hz).2
        cases rt with
        | deep h0 t =>
          have key : t = u ∧ r.d = delD k id i j t rl ∧ (∀ m, h0 = some m → m.lent = true → m.i = i) ∧ iEq j (iAdd .i64 i 1) = true ∧ cIdx i (rLen rl) = true := by
            simp only [delRow] at hb
            split at hb
            · rename_i b i0 o' m hd
              cases hb
              simp only [bAnd, Bool.and_eq_true] at hok
              obtain ⟨o1, o2, o3⟩ := hok
              have o1 : i = b := by unfold iEq at o1; exact eq_of_beq o1
              exact ⟨of_decide_eq_true hd, rfl, fun m' hm' _ => by cases hm'; exact o1.symm, o2, o3⟩
            · rename_i hd hno
              cases hb
              simp only [bAnd, Bool.and_eq_true] at hok
              obtain ⟨o2, o3⟩ := hok
              refine ⟨of_decide_eq_true hd, rfl, fun m' hm' hl' => ?_, o2, o3⟩
              obtain ⟨b, i', o', q⟩ := m'
              simp only at hl'
              subst hl'
              exact (hno _ _ _ hm').elim
            · cases hb
          obtain ⟨rfl, hd, hl, hj, hi⟩ := key
          unfold cIdx rLen at hi
          obtain ⟨i0, i1⟩ := of_decide_eq_true hi
          have hi1 : i.toNat < rl.length := by omega
          have hlen : (rl.length : Int) ≤ 9223372036854775807 := by
            obtain ⟨p, c', q1, q2⟩ := own_header h hr0 rfl
            obtain ⟨xs, hx', _⟩ := (h.rows k _ hr0).ownB rfl
            rcases hx'.2 with ⟨_, hz0⟩ | ⟨g, cap, cur, e, _, _, h3, h4, _⟩
            · have hz0 : rl.length = 0 := hz0
              omega
            · have h3 : rl.length ≤ cap := h3
              have hml : maxLen = 9223372036854775807 := rfl
              rw [hml] at h4
              omega
          have hj' : j = i + 1 := by
            unfold iEq at hj
            have := eq_of_beq hj
            rw [this]
            show IntKind.wrap .i64 (i + 1) = i + 1
            rw [IntKind.wrap_i64]
            omega
          subst hj'
          have hrun : (execOp a.eval o).run P w = .ok (.enter g0 #[E.hv k, .int .i64 i, .int .i64 (i + 1)]) w := by
            have e2 : c.args.map a.eval ++ (#[] : Array Value) = #[E.hv k, .int .i64 i, .int .i64 (i + 1)] := by
              apply Array.ext'
              simp only [Array.toList_append, Array.toList_map, hargs, List.map_cons, List.map_nil, hyv, hzv, hxv.2.1]
              rfl
            simp only [execOp, ho, resolve, hcal, Deferred.ofValue, e1, Sem.run_bind, Sem.run_pure, Result.andThen_ok, invoke, callFunc, run_program, f1, f2, f3, Bool.false_eq_true, if_false, Sem.run_ite]
            rw [← e2]
            simp
          unfold Oper.wp
          rw [hrun]
          show Calls P g0 _ w _
          refine (del_core hraw h (hid id (Nat.le_refl _) (by omega)) hr0 hl i0 hi1).mono fun e' w' hp => ?_
          obtain ⟨v', rfl, L, hv, hS⟩ := hp
          refine hK v' w' _ L (by rw [hd]; exact hv) ?_ fun n hn => hn.elim .inl fun e => .inr (by subst e; exact ⟨Nat.le_refl _, by omega⟩)
          rw [hd]
          have hl1 : rApp (rSub rl 0 i) (rSub rl (i + 1) (rLen rl)) = rl.take i.toNat ++ rl.drop (i.toNat + 1) := by
            unfold rApp rSub rLen
            rw [show (i + 1).toNat = i.toNat + 1 by omega, show (0 : Int).toNat = 0 from rfl, List.drop_zero, show ((rl.length : Nat) : Int).toNat = rl.length by omega, List.take_length]
          show Sim B { S with rows := setAll S.rows [(k, none), (id, some ⟨true, .deep none t, rApp (rSub rl 0 i) (rSub rl (i + 1) (rLen rl))⟩)] } _ a w'
          rw [hl1]
          exact hS
        | _ => simp only [delRow] at hb; cases hb
      · cases hb
    · cases hb
  · cases hb

theorem keep_ok (hG : ∀ sp ∈ G, Holds P sp) (h : Sim B S E a w) {id : Nat} (hid : ∀ n, id ≤ n → n < id + 64 → ¬ E.U n) {o : Oper} {r : Out} (hb : keepB P G S id o.op = some r) (hok : r.ok = true)
    {K : Act → World → Prop} {Q : Exit → Act → World → Prop} (fin : OpOk P B S E a w id o r.d → o.wp P a w K Q)
    (hK : ∀ v w' E', E.le w w' E' → AVr w' E' r.d.val v → Sim B { S with boxes := setBoxes S.boxes r.d.boxes, rows := setAll S.rows r.d.rows } E' a w' → (∀ n, E'.U n → E.U n ∨ (id ≤ n ∧ n < id + 64)) → K (a.put o.dst v) w') :
    o.wp P a w K Q := by
  unfold keepB at hb
  split at hb
  · split at hb
    · rename_i t x y ho
      exact fin (keep_store h ho hb).2
    · rename_i t x ho
      exact fin (keep_load h ho hb).2
    · rename_i c ho
      split at hb
      · rename_i r' hr'
        cases hb
        exact keep_del hG h hid ho hr' hok hK
      · exact chunk_ok hG h hid ho hb hok hK
    · cases hb
  · split at hb
    · rename_i t x _ ho
      split at hb
      · exact fin (part_start h ho hb)
      · exact fin (part_load h (hid id (Nat.le_refl _) (by omega)) ho hb hok)
    · cases hb

end
end Go.Proofs.YtmbmapbdbbnaeaaT

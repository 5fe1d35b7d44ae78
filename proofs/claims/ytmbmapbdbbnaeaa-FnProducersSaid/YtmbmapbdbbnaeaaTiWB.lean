/- Operations on parts of rows. -/
import Derived.Test.YtmbmapbdbbnaeaaTiWA
set_option linter.unusedVariables false
set_option linter.unusedSimpArgs false
namespace Go.Proofs.YtmbmapbdbbnaeaaT
open Go

section
variable {P : Program} {B : Base} {S : St} {E : Env} {a : Act} {w : World}

theorem slice_run2 {t e : TypeId} {u : Ty} {q : Nat} (he : sliceB P t = some e) (hel : ElemIs P e u q) {p : Option Addr} {n c lo hi : Nat} {x y : Option Value}
    (hlo : (x = none ∧ lo = 0) ∨ ∃ k j, x = some (.int k j) ∧ 0 ≤ j ∧ lo = j.toNat) (hhi : (y = none ∧ hi = n) ∨ ∃ k j, y = some (.int k j) ∧ 0 ≤ j ∧ hi = j.toNat) (h0 : lo ≤ hi) (h1 : hi ≤ c) (w : World) :
    (Instr.sliceAt t (.slice p n c) x y none).run P w = .ok (.slice (if c = lo then p else p.map (·.add (lo * u.size))) (hi - lo) (c - lo)) w := by
  have hb : (Instr.sliceBounds true n c x y none).run P w = .ok (lo, hi, c) w := by
    unfold Instr.sliceBounds
    rcases hhi with ⟨rfl, rfl⟩ | ⟨k, j, rfl, j0, rfl⟩ <;> rcases hlo with ⟨rfl, rfl⟩ | ⟨k', j', rfl, j0', rfl⟩
    · rfl
    · simp only [Sem.run_bind, Sem.run_pure, Result.andThen_ok, bound_run (P := P) (y := hi) (code := .sliceB) rfl j0' (by omega) w, Option.isSome_none, Bool.false_eq_true, if_false]
    · simp only [Sem.run_bind, Sem.run_pure, Result.andThen_ok, if_true, bound_run (P := P) (y := c) (code := .sliceAcap) rfl j0 (by omega) w]
    · simp only [Sem.run_bind, Sem.run_pure, Result.andThen_ok, if_true, bound_run (P := P) (y := c) (code := .sliceAcap) rfl j0 (by omega) w, bound_run (P := P) (y := j.toNat) (code := .sliceB) rfl j0' (by omega) w, Option.isSome_none, Bool.false_eq_true, if_false]
  simp only [Instr.sliceAt, Instr.slice, Sem.run_bind, run_underlying (sliceB_some he), Result.andThen_ok, hb, elem_size hel, Sem.run_pure]
theorem slice_run3 {t e : TypeId} {u : Ty} {q : Nat} (he : sliceB P t = some e) (hel : ElemIs P e u q) {p : Option Addr} {n c lo hi m : Nat} {x : Option Value} {y z : Value}
    (hlo : (x = none ∧ lo = 0) ∨ ∃ k j, x = some (.int k j) ∧ 0 ≤ j ∧ lo = j.toNat) (hhi : ∃ k j, y = .int k j ∧ 0 ≤ j ∧ hi = j.toNat) (hm : ∃ k j, z = .int k j ∧ 0 ≤ j ∧ m = j.toNat) (h0 : lo ≤ hi) (h1 : hi ≤ m) (h2 : m ≤ c) (w : World) :
    ∃ v, (Instr.sliceAt t (.slice p n c) x (some y) (some z)).run P w = .ok v w := by
  obtain ⟨k, j, rfl, j0, rfl⟩ := hhi
  obtain ⟨k', j', rfl, j0', rfl⟩ := hm
  have hb : (Instr.sliceBounds true n c x (some (.int k j)) (some (.int k' j'))).run P w = .ok (lo, j.toNat, j'.toNat) w := by
    unfold Instr.sliceBounds
    rcases hlo with ⟨rfl, rfl⟩ | ⟨k2, j2, rfl, j02, rfl⟩
    · simp only [Sem.run_bind, Sem.run_pure, Result.andThen_ok, if_true, bound_run (P := P) (y := c) (code := .slice3Acap) rfl j0' (by omega) w, bound_run (P := P) (y := j'.toNat) (code := .slice3B) rfl j0 (by omega) w]
    · simp only [Sem.run_bind, Sem.run_pure, Result.andThen_ok, if_true, bound_run (P := P) (y := c) (code := .slice3Acap) rfl j0' (by omega) w, bound_run (P := P) (y := j'.toNat) (code := .slice3B) rfl j0 (by omega) w, Option.isSome_some, bound_run (P := P) (y := j.toNat) (code := .slice3C) rfl j02 (by omega) w]
  refine ⟨.slice (if j'.toNat = lo then p else p.map (·.add (lo * u.size))) (j.toNat - lo) (j'.toNat - lo), ?_⟩
  simp only [Instr.sliceAt, Instr.slice, Sem.run_bind, run_underlying (sliceB_some he), Result.andThen_ok, hb, elem_size hel, Sem.run_pure]

theorem ownPlain_some {k : Nat} {r : RowSt} (h : ownPlain S k = some r) : S.rows k = some r ∧ r.own = true ∧ r.t.isDeep = false := by
  simp only [ownPlain, Option.bind_eq_some_iff] at h
  obtain ⟨r', h1, h⟩ := h
  split at h
  · rename_i hc
    cases h
    simp only [Bool.and_eq_true, Bool.not_eq_true'] at hc
    exact ⟨h1, hc⟩
  · cases h
/-- The header of a row of the state. -/
theorem own_header (h : Sim B S E a w) {k : Nat} {r : RowSt} (hr : S.rows k = some r) (ho : r.own = true) : ∃ p c, E.hv k = .slice p r.l.length c ∧ r.l.length ≤ c := by
  obtain ⟨xs, hx, _⟩ := (h.rows k r hr).ownB ho
  rcases hx.2 with ⟨hv, hz⟩ | ⟨g, cap, cur, e, hv, _, h3, _⟩
  · exact ⟨none, 0, by rw [hv, hz], by omega⟩
  · exact ⟨_, cap, hv, h3⟩

theorem in_slice (h : Sim B S E a w) {id : Nat} {o : Oper} {t : TypeId} {x : Operand} {lo hi mx : Option Operand} (ho : o.op = .slice t x lo hi mx) {r : Out} (hb : inSlice P S t x lo hi mx = some r) (hok : r.ok = true) :
    OpOk P B S E a w id o r.d := by
  simp only [inSlice, Option.bind_eq_some_iff] at hb
  obtain ⟨e, he, eb, heb, c, hc, q, hq, rs, hr, hb⟩ := hb
  obtain ⟨hr, hown, hdeep⟩ := ownPlain_some hr
  split at hb
  · rename_i hu
    simp only [Option.bind_eq_some_iff] at hb
    obtain ⟨l, hl, u, hh, hb⟩ := hb
    have hel := elemB_some heb
    have h1 := h.evalC hc
    obtain ⟨p, cc, hv, hle⟩ := own_header h hr hown
    have hx : a.eval x = .slice p rs.l.length cc ∧ E.U q.1 ∧ roomOf (rLen rs.l) q.2 ≤ (cc : Int) := by
      unfold rowTok at hq
      split at hq
      · cases hq
        exact ⟨h1.2.1.trans hv, h1.1, by show rLen rs.l ≤ (cc : Int); unfold rLen; omega⟩
      · cases hq
        obtain ⟨g1, g2, p', n', c', g3, g4⟩ := h1
        have : a.eval x = .slice p rs.l.length cc := g2.trans hv
        rw [this] at g3
        cases g3
        exact ⟨this, g1, g4⟩
      · cases hq
    obtain ⟨hx, hU, hroom⟩ := hx
    have hsz : E.sz q.1 = eb.1.size := by rw [(h.rows q.1 rs hr).1, hu]
    have hlo : (lo = none ∧ l = 0) ∨ ∃ y, lo = some y ∧ a.eval y = .int .i64 l := by
      cases lo with
      | none => cases hl; exact .inl ⟨rfl, rfl⟩
      | some y => exact .inr ⟨y, rfl, evalAs_int h hl⟩
    have hhi : (hi = none ∧ u = rLen rs.l) ∨ ∃ y, hi = some y ∧ a.eval y = .int .i64 u := by
      cases hi with
      | none => cases hh; exact .inl ⟨rfl, rfl⟩
      | some y => exact .inr ⟨y, rfl, evalAs_int h hh⟩
    have hlo' : ∀ (k0 : 0 ≤ l), (lo.map a.eval = none ∧ l.toNat = 0) ∨ ∃ k j, lo.map a.eval = some (.int k j) ∧ 0 ≤ j ∧ l.toNat = j.toNat := fun k0 => by
      rcases hlo with ⟨rfl, rfl⟩ | ⟨y, rfl, hy⟩
      · exact .inl ⟨rfl, rfl⟩
      · exact .inr ⟨.i64, l, by rw [Option.map_some, hy], k0, rfl⟩
    split at hb
    · cases hb
      unfold cSub at hok
      obtain ⟨k0, k1, k2⟩ := of_decide_eq_true hok
      refine OpOk.same h (v := .slice (if cc = l.toNat then p else p.map (·.add (l.toNat * eb.1.size))) (u.toNat - l.toNat) (cc - l.toNat)) ?_ ⟨hU, p, rs.l.length, cc, hv, k0, k1, by omega, by rw [hsz]⟩
      have := slice_run2 (P := P) (p := p) (n := rs.l.length) (c := cc) (lo := l.toNat) (hi := u.toNat) (x := lo.map a.eval) (y := hi.map a.eval) he hel (hlo' k0)
        (by rcases hhi with ⟨rfl, rfl⟩ | ⟨y, rfl, hy⟩
            · exact .inl ⟨rfl, by simp [rLen]⟩
            · exact .inr ⟨.i64, u, by rw [Option.map_some, hy], by omega, rfl⟩) (by omega) (by omega) w
      simp only [execOp, ho, hx, Sem.run_bind, Option.map_none, this, Result.andThen_ok, Sem.run_pure]
    · rename_i z
      split at hb
      · rename_i hsome
        simp only [Option.bind_eq_some_iff] at hb
        obtain ⟨m, hm, hb⟩ := hb
        cases hb
        simp only [bAnd, Bool.and_eq_true] at hok
        obtain ⟨ok1, ok2⟩ := hok
        unfold cSub at ok1 ok2
        obtain ⟨k0, k1, k2⟩ := of_decide_eq_true ok1
        obtain ⟨_, m0, m1⟩ := of_decide_eq_true ok2
        unfold rLen at m1
        have hz := evalAs_int h hm
        rcases hhi with ⟨rfl, rfl⟩ | ⟨y, rfl, hy⟩
        · cases hsome
        · obtain ⟨v, hvv⟩ := slice_run3 (P := P) (p := p) (n := rs.l.length) (c := cc) (lo := l.toNat) (hi := u.toNat) (m := m.toNat) (x := lo.map a.eval) (y := a.eval y) (z := a.eval z) he hel (hlo' k0)
            ⟨.i64, u, hy, by omega, rfl⟩ ⟨.i64, m, hz, by omega, rfl⟩ (by omega) (by omega) (by omega) w
          refine OpOk.same h (v := v) ?_ trivial
          simp only [execOp, ho, hx, Sem.run_bind, Option.map_some, hvv, Result.andThen_ok, Sem.run_pure]
      · cases hb
  · cases hb

theorem EncL.sub {F : Nat → Prop} {t : Ty} {l : List t.T} {xs : List Value} (h : EncL w F t l xs) {lo hi : Nat} (h1 : hi ≤ l.length) (h0 : lo ≤ hi) : EncL w F t ((l.take hi).drop lo) ((xs.drop (lo * t.size)).take ((hi - lo) * t.size)) := by
  intro i x hx
  rw [List.getElem?_drop, List.getElem?_take] at hx
  split at hx
  · rename_i hlt
    refine (h (lo + i) x hx).congr fun j hj => ?_
    have h2 : i * t.size + t.size ≤ (hi - lo) * t.size := by
      have := Nat.mul_le_mul_right t.size (show i + 1 ≤ hi - lo by omega)
      rwa [Nat.succ_mul] at this
    rw [List.getElem?_take, if_pos (by omega), List.getElem?_drop, Nat.add_mul, Nat.add_assoc]
  · cases hx
theorem rSub_len {α : Type} {l : List α} {lo hi : Nat} (h1 : hi ≤ l.length) : ((l.take hi).drop lo).length = hi - lo := by
  rw [List.length_drop, List.length_take, Nat.min_eq_left h1]

theorem in_append (h : Sim B S E a w) {id : Nat} (hid : ¬ E.U id) {o : Oper} {c : Call} (ho : o.op = .call c) (hc : c.callee = .builtin .append) {t u : TypeId} {x y : Operand} (ht : c.argTypes.toList = [t, u]) (hxs : c.args.toList = [x, y])
    {r : Out} (hb : inAppend P S id t u x y = some r) (hok : r.ok = true) : OpOk P B S E a w id o r.d := by
  simp only [inAppend, Option.bind_eq_some_iff] at hb
  obtain ⟨e, he, e', he', eb, heb, hb⟩ := hb
  split at hb
  · cases hb
  · rename_i hee
    obtain rfl := beq_nat.1 hee
    simp only [Option.bind_eq_some_iff] at hb
    obtain ⟨p, hp, q, hq, hb⟩ := hb
    have h1 := h.evalC hp
    have h2 := h.evalC hq
    split at hb
    · rename_i k l u1 k' l' u2
      split at hb
      · rename_i hkk
        obtain rfl := beq_nat.1 hkk
        simp only [Option.bind_eq_some_iff] at hb
        obtain ⟨rs, hr, hb⟩ := hb
        obtain ⟨hr, hown, hdeep⟩ := ownPlain_some hr
        split at hb
        · rename_i hu
          cases hb
          simp only [bAnd, Bool.and_eq_true] at hok
          obtain ⟨o1, o2, o3, o4⟩ := hok
          have o1 : l = 0 := by unfold iEq at o1; exact eq_of_beq o1
          have o2 : u1 ≤ l' := by unfold iLe at o2; exact of_decide_eq_true o2
          have o3 : u2 ≤ (rs.l.length : Int) := by unfold iLe rLen at o3; exact of_decide_eq_true o3
          subst o1
          have hel := elemB_some heb
          have hrun := run_builtin (P := P) (a := a) ho hc ht hxs w
          obtain ⟨hU, p1, n1, c1, a1, a2, a3, a4, a5⟩ := h1
          obtain ⟨_, p2, n2, c2, b1, b2, b3, b4, b5⟩ := h2
          rw [a1] at b1
          cases b1
          have hd := h.dropRow k
          have hUk := hU
          have hszk : E.sz k = eb.1.size := by rw [(h.rows k rs hr).1, hu]
          obtain ⟨ro, rt, rl⟩ := rs
          simp only at hu hown hdeep o3
          subst hu
          subst hown
          obtain ⟨xs, hx, hxl⟩ := (h.rows k _ hr).own rfl hdeep
          rw [hszk] at hx b5
          have hrow := h.rowNew k ⟨true, eb.1, rl⟩
          simp only at hx hxl
          have hsub0 : rSub rl 0 u1 = (rl.take u1.toNat).drop 0 := rfl
          have hsub1 : rSub rl l' u2 = (rl.take u2.toNat).drop l'.toNat := rfl
          have hl1 : ((rl.take u1.toNat).drop 0).length = u1.toNat := by rw [rSub_len (by omega)]; omega
          have hl2 : ((rl.take u2.toNat).drop l'.toNat).length = u2.toNat - l'.toNat := rSub_len (by omega)
          have hn : n1 = rl.length := by
            rcases hx.2 with ⟨hv, hz⟩ | ⟨g, cap, cur, e2, hv, _⟩ <;> (rw [hv] at a1; cases a1)
            · exact hz.symm
            · rfl
          have hxlen := hx.1
          have hin1 : u1.toNat * eb.1.size ≤ rl.length * eb.1.size := Nat.mul_le_mul_right _ (by omega)
          have hin2 : u2.toNat * eb.1.size ≤ rl.length * eb.1.size := Nat.mul_le_mul_right _ (by omega)
          have hmul : (u2.toNat - l'.toNat) * eb.1.size + l'.toNat * eb.1.size = u2.toNat * eb.1.size := by rw [← Nat.add_mul]; congr 1; omega
          have hxs1 : ((xs.drop (0 * eb.1.size)).take ((u1.toNat - 0) * eb.1.size)).length = ((rl.take u1.toNat).drop 0).length * eb.1.size := by
            rw [hl1, List.length_take, List.length_drop, hxlen, Nat.zero_mul, Nat.sub_zero]
            simp only [Nat.sub_zero]
            exact Nat.min_eq_left hin1
          have hys1 : ((xs.drop (l'.toNat * eb.1.size)).take ((u2.toNat - l'.toNat) * eb.1.size)).length = ((rl.take u2.toNat).drop l'.toNat).length * eb.1.size := by
            rw [hl2, List.length_take, List.length_drop, hxlen]
            exact Nat.min_eq_left (by omega)
          have henc1 := hxl.sub (lo := 0) (hi := u1.toNat) (by omega) (by omega)
          have henc2 := hxl.sub (lo := l'.toNat) (hi := u2.toNat) (by omega) (by omega)
          rw [hsub0, hsub1] at o4 ⊢
          generalize hA : (rl.take u1.toNat).drop 0 = A at *
          generalize hC : (rl.take u2.toNat).drop l'.toNat = C at *
          generalize hXA : (xs.drop (0 * eb.1.size)).take ((u1.toNat - 0) * eb.1.size) = XA at *
          generalize hXC : (xs.drop (l'.toNat * eb.1.size)).take ((u2.toNat - l'.toNat) * eb.1.size) = XC at *
          -- the header of the first part; its cells; those of the second
          have key : Owned w eb.1.size (a.eval x) A.length XA ∧ (∀ g, (a.eval x).ownBlock = some g → OwnB w (E.hv k) eb.1 rl g) ∧
              (∀ w' : World, w'.heap = w.heap → (Builtin.firstCells eb.1.size C.length (a.eval y)).run P w' = .ok XC.toArray w') ∧ (∃ ad cc, a.eval y = .slice ad C.length cc) ∧
              ∀ v' w', (Builtin.append_ #[t, u] o.type #[a.eval x, a.eval y]).run P w = .ok v' w' → ∃ p n c, v' = .slice p n c ∧ rl.length ≤ c := by
            obtain ⟨i, z, hi, hz, hisz, hib, hzs, hpos, hb0, hb1, _⟩ := hel.info
            rcases hx.2 with ⟨hv, hz0⟩ | ⟨g, cap, cur, e2, hv, f1, f2, f3, f4, f5⟩
            · rw [hv] at a1
              cases a1
              have hxA : a.eval x = .slice none 0 0 := by rw [a5]; simp; omega
              have hyC : a.eval y = .slice none 0 0 := by rw [b5]; simp; omega
              have hA0 : A.length = 0 := by omega
              have hC0 : C.length = 0 := by omega
              have hXA0 : XA = [] := List.eq_nil_of_length_eq_zero (by rw [hxs1, hA0, Nat.zero_mul])
              have hXC0 : XC = [] := List.eq_nil_of_length_eq_zero (by rw [hys1, hC0, Nat.zero_mul])
              refine ⟨⟨hxs1, .inl ⟨hxA, hA0⟩⟩, fun g hg => by rw [hxA] at hg; simp [Value.ownBlock] at hg, fun w' _ => by rw [hC0, hXC0, hyC]; rfl, ⟨none, 0, by rw [hyC, hC0]⟩, fun v' w' hr' => ?_⟩
              have h3 := run_append_none (P := P) t u o.type e i (sliceB_some he) (sliceB_some he') hi none 0 w
              rw [hxA, hyC, h3] at hr'
              cases hr'
              exact ⟨none, 0, 0, rfl, by omega⟩
            · rw [hv] at a1
              obtain ⟨q1, q2, q3⟩ : some (⟨g, 0, none⟩ : Addr) = p1 ∧ rl.length = n1 ∧ cap = c1 := by cases a1; exact ⟨rfl, rfl, rfl⟩
              subst q1
              subst q3
              have hxA : a.eval x = .slice (some ⟨g, 0, none⟩) A.length cap := by
                rw [a5, hl1]
                simp only [Int.toNat_zero, Nat.sub_zero]
                congr 1
                split
                · rfl
                · simp [addr_add]
              obtain ⟨off, hyC, hoff⟩ : ∃ off, a.eval y = .slice (some ⟨g, off, none⟩) C.length (cap - l'.toNat) ∧ (C.length = 0 ∨ off = l'.toNat * eb.1.size) := by
                rw [b5, hl2]
                by_cases hcl : cap = l'.toNat
                · exact ⟨0, by rw [if_pos hcl], .inl (by omega)⟩
                · exact ⟨0 + l'.toNat * eb.1.size, by rw [if_neg hcl, Option.map_some, addr_add], .inr (by omega)⟩
              have hcap : u1.toNat ≤ cap := by omega
              have hrd : ∀ w' : World, w'.heap = w.heap → (Builtin.firstCells eb.1.size C.length (a.eval y)).run P w' = .ok XC.toArray w' := fun w' hw => by
                rw [hyC]
                refine run_firstCells_some (P := P) w' eb.1.size C.length ⟨g, off, none⟩ C.length (cap - l'.toNat) XC hys1 (fun j v hj => ?_)
                have hjl := (List.getElem?_eq_some_iff.1 hj).1
                rcases hoff with hoff | hoff
                · rw [hys1, hoff, Nat.zero_mul] at hjl; omega
                · rw [addr_add, hoff, cell_row (by rw [hw]; exact f1)]
                  rw [← hXC, List.getElem?_take] at hj
                  split at hj
                  · rw [List.getElem?_drop, ← f5, List.getElem?_take] at hj
                    split at hj
                    · simpa using hj
                    · cases hj
                  · cases hj
              refine ⟨⟨hxs1, .inr ⟨g, cap, cur, e2, hxA, f1, by omega, f3, f4, ?_⟩⟩, fun g' hg' => ?_, hrd, ⟨_, _, hyC⟩, fun v' w' hr' => ?_⟩
              · rw [hl1, ← hXA, ← f5, Nat.zero_mul, List.drop_zero, List.take_take, Nat.sub_zero, Nat.min_eq_left hin1]
              · rw [hxA] at hg'
                obtain rfl : g = g' := by simpa [Value.ownBlock] using hg'
                rw [hv]
                exact .inl rfl
              · have hfit : A.length * i.size + XC.length ≤ cur.size := by
                  rw [hisz, hys1, f4, ← Nat.add_mul]
                  exact Nat.mul_le_mul_right _ (by omega)
                have hone : ∀ u ∈ XC, u.oneCell' = true := henc2.one hys1
                have h3 := run_append_room' (P := P) (w := w) t o.type e e2 i u (sliceB_some he) (sliceB_some he') hi g A.length cap cur f1 (some ⟨g, off, none⟩) C.length (cap - l'.toNat) XC (by
                  have := hrd w rfl
                  rw [hyC, ← hisz] at this
                  exact this) hone (by omega) hfit
                rw [hxA, hyC, h3] at hr'
                cases hr'
                exact ⟨_, _, _, rfl, f2⟩
          obtain ⟨y1, y2, y3, ⟨ad, cc, y4⟩, y5⟩ := key
          obtain ⟨v', w', k1, k2, k3, k4⟩ := append_aux (P := P) (t := t) (t' := u) (ty := o.type) hd hid (sliceB_some he) (sliceB_some he') heb (v := a.eval x) (l := A) (xs := XA) y1 henc1
            (fun g hg => by
              obtain ⟨m1, m2, m3, m4⟩ := hrow g hr rfl (y2 g hg)
              exact ⟨m1, m2, m3, fun k' r' hk' ho' hg' => absurd (m4 k' r' (upd_none hk').2 ho' hg') (upd_none hk').1⟩) y4 hys1 henc2 (fun w' _ hw => y3 w' hw) o4
          refine ⟨_, v', w', _, by rw [hrun]; simp [builtin, k1], .inl rfl, k4, ?_, ?_, U_row (fun _ => Iff.rfl)⟩
          · obtain ⟨p', n', c', e1, e3⟩ := y5 v' w' k1
            have hhv : (E.row id v' eb.1.size).hv id = v' := by simp [Env.row]
            split
            · exact ⟨.inr rfl, hhv.symm, k2⟩
            · exact ⟨.inr rfl, hhv.symm, p', n', c', e1, show ((List.length rl : Nat) : Int) ≤ (c' : Int) from Int.ofNat_le.2 e3⟩
          · exact k3
        · cases hb
      · cases hb
    · cases hb

theorem zeroFits_one {t : Ty} {v : Value} (h : zeroFits t v = true) : v.oneCell' = true := by
  unfold zeroFits at h
  split at h <;> first | rfl | cases h
theorem zerosFit_one : ∀ {ts : List Ty} {vs : List Value}, zerosFit ts vs = true → ∀ v ∈ vs, v.oneCell' = true
  | [], [], _, v, hv => by cases hv
  | [], _ :: _, h, _, _ => by simp [zerosFit] at h
  | _ :: _, [], h, _, _ => by simp [zerosFit] at h
  | t :: ts, u :: vs, h, v, hv => by
    simp only [zerosFit, Bool.and_eq_true] at h
    rcases List.mem_cons.1 hv with rfl | hv
    · exact zeroFits_one h.1
    · exact zerosFit_one h.2 v hv
theorem in_clear (h : Sim B S E a w) {id : Nat} {o : Oper} {c : Call} (ho : o.op = .call c) (hc : c.callee = .builtin .clear) {t : TypeId} {x : Operand} (ht : c.argTypes.toList = [t]) (hxs : c.args.toList = [x])
    {r : Out} (hb : inClear P S t x = some r) (hok : r.ok = true) : OpOk P B S E a w id o r.d := by
  simp only [inClear, Option.bind_eq_some_iff] at hb
  obtain ⟨e, he, eb, heb, p, hp, hb⟩ := hb
  have h1 := h.evalC hp
  split at hb
  · rename_i k l u
    simp only [Option.bind_eq_some_iff] at hb
    obtain ⟨rs, hr, hb⟩ := hb
    obtain ⟨hr, hown, hdeep⟩ := ownPlain_some hr
    split at hb
    · rename_i hu
      cases hb
      have hok : (rs.l.length : Int) ≤ l := by
        have hok' : iLe (rLen rs.l) l = true := hok
        unfold iLe rLen at hok'
        exact of_decide_eq_true hok'
      have hel := elemB_some heb
      have hrun := run_builtin (P := P) (a := a) ho hc ht hxs w
      obtain ⟨hU, p1, n1, c1, a1, a2, a3, a4, a5⟩ := h1
      have hszk : E.sz k = eb.1.size := by rw [(h.rows k rs hr).1, hu]
      obtain ⟨xs, hx, hxl⟩ := (h.rows k rs hr).own hown hdeep
      obtain ⟨i, z, hi, hz, hisz, hib, hzs, hpos, hb0, hb1, ts, hts, hzf, _⟩ := hel.info
      -- nothing to clear
      have none_ : a.eval x = .slice none (u.toNat - l.toNat) (c1 - l.toNat) ∨ (u.toNat - l.toNat = 0) → OpOk P B S E a w id o { val := .any } := fun hz => by
        refine OpOk.same h (v := .tuple #[]) ?_ trivial
        rw [hrun]
        rcases hz with hz | hz
        · simp [builtin, Builtin.clear_, hz, run_underlying (sliceB_some he)]
        · rw [hz] at a5
          generalize (if c1 = l.toNat then p1 else p1.map (·.add (l.toNat * E.sz k))) = ad at a5
          cases ad <;> simp [builtin, Builtin.clear_, a5, run_underlying (sliceB_some he)]
      rcases hx.2 with ⟨hv, hz0⟩ | ⟨g, cap, cur, e2, hv, f1, f2, f3, f4, f5⟩
      · rw [hv] at a1
        cases a1
        exact none_ (.inr (by omega))
      · rw [hv] at a1
        obtain ⟨q1, q2, q3⟩ : some (⟨g, 0, none⟩ : Addr) = p1 ∧ rs.l.length = n1 ∧ cap = c1 := by cases a1; exact ⟨rfl, rfl, rfl⟩
        subst q1
        subst q3
        by_cases hn0 : u.toNat - l.toNat = 0
        · exact none_ (.inr hn0)
        · have hxv : a.eval x = .slice (some ⟨g, l.toNat * eb.1.size, none⟩) (u.toNat - l.toNat) (cap - l.toNat) := by
            rw [a5, if_neg (by omega), Option.map_some, addr_add, hszk, Nat.zero_add]
          rw [hszk] at f4 f5 hx
          obtain ⟨n1, n2, n3, n4⟩ := h.rowNew k rs g hr hown (.inl (by rw [hv]; rfl))
          have hzl : (Builtin.zeroCells z.cells (u.toNat - l.toNat)).toList.length = (u.toNat - l.toNat) * eb.1.size := by rw [Array.length_toList, size_zeroCells, hzs]
          have hmul : (u.toNat - l.toNat) * eb.1.size + l.toNat * eb.1.size = u.toNat * eb.1.size := by rw [← Nat.add_mul]; congr 1; omega
          have hcap : u.toNat * eb.1.size ≤ cap * eb.1.size := Nat.mul_le_mul_right _ (by omega)
          have hlen : rs.l.length * eb.1.size ≤ l.toNat * eb.1.size := Nat.mul_le_mul_right _ (by omega)
          have hone : ∀ v ∈ (Builtin.zeroCells z.cells (u.toNat - l.toNat)).toList, v.oneCell' = true := fun v hv' => by
            simp only [Builtin.zeroCells, Array.toList_map, List.mem_map, Array.mem_toList_iff] at hv'
            obtain ⟨j, _, e3⟩ := hv'
            have hlt : j % z.cells.size < z.cells.size := Nat.mod_lt _ (by rw [hzs]; exact hpos)
            have : v = z.cells[j % z.cells.size] := by rw [← e3]; simp [hlt]
            rw [this]
            exact zerosFit_one hzf _ (by simp)
          have hst := run_storeCells_at P g (l.toNat * eb.1.size) e2 (Builtin.zeroCells z.cells (u.toNat - l.toNat)).toList 0 cur w f1 (by rw [hzl, f4]; omega) hone
          simp only [Nat.add_zero] at hst
          generalize hcl : cur.toList.take (l.toNat * eb.1.size) ++ (Builtin.zeroCells z.cells (u.toNat - l.toNat)).toList ++ cur.toList.drop (l.toNat * eb.1.size + (Builtin.zeroCells z.cells (u.toNat - l.toNat)).toList.length) = cl at hst
          have hcln : cl.length = cur.size := by
            rw [← hcl]
            simp only [List.length_append, List.length_take, List.length_drop, hzl, Array.length_toList (xs := cur), f4]
            omega
          have hcl2 : cl.take (rs.l.length * eb.1.size) = xs := by
            rw [← hcl, List.append_assoc, List.take_append_of_le_length (by rw [List.length_take, Array.length_toList (xs := cur), f4]; omega), List.take_take, Nat.min_eq_left hlen, f5]
          have L := F_setRow h n2 cl.toArray
          have hnd := (h.dropRow k).writeBlk n1 n2 n3 (fun k' r' hk' ho' hg' => (upd_none hk').1 (n4 k' r' (upd_none hk').2 ho' hg')) cl.toArray
          have hrow : RowIs (w.setRow g cl.toArray) E (E.hv k) (E.sz k) rs := by
            refine ⟨(h.rows k rs hr).1, trivial, ?_⟩
            simp only [hown]
            refine ⟨xs, ⟨by rw [hszk]; exact hx.1, .inr ⟨g, cap, cl.toArray, e2, hv, setRow_heap w g cur _ e2 _ f1, f2, f3, ?_, ?_⟩⟩, (Body.flat hdeep).2 (hxl.mono L.F L.heap)⟩
            · rw [hszk]; simp only [List.size_toArray]; rw [hcln, f4]
            · rw [hszk]; exact hcl2
          have hset := hnd.setRowSt (k := k) (r := rs) hU hrow (fun _ g' hg' => by
            have hg' := (OwnB.flat hdeep).1 hg'
            rw [hv] at hg'
            cases hg'
            exact ⟨n1, n2, n3, fun k' r' hk' ho' hg'' => absurd (n4 k' r' (upd_none hk').2 ho' ((OwnB.world fun b' hb' => setRow_other w g b' _ fun e => (upd_none hk').1 (n4 k' r' (upd_none hk').2 ho' (.inl (e ▸ hb')))).1 hg'')) (upd_none hk').1⟩)
          refine ⟨_, .tuple #[], _, E, ?_, .inl rfl, L, trivial, ?_, fun n hn => .inl hn⟩
          · rw [hrun]
            obtain ⟨nn, hnn⟩ : ∃ nn, u.toNat - l.toNat = nn + 1 := ⟨u.toNat - l.toNat - 1, by omega⟩
            rw [hnn] at hst
            simp [builtin, Builtin.clear_, hxv, hnn, run_underlying (sliceB_some he), zeroValue, typeInfo, hi, hz, hst]
          · have e8 : upd (upd S.rows k none) k (some rs) = S.rows := by
              rw [upd_upd]
              funext n
              by_cases hn : n = k
              · subst hn; rw [upd_same, hr]
              · rw [upd_ne hn]
            have hs2 : Sim B { S with rows := upd (upd S.rows k none) k (some rs) } E a (w.setRow g cl.toArray) := hset
            rw [e8] at hs2
            exact hs2
    · cases hb
  · cases hb

theorem in_len (h : Sim B S E a w) {id : Nat} {o : Oper} {c : Call} (ho : o.op = .call c) (hc : c.callee = .builtin .len) {t : TypeId} {x : Operand} (ht : c.argTypes.toList = [t]) (hxs : c.args.toList = [x])
    {r : Out} (hb : inLen P S t x = some r) (hok : r.ok = true) : OpOk P B S E a w id o r.d := by
  simp only [inLen, Option.bind_eq_some_iff] at hb
  obtain ⟨e, he, p, hp, hb⟩ := hb
  have h1 := h.evalC hp
  split at hb
  · rename_i k m
    simp only [Option.bind_eq_some_iff] at hb
    obtain ⟨rs, hr, hb⟩ := hb
    obtain ⟨hr, hown, hdeep⟩ := ownPlain_some hr
    cases hb
    obtain ⟨ad, cc, hv, _⟩ := own_header h hr hown
    have hx : a.eval x = .slice ad rs.l.length cc := h1.2.1.trans hv
    refine OpOk.same h (v := .int .i64 rs.l.length) ?_ acr_int
    rw [run_builtin (P := P) (a := a) ho hc ht hxs w]
    simp [builtin, Builtin.len_, hx, run_underlying (sliceB_some he), goInt]
  · cases hb

theorem tabAt_mem {g : Nat} {x : IntKind × List Int} : ∀ {l : List (Nat × IntKind × List Int)}, tabAt l g = some x → (g, x) ∈ l
  | [], h => by cases h
  | (b, y) :: l, h => by
    simp only [tabAt] at h
    split at h
    · rename_i e; cases h; rw [beq_nat.1 e]; exact List.mem_cons_self
    · exact List.mem_cons_of_mem _ (tabAt_mem h)
theorem in_tab (h : Sim B S E a w) {id : Nat} {o : Oper} {t : TypeId} {g : Nat} {i : Operand} (ho : o.op = .indexAddr t (.global g) i) {r : Out} (hb : inTab P S t g i = some r) (hok : r.ok = true) : OpOk P B S E a w id o r.d := by
  unfold inTab at hb
  split at hb
  · rename_i n e k l kk j hu ht hi
    split at hb
    · rename_i hs
      split at hb
      · rename_i hn
        have hn := beq_nat.1 hn
        subst hn
        cases hb
        have hv := val_int (h.evalC hi).2
        have hok' : cTab j (rLen l) = true := hok
        unfold cTab rLen at hok'
        obtain ⟨j0, j1⟩ := @of_decide_eq_true _ (Classical.propDecidable _) hok'
        obtain ⟨h1, h2⟩ := h.tabNow (F := E.F) (fun _ hb => hb) (g, k, l) (tabAt_mem ht)
        have hj : j.toNat < l.length := by omega
        have hget : l[j.toNat]? = some (rGet (0 : Int) l j) := by simp [rGet, hj]
        refine OpOk.same h (v := .pointer (some ⟨g, 0 + j.toNat * 1, none⟩)) ?_ ⟨g, 0 + j.toNat * 1, rfl, h1, ?_⟩
        · have hg : a.eval (.global g) = .pointer (some ⟨g, 0, none⟩) := rfl
          simp only [execOp, ho, Instr.indexAt, asIntOf, hv, hg, Sem.run_bind, Sem.run_pure, Result.andThen_ok, run_underlying hu, Instr.sureAddr, run_sizeB hs, addr_add, j0, j1, and_self, if_true, Sem.run_ite]
        · show w.cell? ⟨g, 0 + j.toNat * 1 + 0, none⟩ = some (.int k (rGet (0 : Int) l j))
          rw [show 0 + j.toNat * 1 + 0 = j.toNat by omega]
          exact h2 _ _ hget
      · cases hb
    · cases hb
  · cases hb

/-- An operation on parts of rows, in memory. -/
theorem op_in (h : Sim B S E a w) {id : Nat} (hid : ¬ E.U id) {o : Oper} {r : Out} (hb : inB P S id o.op = some r) (hok : r.ok = true) : OpOk P B S E a w id o r.d := by
  unfold inB at hb
  split at hb
  · cases hb
  · unfold inOp at hb
    split at hb
    · rename_i t x lo hi mx ho
      exact in_slice h ho hb hok
    · rename_i t g i ho
      exact in_tab h ho hb hok
    · rename_i c ho
      split at hb
      · rename_i b hc
        split at hb
        · rename_i t u x y ht hx
          exact in_append h hid ho hc ht hx hb hok
        · rename_i t x ht hx
          exact in_clear h ho hc ht hx hb hok
        · rename_i t x ht hx
          exact in_len h ho hc ht hx hb hok
        · cases hb
      · cases hb
    · cases hb

end
end Go.Proofs.YtmbmapbdbbnaeaaT

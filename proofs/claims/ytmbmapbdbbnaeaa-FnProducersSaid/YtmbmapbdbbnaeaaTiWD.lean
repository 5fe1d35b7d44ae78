/- A row of which elements are taken out, one by one. -/
import Derived.Test.YtmbmapbdbbnaeaaTiWB
set_option linter.unusedVariables false
set_option linter.unusedSimpArgs false
namespace Go.Proofs.YtmbmapbdbbnaeaaT
open Go

section
variable {P : Program} {G : List Spec} {B : Base} {S : St} {E : Env} {a : Act} {w : World}

theorem fAll_snd {α : Type} (l : List α) : (fAll l).map (·.2) = l := by simp [fAll, List.map_map, Function.comp_def]
theorem fAll_len {α : Type} (l : List α) : (fAll l).length = l.length := by simp [fAll]

theorem Kids.part {U : Nat → Prop} {hv : Nat → Value} {t : Ty} {l : List t.T} {xs : List Value} {v : Value} (hk : Kids w U hv none t l xs v) (hl : xs.length = l.length * t.size) : KidsP w t (fAll l) xs v :=
  { one := hk.one
    cell := fun u hu => by
      obtain ⟨j, hj, rfl⟩ := List.getElem_of_mem hu
      have hc : j < (cellsL t l).length := by rw [cellsL_len, ← hl]; exact hj
      exact (hk.kid j _ _ (List.getElem?_eq_getElem hc) (by simp [hj]) (by simp [lentPos])).one
    kid := fun j c u hc hu _ => hk.kid j c u (by rw [fAll_snd] at hc; exact hc) hu (by simp [lentPos])
    inj := fun j j' u u' g hu hu' _ _ hg hg' => hk.inj j j' u u' g hu hu' (by simp [lentPos]) (by simp [lentPos]) hg hg'
    out := fun j u g hu _ hg => hk.out j u g hu (by simp [lentPos]) hg }

theorem part_start (h : Sim B S E a w) {id : Nat} {o : Oper} {t : TypeId} {x : Operand} (ho : o.op = .load t x) {r : Out} (hb : partStart P S t x = some r) : OpOk P B S E a w id o r.d := by
  simp only [partStart, Option.bind_eq_some_iff] at hb
  obtain ⟨c, hc, hb⟩ := hb
  have h1 := h.evalC hc
  split at hb
  · rename_i b off hn hg
    simp only [Option.bind_eq_some_iff] at hb
    obtain ⟨cs, hcs, hb⟩ := hb
    split at hb
    · rename_i k hck
      split at hb
      · rename_i t' l hr
        simp only [Option.bind_eq_some_iff] at hb
        obtain ⟨q, hq, cs', hcs', e⟩ := hb
        cases e
        cases t' with
        | deep n u =>
          cases n with
          | some n => simp only [partRow] at hq; cases hq
          | none =>
            simp only [partRow] at hq
            cases hq
            obtain ⟨us, e, hw, ha⟩ := h.boxes _ cs hcs
            have hlt : off < us.toList.length := by rw [← ha.1]; exact (List.getElem?_eq_some_iff.1 hck).1
            have hu : us.toList[off]? = some us.toList[off] := List.getElem?_eq_getElem hlt
            have hcr := ha.2 off _ _ hck hu
            obtain ⟨v, hv, hvr⟩ := run_loadVarB (P := P) (b := E.β b) (f := off) (us := [us.toList[off]]) (l := [.own k]) (x := .c (.own k)) hn hg rfl (fun j u hj => by
              cases j with
              | zero =>
                simp only [List.getElem?_cons_zero, Option.some.injEq] at hj
                subst hj
                rw [cell_row hw, Nat.add_zero, ← Array.getElem?_toList]
                exact hu
              | succ j => simp at hj) rfl (ACs.mk_cons hcr ACs.mk_nil)
            obtain ⟨xs, hx, hk, hxl, _, hown, hs⟩ := h.deepRow hr
            have g1 := h.setRowSt (k := k) (r := ⟨true, .part u, fAll l⟩) (h.rowU k _ hr) ⟨hs, trivial, xs, by rw [hs, fAll_len]; exact hx, show KidsP w u (fAll l) xs (E.hv k) from hk.part hxl⟩ (fun _ g hg => by
              have hg' : OwnB w (E.hv k) (.deep none u) l g := hg.imp (fun h => h) fun ⟨j, v, r1, _, r3⟩ => ⟨j, v, r1, by simp [lentPos], r3⟩
              obtain ⟨z1, z2, z3, z4⟩ := h.rowNew k _ g hr rfl hg'
              exact ⟨z1, z2, z3, z4⟩)
            have hsp := splice_acs hcs' ha (xs := [us.toList[off]]) (ACs.mk_cons (c := .v .dead true) (E := E) (w := w) ⟨rfl, by
              show Enc w E.F .dead true (fun _ => some us.toList[off])
              simp only [Enc]
              exact ⟨_, rfl, hcr.2.2⟩⟩ ACs.mk_nil)
            have el : us.toList.take off ++ ([us.toList[off]] ++ us.toList.drop (off + [us.toList[off]].length)) = us.toList := by
              rw [List.length_singleton, List.singleton_append, ← List.drop_eq_getElem_cons hlt, List.take_append_drop]
            rw [el] at hsp
            obtain ⟨hnew, hF⟩ := h.boxNew _ cs hcs
            have g2 := g1.setBoxSt (b := b) (cs := cs') (h.boxU _ _ hcs) hw hsp hnew hF (fun b' c' hb' e => h.boxInj _ _ _ _ hb' hcs e) (fun k' r' g hk' ho' hg => (g1.rowNew k' r' g hk' ho' hg).2.2.1 b cs hcs)
            refine ⟨_, v, w, E, ?_, .inl rfl, Env.le.refl w E, hvr, ?_, fun n hn => .inl hn⟩
            · simp only [execOp, ho, Instr.loadAt, h1.2, Instr.sureAddr, Sem.run_bind, Sem.run_pure, Result.andThen_ok, hv]
            · exact g2
        | _ => simp only [partRow] at hq; cases hq
      · cases hb
    · cases hb
  · cases hb

theorem takeRow_plain {id : Nat} : ∀ {cs l : List AC}, takeRow id cs = some (l, none) → l = cs ∧ plainCells cs = true
  | [], l, h => by simp only [takeRow] at h; cases h; exact ⟨rfl, rfl⟩
  | c :: cs, l, h => by
    unfold takeRow at h
    split at h
    · rename_i e; cases e
    · rename_i e
      simp only [Option.bind_eq_some_iff] at h
      obtain ⟨p, _, h⟩ := h
      split at h <;> cases h
    all_goals first
      | (rename_i e
         cases e
         simp only [Option.bind_eq_some_iff] at h
         obtain ⟨⟨p1, p2⟩, hp, h⟩ := h
         cases h
         obtain ⟨rfl, h2⟩ := takeRow_plain hp
         exact ⟨rfl, by simp only [plainCells, Ty.hasRow, h2]; rfl⟩)
      | cases h
theorem takeRow_some {id : Nat} : ∀ {cs l : List AC} {q : RowSt}, takeRow id cs = some (l, some q) → ∃ (o : Nat) (u : Ty) (m : List u.T), cs[o]? = some (.v (.row u) m) ∧ q = ⟨true, u, m⟩ ∧ l[o]? = some (.own id) ∧ l.length = cs.length ∧
    ∀ (j : Nat) c, cs[j]? = some c → j ≠ o → l[j]? = some c ∧ plainCells [c] = true
  | [], l, q, h => by simp only [takeRow] at h; cases h
  | c :: cs, l, q, h => by
    unfold takeRow at h
    split at h
    · rename_i e; cases e
    · rename_i u m r e
      cases e
      simp only [Option.bind_eq_some_iff] at h
      obtain ⟨⟨p1, p2⟩, hp, h⟩ := h
      split at h
      · rename_i e2
        simp only at e2
        subst e2
        cases h
        obtain ⟨rfl, h2⟩ := takeRow_plain hp
        refine ⟨0, u, m, rfl, rfl, rfl, rfl, fun j c hj h0 => ?_⟩
        cases j with
        | zero => exact absurd rfl h0
        | succ j =>
          simp only [List.getElem?_cons_succ] at hj ⊢
          exact ⟨hj, plain_mem h2 c (List.mem_of_getElem? hj)⟩
      · cases h
    all_goals first
      | (rename_i e
         cases e
         simp only [Option.bind_eq_some_iff] at h
         obtain ⟨⟨p1, p2⟩, hp, h⟩ := h
         cases h
         obtain ⟨o, u, m, q1, q2, q3, q4, q5⟩ := takeRow_some hp
         refine ⟨o + 1, u, m, q1, q2, q3, by simp only [List.length_cons, q4], fun j c hj h0 => ?_⟩
         cases j with
         | zero =>
           simp only [List.getElem?_cons_zero, Option.some.injEq] at hj ⊢
           subst hj
           exact ⟨rfl, rfl⟩
         | succ j =>
           simp only [List.getElem?_cons_succ] at hj ⊢
           exact q5 j c hj (by omega))
      | cases h

theorem Still.len {α : Type} {l : List (Bool × α)} {i : Nat} (h : Still l i) : i < l.length := by
  obtain ⟨x, h⟩ := h
  exact (List.getElem?_eq_some_iff.1 h).1
theorem Still.off {α : Type} {d : α} {l : List (Bool × α)} {i : Int} {j : Nat} (h : Still (fOff d l i) j) : Still l j ∧ j ≠ i.toNat := by
  obtain ⟨x, h⟩ := h
  unfold fOff at h
  rw [List.getElem?_set] at h
  split at h
  · split at h <;> cases h
  · rename_i hne; exact ⟨⟨x, h⟩, fun e => hne e.symm⟩
theorem fOff_len {α : Type} {d : α} {l : List (Bool × α)} {i : Int} : (fOff d l i).length = l.length := by simp [fOff]
theorem fOff_snd {α : Type} {d : α} {l : List (Bool × α)} {i : Int} : (fOff d l i).map (·.2) = l.map (·.2) := by
  unfold fOff fGet
  apply List.ext_getElem?
  intro j
  simp only [List.getElem?_map, List.getElem?_set]
  split
  · rename_i e
    split
    · rename_i hl; subst e; simp [List.getD, hl]
    · rename_i hl; subst e; simp [hl]
  · rfl

/-- An element of a row of which some elements are gone. -/
theorem Sim.elemP (h : Sim B S E a w) {k : Nat} {i : Int} {off : Nat} {u : Value} (hc : ACr w E (.eO k i off) u) {t : Ty} {l : List (Bool × t.T)} (hr : S.rows k = some ⟨true, .part t, l⟩) :
    ∃ (g c : Nat) (xs : List Value), E.hv k = .slice (some ⟨g, 0, none⟩) l.length c ∧ E.sz k = t.size ∧ i.toNat < l.length ∧ u = .pointer (some ⟨g, i.toNat * t.size + off, none⟩) ∧ Owned w t.size (E.hv k) l.length xs ∧
      KidsP w t l xs (E.hv k) ∧ (∀ (j : Nat) u, xs[j]? = some u → w.cell? ⟨g, j, none⟩ = some u) := by
  obtain ⟨hU, g, m, c, h0, h1, h2, h3⟩ := hc
  obtain ⟨hs, hs0, _⟩ := h.rows k _ hr
  obtain ⟨xs, hx, hl⟩ := (h.rows k _ hr).ownB rfl
  have hs : E.sz k = t.size := hs
  rw [hs] at h3 hx
  have hx : Owned w t.size (E.hv k) l.length xs := hx
  obtain ⟨cap, cur, e, e1, e2, e3, e4, e5, e6⟩ := hx.blk (g := g) (by rw [h0]; rfl)
  have en : m = l.length := by rw [h0] at e1; cases e1; rfl
  subst en
  have hi : i.toNat < l.length := by omega
  refine ⟨g, c, xs, h0, hs, hi, h3, hx, hl, fun j v hj => ?_⟩
  rw [cell_row e2]
  rw [← e6, List.getElem?_take] at hj
  split at hj
  · simpa using hj
  · cases hj

theorem part_load (h : Sim B S E a w) {id : Nat} (hid : ¬ E.U id) {o : Oper} {t : TypeId} {x : Operand} (ho : o.op = .load t x) {r : Out} (hb : partLoad P S id t x = some r) (hok : r.ok = true) : OpOk P B S E a w id o r.d := by
  simp only [partLoad, Option.bind_eq_some_iff] at hb
  obtain ⟨c, hc, hb⟩ := hb
  have h1 := h.evalC hc
  split at hb
  · rename_i k i n hn hg
    split at hb
    · rename_i t' l hr
      cases t' with
      | part u =>
        simp only [partElem] at hb
        split at hb
        · rename_i hsz
          have hsz : u.size = n := beq_nat.1 hsz
          simp only [Option.bind_eq_some_iff] at hb
          obtain ⟨⟨p1, p2⟩, hp, hb⟩ := hb
          split at hb
          · rename_i q e2
            simp only at e2
            subst e2
            cases hb
            obtain ⟨f, v, m, q1, rfl, q3, q4, q5⟩ := takeRow_some hp
            rw [flat_len] at q4
            have hfu : f < u.size := by rw [← flat_len (t := u)]; exact (List.getElem?_eq_some_iff.1 q1).1
            obtain ⟨g, cc, xs, e1, e2, e3, e4, e5, e6, e7⟩ := h.elemP h1 hr
            have hok : fHas u.dflt l i = true := hok
            have hat : l[i.toNat]? = some (true, fGet u.dflt l i) := by
              unfold fHas at hok
              unfold fGet
              have e9 : l.getD i.toNat (false, u.dflt) = l[i.toNat] := by simp [List.getD, e3]
              rw [e9] at hok ⊢
              rw [List.getElem?_eq_getElem e3, ← hok]
            have hst : ∀ j, j < u.size → Still l ((i.toNat * u.size + j) / u.size) := fun j hj => by
              have : (i.toNat * u.size + j) / u.size = i.toNat := by
                rw [Nat.mul_comm, Nat.mul_add_div (by omega), Nat.div_eq_of_lt hj, Nat.add_zero]
              rw [this]
              exact ⟨_, hat⟩
            have hxl : xs.length = l.length * u.size := e5.1
            have hi1 : i.toNat * u.size + u.size ≤ l.length * u.size := by
              have := Nat.mul_le_mul_right u.size (Nat.succ_le_of_lt e3)
              rwa [Nat.succ_mul] at this
            have hsnd : (l.map (·.2))[i.toNat]? = some (fGet u.dflt l i) := by rw [List.getElem?_map, hat]; rfl
            have kid_ : ∀ (j : Nat) c v, (flat u (fGet u.dflt l i))[j]? = some c → xs[i.toNat * u.size + j]? = some v → Kid w c v := fun j c v hc hv => by
              have hj : j < u.size := by rw [← flat_len (t := u)]; exact (List.getElem?_eq_some_iff.1 hc).1
              exact e6.kid _ c v (by rw [cellsL_get hsnd hj]; exact hc) hv (hst j hj)
            -- the row's own cell
            have hfx : i.toNat * u.size + f < xs.length := by omega
            have hfv : xs[i.toNat * u.size + f]? = some xs[i.toNat * u.size + f] := List.getElem?_eq_getElem hfx
            generalize xs[i.toNat * u.size + f] = z at hfv
            have hkz : Kid w (.v (.row v) m) z := kid_ f _ z q1 hfv
            have hz1 : z.oneCell' = true := hkz.one
            obtain ⟨k1, ys, k2, k3⟩ := (show v.hasRow = false ∧ ∃ ys, Owned w v.size z (List.length m) ys ∧ EncL w (fun _ => False) v m ys from hkz)
            have hvd : v.isDeep = false := one_flat e6.one q1
            -- the row without the element
            have hsub : ∀ b, OwnB w (E.hv k) (.part u) (fOff u.dflt l i) b → OwnB w (E.hv k) (.part u) l b := fun b hb => hb.imp (fun h => h) fun ⟨j, v, r1, r2, r3⟩ => ⟨j, v, r1, r2.off.1, r3⟩
            have hk2 : KidsP w u (fOff u.dflt l i) xs (E.hv k) :=
              { one := e6.one
                cell := e6.cell
                kid := fun j c v hc hv hs => e6.kid j c v (by rw [fOff_snd] at hc; exact hc) hv hs.off.1
                inj := fun j j' v v' g hv hv' hs hs' hg hg' => e6.inj j j' v v' g hv hv' hs.off.1 hs'.off.1 hg hg'
                out := fun j v g hv hs hg => e6.out j v g hv hs.off.1 hg }
            have g1 := h.setRowSt (k := k) (r := ⟨true, .part u, fOff u.dflt l i⟩) (h.rowU k _ hr) ⟨e2, trivial, xs, by rw [e2, fOff_len]; exact e5, hk2⟩ (fun _ b hb => by
              obtain ⟨z1, z2, z3, z4⟩ := h.rowNew k _ b hr rfl (hsub b hb)
              exact ⟨z1, z2, z3, z4⟩)
            have hdv : (i.toNat * u.size + f) / u.size = i.toNat := by
              rw [Nat.mul_comm, Nat.mul_add_div (by omega), Nat.div_eq_of_lt hfu, Nat.add_zero]
            obtain ⟨g2, L⟩ := g1.newRow (id := id) (sz := v.size) (v := z) (r := ⟨true, v, m⟩) hid ⟨rfl, trivial, ys, k2, (Body.flat hvd).2 (EncL.mono (fun _ h => h.elim) (fun _ h => h.elim) k3)⟩ (fun _ b hb => by
              have hb := (OwnB.flat hvd).1 hb
              have hob : OwnB w (E.hv k) (.part u) l b := .inr ⟨_, z, by rw [show (Ty.part u).size = u.size from rfl, kids_owned (sz := u.size) e5]; exact hfv, hst f hfu, hb⟩
              obtain ⟨z1, z2, z3, z4⟩ := h.rowNew k _ b hr rfl hob
              refine ⟨z1, z2, z3, fun k' r' hk' ho' hg' => ?_⟩
              exfalso
              rcases upd_cases hk' with ⟨e8, e9⟩ | ⟨e8, e9⟩
              · cases e9
                rw [e8] at hg'
                rcases hg' with hg' | ⟨j, v', r1, r2, r3⟩
                · exact e6.out _ z b hfv (hst f hfu) hb hg'
                · change (kids _ _ u.size)[j]? = some v' at r1
                  rw [kids_owned (sz := u.size) e5] at r1
                  have := e6.inj _ _ v' z b r1 hfv r2.off.1 (hst f hfu) r3 hb
                  have h7 := r2.off.2
                  rw [this, hdv] at h7
                  exact h7 rfl
              · exact e8 (z4 k' r' e9 ho' hg'))
            have L : E.le w w (E.row id z v.size) := L
            have hcs : ACs w (E.row id z v.size) p1 ((xs.drop (i.toNat * u.size)).take u.size) := by
              refine ⟨by rw [q4, List.length_take, List.length_drop]; omega, fun j c y hc hy => ?_⟩
              rw [List.getElem?_take] at hy
              split at hy
              · rename_i hj
                rw [List.getElem?_drop] at hy
                by_cases ej : j = f
                · subst ej
                  rw [q3] at hc
                  cases hc
                  rw [hfv] at hy
                  cases hy
                  exact ⟨.inr rfl, (if_pos rfl : (E.row id z v.size).hv id = z).symm, hz1⟩
                · have hlt : j < (flat u (fGet u.dflt l i)).length := by rw [flat_len]; exact hj
                  obtain ⟨r1, r2⟩ := q5 j _ (List.getElem?_eq_getElem hlt) ej
                  rw [r1] at hc
                  cases hc
                  exact (kid_ j _ y (List.getElem?_eq_getElem hlt) hy).acr r2
              · cases hy
            obtain ⟨y, hy, hyr⟩ := run_loadVarB (P := P) (b := g) (f := i.toNat * u.size) (us := (xs.drop (i.toNat * u.size)).take u.size) (l := p1) (x := .agg p1) hn hg (by rw [← hsz, List.length_take, List.length_drop]; omega) (fun j v hv => by
              rw [List.getElem?_take] at hv
              split at hv
              · rw [List.getElem?_drop] at hv; exact e7 _ v hv
              · cases hv) rfl hcs
            refine ⟨_, y, w, E.row id z v.size, ?_, .inl rfl, L, hyr, ?_, U_row0 (fun _ => Iff.rfl)⟩
            · simp only [execOp, ho, Instr.loadAt, e4, Instr.sureAddr, Sem.run_bind, Sem.run_pure, Result.andThen_ok, Nat.add_zero, hy]
            · exact g2
          · cases hb
        · cases hb
      | _ => simp only [partElem] at hb; cases hb
    · cases hb
  · cases hb

theorem chunkOf_some : ∀ {G : List Spec} {g : FuncId} {q : FuncId × Ty}, chunkOf g G = some q → ∃ sp ∈ G, sp.sig.f = g ∧ sp.chunk = some q
  | [], g, q, h => by simp [chunkOf] at h
  | sp :: G, g, q, h => by
    simp only [chunkOf] at h
    split at h
    · rename_i t' h1 h2
      cases h
      exact ⟨sp, by simp, beq_nat.1 h1, h2⟩
    · obtain ⟨sp', h1, h2⟩ := chunkOf_some h
      exact ⟨sp', List.mem_cons_of_mem _ h1, h2⟩
theorem chunk_ok (hG : ∀ sp ∈ G, Holds P sp) (h : Sim B S E a w) {id : Nat} (hid : ∀ n, id ≤ n → n < id + 64 → ¬ E.U n) {o : Oper} {c : Call} (ho : o.op = .call c) {r : Out} (hb : chunkOp G S id c = some r) (hok : r.ok = true)
    {K : Act → World → Prop} {Q : Exit → Act → World → Prop}
    (hK : ∀ v w' E', E.le w w' E' → AVr w' E' r.d.val v → Sim B { S with boxes := setBoxes S.boxes r.d.boxes, rows := setAll S.rows r.d.rows } E' a w' → (∀ n, E'.U n → E.U n ∨ (id ≤ n ∧ n < id + 64)) → K (a.put o.dst v) w') :
    o.wp P a w K Q := by
  unfold chunkOp at hb
  split at hb
  · rename_i f x y hcal hargs
    split at hb
    · rename_i g0 u l n hf hx hy
      simp only [Option.bind_eq_some_iff] at hb
      obtain ⟨q, hq, hb⟩ := hb
      split at hb
      · rename_i hu
        have hu : u = q.2 := of_decide_eq_true hu
        cases hb
        obtain ⟨sp, hsp, hspf, hspd⟩ := chunkOf_some hq
        have hraw := (hG sp hsp).2.2.2 q hspd
        rw [hspf] at hraw
        obtain ⟨⟨fn, f1, f2, f3⟩, _, ⟨t1, t2, hcall⟩, _⟩ := (show ChunkRaw P g0 q.1 q.2.size from hraw)
        simp only [cSub, decide_eq_true_eq] at hok
        obtain ⟨us, e1, hcaps⟩ := h.eval hf
        have hus : us = [] := List.eq_nil_of_length_eq_zero hcaps.1.symm
        subst hus
        have hxv := h.evalC hx
        obtain ⟨p, cc, hv, _⟩ := hxv.2
        simp only [Option.some.injEq] at hv
        have hyv : a.eval y = .int .i64 n := val_int (h.evalC hy).2
        have hrun : (execOp a.eval o).run P w = .ok (.enter g0 #[.slice p (List.length l) cc, .int .i64 n]) w := by
          have e2 : c.args.map a.eval ++ (#[] : Array Value) = #[.slice p (List.length l) cc, .int .i64 n] := by
            apply Array.ext'
            simp only [Array.toList_append, Array.toList_map, hargs, List.map_cons, List.map_nil, hyv, hv]
            rfl
          simp only [execOp, ho, resolve, hcal, Deferred.ofValue, e1, Sem.run_bind, Sem.run_pure, Result.andThen_ok, invoke, callFunc, run_program, f1, f2, f3, Bool.false_eq_true, if_false, Sem.run_ite]
          rw [← e2]
          simp
        unfold Oper.wp
        rw [hrun]
        show Calls P g0 _ w _
        refine (hcall w p (List.length l) cc n hok.2.1 hok.2.2).mono fun e' w' hp => ?_
        obtain ⟨rfl, rfl⟩ := hp
        obtain ⟨g1, L1⟩ := h.newBox (hid id (Nat.le_refl _) (by omega)) (cs := [.v (.row u) l]) (us := #[.slice p (List.length l) cc]) t1 (ACs.mk_cons (by rw [← hv]; exact hxv) ACs.mk_nil)
        have hid1 : ¬ (E.box id w.heap.size).U (id + 1) := fun hh => hh.elim (hid (id + 1) (by omega) (by omega)) (by omega)
        obtain ⟨g2, L2⟩ := g1.newBox hid1 (cs := [.v (.int .i64) n]) (us := #[.int .i64 n]) t2 (ACs.mk_cons acr_int ACs.mk_nil)
        have hβ0 : ((E.box id w.heap.size).box (id + 1) (w.alloc (.cells #[.slice p (List.length l) cc] t1)).heap.size).β id = w.heap.size := by simp [Env.box]
        have hβ1 : ((E.box id w.heap.size).box (id + 1) (w.alloc (.cells #[.slice p (List.length l) cc] t1)).heap.size).β (id + 1) = w.heap.size + 1 := by simp [Env.box]
        refine hK _ _ _ (L1.trans L2) ⟨_, rfl, rfl, fun j c' v' hc hv' => ?_⟩ g2 fun k hk => ?_
        · match j with
          | 0 =>
            simp only [List.getElem?_cons_zero, Option.some.injEq] at hc hv'
            subst hc; subst hv'
            exact ⟨.inl (.inr rfl), by rw [hβ0]⟩
          | 1 =>
            simp only [List.getElem?_cons_zero, List.getElem?_cons_succ, Option.some.injEq] at hc hv'
            subst hc; subst hv'
            exact ⟨.inr rfl, by rw [hβ1]⟩
          | j + 2 => simp at hc
        · rcases hk with (hk | hk) | hk
          · exact .inl hk
          · exact .inr ⟨by omega, by omega⟩
          · exact .inr ⟨by omega, by omega⟩
      · cases hb
    · cases hb
  · cases hb

end
end Go.Proofs.YtmbmapbdbbnaeaaT

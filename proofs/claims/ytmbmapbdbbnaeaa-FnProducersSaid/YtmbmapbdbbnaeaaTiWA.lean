/- Rows that are lent for a call. -/
import Derived.Test.YtmbmapbdbbnaeaaTiW
set_option linter.unusedVariables false
set_option linter.unusedSimpArgs false
namespace Go.Proofs.YtmbmapbdbbnaeaaT
open Go

section
variable {R : Type} {P : Program} {G : List Spec} {k : Nat} {B : Base} {S : St} {E : Env} {a : Act} {w : World}

theorem AVs.append {as : List AV} {vs us : List Value} (h : AVs w E as vs) {caps : List AW} (hc : AWs w E caps us) : AVs w E (as ++ caps.map AV.w) (vs ++ us) := by
  refine ⟨by simp [h.1, hc.1], fun j x v hx hv => ?_⟩
  rw [List.getElem?_append] at hx hv
  rw [h.1] at hx
  split at hx
  · rename_i hj; rw [if_pos hj] at hv; exact h.2 j x v hx hv
  · rename_i hj
    rw [if_neg hj] at hv
    simp only [List.getElem?_map, Option.map_eq_some_iff] at hx
    obtain ⟨q, hq, rfl⟩ := hx
    exact hc.2 _ q v hq hv
theorem AVs.mk_nil : AVs w E [] [] := ⟨rfl, fun j x v hx => by simp at hx⟩
theorem AVs.mk_cons {c : AV} {cs : List AV} {u : Value} {us : List Value} (hc : AVr w E c u) (h : AVs w E cs us) : AVs w E (c :: cs) (u :: us) := by
  refine ⟨by simp [h.1], fun j x v hx hv => ?_⟩
  cases j with
  | zero => simp at hx hv; subst hx; subst hv; exact hc
  | succ j => exact h.2 j x v (by simpa using hx) (by simpa using hv)
theorem innSwap_cons {k m : Nat} (x : AV) (r : List AV) : innSwap k m (x :: r) = x :: innSwap k m r ∨ ∃ j n s, x = .w (.c (.inn j n s)) ∧ n = m ∧ innSwap k m (x :: r) = .w (.c (.own m)) :: innSwap k m r := by
  cases x with
  | w x =>
    cases x with
    | c c =>
      cases c with
      | inn j n s =>
        simp only [innSwap]
        split
        · rename_i hb
          simp only [Bool.and_eq_true] at hb
          exact .inr ⟨j, n, s, rfl, beq_nat.1 hb.2, rfl⟩
        · exact .inl rfl
      | _ => exact .inl rfl
    | agg l => exact .inl rfl
  | _ => exact .inl rfl
theorem AVs.swap {k m : Nat} : ∀ {as : List AV} {vs : List Value}, AVs w E as vs → AVs w E (innSwap k m as) vs
  | [], vs, h => h
  | x :: as, vs, h => by
    obtain ⟨v, vs', rfl, hx, hv⟩ := h.cons_inv
    rcases innSwap_cons (k := k) (m := m) x as with e | ⟨j, n, s, rfl, rfl, e⟩
    · rw [e]; exact AVs.mk_cons hx hv.swap
    · rw [e]; exact AVs.mk_cons (c := .w (.c (.own n))) ⟨hx.1, hx.2.1, hx.2.2.1⟩ hv.swap
theorem innArg_sz : ∀ {as : List AV} {vs : List Value} {j m s : Nat}, AVs w E as vs → innArg as = some (j, m, s) → E.U m ∧ E.sz m = s
  | [], vs, j, m, s, _, h => by simp [innArg] at h
  | x :: as, vs, j, m, s, ha, h => by
    obtain ⟨v, vs', rfl, hx, hv⟩ := ha.cons_inv
    unfold innArg at h
    split at h
    · rename_i e; cases e
    · rename_i e
      cases e
      cases h
      exact ⟨hx.1, hx.2.2.2⟩
    · rename_i e
      cases e
      exact innArg_sz hv h

theorem lend_ok (h : Sim B S E a w) {j m s : Nat} (hm : E.U m ∧ E.sz m = s) {S1 : St} (hl : lend S j m s = some S1) :
    Sim B S1 E a w ∧ ∃ rows1, S1 = { S with rows := rows1 } ∧ ∀ n, n ≠ j → n ≠ m → rows1 n = S.rows n := by
  unfold lend at hl
  split at hl
  · rename_i t l hj
    simp only [Option.bind_eq_some_iff] at hl
    obtain ⟨rs, hrs, e⟩ := hl
    cases e
    cases t with
    | deep nt t =>
      cases nt with
      | none => simp only [lendRow] at hrs; cases hrs
      | some nt =>
        obtain ⟨lt, i, o, m'⟩ := nt
        cases lt with
        | true => simp only [lendRow] at hrs; cases hrs
        | false =>
          simp only [lendRow] at hrs
          split at hrs
          · rename_i u x hb hc
            split at hrs
            · rename_i hsz
              cases hrs
              simp only [Bool.and_eq_true, Bool.not_eq_true'] at hb
              obtain rfl := beq_nat.1 hb.1
              have hne : j ≠ m := beq_nat'.1 hb.2
              have hsz := beq_nat.1 hsz
              refine ⟨?_, _, rfl, fun n h1 h2 => by simp only [setAll_cons]; show upd (upd S.rows j _) m _ n = _; rw [upd_ne h2, upd_ne h1]⟩
              obtain ⟨xs, hx, hb⟩ := (h.rows j _ hj).ownB rfl
              have hsj : E.sz j = t.size := (h.rows j _ hj).1
              rw [hsj] at hx
              have hk : Kids w E.U E.hv (some ⟨false, i, o, m⟩) t l xs (E.hv j) := hb
              obtain ⟨n1, n2, n3, n4, n5, n6⟩ := hk.note _ rfl
              simp only at n1 n2 n3 n4 n5 n6
              have hget : l[i.toNat]? = some (rGet t.dflt l i) := by simp [rGet, n2]
              have hcell : (cellsL t l)[i.toNat * t.size + o]? = some (.v (.row u) x) := by rw [cellsL_get (t := t) hget n3]; exact hc
              obtain ⟨hnr, ys, hyo, hye⟩ := hk.kid _ _ _ hcell n4 (by simp [lentPos])
              have hflat := one_flat hk.one hc
              have hk2 : Kids w E.U E.hv (some ⟨true, i, o, m⟩) t l xs (E.hv j) :=
                { one := hk.one
                  kid := fun p c v hc hv _ => hk.kid p c v hc hv (by simp [lentPos])
                  note := fun n hn => by
                    cases hn
                    exact ⟨n1, n2, n3, n4, n5, n6⟩
                  inj := fun p p' v v' b hv hv' _ _ hb hb' => hk.inj p p' v v' b hv hv' (by simp [lentPos]) (by simp [lentPos]) hb hb'
                  out := fun p v b hv _ hb => hk.out p v b hv (by simp [lentPos]) hb }
              have hsub : ∀ b, OwnB w (E.hv j) (.deep (some ⟨true, i, o, m⟩) t) l b → OwnB w (E.hv j) (.deep (some ⟨false, i, o, m⟩) t) l b := fun b hb =>
                hb.imp (fun h => h) fun ⟨p, v, q1, q2, q3⟩ => ⟨p, v, q1, by simp [lentPos], q3⟩
              have g1 := h.setRowSt (k := j) (r := ⟨true, .deep (some ⟨true, i, o, m⟩) t, l⟩) (h.rowU j _ hj) ⟨hsj, trivial, xs, by rw [hsj]; exact hx, hk2⟩ (fun _ b hb => by
                obtain ⟨z1, z2, z3, z4⟩ := h.rowNew j _ b hj rfl (hsub b hb)
                exact ⟨z1, z2, z3, z4⟩)
              refine g1.setRowSt (k := m) (r := ⟨true, u, x⟩) hm.1 ⟨by rw [hm.2, hsz], trivial, ys, by rw [hm.2, hsz]; exact hyo, (Body.flat hflat).2 (EncL.mono (fun _ h => h.elim) (fun _ h => h.elim) hye)⟩ (fun _ b hb => ?_)
              have hb := (OwnB.flat hflat).1 hb
              have hbj : OwnB w (E.hv j) (.deep (some ⟨false, i, o, m⟩) t) l b := OwnB.kid (t := t) (h := some ⟨false, i, o, m⟩) (kids_owned hx) n4 (by simp [lentPos]) hb
              obtain ⟨z1, z2, z3, z4⟩ := h.rowNew j _ b hj rfl hbj
              refine ⟨z1, z2, z3, fun k' r' hk' ho' hg' => ?_⟩
              exfalso
              rcases upd_cases hk' with ⟨e1, e2⟩ | ⟨e1, e2⟩
              · cases e2
                rw [e1] at hg'
                rcases hg' with hg' | ⟨p, v, q1, q2, q3⟩
                · exact hk.out _ _ b n4 (by simp [lentPos]) hb hg'
                · change (kids _ _ t.size)[p]? = some v at q1; rw [kids_owned (sz := t.size) hx] at q1
                  have := hk.inj _ _ v _ b q1 n4 (by simp [lentPos]) (by simp [lentPos]) q3 hb
                  exact q2 (by simp only [lentPos]; rw [this])
              · exact e1 (z4 k' r' e2 ho' hg')
            · cases hrs
          · cases hrs
    | _ => simp only [lendRow] at hrs; cases hrs
  · cases hl

theorem setAll_at {α : Type} {n : Nat} : ∀ {l : List (Nat × Option α)} {f g : Nat → Option α}, f n = g n → setAll f l n = setAll g l n
  | [], _, _, h => h
  | (k, x) :: l, f, g, h => by
    rw [setAll_cons, setAll_cons]
    refine setAll_at ?_
    by_cases e : n = k
    · subst e; rw [upd_same, upd_same]
    · rw [upd_ne e, upd_ne e, h]

theorem giveBack_ok {S1 : St} {E2 : Env} {w2 : World} {j m : Nat} {δ0 δ : Delta} (hS : Sim B { S1 with boxes := setBoxes S1.boxes δ0.boxes, rows := setAll S1.rows δ0.rows } E2 a w2)
    (h1 : ∃ rows1, S1 = { S with rows := rows1 } ∧ ∀ n, n ≠ j → n ≠ m → rows1 n = S.rows n) (hb : giveBack S1 j m δ0 = some δ) :
    δ.val = δ0.val ∧ δ.boxes = δ0.boxes ∧ Sim B { S with boxes := setBoxes S.boxes δ0.boxes, rows := setAll S.rows δ.rows } E2 a w2 := by
  obtain ⟨rows1, rfl, hrows⟩ := h1
  unfold giveBack at hb
  split at hb
  · rename_i t l u x hj hm
    simp only [Option.bind_eq_some_iff] at hb
    obtain ⟨rs, hrs, e⟩ := hb
    cases e
    refine ⟨rfl, rfl, ?_⟩
    simp only at hj hm hS ⊢
    generalize hR : setAll rows1 δ0.rows = R at hj hm hS
    have key : ∀ q, rs = [(m, none), (j, some q)] → setAll S.rows (δ0.rows ++ rs) = setAll R rs := by
      intro q hq
      rw [setAll_append, ← hR]
      funext n
      by_cases hk : ∃ p ∈ rs, p.1 = n
      · exact setAll_key hk
      · refine setAll_at (setAll_at ?_)
        refine (hrows n (fun e => hk ⟨(j, some q), by rw [hq]; simp, e.symm⟩) (fun e => hk ⟨(m, none), by rw [hq]; simp, e.symm⟩)).symm
    cases t with
    | deep nt t =>
      cases nt with
      | none => simp only [backRow] at hrs; cases hrs
      | some nt =>
        obtain ⟨lt, i, o, m'⟩ := nt
        cases lt with
        | false => simp only [backRow] at hrs; cases hrs
        | true =>
          simp only [backRow] at hrs
          split at hrs
          · rename_i u' x0 hbm hc
            obtain rfl := beq_nat.1 hbm
            split at hrs
            · rename_i hu
              subst hu
              simp only [Option.bind_eq_some_iff] at hrs
              obtain ⟨cs, hcs, z, hz, e⟩ := hrs
              cases e
              rw [key ⟨true, .deep none t, rSet l i z⟩ rfl]
              show Sim B { S with boxes := setBoxes S.boxes δ0.boxes, rows := upd (upd R m none) j (some ⟨true, .deep none t, rSet l i z⟩) } E2 a w2
              -- the deep row and what was lent
              obtain ⟨xs, hx, hb⟩ := (hS.rows j _ hj).ownB rfl
              have hsj : E2.sz j = t.size := (hS.rows j _ hj).1
              rw [hsj] at hx
              have hk : Kids w2 E2.U E2.hv (some ⟨true, i, o, m⟩) t l xs (E2.hv j) := hb
              obtain ⟨n1, n2, n3, n4, n5, n6⟩ := hk.note _ rfl
              simp only at n1 n2 n3 n4 n5 n6
              have hget : l[i.toNat]? = some (rGet t.dflt l i) := by simp [rGet, n2]
              have hflat := one_flat hk.one hc
              have hnr := one_row hk.one hc
              obtain ⟨ys, hy, hye⟩ := (hS.rows m _ hm).own rfl hflat
              have hsm : E2.sz m = u.size := (hS.rows m _ hm).1
              rw [hsm] at hy
              have hne : j ≠ m := fun e => by
                subst e
                rw [hj] at hm
                cases hm
                cases hflat
              obtain ⟨hfit, hcs'⟩ := splice_some hcs
              rw [flat_len] at hfit
              obtain ⟨pl1, pf1⟩ := parse_flat hz
              have hcg : ∀ p : Nat, cs[p]? = if p < o then (flat t (rGet t.dflt l i))[p]? else if p < o + 1 then [AC.v (.row u) x][p - o]? else (flat t (rGet t.dflt l i))[p]? := by
                intro p
                rw [hcs', splice_get _ _ _ _ (by rw [flat_len]; exact hfit)]
                rfl
              have hpos : lentPos t (some ⟨true, i, o, m⟩) = some (i.toNat * t.size + o) := rfl
              have mblk : ∀ b, (E2.hv m).ownBlock = some b → OwnB w2 (E2.hv m) u x b := fun b hb => .inl hb
              have apart : ∀ b, OwnB w2 (E2.hv m) u x b → OwnB w2 (E2.hv j) (.deep (some ⟨true, i, o, m⟩) t) l b → False := fun b hb hb' =>
                hne ((hS.rowNew m _ b hm rfl hb).2.2.2 j _ hj rfl hb')
              have kidj : ∀ (p : Nat) v b, xs[p]? = some v → p ≠ i.toNat * t.size + o → v.ownBlock = some b → OwnB w2 (E2.hv j) (.deep (some ⟨true, i, o, m⟩) t) l b := fun p v b hv hp hb =>
                OwnB.kid (t := t) (h := some ⟨true, i, o, m⟩) (kids_owned hx) hv (by rw [hpos]; simp; omega) hb
              have cell_ : ∀ (p : Nat) v c, xs[p]? = some v → (cellsL t (rSet l i z))[p]? = some c → Kid w2 c v := by
                intro p v c hv hcc
                unfold rSet at hcc
                rcases cellsL_set (t := t) n2 hcc with ⟨q1, q2⟩ | ⟨q1, q2⟩
                · have hmlt : p % t.size < t.size := by
                    have := (List.getElem?_eq_some_iff.1 q2).1
                    rwa [flat_len] at this
                  have ep := Nat.div_add_mod' p t.size
                  rw [q1] at ep
                  have hpc : p % t.size < cs.length := by rw [parse_len hz]; exact hmlt
                  obtain ⟨c1, hcp⟩ : ∃ c1, cs[p % t.size]? = some c1 := ⟨_, List.getElem?_eq_getElem hpc⟩
                  obtain ⟨u2, y2, rfl, hcell, has⟩ := pf1 _ _ _ hcp q2
                  by_cases hpo : p % t.size = o
                  · rw [hcg, hpo, if_neg (Nat.lt_irrefl _), if_pos (Nat.lt_succ_self _), Nat.sub_self] at hcp
                    simp only [List.getElem?_cons_zero, Option.some.injEq] at hcp
                    rw [← hcp] at has
                    rw [asT_v has]
                    have : v = E2.hv m := by
                      rw [← ep, hpo, n4] at hv
                      exact (Option.some.inj hv).symm
                    subst this
                    exact ⟨hnr, ys, hy, fun q zz hq => (hye q zz hq).plain hnr⟩
                  · have hcp3 : (flat t (rGet t.dflt l i))[p % t.size]? = some c1 := by
                      rw [hcg] at hcp
                      by_cases hlt : p % t.size < o
                      · rw [if_pos hlt] at hcp; exact hcp
                      · rw [if_neg hlt, if_neg (by omega)] at hcp; exact hcp
                    have hold : (cellsL t l)[p]? = some c1 := by
                      rw [← ep, cellsL_get (t := t) hget hmlt]; exact hcp3
                    have hk0 := hk.kid p _ v hold hv (by rw [hpos]; simp; omega)
                    have : ∃ t0 x1, c1 = .v t0 x1 := by
                      cases c1 <;> first | exact ⟨_, _, rfl⟩ | exact hk0.elim
                    obtain ⟨t0, x1, rfl⟩ := this
                    rw [asT_v has]
                    exact hk0
                · refine hk.kid p c v q2 hv ?_
                  rw [hpos]
                  intro e
                  have e := Option.some.inj e
                  apply q1
                  rw [← e, Nat.add_comm, Nat.add_mul_div_right _ _ (by omega), Nat.div_eq_of_lt n3, Nat.zero_add]
              have hk2 : Kids w2 E2.U E2.hv none t (rSet l i z) xs (E2.hv j) :=
                { one := hk.one
                  kid := fun p c v hc hv _ => cell_ p v c hv hc
                  note := fun n hn => by cases hn
                  inj := fun p p' v v' b hv hv' _ _ hb hb' => by
                    by_cases e1 : p = i.toNat * t.size + o
                    · by_cases e2 : p' = i.toNat * t.size + o
                      · rw [e1, e2]
                      · exfalso
                        rw [e1, n4] at hv
                        cases hv
                        exact apart b (mblk b hb) (kidj p' v' b hv' e2 hb')
                    · by_cases e2 : p' = i.toNat * t.size + o
                      · exfalso
                        rw [e2, n4] at hv'
                        cases hv'
                        exact apart b (mblk b hb') (kidj p v b hv e1 hb)
                      · exact hk.inj p p' v v' b hv hv' (by rw [hpos]; simp; omega) (by rw [hpos]; simp; omega) hb hb'
                  out := fun p v b hv _ hb e => by
                    by_cases e1 : p = i.toNat * t.size + o
                    · rw [e1, n4] at hv
                      cases hv
                      exact apart b (mblk b hb) (.inl e)
                    · exact hk.out p v b hv (by rw [hpos]; simp; omega) hb e }
              have hsub : ∀ k r, upd R m none k = some r → R k = some r := fun k r hk => (upd_none hk).2
              have g2 := (hS.dropRow m).setRowSt (k := j) (r := ⟨true, .deep none t, rSet l i z⟩) (hS.rowU j _ hj) ⟨hsj, trivial, xs, by rw [hsj]; simpa [rSet] using hx, hk2⟩ (fun _ b hb => by
                have hcase : OwnB w2 (E2.hv j) (.deep (some ⟨true, i, o, m⟩) t) l b ∨ OwnB w2 (E2.hv m) u x b := by
                  rcases hb with hb | ⟨p, v, q1, q2, q3⟩
                  · exact .inl (.inl hb)
                  · change (kids _ _ t.size)[p]? = some v at q1; rw [kids_owned (sz := t.size) hx] at q1
                    by_cases e1 : p = i.toNat * t.size + o
                    · rw [e1, n4] at q1
                      cases q1
                      exact .inr (.inl q3)
                    · exact .inl (kidj p v b q1 e1 q3)
                rcases hcase with hcase | hcase
                · obtain ⟨z1, z2, z3, z4⟩ := hS.rowNew j _ b hj rfl hcase
                  exact ⟨z1, z2, z3, fun k' r' hk' ho' hg' => z4 k' r' (hsub _ _ hk') ho' hg'⟩
                · obtain ⟨z1, z2, z3, z4⟩ := hS.rowNew m _ b hm rfl hcase
                  exact ⟨z1, z2, z3, fun k' r' hk' ho' hg' => absurd (z4 k' r' (hsub _ _ hk') ho' hg') (upd_none hk').1⟩)
              exact g2
            · cases hrs
          · cases hrs
    | _ => simp only [backRow] at hrs; cases hrs
  · cases hb

end
end Go.Proofs.YtmbmapbdbbnaeaaT

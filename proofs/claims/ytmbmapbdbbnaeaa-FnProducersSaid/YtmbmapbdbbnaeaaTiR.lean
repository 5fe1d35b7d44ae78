/- States that are told by leaves, continued: temporaries and variables. -/
import Derived.Test.YtmbmapbdbbnaeaaTiQ
set_option linter.unusedVariables false
set_option linter.unusedSimpArgs false
namespace Go.Proofs.YtmbmapbdbbnaeaaT
open Go

section
variable {P : Program} {B : Base} {S : St} {E E2 : Env} {a : Act} {w : World}

theorem fitW_ok {g : Bool} {n : Nat} {x : AW} {cs : List AC} {v : Value} (h : fitW g n x = some cs) (hx : AWr w E x v) :
    cs.length = n ∧ ∃ us, ACs w E cs us ∧ ∀ (E2 : Env) ys, ACs w E2 ys us → AWr w E2 (mkW g ys) v := by
  unfold fitW at h
  split at h
  · split at h
    · cases h
    · split at h
      · rename_i hn
        cases h
        refine ⟨(beq_nat.1 hn).symm, [v], ACs.mk_cons hx ACs.mk_nil, fun E2 ys hy => ?_⟩
        match ys, hy with
        | [y], hy => obtain ⟨u, us', e, h1, _⟩ := hy.cons_inv; cases e; exact h1
        | [], hy => cases hy.1
        | _ :: _ :: _, hy => have := hy.1; simp at this
      · cases h
  · split at h
    · split at h
      · rename_i hn
        cases h
        obtain ⟨us, e, ha⟩ := hx
        exact ⟨beq_nat.1 hn, us, ha, fun E2 ys hy => ⟨us, e, hy⟩⟩
      · cases h
    · cases h

theorem AWs.cons_inv {c : AW} {cs : List AW} {us : List Value} (h : AWs w E (c :: cs) us) : ∃ u us', us = u :: us' ∧ AWr w E c u ∧ AWs w E cs us' := by
  cases us with
  | nil => cases h.1
  | cons u us => exact ⟨u, us, rfl, h.2 0 c u rfl rfl, by simpa using h.1, fun j c' u' hc hu => h.2 (j + 1) c' u' (by simpa using hc) (by simpa using hu)⟩
theorem AWs.mk_nil : AWs w E [] [] := ⟨rfl, fun j c u hc => by simp at hc⟩
theorem AWs.mk_cons {c : AW} {cs : List AW} {u : Value} {us : List Value} (hc : AWr w E c u) (h : AWs w E cs us) : AWs w E (c :: cs) (u :: us) := by
  refine ⟨by simp [h.1], fun j c' u' h1 h2 => ?_⟩
  cases j with
  | zero => simp at h1 h2; subst h1; subst h2; exact hc
  | succ j => exact h.2 j c' u' (by simpa using h1) (by simpa using h2)

theorem fitWs_ok : ∀ {ss : List (Bool × Nat)} {ws : List AW} {cs : List AC} {vs : List Value}, fitWs ss ws = some cs → AWs w E ws vs →
    cs.length = capsN ss ∧ ∃ us, ACs w E cs us ∧ ∀ (E2 : Env) ys, ACs w E2 ys us → AWs w E2 (mkWs ss ys) vs
  | [], [], cs, vs, h, hv => by
    simp only [fitWs] at h
    cases h
    have : vs = [] := List.eq_nil_of_length_eq_zero hv.1.symm
    subst this
    exact ⟨rfl, [], ACs.mk_nil, fun E2 ys _ => AWs.mk_nil⟩
  | [], _ :: _, cs, vs, h, hv => by simp only [fitWs] at h; cases h
  | _ :: _, [], cs, vs, h, hv => by simp only [fitWs] at h; cases h
  | (g, n) :: ss, x :: ws, cs, vs, h, hv => by
    simp only [fitWs, Option.bind_eq_some_iff] at h
    obtain ⟨c1, h1, c2, h2, e⟩ := h
    cases e
    obtain ⟨v, vs', rfl, hx, hv'⟩ := hv.cons_inv
    obtain ⟨l1, us1, k1, f1⟩ := fitW_ok h1 hx
    obtain ⟨l2, us2, k2, f2⟩ := fitWs_ok h2 hv'
    refine ⟨by simp [l1, l2, capsN], us1 ++ us2, k1.append k2, fun E2 ys hy => ?_⟩
    have e1 : us1.length = n := by rw [← k1.1, l1]
    simp only [mkWs]
    refine AWs.mk_cons (f1 E2 _ ?_) (f2 E2 _ ?_)
    · have := hy.take n; rwa [List.take_left' e1] at this
    · have := hy.drop n; rwa [List.drop_left' e1] at this

theorem gotT_ok {bs : List Nat} {L : List (Nat × Nat)} {l : LT} {av : AV} {cs : List AC} {v : Value} (h : gotT bs L l (some av) = some cs) (hv : AVr w E av v) :
    cs.length = l.n ∧ ∃ us, ACs w E cs us ∧ ∀ (E2 : Env) ys, ACs w E2 ys us → (∀ b c, boxAt bs L b = some c → E2.U b ∧ E2.β b = E.β c) → AVr w E2 (l.av ys) v := by
  unfold gotT at h
  split at h
  · rename_i g n x e
    cases e
    obtain ⟨l1, us, k1, f1⟩ := fitW_ok h hv
    exact ⟨l1, us, k1, fun E2 ys hy _ => f1 E2 ys hy⟩
  · rename_i ws xs e
    cases e
    obtain ⟨vs, e, hv⟩ := hv
    obtain ⟨l1, us, k1, f1⟩ := fitWs_ok h hv
    exact ⟨l1, us, k1, fun E2 ys hy _ => ⟨vs, e, f1 E2 ys hy⟩⟩
  · rename_i b o c o' e
    cases e
    simp only [Option.bind_eq_some_iff] at h
    obtain ⟨c', hc', h⟩ := h
    split at h
    · rename_i he
      cases h
      simp only [Bool.and_eq_true] at he
      obtain ⟨e1, e2⟩ := he
      obtain rfl := beq_nat.1 e1
      obtain rfl := beq_nat.1 e2
      obtain ⟨hU, hv⟩ := hv
      refine ⟨rfl, [], ACs.mk_nil, fun E2 ys _ hb => ?_⟩
      obtain ⟨h1, h2⟩ := hb b c hc'
      exact ⟨h1, by rw [h2]; exact hv⟩
    · cases h
  · rename_i f caps g ws e
    cases e
    split at h
    · rename_i hf
      obtain rfl := beq_nat.1 hf
      obtain ⟨vs, e, hv⟩ := hv
      obtain ⟨l1, us, k1, f1⟩ := fitWs_ok h hv
      exact ⟨l1, us, k1, fun E2 ys hy _ => ⟨vs, e, f1 E2 ys hy⟩⟩
    · cases h
  · rename_i f b o g c o' e
    cases e
    simp only [Option.bind_eq_some_iff] at h
    obtain ⟨c', hc', h⟩ := h
    split at h
    · rename_i he
      cases h
      simp only [Bool.and_eq_true] at he
      obtain ⟨e0, e1, e2⟩ := he
      obtain rfl := beq_nat.1 e0
      obtain rfl := beq_nat.1 e1
      obtain rfl := beq_nat.1 e2
      obtain ⟨vs, e, hv⟩ := hv
      refine ⟨rfl, [], ACs.mk_nil, fun E2 ys _ hb => ?_⟩
      obtain ⟨h1, h2⟩ := hb b c hc'
      refine ⟨vs, e, hv.1, fun j x u hx hu => ?_⟩
      have hlen := hv.1
      cases j with
      | zero =>
        simp at hx
        subst hx
        obtain ⟨hU, hv⟩ := hv.2 0 _ u rfl hu
        exact ⟨h1, by rw [h2]; exact hv⟩
      | succ j => simp at hx
    · cases h
  · rename_i f b b2 g c o d o' e
    cases e
    simp only [Option.bind_eq_some_iff] at h
    obtain ⟨c', hc', d', hd', h⟩ := h
    split at h
    · rename_i he
      cases h
      simp only [Bool.and_eq_true] at he
      obtain ⟨e0, e1, e2, e3, e4⟩ := he
      obtain rfl := beq_nat.1 e0
      obtain rfl := beq_nat.1 e1
      obtain rfl := beq_nat.1 e2
      obtain rfl := beq_nat.1 e3
      obtain rfl := beq_nat.1 e4
      obtain ⟨vs, e, hv⟩ := hv
      refine ⟨rfl, [], ACs.mk_nil, fun E2 ys _ hb => ?_⟩
      obtain ⟨h1, h2⟩ := hb b c hc'
      obtain ⟨h3, h4⟩ := hb b2 d hd'
      refine ⟨vs, e, hv.1, fun j x u hx hu => ?_⟩
      match j, hx with
      | 0, hx =>
        simp at hx
        subst hx
        obtain ⟨hU, hv⟩ := hv.2 0 _ u rfl hu
        exact ⟨h1, by rw [h2]; exact hv⟩
      | 1, hx =>
        simp at hx
        subst hx
        obtain ⟨hU, hv⟩ := hv.2 1 _ u rfl hu
        exact ⟨h3, by rw [h4]; exact hv⟩
      | j + 2, hx => simp at hx
    · cases h
  · cases h

theorem gotT_some {bs : List Nat} {L : List (Nat × Nat)} {l : LT} {o : Option AV} {cs : List AC} (h : gotT bs L l o = some cs) : ∃ av, o = some av := by
  unfold gotT at h
  split at h <;> first | exact ⟨_, rfl⟩ | cases h

/-- The temporaries' cells. -/
theorem gotTmps_ok (h : Sim B S E a w) {bs : List Nat} {L : List (Nat × Nat)} : ∀ {lt : List (Nat × LT)} {cs : List AC}, gotTmps S bs L lt = some cs →
    cs.length = layTmpsN lt ∧ ∃ us, ACs w E cs us ∧ ∀ (E2 : Env) ys zs, ACs w E2 ys us → (∀ b c, boxAt bs L b = some c → E2.U b ∧ E2.β b = E.β c) →
      ∀ t av, layTmps lt (ys ++ zs) t = some av → t < B.n ∧ AVr w E2 av (a.tmps.getD t undef)
  | [], cs, hg => by simp only [gotTmps] at hg; cases hg; exact ⟨rfl, [], ACs.mk_nil, fun E2 ys zs _ _ t av ht => by simp [layTmps] at ht⟩
  | (t, l) :: r, cs, hg => by
    simp only [gotTmps, Option.bind_eq_some_iff] at hg
    obtain ⟨c1, h1, c2, h2, e⟩ := hg
    cases e
    obtain ⟨av, hav⟩ := gotT_some h1
    rw [hav] at h1
    obtain ⟨l1, us1, k1, f1⟩ := gotT_ok h1 (h.tmps t av hav).2
    obtain ⟨l2, us2, k2, f2⟩ := gotTmps_ok h h2
    refine ⟨by simp [l1, l2, layTmpsN], us1 ++ us2, k1.append k2, fun E2 ys zs hy hb t' av' ht => ?_⟩
    have e1 : us1.length = l.n := by rw [← k1.1, l1]
    have hn : l.n ≤ ys.length := by rw [hy.1, List.length_append]; omega
    simp only [layTmps] at ht
    split at ht
    · rename_i hq
      obtain rfl := beq_nat.1 hq
      cases ht
      refine ⟨(h.tmps _ av hav).1, f1 E2 _ ?_ hb⟩
      have := hy.take l.n
      rw [List.take_left' e1] at this
      rwa [List.take_append_of_le_length hn]
    · rw [List.drop_append_of_le_length hn] at ht
      refine f2 E2 (ys.drop l.n) zs ?_ hb t' av' ht
      have := hy.drop l.n
      rwa [List.drop_left' e1] at this

/-- The variables' cells. -/
theorem boxCells_ok (h : Sim B S E a w) : ∀ {bs : List Nat} {L : List (Nat × Nat)} {cs : List AC}, boxCells S bs L = some cs →
    ∃ us, ACs w E cs us ∧ ∀ (E2 : Env) ys zs, ACs w E2 ys us → ∀ b cs', layBoxes L (ys ++ zs) b = some cs' →
      ∃ c, boxAt bs L b = some c ∧ (∃ cs0, S.boxes c = some cs0) ∧ ∃ ub ty, w.heap[E.β c]? = some (.cells ub ty (0, 0)) ∧ ACs w E2 cs' ub.toList
  | [], [], cs, hg => by simp only [boxCells] at hg; cases hg; exact ⟨[], ACs.mk_nil, fun E2 ys zs _ b cs' hb => by simp [layBoxes] at hb⟩
  | [], _ :: _, cs, hg => by simp only [boxCells] at hg; cases hg
  | _ :: _, [], cs, hg => by simp only [boxCells] at hg; cases hg
  | c :: bs, (b, n) :: L, cs, hg => by
    simp only [boxCells, Option.bind_eq_some_iff] at hg
    obtain ⟨c1, h1, hg⟩ := hg
    split at hg
    · rename_i hn
      have hn := beq_nat.1 hn
      simp only [Option.bind_eq_some_iff] at hg
      obtain ⟨c2, h2, e⟩ := hg
      cases e
      obtain ⟨ub, ty, q1, q2⟩ := h.boxes c c1 h1
      obtain ⟨us2, k2, f2⟩ := boxCells_ok h h2
      refine ⟨ub.toList ++ us2, q2.append k2, fun E2 ys zs hy b' cs' hb => ?_⟩
      have e1 : ub.toList.length = n := by rw [← q2.1, hn]
      have hle : n ≤ ys.length := by rw [hy.1, List.length_append]; omega
      simp only [layBoxes] at hb
      split at hb
      · rename_i hq
        cases hb
        refine ⟨c, by simp only [boxAt, hq], ⟨c1, h1⟩, ub, ty, q1, ?_⟩
        have := hy.take n
        rw [List.take_left' e1] at this
        rwa [List.take_append_of_le_length hle]
      · rename_i hq
        rw [List.drop_append_of_le_length hle] at hb
        have := hy.drop n
        rw [List.drop_left' e1] at this
        obtain ⟨c', g1, g2⟩ := f2 E2 (ys.drop n) zs this b' cs' hb
        exact ⟨c', by simp only [boxAt, hq]; exact g1, g2⟩
    · cases hg

theorem boxAt_inj : ∀ {bs : List Nat} {L : List (Nat × Nat)} {b b' c : Nat}, bs.Nodup → boxAt bs L b = some c → boxAt bs L b' = some c → b = b'
  | [], _, _, _, _, _, h, _ => by simp [boxAt] at h
  | _ :: _, [], _, _, _, _, h, _ => by simp [boxAt] at h
  | x :: bs, (y, n) :: L, b, b', c, hn, h, h' => by
    have hmem : ∀ {bs : List Nat} {L : List (Nat × Nat)} {b c : Nat}, boxAt bs L b = some c → c ∈ bs := by
      intro bs
      induction bs with
      | nil => intro L b c h; simp [boxAt] at h
      | cons x bs ih =>
        intro L b c h
        cases L with
        | nil => simp [boxAt] at h
        | cons p L =>
          simp only [boxAt] at h
          split at h
          · cases h; simp
          · exact List.mem_cons_of_mem _ (ih h)
    simp only [boxAt] at h h'
    split at h
    · rename_i e1
      cases h
      split at h'
      · rename_i e2; rw [beq_nat.1 e1, beq_nat.1 e2]
      · exact absurd (hmem h') (List.nodup_cons.1 hn).1
    · split at h'
      · cases h'; exact absurd (hmem h) (List.nodup_cons.1 hn).1
      · exact boxAt_inj (List.nodup_cons.1 hn).2 h h'

/-- A state is told anew by its leaves. -/
theorem lay_sim (h : Sim B S E a w) {B2 : Base} {a2 : Act} {L : Lay} {ss : List CSh} {bs : List Nat} {c1 c2 c3 : List AC} {us1 us2 us3 : List Value} {x : (shapesTy ss).T}
    (hc1 : ACs w E c1 us1) (hl1 : c1.length = layTmpsN L.tmps) (hc2 : ACs w E c2 us2) (hc3 : ACs w E c3 us3) (hx : leaves S ss (c1 ++ (c2 ++ c3)) = some x) (hbs : bs.Nodup)
    (htm : ∀ (E1 E2 : Env) ys zs, E.le w w E1 → ACs w E2 ys us1 → (∀ b c, boxAt bs L.boxes b = some c → E2.U b ∧ E2.β b = E1.β c) → ∀ t av, layTmps L.tmps (ys ++ zs) t = some av → t < B2.n ∧ AVr w E2 av (a2.tmps.getD t undef))
    (hbx : ∀ (E2 : Env) ys zs, ACs w E2 ys us2 → ∀ b cs', layBoxes L.boxes (ys ++ zs) b = some cs' →
      ∃ c, boxAt bs L.boxes b = some c ∧ (∃ cs0, S.boxes c = some cs0) ∧ ∃ ub ty, w.heap[E.β c]? = some (.cells ub ty (0, 0)) ∧ ACs w E2 cs' ub.toList)
    (hbU : ∀ b c, boxAt bs L.boxes b = some c → E.U c ∧ b < 100000)
    (hd : a2.defers = B2.dfs) (hsz : a2.tmps.size = B2.n)
    (hB : ∀ (rows1 : Nat → Option RowSt) (E1 : Env), Sim B { S with rows := rows1 } E1 a w → E.le w w E1 → (∀ p, splitToks ss (c1 ++ (c2 ++ c3)) = some p → ∀ b, E1.F b ↔ FZ S E w p.2 b) → (∀ b, B2.FA b → E1.F b) ∧ (∀ b, E1.F b → B2.FA b ∨ B2.new b) ∧
      (∀ b, B2.FA b → b < B2.w0.heap.size ∧ ¬ B2.M b))
    (hnewR : ∀ (j k : Nat) r g, (c1 ++ (c2 ++ c3))[j]? = some (.own k) → (∃ t, ss[j]? = some (.own t)) → S.rows k = some r → r.own = true → OwnB w (E.hv k) r.t r.l g → B2.new g)
    (hnewB : ∀ b c cs0, boxAt bs L.boxes b = some c → S.boxes c = some cs0 → B2.new (E.β c))
    (hos : w.os = B2.w0.os) (htape : w.tape = B2.w0.tape) (hout : w.output = B2.w0.output) (hgrown : B2.w0.heap.size ≤ w.heap.size)
    (hframe : ∀ b, b < B2.w0.heap.size → ¬ B2.M b → w.heap[b]? = B2.w0.heap[b]?) (htab : TabOk B2.w0 B2.FA) :
    ∃ E1 E2, E.le w w E1 ∧ E2.F = E1.F ∧ Sim B2 (laySt L ss (flat (shapesTy ss) x) (mkAt 0 ss (flat (shapesTy ss) x))) E2 a2 w ∧
      (∀ b c, boxAt bs L.boxes b = some c → E2.β b = E.β c) ∧ (∀ n, E2.U n → n < 100000) ∧ (∀ j u, (us1 ++ (us2 ++ us3))[j]? = some u → E2.hv j = u) ∧ (∀ n, n < 100000 → E2.U n) ∧ (∀ p, splitToks ss (c1 ++ (c2 ++ c3)) = some p → ∀ b, E1.F b ↔ FZ S E w p.2 b) := by
  obtain ⟨rows1, E1, g1, g2, g3, g4⟩ := lay_ok h (hc1.append (hc2.append hc3)) hx
  obtain ⟨q1, q2, q3⟩ := hB rows1 E1 g1 g2 g3
  let γ : Nat → Nat := fun b => (boxAt bs L.boxes b).getD 0
  obtain ⟨m1, m2, m3⟩ := g4 γ
  generalize hfl : flat (shapesTy ss) x = fl at *
  have e1 : us1.length = layTmpsN L.tmps := by rw [← hc1.1, hl1]
  have hall : mkAt 0 ss fl = (mkAt 0 ss fl).take us1.length ++ (mkAt 0 ss fl).drop us1.length := (List.take_append_drop _ _).symm
  have t1 : ACs w (layEnv E1 γ (us1 ++ (us2 ++ us3)) fl) ((mkAt 0 ss fl).take us1.length) us1 := by
    have := m1.take us1.length; rwa [List.take_left' rfl] at this
  have t2 : ACs w (layEnv E1 γ (us1 ++ (us2 ++ us3)) fl) (((mkAt 0 ss fl).drop us1.length).take us2.length) us2 := by
    have := (m1.drop us1.length).take us2.length; rwa [List.drop_left' rfl, List.take_left' rfl] at this
  have hβ : ∀ b c, boxAt bs L.boxes b = some c → (layEnv E1 γ (us1 ++ (us2 ++ us3)) fl).U b ∧ (layEnv E1 γ (us1 ++ (us2 ++ us3)) fl).β b = E1.β c := fun b c hb => ⟨(hbU b c hb).2, by simp [layEnv, γ, hb]⟩
  refine ⟨E1, layEnv E1 γ (us1 ++ (us2 ++ us3)) fl, g2, rfl, ?_, fun b c hb => by rw [(hβ b c hb).2, g2.β c (hbU b c hb).1], fun _ hn => hn, fun j u hu => by simp [layEnv, List.getD_eq_getElem?_getD, hu], fun _ hn => hn, g3⟩
  refine g1.re (tokAt (c1 ++ (c2 ++ c3))) γ hd hsz ?_ ?_ ?_ ?_ ?_ (fun b hb => hb) (fun k r hk xs v hb => Body.none (fun n u e => ((lay_good hx (hfl ▸ hk)).2.1 n u e).1) hb) (fun k r hk => (lay_good hx (hfl ▸ hk)).2) ?_ ?_ q1 q2 q3 hos htape hout hgrown hframe htab
  · intro t av ht
    simp only [laySt] at ht
    rw [hall] at ht
    exact htm E1 _ _ _ g2 t1 hβ t av ht
  · intro k r hk
    obtain ⟨n1, n0, n2, n3⟩ := m2 k r hk
    exact ⟨n1, n0, n2, n3.imp (fun n => ⟨n.1, n.2.2.2⟩) id⟩
  · intro k k' r r' g hk hk' hg hg' e
    obtain ⟨_, _, _, n3⟩ := m2 k r hk
    obtain ⟨_, _, _, n3'⟩ := m2 k' r' hk'
    rcases n3 with n3 | n3
    · rcases n3' with n3' | n3'
      · exact m3 k k' r r' hk hk' n3.2.2.1 n3'.2.2.1 e
      · rw [n3'.1] at hg'; exact (OwnB.nil hg').elim
    · rw [n3.1] at hg; exact (OwnB.nil hg).elim
  · intro b cs hb
    simp only [laySt] at hb
    rw [← e1] at hb
    rw [← List.take_append_drop us2.length ((mkAt 0 ss fl).drop us1.length)] at hb
    obtain ⟨c, r1, r2, ub, ty, r3, r4⟩ := hbx _ _ _ t2 b cs hb
    have hγ : γ b = c := by simp [γ, r1]
    refine ⟨(hbU b c r1).2, rfl, by rw [hγ]; exact r2, ub, ty, ?_, r4⟩
    rw [hγ, g2.β c (hbU b c r1).1]
    exact r3
  · intro b b' hb hb' e
    have hs : ∀ b, (laySt L ss fl (mkAt 0 ss fl)).boxes b ≠ none → ∃ c, boxAt bs L.boxes b = some c ∧ γ b = c := by
      intro b hb
      cases hbb : (laySt L ss fl (mkAt 0 ss fl)).boxes b with
      | none => exact absurd hbb hb
      | some cs =>
        simp only [laySt] at hbb
        rw [← e1] at hbb
        rw [← List.take_append_drop us2.length ((mkAt 0 ss fl).drop us1.length)] at hbb
        obtain ⟨c, r1, _⟩ := hbx _ _ _ t2 b cs hbb
        exact ⟨c, r1, by simp [γ, r1]⟩
    obtain ⟨c, r1, r2⟩ := hs b hb
    obtain ⟨c', r1', r2'⟩ := hs b' hb'
    rw [r2, r2'] at e
    subst e
    exact boxAt_inj hbs r1 r1'
  · intro k r g hk hg
    obtain ⟨n1, _, n2, n3⟩ := m2 k r hk
    rcases n3 with ⟨s1, s2, s3, s4⟩ | ⟨s1, s2⟩
    · rw [s4, g2.hv _ (h.rowU _ r s2)] at hg
      refine hnewR k _ r g s3 ?_ s2 n1 hg
      simp only [laySt, layRows] at hk
      split at hk
      · exact ⟨_, by assumption⟩
      · cases hk
    · rw [s1] at hg; exact (OwnB.nil hg).elim
  · intro b cs hb
    simp only [laySt] at hb
    rw [← e1] at hb
    rw [← List.take_append_drop us2.length ((mkAt 0 ss fl).drop us1.length)] at hb
    obtain ⟨c, r1, ⟨cs0, r2⟩, _⟩ := hbx _ _ _ t2 b cs hb
    rw [(hβ b c r1).2, g2.β c (hbU b c r1).1]
    exact hnewB b c cs0 r1 r2


theorem ptrsAt_ok (h : Sim B S E a w) : ∀ {ts bs : List Nat}, ptrsAt S ts = some bs → ∀ c ∈ bs, E.U c
  | [], bs, hp, c, hc => by simp only [ptrsAt] at hp; cases hp; cases hc
  | t :: ts, bs, hp, c, hc => by
    simp only [ptrsAt] at hp
    split at hp
    · rename_i c' he
      simp only [Option.bind_eq_some_iff] at hp
      obtain ⟨l, hl, e⟩ := hp
      cases e
      rcases List.mem_cons.1 hc with rfl | hc
      · exact (h.tmps t _ he).2.1
      · exact ptrsAt_ok h hl c hc
    · rename_i f' c' he
      simp only [Option.bind_eq_some_iff] at hp
      obtain ⟨l, hl, e⟩ := hp
      cases e
      rcases List.mem_cons.1 hc with rfl | hc
      · obtain ⟨us, e, hu⟩ := (h.tmps t _ he).2
        have hlen := hu.1
        match us, hlen with
        | u :: _, _ =>
          have h1 : ACr w E (.ptr c 0) u := hu.2 0 _ u rfl rfl
          exact h1.1
      · exact ptrsAt_ok h hl c hc
    · rename_i f' c' d' he
      simp only [Option.bind_eq_some_iff] at hp
      obtain ⟨l, hl, e⟩ := hp
      cases e
      obtain ⟨us, e, hu⟩ := (h.tmps t _ he).2
      have hlen := hu.1
      match us, hlen with
      | [u, v], _ =>
        have h1 : ACr w E (.ptr c' 0) u := hu.2 0 _ u rfl rfl
        have h2 : ACr w E (.ptr d' 0) v := hu.2 1 _ v rfl rfl
        rcases List.mem_cons.1 hc with rfl | hc
        · exact h1.1
        · rcases List.mem_cons.1 hc with rfl | hc
          · exact h2.1
          · exact ptrsAt_ok h hl c hc
    · cases hp
theorem boxAt_mem : ∀ {bs : List Nat} {L : List (Nat × Nat)} {b c : Nat}, boxAt bs L b = some c → c ∈ bs ∧ ∃ n, (b, n) ∈ L
  | [], _, _, _, h => by simp [boxAt] at h
  | _ :: _, [], _, _, h => by simp [boxAt] at h
  | x :: bs, (y, n) :: L, b, c, h => by
    simp only [boxAt] at h
    split at h
    · rename_i e; cases h; exact ⟨by simp, n, by rw [beq_nat.1 e]; simp⟩
    · obtain ⟨h1, m, h2⟩ := boxAt_mem h
      exact ⟨List.mem_cons_of_mem _ h1, m, List.mem_cons_of_mem _ h2⟩

theorem pinsOk_mem {bs : List Nat} {L : List (Nat × Nat)} : ∀ {l : List Nat}, pinsOk bs L l = true → ∀ b ∈ l, boxAt bs L b = some b ∧ True
  | [], _, b, hb => by cases hb
  | x :: l, h, b, hb => by
    simp only [pinsOk, Bool.and_eq_true] at h
    rcases List.mem_cons.1 hb with rfl | hb
    · have h1 := h.1
      split at h1
      · rename_i c hc
        rw [beq_nat.1 h1] at hc
        exact ⟨hc, trivial⟩
      · cases h1
    · exact pinsOk_mem h.2 b hb

/-- A loop's head: the state is told anew. -/
theorem extract_ok (h : Sim B S E a w) {hd : Head} {x : hd.ty.T} {pins : List Nat} (hx : extract pins hd S = some x) :
    ∃ E2, Sim B (laySt hd.lay hd.shs (flat hd.ty x) (mkAt 0 hd.shs (flat hd.ty x))) E2 a w ∧ (∀ n, E2.U n → n < 100000) ∧
      (∃ cells, keepOk cells hd.keep S.prot = true ∧ ∀ (p j : Nat), cells[p]? = some (.own j) → E2.U p ∧ E2.hv p = E.hv j) ∧ (∀ b ∈ pins, E2.U b ∧ E2.β b = E.β b) := by
  simp only [extract, Option.bind_eq_some_iff] at hx
  obtain ⟨bs, hbs, c1, h1, c2, h2, hx⟩ := hx
  split at hx
  · rename_i hc
    simp only [Bool.and_eq_true, List.all_eq_true] at hc
    obtain ⟨⟨⟨hn, hL⟩, hkp⟩, hpn⟩ := hc
    obtain ⟨l1, us1, k1, f1⟩ := gotTmps_ok h h1
    obtain ⟨us2, k2, f2⟩ := boxCells_ok h h2
    have hx' : leaves S hd.shs (c1 ++ (c2 ++ [])) = some x := by rw [List.append_nil]; exact hx
    obtain ⟨E1, E2, g1, g2, g3, g4, g5, g6, g7, g8⟩ := lay_sim (B2 := B) (a2 := a) (L := hd.lay) h k1 l1 k2 ACs.mk_nil hx' (nodupB_iff hn)
      (fun E1 E2 ys zs L hy hb t av ht => by
        refine f1 E2 ys zs hy (fun b c hbc => ?_) t av ht
        obtain ⟨q1, q2⟩ := hb b c hbc
        exact ⟨q1, by rw [q2, L.β c (ptrsAt_ok h hbs c (boxAt_mem hbc).1)]⟩)
      f2 (fun b c hb => ⟨ptrsAt_ok h hbs c (boxAt_mem hb).1, by
        obtain ⟨_, m, hm⟩ := boxAt_mem hb
        have := Nat.le_of_ble_eq_true (hL _ hm)
        omega⟩)
      h.defers h.size (fun rows1 E1 q _ _ => ⟨q.FA, fun b hb => (q.F b hb).1, q.FAlt⟩)
      (fun j k r g _ _ hr ho hg => (h.rowNew k r g hr ho hg).1) (fun b c cs0 _ hcs => (h.boxNew c cs0 hcs).1) h.os h.tape h.output h.grown h.frame h.tab
    refine ⟨E2, g3, g5, ⟨_, hkp, fun p j hp => ?_⟩, fun b hb => ?_⟩
    · have hlen : (c1 ++ c2).length = hd.shs.length := by
        obtain ⟨q, hq, _⟩ := leaves_some hx
        exact (splitToks_some hq).1.symm
      have hp1000 : hd.shs.length ≤ 1000 := by
        obtain ⟨q, _, _, _, _, _, h1000⟩ := leaves_some hx
        exact h1000
      have hlt := (List.getElem?_eq_some_iff.1 hp).1
      refine ⟨g7 p (by omega), ?_⟩
      have hcs := k1.append k2
      have hpu : p < (us1 ++ us2).length := by rw [← hcs.1]; exact hlt
      have hu := hcs.2 p _ (us1 ++ us2)[p] hp (by simp [hpu])
      rw [← hu.2.1]
      exact g6 p _ (by rw [List.append_nil]; simp [hpu])
    · obtain ⟨q1, q2⟩ := pinsOk_mem hpn b hb
      refine ⟨g7 b ?_, g4 b b q1⟩
      obtain ⟨_, m, hm⟩ := boxAt_mem q1
      have := Nat.le_of_ble_eq_true (hL _ hm)
      omega
  · cases hx

end
end Go.Proofs.YtmbmapbdbbnaeaaT

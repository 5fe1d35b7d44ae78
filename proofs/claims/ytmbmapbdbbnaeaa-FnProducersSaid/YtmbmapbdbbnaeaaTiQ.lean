/- States that are told by leaves. -/
import Derived.Test.YtmbmapbdbbnaeaaTiO
set_option linter.unusedVariables false
set_option linter.unusedSimpArgs false
namespace Go.Proofs.YtmbmapbdbbnaeaaT
open Go

section
variable {P : Program} {B : Base} {S : St} {E : Env} {a : Act} {w : World}

theorem mkAt_get : ∀ {ss : List CSh} {fl : List AC} {i : Nat}, ss.length = fl.length → (mkAt i ss fl).length = fl.length ∧
    ∀ (j : Nat) s c, ss[j]? = some s → fl[j]? = some c → (mkAt i ss fl)[j]? = some (match s with | .val _ => c | .own _ => .own (i + j))
  | [], [], i, _ => ⟨rfl, fun j s c hs => by simp at hs⟩
  | [], _ :: _, i, h => by cases h
  | _ :: _, [], i, h => by cases h
  | .val t :: ss, c :: fl, i, h => by
    obtain ⟨h1, h2⟩ := mkAt_get (i := i + 1) (show ss.length = fl.length by simpa using h)
    refine ⟨by simp [mkAt, h1], fun j s d hs hd => ?_⟩
    cases j with
    | zero => simp at hs hd; subst hs; subst hd; rfl
    | succ j =>
      have := h2 j s d (by simpa using hs) (by simpa using hd)
      simp only [mkAt, List.getElem?_cons_succ, this]
      cases s <;> simp; omega
  | .own t :: ss, c :: fl, i, h => by
    obtain ⟨h1, h2⟩ := mkAt_get (i := i + 1) (show ss.length = fl.length by simpa using h)
    refine ⟨by simp [mkAt, h1], fun j s d hs hd => ?_⟩
    cases j with
    | zero => simp at hs hd; subst hs; subst hd; rfl
    | succ j =>
      have := h2 j s d (by simpa using hs) (by simpa using hd)
      simp only [mkAt, List.getElem?_cons_succ, this]
      cases s <;> simp; omega

theorem splitToks_some : ∀ {ss : List CSh} {cs : List AC} {p : List Nat × List Nat}, splitToks ss cs = some p → ss.length = cs.length ∧
    (∀ (j : Nat) t k, ss[j]? = some (.val t) → cs[j]? = some (.own k) → k ∈ p.2) ∧
    (∀ (j : Nat) t c, ss[j]? = some (.own t) → cs[j]? = some c → c = .nil ∨ ∃ k, c = .own k ∧ k ∈ p.1) ∧
    (p.1.Nodup → ∀ (j j' : Nat) t t' k, ss[j]? = some (.own t) → ss[j']? = some (.own t') → cs[j]? = some (.own k) → cs[j']? = some (.own k) → j = j')
  | [], [], p, h => ⟨rfl, fun j t k hs => by simp at hs, fun j t c hs => by simp at hs, fun _ j j' t t' k hs => by simp at hs⟩
  | [], _ :: _, p, h => by simp only [splitToks] at h; cases h
  | .val _ :: _, [], p, h => by simp only [splitToks] at h; cases h
  | .own _ :: _, [], p, h => by simp only [splitToks] at h; cases h
  | .val t :: ss, c :: cs, p, h => by
    have key : ∃ q, splitToks ss cs = some q ∧ p.1 = q.1 ∧ (∀ k ∈ q.2, k ∈ p.2) ∧ (∀ k, c = .own k → k ∈ p.2) := by
      cases c <;> simp only [splitToks, Option.bind_eq_some_iff] at h
      case own k =>
        obtain ⟨q, hq, e⟩ := h
        cases e
        exact ⟨q, hq, rfl, fun n hn => List.mem_cons_of_mem _ hn, fun n hn => by cases hn; simp⟩
      all_goals exact ⟨p, h, rfl, fun _ hn => hn, fun n hn => by cases hn⟩
    obtain ⟨q, hq, e1, e2, e3⟩ := key
    obtain ⟨h1, h2, h3, h4⟩ := splitToks_some hq
    refine ⟨by simp [h1], fun j t' k hs hc => ?_, fun j t' d hs hc => ?_, fun hn j j' t1 t2 k hs hs' hc hc' => ?_⟩
    · cases j with
      | zero => simp at hs hc; exact e3 k hc
      | succ j => exact e2 _ (h2 j t' k (by simpa using hs) (by simpa using hc))
    · cases j with
      | zero => simp at hs
      | succ j => rw [e1]; exact h3 j t' d (by simpa using hs) (by simpa using hc)
    · cases j with
      | zero => simp at hs
      | succ j =>
        cases j' with
        | zero => simp at hs'
        | succ j' => rw [h4 (e1 ▸ hn) j j' t1 t2 k (by simpa using hs) (by simpa using hs') (by simpa using hc) (by simpa using hc')]
  | .own t :: ss, c :: cs, p, h => by
    have key : ∃ q, splitToks ss cs = some q ∧ p.2 = q.2 ∧ ((c = .nil ∧ p.1 = q.1) ∨ ∃ k, c = .own k ∧ p.1 = k :: q.1) := by
      cases c <;> simp only [splitToks, Option.bind_eq_some_iff] at h
      case own k =>
        obtain ⟨q, hq, e⟩ := h
        cases e
        exact ⟨q, hq, rfl, .inr ⟨k, rfl, rfl⟩⟩
      case nil =>
        split at h
        · exact ⟨p, h, rfl, .inl ⟨rfl, rfl⟩⟩
        · cases h
      all_goals cases h
    obtain ⟨q, hq, e1, e2⟩ := key
    obtain ⟨h1, h2, h3, h4⟩ := splitToks_some hq
    have hsub : ∀ k ∈ q.1, k ∈ p.1 := fun k hk => by
      rcases e2 with ⟨_, e2⟩ | ⟨k', _, e2⟩
      · rw [e2]; exact hk
      · rw [e2]; exact List.mem_cons_of_mem _ hk
    refine ⟨by simp [h1], fun j t' k hs hc => ?_, fun j t' d hs hc => ?_, fun hn j j' t1 t2 k hs hs' hc hc' => ?_⟩
    · cases j with
      | zero => simp at hs
      | succ j => rw [e1]; exact h2 j t' k (by simpa using hs) (by simpa using hc)
    · cases j with
      | zero =>
        simp at hs hc
        subst hc
        rcases e2 with ⟨e2, _⟩ | ⟨k', e2, e3⟩
        · exact .inl e2
        · exact .inr ⟨k', e2, by rw [e3]; simp⟩
      | succ j =>
        rcases h3 j t' d (by simpa using hs) (by simpa using hc) with h | ⟨k, h, hk⟩
        · exact .inl h
        · exact .inr ⟨k, h, hsub k hk⟩
    · have hn2 : q.1.Nodup := by
        rcases e2 with ⟨_, e2⟩ | ⟨k', _, e2⟩
        · rw [← e2]; exact hn
        · rw [e2] at hn; exact (List.nodup_cons.1 hn).2
      have hnot : ∀ (i : Nat) t', c = .own k → ss[i]? = some (.own t') → cs[i]? = some (.own k) → False := fun i t' hck hsi hci => by
        rcases e2 with ⟨e2, _⟩ | ⟨k', e2, e3⟩
        · rw [e2] at hck; cases hck
        · rw [e2] at hck
          cases hck
          rw [e3] at hn
          rcases h3 i t' _ hsi hci with h | ⟨k2, h, hk2⟩
          · cases h
          · cases h; exact (List.nodup_cons.1 hn).1 hk2
      cases j with
      | zero =>
        cases j' with
        | zero => rfl
        | succ j' => exact (hnot j' t2 (by simpa using hc) (by simpa using hs') (by simpa using hc')).elim
      | succ j =>
        cases j' with
        | zero => exact (hnot j t1 (by simpa using hc') (by simpa using hs) (by simpa using hc)).elim
        | succ j' => rw [h4 hn2 j j' t1 t2 k (by simpa using hs) (by simpa using hs') (by simpa using hc) (by simpa using hc')]

theorem nodupB_iff : ∀ {l : List Nat}, nodupB l = true → l.Nodup
  | [], _ => List.nodup_nil
  | k :: l, h => by
    simp only [nodupB, Bool.and_eq_true, Bool.not_eq_true', List.contains_eq_mem, decide_eq_false_iff_not] at h
    exact List.nodup_cons.2 ⟨h.1, nodupB_iff h.2⟩

theorem leaves_some {ss : List CSh} {cs : List AC} {x : (shapesTy ss).T} (h : leaves S ss cs = some x) :
    ∃ p, splitToks ss cs = some p ∧ p.1.Nodup ∧ (∀ k ∈ p.1, k ∉ p.2) ∧ (∀ k ∈ p.1, ∃ r, S.rows k = some r ∧ r.own = true) ∧ parse S (shapesTy ss) cs = some x ∧ ss.length ≤ 1000 := by
  simp only [leaves, Option.bind_eq_some_iff] at h
  obtain ⟨p, hp, h⟩ := h
  split at h
  · rename_i hc
    simp only [Bool.and_eq_true, List.all_eq_true] at hc
    obtain ⟨⟨⟨⟨h1, h2⟩, h3⟩, h5⟩, _⟩ := hc
    refine ⟨p, hp, nodupB_iff h1, fun k hk hk' => ?_, fun k hk => ?_, h, Nat.le_of_ble_eq_true h5⟩
    · have := h2 k hk
      simp [hk'] at this
    · simp only [ownsAll, List.all_eq_true] at h3
      have := h3 k hk
      split at this
      · exact ⟨_, by assumption, this⟩
      · cases this
  · cases h
theorem ownTys_get : ∀ {ss : List CSh} {cs : List AC}, ownTys S ss cs = true → ∀ (j : Nat) t k, ss[j]? = some (.own t) → cs[j]? = some (.own k) → ∃ r, S.rows k = some r ∧ r.t = t
  | [], cs, _, j, t, k, hs, _ => by simp at hs
  | s :: ss, [], _, j, t, k, _, hc => by simp at hc
  | s :: ss, c :: cs, h, j, t, k, hs, hc => by
    have rec_ : ownTys S ss cs = true := by
      unfold ownTys at h
      split at h
      · rename_i e1 e2; cases e1; cases e2; simp only [Bool.and_eq_true] at h; exact h.2
      · rename_i e1 e2; cases e1; cases e2; exact h
      · rename_i n; exact (n _ _ _ _ rfl rfl).elim
    cases j with
    | zero =>
      simp at hs hc
      subst hs; subst hc
      simp only [ownTys, Bool.and_eq_true] at h
      have h1 := h.1
      split at h1
      · exact ⟨_, by assumption, of_decide_eq_true h1⟩
      · cases h1
    | succ j => exact ownTys_get rec_ j t k (by simpa using hs) (by simpa using hc)
theorem leaves_tys {ss : List CSh} {cs : List AC} {x : (shapesTy ss).T} (h : leaves S ss cs = some x) :
    (∀ s ∈ ss, s.ty.cell = true ∧ s.good = true) ∧ ∀ (j : Nat) t k, ss[j]? = some (.own t) → cs[j]? = some (.own k) → ∃ r, S.rows k = some r ∧ r.t = t := by
  simp only [leaves, Option.bind_eq_some_iff] at h
  obtain ⟨p, hp, h⟩ := h
  split at h
  · rename_i hc
    simp only [Bool.and_eq_true, List.all_eq_true] at hc
    exact ⟨hc.2.1, ownTys_get hc.2.2⟩
  · cases h
theorem leaves_flat {ss : List CSh} {cs : List AC} {x : (shapesTy ss).T} (h : leaves S ss cs = some x) : ∀ (j : Nat) s c, ss[j]? = some s → (flat (shapesTy ss) x)[j]? = some c → ∃ y, c = .v s.ty y := by
  have hty : ∀ t ∈ ss.map CSh.ty, t.cell = true := fun t ht => by obtain ⟨q, hq, rfl⟩ := List.mem_map.1 ht; exact ((leaves_tys h).1 q hq).1
  intro j s c hs hc
  exact (flat_ofList hty x).2 j s.ty c (by simp [hs]) hc

/-- The numbers of a state that is told anew. -/
def layEnv (E : Env) (γ : Nat → Nat) (us : List Value) (fl : List AC) : Env :=
  { U := fun n => n < 100000, β := fun b => E.β (γ b), hv := fun j => us.getD j undef, sz := fun j => match fl[j]? with | some (.v (.row t) _) => t.size | _ => 0, F := E.F }
def tokAt (cells : List AC) (j : Nat) : Nat := match cells[j]? with | some (.own k) => k | _ => 0

theorem lay_good {ss : List CSh} {cs : List AC} {x : (shapesTy ss).T} (h : leaves S ss cs = some x) {j : Nat} {r : RowSt} (hr : layRows ss (flat (shapesTy ss) x) j = some r) : ss[j]? = some (.own r.t) ∧ Tame r.t := by
  unfold layRows at hr
  split at hr
  · rename_i t t' l h1 h2
    cases hr
    obtain ⟨y, hy⟩ := leaves_flat h j _ _ h1 h2
    simp only [CSh.ty] at hy
    cases hy
    refine ⟨h1, fun n u e => ?_, fun u e => ?_⟩
    · have e : t = .deep n u := e
      subst e
      have := ((leaves_tys h).1 _ (List.mem_of_getElem? h1)).2
      simp only [CSh.good, Bool.and_eq_true] at this
      refine ⟨?_, this.2⟩
      cases n <;> first | rfl | simp at this
    · have e : t = .part u := e
      subst e
      exact ((leaves_tys h).1 _ (List.mem_of_getElem? h1)).2
  · cases hr
theorem Body.none {w : World} {U U' : Nat → Prop} {hv hv' : Nat → Value} {F : Nat → Prop} {t : Ty} {l : List t.T} {xs : List Value} {v : Value} (hn : ∀ n u, t = .deep n u → n = .none) (h : Body w U hv F t l xs v) : Body w U' hv' F t l xs v := by
  cases t with
  | part u => exact h
  | deep n u =>
    obtain rfl := hn n u rfl
    have h : Kids w U hv Option.none u l xs v := h
    exact show Kids w U' hv' Option.none u l xs v from ⟨h.one, h.kid, fun n hn => (by cases hn), h.inj, h.out⟩
  | _ => exact h
theorem readRow_same {t u : Ty} {l : List u.T} {x : List t.T} (h : readRow (.row t) u l = some x) (e : u = t) : HEq x l := by
  subst e
  cases u with
  | deep n u =>
    cases n with
    | some n => simp only [readRow] at h; cases h
    | none =>
      simp only [readRow] at h
      split at h
      · rename_i y hy
        cases h
        obtain ⟨e1, e2⟩ := cast?_some hy
        rw [e2]
      · rename_i hn
        exact absurd hn (by simp [cast?])
  | _ =>
    simp only [readRow] at h
    obtain ⟨e1, e2⟩ := cast?_some h
    rw [e2]
theorem lay_ok (h : Sim B S E a w) {ss : List CSh} {cells : List AC} {us : List Value} {x : (shapesTy ss).T} (hc : ACs w E cells us) (hx : leaves S ss cells = some x) :
    ∃ (rows1 : Nat → Option RowSt) (E1 : Env), Sim B { S with rows := rows1 } E1 a w ∧ E.le w w E1 ∧ (∀ p, splitToks ss cells = some p → ∀ b, E1.F b ↔ FZ S E w p.2 b) ∧
      ∀ γ, ACs w (layEnv E1 γ us (flat (shapesTy ss) x)) (mkAt 0 ss (flat (shapesTy ss) x)) us ∧
        (∀ j r, layRows ss (flat (shapesTy ss) x) j = some r → r.own = true ∧ j < 100000 ∧ (layEnv E1 γ us (flat (shapesTy ss) x)).sz j = r.t.size ∧
          ((rows1 (tokAt cells j) = some r ∧ S.rows (tokAt cells j) = some r ∧ cells[j]? = some (.own (tokAt cells j)) ∧ (layEnv E1 γ us (flat (shapesTy ss) x)).hv j = E1.hv (tokAt cells j)) ∨ ((layEnv E1 γ us (flat (shapesTy ss) x)).hv j = .slice none 0 0 ∧ r.l = []))) ∧
        (∀ j j' r r', layRows ss (flat (shapesTy ss) x) j = some r → layRows ss (flat (shapesTy ss) x) j' = some r' → cells[j]? = some (.own (tokAt cells j)) → cells[j']? = some (.own (tokAt cells j')) → tokAt cells j = tokAt cells j' → j = j') := by
  obtain ⟨p, hp, h1, h2, h3, h4, h1000⟩ := leaves_some hx
  obtain ⟨s1, s2, s3, s4⟩ := splitToks_some hp
  obtain ⟨E1, g1, g2, g3, g4, g5⟩ := h.freeze p.2
  obtain ⟨f1, f2⟩ := parse_flat h4
  refine ⟨_, E1, g1, g2, fun p' hp' => by rw [hp] at hp'; cases hp'; exact g5, fun γ => ?_⟩
  obtain ⟨m1, m2⟩ := mkAt_get (ss := ss) (fl := flat (shapesTy ss) x) (i := 0) (by rw [f1, s1])
  have hlen : cells.length = us.length := hc.1
  have hrow : ∀ (j : Nat) r, layRows ss (flat (shapesTy ss) x) j = some r → ∃ t, ss[j]? = some (.own t) ∧ (flat (shapesTy ss) x)[j]? = some (.v (.row r.t) r.l) ∧ r.own = true := by
    intro j r hr
    unfold layRows at hr
    split at hr
    · cases hr; exact ⟨_, by assumption, by assumption, rfl⟩
    · cases hr
  refine ⟨⟨by rw [m1, f1, hlen], fun j c u hcj hu => ?_⟩, fun j r hr => ?_, fun j j' r r' hr hr' hk hk' e => ?_⟩
  · have hj : j < us.length := (List.getElem?_eq_some_iff.1 hu).1
    have hjs : j < ss.length := by rw [s1, hlen]; exact hj
    have hjf : j < (flat (shapesTy ss) x).length := by rw [f1, hlen]; exact hj
    have hjc : j < cells.length := by rw [hlen]; exact hj
    have hcell := hc.2 j cells[j] u (by simp [hjc]) hu
    have hm := m2 j ss[j] (flat (shapesTy ss) x)[j] (by simp [hjs]) (by simp [hjf])
    rw [hm] at hcj
    obtain ⟨t, y, e1, e2, e3⟩ := f2 j cells[j] (flat (shapesTy ss) x)[j] (by simp [hjc]) (by simp [hjf])
    generalize hs : ss[j] = s at hcj
    cases s with
    | val t' =>
      simp only at hcj
      cases hcj
      rw [e1]
      refine ⟨e2, asT_val (S := S) (E := E1) (w := w) (fun _ h => h) (fun k hk r hr hh => ?_) (hcell.mono g2) e3⟩
      have hck : cells[j] = .own k := by
        generalize cells[j] = c0 at hk e3
        cases c0 <;> simp [toks] at hk <;> first | (rw [hk]; done) | (simp only [asT] at e3; cases e3)
      have := g4 k (s2 j t' k (by simp [hjs, hs]) (by simp [hjc, hck])) r hr hh
      rw [← g2.hv k (h.rowU k r hr)] at this
      exact this
    | own t' =>
      simp only [Nat.zero_add] at hcj
      cases hcj
      refine ⟨show j < 100000 by omega, ?_, ?_⟩
      · simp only [layEnv, List.getD_eq_getElem?_getD, hu, Option.getD_some]
      · exact hcell.one
  · obtain ⟨t, r1, r2, r3⟩ := hrow j r hr
    have hjs : j < ss.length := (List.getElem?_eq_some_iff.1 r1).1
    have hjc : j < cells.length := by rw [← s1]; exact hjs
    have hju : j < us.length := by rw [← hlen]; exact hjc
    refine ⟨r3, by omega, by simp only [layEnv, r2], ?_⟩
    obtain ⟨t2, y, e1, e2, e3⟩ := f2 j cells[j] _ (by simp [hjc]) r2
    cases e1
    have hu : (layEnv E1 γ us (flat (shapesTy ss) x)).hv j = us[j] := by simp [layEnv, hju]
    have hcell := hc.2 j cells[j] us[j] (by simp [hjc]) (by simp [hju])
    rcases s3 j t cells[j] r1 (by simp [hjc]) with hnil | ⟨k, hk, hkp⟩
    · refine .inr ⟨?_, ?_⟩
      · rw [hu]; rw [hnil] at hcell; exact hcell
      · rw [hnil] at e3; simp only [asT] at e3; exact (Option.some.inj e3).symm
    · have htok : tokAt cells j = k := by simp [tokAt, hjc, hk]
      obtain ⟨r0, hr0, hown⟩ := h3 k hkp
      rw [hk] at e3
      simp only [asT, hr0] at e3
      obtain ⟨r0', hr0', et⟩ := (leaves_tys hx).2 j t k r1 (by simp [hjc, hk])
      rw [hr0] at hr0'
      cases hr0'
      obtain ⟨y', ey⟩ := leaves_flat hx j _ _ r1 r2
      obtain ⟨ro, rt, rl⟩ := r
      obtain ⟨qo, qt, ql⟩ := r0
      simp only at hown r3 et
      simp only [CSh.ty] at ey
      cases ey
      simp only at e3
      have e6 := readRow_same e3 et
      subst et
      have e6 := eq_of_heq e6
      subst e6
      subst hown
      subst r3
      refine .inl ⟨?_, by rw [htok]; exact hr0, by rw [htok]; simp [hjc, hk], ?_⟩
      · rw [htok, setAll_not (fun q hq e => h2 k hkp (by rw [← e]; exact freeze_keys q hq))]
        exact hr0
      · rw [hu, htok]
        rw [hk] at hcell
        rw [g2.hv k (h.rowU k _ hr0)]
        exact hcell.2.1
  · obtain ⟨t, r1, r2, _⟩ := hrow j r hr
    obtain ⟨t', r1', r2', _⟩ := hrow j' r' hr'
    exact s4 h1 j j' t t' (tokAt cells j) r1 r1' hk (by rw [e]; exact hk')

end
end Go.Proofs.YtmbmapbdbbnaeaaT

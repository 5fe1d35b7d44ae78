/- Calls, put together. -/
import Derived.Test.YtmbmapbdbbnaeaaTiV
set_option linter.unusedVariables false
set_option linter.unusedSimpArgs false
namespace Go.Proofs.YtmbmapbdbbnaeaaT
open Go

section
variable {P : Program} {B : Base} {S : St} {E E2 : Env} {a : Act} {w w' : World}

/-- The caller's state without what was handed to be written. -/
def hasKey {β : Type} (l : List (Nat × β)) (k : Nat) : Bool := l.any fun p => p.1 == k
def less {α β : Type} (f : Nat → Option α) (l : List (Nat × β)) : Nat → Option α := fun k => if hasKey l k then none else f k
theorem hasKey_iff {β : Type} {l : List (Nat × β)} {k : Nat} : hasKey l k = true ↔ ∃ p ∈ l, p.1 = k := by simp [hasKey]
theorem less_some {α β : Type} {f : Nat → Option α} {l : List (Nat × β)} {k : Nat} {x : α} (h : less f l k = some x) : f k = some x ∧ ∀ p ∈ l, p.1 ≠ k := by
  unfold less at h
  split at h
  · cases h
  · rename_i hn; exact ⟨h, fun p hp e => hn (hasKey_iff.2 ⟨p, hp, e⟩)⟩
theorem setAll_less {α : Type} (f : Nat → Option α) (m l : List (Nat × Option α)) (hm : ∀ p ∈ m, ∀ q ∈ l, p.1 ≠ q.1) : setAll (setAll (less f l) m) l = setAll (setAll f m) l := by
  funext n
  by_cases h : ∃ p ∈ l, p.1 = n
  · exact setAll_key h
  · have hn : ∀ p ∈ l, p.1 ≠ n := fun p hp e => h ⟨p, hp, e⟩
    rw [setAll_not hn, setAll_not hn]
    by_cases h' : ∃ p ∈ m, p.1 = n
    · exact setAll_key h'
    · have hn' : ∀ p ∈ m, p.1 ≠ n := fun p hp e => h' ⟨p, hp, e⟩
      rw [setAll_not hn', setAll_not hn']
      unfold less
      rw [if_neg (fun hk => h (hasKey_iff.1 hk))]
theorem setBoxes_less {α : Type} (f : Nat → Option α) (l : List (Nat × α)) : setBoxes (less f l) l = setBoxes f l := by
  funext n
  by_cases h : ∃ p ∈ l, p.1 = n
  · exact setBoxes_key h
  · have hn : ∀ p ∈ l, p.1 ≠ n := fun p hp e => h ⟨p, hp, e⟩
    rw [setBoxes_not hn, setBoxes_not hn]
    unfold less
    rw [if_neg (fun hk => h (hasKey_iff.1 hk))]

theorem setAll_mem {k : Nat} {r : RowSt} : ∀ {l : List (Nat × Option RowSt)} {f : Nat → Option RowSt}, setAll f l k = some r → (∃ q ∈ l, q = (k, some r)) ∨ ((∀ q ∈ l, q.1 ≠ k) ∧ f k = some r)
  | [], f, h => .inr ⟨fun q hq => (by cases hq), h⟩
  | (k0, x) :: l, f, h => by
    rw [setAll_cons] at h
    rcases setAll_mem h with ⟨q, hq, e⟩ | ⟨h1, h2⟩
    · exact .inl ⟨q, List.mem_cons_of_mem _ hq, e⟩
    · rcases upd_cases h2 with ⟨e1, e2⟩ | ⟨e1, e2⟩
      · exact .inl ⟨(k0, x), by simp, by rw [e1, e2]⟩
      · refine .inr ⟨fun q hq => ?_, e2⟩
        rcases List.mem_cons.1 hq with rfl | hq
        · exact Ne.symm e1
        · exact h1 q hq
theorem inTmps_N : ∀ {ps : List PSh} {i : Nat}, layTmpsN (inTmps i ps) = (inShs ps).length
  | [], i => rfl
  | .w g ts :: ps, i => by simp [inTmps, layTmpsN, PSh.lt, LT.n, inShs, inTmps_N]
  | .mut g ts :: ps, i => by simp [inTmps, layTmpsN, PSh.lt, LT.n, inShs, inTmps_N]
  | .ref ts :: ps, i => by simp [inTmps, layTmpsN, PSh.lt, LT.n, inShs, inTmps_N]
  | .fnr _ ts :: ps, i => by simp [inTmps, layTmpsN, PSh.lt, LT.n, inShs, inTmps_N]
  | .fnr2 _ ts us :: ps, i => by simp [inTmps, layTmpsN, PSh.lt, LT.n, inShs, inTmps_N]
  | .eat g ts :: ps, i => by simp [inTmps, layTmpsN, PSh.lt, LT.n, inShs, inTmps_N]
  | .fn f caps :: ps, i => by
    have h : ∀ caps : List (Bool × List Ty), capsN (caps.map fun c => (c.1, c.2.length)) = (capShs caps).length := by
      intro caps
      induction caps with
      | nil => rfl
      | cons c l ih => obtain ⟨g, ts⟩ := c; simp [capsN, capShs, ih]
    simp [inTmps, layTmpsN, PSh.lt, LT.n, inShs, inTmps_N, h]

def callEnv (E E1 E' : Env) (id : Nat) (F : Nat → Prop) : Env :=
  { U := fun k => E.U k ∨ (id ≤ k ∧ k < id + 63)
    β := E1.β
    hv := fun k => if id ≤ k ∧ k < id + 63 then E'.hv (k - id) else E1.hv k
    sz := fun k => if id ≤ k ∧ k < id + 63 then E'.sz (k - id) else E1.sz k
    F := F }

theorem call_back (h : Sim B S E a w) {id : Nat} (hid : ∀ n, id ≤ n → n < id + 64 → ¬ E.U n) {s : Sig} {cells c2 : List AC} {refs : List Nat} {p : List Nat × List Nat} (hp : splitToks s.shs (cells ++ c2) = some p)
    (h1 : p.1.Nodup) (h2 : ∀ k ∈ p.1, k ∉ p.2) (h3 : ∀ k ∈ p.1, ∃ r, S.rows k = some r ∧ r.own = true) (hcl : cells.length = (inShs s.ins).length)
    (i10 : (outShs s.outs).length + (refShs s.ins).length ≤ 63) (i11 : ∀ o ∈ s.outs, o.1 = true ∨ o.2.length = 1) (i12g : ∀ q ∈ s.back, q.ty.cell = true ∧ q.good = true) (htys : ∀ (j : Nat) t k, s.shs[j]? = some (.own t) → (cells ++ c2)[j]? = some (.own k) → ∃ r, S.rows k = some r ∧ r.t = t) (i13 : ∀ q ∈ s.shs, q.ty.cell = true) {x : s.inTy.T} (hpx : parse S s.inTy (cells ++ c2) = some x) (hrn : refs.Nodup) (hrU : ∀ c ∈ refs, E.U c) (hrB : ∀ c ∈ refs, ∃ cs, S.boxes c = some cs)
    {Es : Env} {us1 : List Value} (k1 : ACs w E cells us1)
    (hEβ : ∀ b c, boxAt refs (refBoxes 0 s.ins) b = some c → Es.β b = E.β c) (hEv : ∀ (j : Nat) u, us1[j]? = some u → Es.hv j = u)
    {y : s.outTy.T} {v : Value} {E' : Env}
    (hT : Sim ⟨w, FZ S E w p.2, MB S E w s.shs (cells ++ c2) refs (refBoxes 0 s.ins), 1, []⟩ (endSt s y) E' ⟨#[v], []⟩ w')
    (hhv : ∀ (i j : Nat), (ownIds 0 (keepShs s.ins))[i]? = some (.own j) → E'.hv ((outShs s.outs).length + ((refShs s.ins).length + i)) = Es.hv j)
    (hhβ : ∀ (b n : Nat), (b, n) ∈ refBoxes 0 s.ins → E'.β b = Es.β b) :
    ∃ E3, E.le w w' E3 ∧ AVr w' E3 (postD S id s cells c2 refs y).val v ∧
      Sim B { S with boxes := setBoxes S.boxes (postD S id s cells c2 refs y).boxes, rows := setAll S.rows (postD S id s cells c2 refs y).rows } E3 a w' ∧ (∀ n, E3.U n → E.U n ∨ (id ≤ n ∧ n < id + 63)) ∧ (∀ b, E3.F b → b < w.heap.size ∨ E'.F b) ∧ ∀ j, j < (outShs s.outs).length + (refShs s.ins).length → E3.hv (id + j) = E'.hv j ∧ E3.sz (id + j) = E'.sz j := by
  obtain ⟨s1, s2, s3, s4⟩ := splitToks_some hp
  have i12 : ∀ q ∈ s.back, q.ty.cell = true := fun q hq => (i12g q hq).1
  -- the leaves
  have hty : ∀ t ∈ s.back.map CSh.ty, t.cell = true := fun t ht => by obtain ⟨q, hq, rfl⟩ := List.mem_map.1 ht; exact i12 q hq
  have hflat := flat_ofList hty y
  have hflen : (flat s.outTy y).length = s.back.length := by
    have := hflat.1
    rw [List.length_map] at this
    exact this
  have hfget : ∀ (j : Nat) q c, s.back[j]? = some q → (flat s.outTy y)[j]? = some c → ∃ x, c = .v q.ty x := fun j q c hq hc => hflat.2 j q.ty c (by simp [hq]) hc
  unfold endSt at hT
  generalize hfl : flat s.outTy y = fl at *
  generalize hn : (outShs s.outs).length = n at *
  generalize hm : (refShs s.ins).length = m at *
  have hback : s.back = outShs s.outs ++ (refShs s.ins ++ ownShs (keepShs s.ins)) := rfl
  have hblen : s.back.length = n + (m + (ownShs (keepShs s.ins)).length) := by rw [hback]; simp [hn, hm]
  -- all = results ++ variables ++ rows
  have hml : (refShs s.ins).length = ((fl.drop n).take m).length := by rw [hm, List.length_take, List.length_drop, hflen, hblen]; omega
  have hYg := mkAt_get (i := n) hml
  have hXg := mkAt_get (i := id + n) hml
  have hall1 : mkAt 0 s.back fl = mkAt 0 (outShs s.outs) (fl.take n) ++ (mkAt n (refShs s.ins) ((fl.drop n).take m) ++ mkAt (n + m) (ownShs (keepShs s.ins)) ((fl.drop n).drop m)) := by
    rw [hback, mkAt_append (by rw [hn, hflen, hblen]; omega), hn, mkAt_append (by rw [hm, List.length_drop, hflen, hblen]; omega), hm, Nat.zero_add]
  generalize hY : mkAt n (refShs s.ins) ((fl.drop n).take m) = Y at hall1 hYg
  have hYl : Y.length = m := by rw [hYg.1, ← hml, hm]
  have hoL : (mkAt 0 (outShs s.outs) (fl.take n)).length = n := by
    rw [(mkAt_get (by rw [hn, List.length_take, hflen, hblen]; omega)).1, List.length_take, hflen, hblen]; omega
  have hLn : layTmpsN s.outLay.tmps = n := by simp [Sig.outLay, layTmpsN, outLT_n, hn]
  -- the rows, the variables of the callee's end
  have hTrow : ∀ j r, (laySt s.outLay s.back fl (mkAt 0 s.back fl)).rows j = some r ↔ layRows s.back fl j = some r := fun j r => Iff.rfl
  have hrowAt : ∀ (j : Nat) t t' l, s.back[j]? = some (.own t) → fl[j]? = some (.v (.row t') l) → layRows s.back fl j = some ⟨true, t', l⟩ := fun j t t' l hq hc => by simp only [layRows, hq, hc]
  have hTbox : ∀ b cs, layBoxes (refBoxes 0 s.ins) Y b = some cs → (laySt s.outLay s.back fl (mkAt 0 s.back fl)).boxes b = some cs := by
    intro b cs hb
    simp only [laySt]
    rw [hLn, hall1, List.drop_left' hoL]
    show layBoxes (refBoxes 0 s.ins) _ b = _
    rw [layBoxes_append (by rw [refBoxes_N, hm, hYl]; omega)]
    exact hb
  -- positions of the rows that were handed
  have hin : s.shs = inShs s.ins ++ refShs s.ins := rfl
  have hcell : ∀ (j k : Nat), cells[j]? = some (.own k) → Es.hv j = E.hv k := by
    intro j k hk
    have hj : j < us1.length := by rw [← k1.1]; exact (List.getElem?_eq_some_iff.1 hk).1
    have := k1.2 j _ us1[j] hk (by simp [hj])
    rw [hEv j us1[j] (by simp [hj])]
    exact this.2.1
  have hlast : ∀ (i : Nat) c, ((fl.drop n).drop m)[i]? = some c → ∃ t l, c = .v (.row t) l ∧ (ownShs (keepShs s.ins))[i]? = some (.own t) := by
    intro i c hc
    rw [List.getElem?_drop, List.getElem?_drop] at hc
    have hlt := (List.getElem?_eq_some_iff.1 hc).1
    have hi : i < (ownShs (keepShs s.ins)).length := by rw [hflen, hblen] at hlt; omega
    have hq : s.back[n + (m + i)]? = (ownShs (keepShs s.ins))[i]? := by
      rw [hback, List.getElem?_append, if_neg (by omega), hn, List.getElem?_append, if_neg (by omega), hm]
      congr 1; omega
    obtain ⟨q, hq2⟩ : ∃ q, (ownShs (keepShs s.ins))[i]? = some q := ⟨_, List.getElem?_eq_getElem hi⟩
    have hown : ∃ t, q = .own t := by
      have : ∀ ss : List CSh, ∀ q ∈ ownShs ss, ∃ t, q = .own t := by
        intro ss
        induction ss with
        | nil => intro q hq; simp [ownShs] at hq
        | cons x ss ih =>
          intro q hq
          cases x with
          | val t => exact ih q hq
          | own t =>
            rcases List.mem_cons.1 hq with rfl | hq
            · exact ⟨t, rfl⟩
            · exact ih q hq
      exact this _ q (List.mem_of_getElem? hq2)
    obtain ⟨t, rfl⟩ := hown
    obtain ⟨x, rfl⟩ := hfget _ _ c (by rw [hq]; exact hq2) hc
    exact ⟨t, x, rfl, hq2⟩
  -- a variable that is handed is not read by the callee's end
  have hMFb : ∀ b c, boxAt refs (refBoxes 0 s.ins) b = some c → ¬ E'.F (E.β c) := by
    intro b c hb
    obtain ⟨_, q, hq⟩ := boxAt_mem hb
    obtain ⟨l, hl⟩ := layBoxes_some (cs := Y) hq
    have := (hT.boxNew b l (hTbox b l hl)).2
    rw [hhβ b q hq, hEβ b c hb] at this
    exact this
  have hTF : ∀ g, E'.F g → (FZ S E w p.2 g ∨ w.heap.size ≤ g ∨ MB S E w s.shs (cells ++ c2) refs (refBoxes 0 s.ins) g) ∧ g < w'.heap.size := fun g hg => hT.F g hg
  -- the type of a row that was handed
  have hkt : ∀ (j k : Nat) t r0, (inShs s.ins)[j]? = some (.own t) → cells[j]? = some (.own k) → S.rows k = some r0 → r0.t = t := by
    intro j k t r0 ht hk hr0
    have hjc : j < cells.length := (List.getElem?_eq_some_iff.1 hk).1
    have hss : s.shs[j]? = some (.own t) := by rw [hin, List.getElem?_append, if_pos (by omega)]; exact ht
    have hcc : (cells ++ c2)[j]? = some (.own k) := by rw [List.getElem?_append, if_pos hjc]; exact hk
    obtain ⟨r, hr, e⟩ := htys j t k hss hcc
    rw [hr0] at hr
    cases hr
    exact e
  have hfree : ∀ b, FZ S E w p.2 b → b < w.heap.size ∧ ¬ MB S E w s.shs (cells ++ c2) refs (refBoxes 0 s.ins) b := hT.FAlt
  -- freeze, if memory may be shared
  generalize hbk : backRows (keepShs s.ins) cells ((fl.drop n).drop m) = bk
  generalize hX : mkAt (id + n) (refShs s.ins) ((fl.drop n).take m) = X at hXg
  generalize hbb : backBoxes refs (refBoxes 0 s.ins) X = bb
  generalize hrs : resRows id (outShs s.outs ++ refShs s.ins) (fl.take (n + m)) = rs
  generalize hfz : freezeIf (s.back.any CSh.shares) S p.2 = fz
  have hδ : (postD S id s cells c2 refs y).rows = fz ++ (drops p.1 ++ (rs ++ bk)) ∧ (postD S id s cells c2 refs y).boxes = bb ∧ (postD S id s cells c2 refs y).val = (outLT s.outs).av (mkAt id (outShs s.outs) (fl.take n)) := by
    simp only [postD, hfl, hn, hm, hp, hbk, hX, hbb, hrs, hfz, and_self]
  rw [hδ.1, hδ.2.1, hδ.2.2]
  obtain ⟨E1, hS1, L1, U1, F1, F2⟩ : ∃ E1, Sim B { S with rows := setAll S.rows fz } E1 a w ∧ E.le w w E1 ∧ (∀ n, E1.U n ↔ E.U n) ∧ (s.back.any CSh.shares = true → ∀ b, FZ S E w p.2 b → E1.F b) ∧ (∀ b, E1.F b → FZ S E w p.2 b) := by
    cases hsh : s.back.any CSh.shares with
    | true =>
      rw [hsh] at hfz
      simp only [freezeIf] at hfz
      subst hfz
      obtain ⟨E1, g1, g2, g3, _, g5⟩ := h.freeze p.2
      exact ⟨E1, g1, g2, g3, fun _ b hb => (g5 b).2 hb, fun b hb => (g5 b).1 hb⟩
    | false =>
      rw [hsh] at hfz
      simp only [freezeIf] at hfz
      subst hfz
      exact ⟨E, h, Env.le.refl w E, fun _ => Iff.rfl, fun e => (by cases e), fun b hb => .inl hb⟩
  have hfzk : ∀ q ∈ fz, q.1 ∈ p.2 := by
    intro q hq
    cases hsh : s.back.any CSh.shares with
    | true => rw [hsh] at hfz; simp only [freezeIf] at hfz; subst hfz; exact freeze_keys q hq
    | false => rw [hsh] at hfz; simp only [freezeIf] at hfz; subst hfz; cases hq
  have hr1 : ∀ k ∈ p.1, setAll S.rows fz k = S.rows k := fun k hk => setAll_not fun q hq e => h2 k hk (by rw [← e]; exact hfzk q hq)
  generalize hrows1 : setAll S.rows fz = rows1 at *
  -- membership
  have hbkm : ∀ q ∈ bk, ∃ (j i k : Nat) (r : RowSt), q = (k, some r) ∧ r.own = true ∧ cells[j]? = some (.own k) ∧ (ownIds 0 (keepShs s.ins))[i]? = some (.own j) ∧ layRows s.back fl (n + (m + i)) = some r ∧
      (∃ r0, S.rows k = some r0 ∧ r0.own = true ∧ r0.t = r.t) ∧ (∃ t, (inShs s.ins)[j]? = some (.own t)) := by
    intro q hq
    rw [← hbk] at hq
    obtain ⟨j, i, k, r, e1, e2, e3, e4, e5⟩ := backRows_mem (q := 0) hq
    rw [Nat.zero_add] at e4
    obtain ⟨t', l, e6, e7⟩ := hlast i _ e5
    cases e6
    obtain ⟨j', e8, t2, e9, e10⟩ := ownIds_get e4
    rw [Nat.zero_add] at e8
    cases e8
    rw [e7] at e10
    cases e10
    have hi : i < (ownShs (keepShs s.ins)).length := (List.getElem?_eq_some_iff.1 e7).1
    replace e9 := keep_own e9
    have hss : s.shs[j]? = some (.own r.t) := by
      rw [hin, List.getElem?_append, if_pos (List.getElem?_eq_some_iff.1 e9).1]; exact e9
    have hcc : (cells ++ c2)[j]? = some (.own k) := by rw [List.getElem?_append, if_pos (List.getElem?_eq_some_iff.1 e3).1]; exact e3
    rcases s3 j _ _ hss hcc with hh | ⟨k2, hh, hk2⟩
    · cases hh
    · cases hh
      obtain ⟨r0, hr0, ho0⟩ := h3 k hk2
      refine ⟨j, i, k, r, e1, e2, e3, e4, ?_, ⟨r0, hr0, ho0, hkt j k _ r0 e9 e3 hr0⟩, ⟨_, e9⟩⟩
      rw [List.getElem?_drop, List.getElem?_drop] at e5
      have hq2 : s.back[n + (m + i)]? = some (.own r.t) := by
        rw [hback, List.getElem?_append, if_neg (by omega), hn, List.getElem?_append, if_neg (by omega), hm, ← e7]
        congr 1; omega
      rw [hrowAt _ _ _ _ hq2 e5]
      obtain ⟨ro, rt, rl⟩ := r
      simp only at e2
      rw [e2]
  have hbbp : ∀ b c, boxAt refs (refBoxes 0 s.ins) b = some c → hasKey bb c = true := fun b c hb => by
    rw [← hbb]; exact hasKey_iff.2 (backBoxes_cover hb)
  have hbbm : ∀ q ∈ bb, ∃ b0 e cs', boxAt refs (refBoxes 0 s.ins) b0 = some q.1 ∧ (∃ us, w'.heap[E'.β b0]? = some (.cells us e (0, 0)) ∧ ACs w' E' cs' us.toList) ∧ E'.β b0 = E.β q.1 ∧ (∃ o l, q.2 = (X.drop o).take l ∧ cs' = (Y.drop o).take l) := by
    intro q hq
    rw [← hbb] at hq
    obtain ⟨b0, e1, e2⟩ := backBoxes_mem refBoxes_nodup hq
    obtain ⟨o, l, f1, f2⟩ := layBoxes_at e2
    obtain ⟨us, ty, e3, e4⟩ := hT.boxes b0 _ (hTbox b0 _ (f2 Y))
    obtain ⟨_, nn, hmem⟩ := boxAt_mem e1
    exact ⟨b0, ty, _, e1, ⟨us, e3, e4⟩, by rw [hhβ b0 nn hmem, hEβ b0 q.1 e1], o, l, f1, rfl⟩
  have hrsm : ∀ q ∈ rs, ∃ (j : Nat) (r : RowSt), q = (id + j, some r) ∧ j < n + m ∧ r.own = true ∧ layRows s.back fl j = some r ∧ s.back[j]? = some (.own r.t) := by
    intro q hq
    rw [← hrs] at hq
    obtain ⟨j, r, e1, e2, ⟨t, e3⟩, e4⟩ := resRows_mem hq
    have hj : j < n + m := by rw [← hn, ← hm, ← List.length_append]; exact (List.getElem?_eq_some_iff.1 e3).1
    rw [List.getElem?_take, if_pos hj] at e4
    have hb : s.back[j]? = some (.own t) := by rw [hback, ← List.append_assoc, List.getElem?_append, if_pos (by rw [List.length_append, hn, hm]; exact hj)]; exact e3
    obtain ⟨z, hz⟩ := hfget j _ _ hb e4
    cases hz
    refine ⟨j, r, e1, hj, e2, ?_, hb⟩
    rw [hrowAt _ _ _ _ hb e4]
    obtain ⟨ro, rt, rl⟩ := r
    simp only at e2
    rw [e2]
  have hMBnew : ∀ g, MB S E w s.shs (cells ++ c2) refs (refBoxes 0 s.ins) g → B.new g ∧ g < w.heap.size := by
    intro g hg
    rcases hg with ⟨j, k, r0, ht, hk, hr0, hown, hgb⟩ | ⟨b, c, hb, hgb⟩
    · exact ⟨(h.rowNew k r0 g hr0 hown hgb).1, h.lt_row hr0 hown hgb⟩
    · obtain ⟨cs, hcs⟩ := hrB c (boxAt_mem hb).1
      rw [← hgb]
      exact ⟨(h.boxNew c cs hcs).1, h.lt_box hcs⟩
  have hkU : ∀ q ∈ bk, E.U q.1 := fun q hq => by
    obtain ⟨j, i, k, r, rfl, _, _, _, _, ⟨r0, hr0, _⟩, _⟩ := hbkm q hq
    exact h.rowU k r0 hr0
  have hkp1 : ∀ (j k : Nat), (∃ t, s.shs[j]? = some (.own t)) → (cells ++ c2)[j]? = some (.own k) → k ∈ p.1 := fun j k ⟨t, ht⟩ hk => by
    rcases s3 j t _ ht hk with hh | ⟨k2, hh, hk2⟩
    · cases hh
    · cases hh; exact hk2
  -- without what was handed
  have hS2 := hS1.sub (rows' := setAll rows1 (drops p.1)) (boxes' := less S.boxes bb) (fun k r hk => (setAll_drops hk).1) (fun b cs hb => (less_some hb).1)
  have hrowM : ∀ k r g, rows1 k = some r → r.own = true → OwnB w (E1.hv k) r.t r.l g → k ∉ p.1 → ¬ MB S E w s.shs (cells ++ c2) refs (refBoxes 0 s.ins) g := by
    intro k r g hk ho hg hnk hM
    rcases hM with ⟨j, k0, r0, ht, hkc, hr0, ho0, hg0⟩ | ⟨b, c, hb, hg0⟩
    · have hk0 : rows1 k0 = some r0 := by rw [hr1 k0 (hkp1 j k0 ht hkc)]; exact hr0
      have e := (hS1.rowNew k r g hk ho hg).2.2.2 k0 r0 hk0 ho0 (by rw [L1.hv k0 (h.rowU k0 r0 hr0)]; exact hg0)
      exact hnk (e ▸ hkp1 j k0 ht hkc)
    · obtain ⟨cs, hcs⟩ := hrB c (boxAt_mem hb).1
      exact (hS1.rowNew k r g hk ho hg).2.2.1 c cs hcs (by rw [L1.β c (h.boxU c cs hcs)]; exact hg0)
  have hboxM : ∀ b cs, S.boxes b = some cs → (∀ q ∈ bb, q.1 ≠ b) → ¬ MB S E w s.shs (cells ++ c2) refs (refBoxes 0 s.ins) (E1.β b) := by
    intro b cs hb hnb hM
    have e0 : E1.β b = E.β b := L1.β b (h.boxU b cs hb)
    rcases hM with ⟨j, k0, r0, ht, hkc, hr0, ho0, hg0⟩ | ⟨b', c, hb', hg0⟩
    · exact (h.rowNew k0 r0 _ hr0 ho0 hg0).2.2.1 b cs hb e0.symm
    · obtain ⟨cs', hcs'⟩ := hrB c (boxAt_mem hb').1
      have e := h.boxInj c b cs' cs hcs' hb (by rw [hg0, e0])
      obtain ⟨q, hq, e2⟩ := hasKey_iff.1 (hbbp b' c hb')
      exact hnb q hq (by rw [e2, e])
  have hS3 : Sim B { S with rows := setAll rows1 (drops p.1), boxes := less S.boxes bb } E1 a w' := hS2.world hT.os hT.tape hT.output hT.grown
    (fun b hb => hT.frame b (hS1.F b hb).2 (hfree b (F2 b hb)).2)
    (fun b cs hb => hT.frame _ (hS1.lt_box (less_some hb).1) (hboxM b cs (less_some hb).1 (less_some hb).2))
    (fun k r g hk ho hg => hT.frame g (hS1.lt_row (setAll_drops hk).1 ho hg) (hrowM k r g (setAll_drops hk).1 ho hg (setAll_drops hk).2))
    (fun b hb hm' => hT.frame b (Nat.lt_of_lt_of_le hb h.grown) (fun hM => by
      rcases (hMBnew b hM).1 with hh | hh
      · omega
      · exact hm' hh))
  have hback_ : ∀ k r g, rows1 k = some r → r.own = true → k ∉ p.1 → OwnB w' (E1.hv k) r.t r.l g → OwnB w (E1.hv k) r.t r.l g := fun k r g hk ho hn hg =>
    (OwnB.world fun b hb => hT.frame b (hS1.lt_row hk ho (.inl hb)) (hrowM k r b hk ho (.inl hb) hn)).1 hg
  -- more is read
  generalize hsh : s.back.any CSh.shares = sh at *
  have hS4 := hS3.moreF (F' := fun b => E1.F b ∨ (sh = true ∧ E'.F b)) (fun b hb => .inl hb)
    (fun b hb => by
      rcases hb with hb | ⟨e, hb⟩
      · exact hS3.F b hb
      · obtain ⟨q1, q2⟩ := hTF b hb
        rcases q1 with q1 | q1 | q1
        · exact hS3.F b (F1 e b q1)
        · exact ⟨.inr (.inl (Nat.le_trans h.grown q1)), q2⟩
        · exact ⟨.inr (hMBnew b q1).1, q2⟩)
    (fun b cs hb hF => by
      rcases hF with hF | ⟨e, hF⟩
      · exact (hS3.boxNew b cs hb).2 hF
      · rcases (hTF _ hF).1 with q1 | q1 | q1
        · exact (hS3.boxNew b cs hb).2 (F1 e _ q1)
        · exact Nat.lt_irrefl _ (Nat.lt_of_lt_of_le (hS1.lt_box (less_some hb).1) q1)
        · exact hboxM b cs (less_some hb).1 (less_some hb).2 q1)
    (fun k r g hk ho hg hF => by
      rcases hF with hF | ⟨e, hF⟩
      · exact (hS3.rowNew k r g hk ho hg).2.1 hF
      · have hg1 := hback_ k r g (setAll_drops hk).1 ho (setAll_drops hk).2 hg
        rcases (hTF _ hF).1 with q1 | q1 | q1
        · exact (hS3.rowNew k r g hk ho hg).2.1 (F1 e _ q1)
        · exact Nat.lt_irrefl _ (Nat.lt_of_lt_of_le (hS1.lt_row (setAll_drops hk).1 ho hg1) q1)
        · exact hrowM k r g (setAll_drops hk).1 ho hg1 (setAll_drops hk).2 q1)
  obtain ⟨hS4, L4⟩ := hS4
  -- the new numbers
  generalize hE5 : callEnv E E1 E' id (fun b => E1.F b ∨ (sh = true ∧ E'.F b)) = E5
  have e5U : ∀ k, E5.U k ↔ E.U k ∨ (id ≤ k ∧ k < id + 63) := fun k => by rw [← hE5]; exact Iff.rfl
  have e5β : E5.β = E1.β := by rw [← hE5]; rfl
  have e5F : E5.F = fun b => E1.F b ∨ (sh = true ∧ E'.F b) := by rw [← hE5]; rfl
  have e5hv : ∀ k, E5.hv k = if id ≤ k ∧ k < id + 63 then E'.hv (k - id) else E1.hv k := fun k => by rw [← hE5]; rfl
  have e5sz : ∀ k, E5.sz k = if id ≤ k ∧ k < id + 63 then E'.sz (k - id) else E1.sz k := fun k => by rw [← hE5]; rfl
  have hold : ∀ k, E.U k → ¬ (id ≤ k ∧ k < id + 63) := fun k hk hh => hid k hh.1 (Nat.lt_succ_of_lt hh.2) hk
  have L5 : ({ E1 with F := fun b => E1.F b ∨ (sh = true ∧ E'.F b) } : Env).le w' w' E5 :=
    ⟨fun k hk => (e5U k).2 (.inl ((U1 k).1 hk)), fun _ _ => by rw [e5β], fun k hk => by rw [e5hv, if_neg (hold k ((U1 k).1 hk))], fun k hk => by rw [e5sz, if_neg (hold k ((U1 k).1 hk))], fun _ hb => by rw [e5F]; exact hb, fun _ _ => rfl⟩
  have hS5 := hS4.env L5 (fun _ => by rw [e5F])
  have hvnew : ∀ j, j < n + m → E5.hv (id + j) = E'.hv j ∧ E5.sz (id + j) = E'.sz j := fun j hj => by
    have : id ≤ id + j ∧ id + j < id + 63 := ⟨by omega, by omega⟩
    rw [e5hv, e5sz, if_pos this, if_pos this, Nat.add_sub_cancel_left]
    exact ⟨rfl, rfl⟩
  have hvold : ∀ k, E.U k → E5.hv k = E.hv k ∧ E5.sz k = E.sz k ∧ E5.β k = E.β k := fun k hk => by
    rw [e5hv, e5sz, e5β, if_neg (hold k hk), if_neg (hold k hk)]
    exact ⟨L1.hv k hk, L1.sz k hk, L1.β k hk⟩
  have hLw : E.le w w' E5 :=
    ⟨fun k hk => (e5U k).2 (.inl hk), fun k hk => (hvold k hk).2.2, fun k hk => (hvold k hk).1, fun k hk => (hvold k hk).2.1, fun b hb => by rw [e5F]; exact .inl (L1.F b hb), fun b hb => hT.frame b (h.F b hb).2 (hfree b (.inl hb)).2⟩
  -- what comes back is read
  have hEncB : ∀ {t : Ty} {q : CSh}, q ∈ s.back → (q = .val t ∨ (q = .own t ∧ t.isDeep = false)) → ∀ {z : t.T} {g : Nat → Option Value}, Enc w' E'.F t z g → Enc w' E5.F t z g := by
    intro t q hq hqt z g he
    cases hsv : sh with
    | true => exact Enc.mono (fun b hb => by rw [e5F]; exact .inr ⟨hsv, hb⟩) (fun _ _ => rfl) (fun _ _ => rfl) he
    | false =>
      rw [hsv] at hsh
      have := List.any_eq_false.1 hsh q hq
      refine Enc.plain ?_ he
      rcases hqt with rfl | ⟨rfl, hd⟩
      · simpa [CSh.shares] using this
      · simpa [CSh.shares, hd] using this
  have hfree5 : ∀ g, (w.heap.size ≤ g ∨ MB S E w s.shs (cells ++ c2) refs (refBoxes 0 s.ins) g) → ¬ E'.F g → ¬ E5.F g := fun g hg hn hF => by
    rw [e5F] at hF
    rcases hF with hF | ⟨_, hF⟩
    · rcases hg with hg | hg
      · exact Nat.lt_irrefl _ (Nat.lt_of_lt_of_le (hS1.F g hF).2 hg)
      · exact (hfree g (F2 g hF)).2 hg
    · exact hn hF
  have hnewB : ∀ g, (w.heap.size ≤ g ∨ MB S E w s.shs (cells ++ c2) refs (refBoxes 0 s.ins) g) → B.new g := fun g hg =>
    hg.elim (fun hg => .inl (Nat.le_trans h.grown hg)) fun hg => (hMBnew g hg).1
  -- a row that was not handed
  have hother : ∀ k r g, setAll rows1 (drops p.1) k = some r → r.own = true → OwnB w' (E5.hv k) r.t r.l g → (w.heap.size ≤ g ∨ MB S E w s.shs (cells ++ c2) refs (refBoxes 0 s.ins) g) → False := fun k r g hk ho hg hN => by
    have hU' := (U1 k).1 (hS1.rowU k r (setAll_drops hk).1)
    rw [(hvold k hU').1, ← L1.hv k hU'] at hg
    have hg1 := hback_ k r g (setAll_drops hk).1 ho (setAll_drops hk).2 hg
    rcases hN with hN | hN
    · exact Nat.lt_irrefl _ (Nat.lt_of_lt_of_le (hS1.lt_row (setAll_drops hk).1 ho hg1) hN)
    · exact hrowM k r g (setAll_drops hk).1 ho hg1 (setAll_drops hk).2 hN
  have hbother : ∀ b cs g, less S.boxes bb b = some cs → E5.β b = g → (w.heap.size ≤ g ∨ MB S E w s.shs (cells ++ c2) refs (refBoxes 0 s.ins) g) → False := fun b cs g hb e hN => by
    rw [e5β] at e
    rcases hN with hN | hN
    · have := hS1.lt_box (less_some hb).1
      omega
    · exact hboxM b cs (less_some hb).1 (less_some hb).2 (by rw [e]; exact hN)
  have hposi : ∀ i, i < (ownShs (keepShs s.ins)).length → n + (m + i) < s.back.length := fun i hi => by rw [hblen]; omega
  have hrowRes : ∀ (j : Nat) r, layRows s.back fl j = some r → s.back[j]? = some (.own r.t) → r.own = true → ∃ xs, Owned w' r.t.size (E'.hv j) r.l.length xs ∧ Body w' E5.U E5.hv E5.F r.t r.l xs (E'.hv j) ∧ E'.sz j = r.t.size := by
    intro j r hr hq ho
    obtain ⟨xs, x1, x2⟩ := (hT.rows j r hr).ownB ho
    have hsz := (hT.rows j r hr).1
    rw [hsz] at x1
    refine ⟨xs, x1, ?_, hsz⟩
    have hg := (i12g _ (List.mem_of_getElem? hq)).2
    obtain ⟨ro, rt, rl⟩ := r
    simp only at hq hg x1 x2
    cases rt with
    | deep nn u =>
      have hn0 : nn = none := by
        simp only [CSh.good, Bool.and_eq_true] at hg
        cases nn <;> first | rfl | simp at hg
      subst hn0
      have x2 : Kids w' E'.U E'.hv Option.none u rl xs (E'.hv j) := x2
      exact show Kids w' E5.U E5.hv Option.none u rl xs (E'.hv j) from ⟨x2.one, x2.kid, fun n hn => (by cases hn), x2.inj, x2.out⟩
    | part u => exact x2
    | _ => exact fun i z hz => hEncB (List.mem_of_getElem? hq) (.inr ⟨rfl, rfl⟩) (x2 i z hz)
  have hS6 := hS5.addRows (l := rs) (fun q hq => by
      obtain ⟨j, r, rfl, hj, ho, hr, hb⟩ := hrsm q hq
      obtain ⟨xs, x1, x2, x3⟩ := hrowRes j r hr hb ho
      obtain ⟨v1, v2⟩ := hvnew j hj
      refine ⟨r, rfl, (e5U _).2 (.inr ⟨by show id ≤ id + j; omega, by show id + j < id + 63; omega⟩), ⟨by rw [v2]; exact x3, trivial, by simp only [ho]; exact ⟨xs, by rw [v1, v2, x3]; exact x1, by rw [v1]; exact x2⟩⟩, fun g hg => ?_⟩
      rw [v1] at hg
      obtain ⟨hN, hnF, _, _⟩ := hT.rowNew j r g hr ho hg
      exact ⟨hnewB g hN, hfree5 g hN hnF, fun b cs hb' e => hbother b cs g hb' e hN, fun k' r' hk' ho' hg' => (hother k' r' g hk' ho' hg' hN).elim⟩)
    (fun q hq q' hq' r0 r0' g e e' hg hg' => by
      obtain ⟨j, r, rfl, hj, ho, hr, hb⟩ := hrsm q hq
      obtain ⟨j', r', rfl, hj', ho', hr', hb'⟩ := hrsm q' hq'
      cases e
      cases e'
      rw [(hvnew j hj).1] at hg
      rw [(hvnew j' hj').1] at hg'
      have := (hT.rowNew j' _ g hr' ho' hg').2.2.2 j _ hr ho hg
      show id + j = id + j'
      omega)
  have hbq_ : ∀ i r, layRows s.back fl (n + (m + i)) = some r → s.back[n + (m + i)]? = some (.own r.t) := fun i r hr => by
    unfold layRows at hr
    split at hr
    · rename_i t2 t3 l3 e1 e2
      cases hr
      obtain ⟨z, hz⟩ := hfget _ _ _ e1 e2
      cases hz
      exact e1
    · cases hr
  have hS7 := hS6.addRows (l := bk) (fun q hq => by
      obtain ⟨j, i, k, r, rfl, ho, hkc, hi, hr, ⟨r0, hr0, ho0, ht0⟩, ⟨t, ht⟩⟩ := hbkm q hq
      have hUk := h.rowU k r0 hr0
      obtain ⟨v1, v2, _⟩ := hvold k hUk
      have hEv' : E'.hv (n + (m + i)) = E.hv k := by rw [hhv i j hi, hcell j k hkc]
      obtain ⟨xs, x1, x2, x3⟩ := hrowRes (n + (m + i)) r hr (hbq_ i r hr) ho
      rw [hEv'] at x1 x2
      refine ⟨r, rfl, (e5U _).2 (.inl hUk), ⟨by rw [v2, (h.rows k r0 hr0).1, ht0], trivial, by
        simp only [ho]
        exact ⟨xs, by rw [v1, v2, (h.rows k r0 hr0).1, ht0]; exact x1, by rw [v1]; exact x2⟩⟩, fun g hg => ?_⟩
      rw [v1, ← hEv'] at hg
      obtain ⟨hN, hnF, _, hq4⟩ := hT.rowNew (n + (m + i)) r g hr ho hg
      refine ⟨hnewB g hN, hfree5 g hN hnF, fun b cs hb' e => hbother b cs g hb' e hN, fun k' r' hk' ho' hg' => ?_⟩
      by_cases hkey : ∃ q ∈ rs, q.1 = k'
      · exfalso
        rcases setAll_mem hk' with ⟨q, hq, e⟩ | ⟨hn, _⟩
        · obtain ⟨j2, r2, rfl, hj2, ho2, hr2, hb2⟩ := hrsm q hq
          cases e
          rw [(hvnew j2 hj2).1] at hg'
          have := hq4 j2 r' hr2 ho2 hg'
          omega
        · obtain ⟨q, hq, e⟩ := hkey
          exact hn q hq e
      · have hk2 : setAll rows1 (drops p.1) k' = some r' := by
          have : setAll (setAll rows1 (drops p.1)) rs k' = setAll rows1 (drops p.1) k' := setAll_not fun q hq e => hkey ⟨q, hq, e⟩
          rw [← this]; exact hk'
        exact (hother k' r' g hk2 ho' hg' hN).elim)
    (fun q hq q' hq' r1 r1' g e e' hg hg' => by
      obtain ⟨j, i, k, r, rfl, ho, hkc, hi, hr, ⟨r0, hr0, ho0, ht0⟩, _⟩ := hbkm q hq
      obtain ⟨j', i', k', r', rfl, ho', hkc', hi', hr', ⟨r0', hr0', ho0', ht0'⟩, _⟩ := hbkm q' hq'
      cases e
      cases e'
      rw [(hvold k (h.rowU k r0 hr0)).1, ← hcell j k hkc, ← hhv i j hi] at hg
      rw [(hvold k' (h.rowU k' r0' hr0')).1, ← hcell j' k' hkc', ← hhv i' j' hi'] at hg'
      have := (hT.rowNew (n + (m + i')) _ g hr' ho' hg').2.2.2 (n + (m + i)) _ hr ho hg
      have e : i = i' := by omega
      subst e
      rw [hi] at hi'
      cases hi'
      rw [hkc] at hkc'
      cases hkc'
      rfl)
  have hACs : ∀ {o l : Nat} {us : List Value}, ACs w' E' ((Y.drop o).take l) us → ACs w' E5 ((X.drop o).take l) us := by
    intro o l us hc
    have hXY : X.length = Y.length := by rw [hXg.1, hYg.1]
    refine ⟨by rw [← hc.1, List.length_take, List.length_take, List.length_drop, List.length_drop, hXY], fun j c u hj hu => ?_⟩
    have hjl := (List.getElem?_eq_some_iff.1 hj).1
    rw [List.length_take, List.length_drop, hXY, hYl] at hjl
    have hjm : o + j < m := by omega
    rw [List.getElem?_take, if_pos (by omega), List.getElem?_drop] at hj
    have hqr : o + j < (refShs s.ins).length := by rw [hm]; exact hjm
    have hqf : o + j < ((fl.drop n).take m).length := by rw [← hml]; exact hqr
    have a1 := hYg.2 (o + j) _ _ (List.getElem?_eq_getElem hqr) (List.getElem?_eq_getElem hqf)
    have a2 := hXg.2 (o + j) _ _ (List.getElem?_eq_getElem hqr) (List.getElem?_eq_getElem hqf)
    rw [a2] at hj
    have hcu := hc.2 j _ u (by rw [List.getElem?_take, if_pos (by omega), List.getElem?_drop]; exact a1) hu
    have hfq : fl[n + (o + j)]? = some ((fl.drop n).take m)[o + j] := by
      have := List.getElem?_eq_getElem hqf
      rw [List.getElem?_take, if_pos hjm, List.getElem?_drop] at this
      exact this
    have hbq : s.back[n + (o + j)]? = some (refShs s.ins)[o + j] := by
      rw [hback, List.getElem?_append, if_neg (by omega), hn, Nat.add_sub_cancel_left, List.getElem?_append, if_pos hqr]
      exact List.getElem?_eq_getElem hqr
    generalize (refShs s.ins)[o + j] = qq at hj hcu hbq
    cases qq with
    | val t =>
      simp only at hj hcu
      cases hj
      obtain ⟨z, hz⟩ := hfget _ _ _ hbq hfq
      rw [hz] at hcu ⊢
      exact ⟨hcu.1, hEncB (List.mem_of_getElem? hbq) (.inl rfl) hcu.2⟩
    | own t =>
      simp only at hj hcu
      cases hj
      refine ⟨(e5U _).2 (.inr ⟨by omega, by omega⟩), ?_, hcu.2.2⟩
      rw [show id + n + (o + j) = id + (n + (o + j)) by omega, (hvnew _ (by omega)).1]
      exact hcu.2.1
  have hS8 := hS7.addBoxes (l := bb) (fun q hq => by
      obtain ⟨b0, ty, cs', e1, ⟨us, e2, e3⟩, e4, o, l, e5, e5'⟩ := hbbm q hq
      rw [e5'] at e3
      obtain ⟨cs, hcs⟩ := hrB q.1 (boxAt_mem e1).1
      have hUq := h.boxU q.1 cs hcs
      have hβq := (hvold q.1 hUq).2.2
      obtain ⟨_, nn0, hmem0⟩ := boxAt_mem e1
      obtain ⟨lb0, hlb0⟩ := layBoxes_some (cs := Y) hmem0
      have hcb := hTbox b0 lb0 hlb0
      refine ⟨(e5U _).2 (.inl hUq), ⟨us, ty, by rw [hβq, ← e4]; exact e2, by rw [e5]; exact hACs e3⟩, by rw [hβq]; exact (h.boxNew _ cs hcs).1, fun hF => ?_, fun b' cs' hb' e => ?_, fun k r g hk ho hg e => ?_⟩
      · rw [hβq, e5F] at hF
        rcases hF with hF | ⟨_, hF⟩
        · exact (h.boxNew _ cs hcs).2 (by
            rcases F2 _ hF with hh | ⟨k, hk, r, hr, ho, hg, _⟩
            · exact hh
            · exact absurd rfl ((h.rowNew k r _ hr ho hg).2.2.1 q.1 cs hcs))
        · exact hMFb b0 q.1 e1 hF
      · have hb2 := (less_some hb').1
        rw [hβq, (hvold b' (h.boxU b' cs' hb2)).2.2] at e
        exact h.boxInj b' q.1 cs' cs hb2 hcs e
      · rw [hβq] at e
        rcases setAll_mem hk with ⟨q', hq', e6⟩ | ⟨hkb, hk2⟩
        · obtain ⟨j, i, k2, r2, rfl, ho2, hkc2, hi2, hr2, ⟨r0, hr0, ho0, _⟩, _⟩ := hbkm q' hq'
          cases e6
          rw [(hvold k (h.rowU k r0 hr0)).1, ← hcell j k hkc2, ← hhv i j hi2] at hg
          exact (hT.rowNew (n + (m + i)) r g hr2 ho2 hg).2.2.1 b0 lb0 hcb (by rw [e4]; exact e)
        · rcases setAll_mem hk2 with ⟨q', hq', e6⟩ | ⟨hkr, hk3⟩
          · obtain ⟨j, r2, rfl, hj, ho2, hr2, _⟩ := hrsm q' hq'
            cases e6
            rw [(hvnew j hj).1] at hg
            exact (hT.rowNew j r g hr2 ho2 hg).2.2.1 b0 lb0 hcb (by rw [e4]; exact e)
          · have hU' := (U1 k).1 (hS1.rowU k r (setAll_drops hk3).1)
            rw [(hvold k hU').1, ← L1.hv k hU'] at hg
            have hg1 := hback_ k r g (setAll_drops hk3).1 ho (setAll_drops hk3).2 hg
            exact (hS1.rowNew k r g (setAll_drops hk3).1 ho hg1).2.2.1 q.1 cs hcs (by rw [L1.β _ hUq]; exact e))
    (fun q hq q' hq' e => by
      obtain ⟨b0, ty, _, e1, _⟩ := hbbm q hq
      obtain ⟨b0', ty', _, e1', _⟩ := hbbm q' hq'
      obtain ⟨cs, hcs⟩ := hrB q.1 (boxAt_mem e1).1
      obtain ⟨cs', hcs'⟩ := hrB q'.1 (boxAt_mem e1').1
      rw [(hvold _ (h.boxU _ cs hcs)).2.2, (hvold _ (h.boxU _ cs' hcs')).2.2] at e
      exact h.boxInj _ _ _ _ hcs hcs' e)
  have hrows : setAll (setAll (setAll rows1 (drops p.1)) rs) bk = setAll S.rows (fz ++ (drops p.1 ++ (rs ++ bk))) := by
    rw [setAll_append, setAll_append, setAll_append, hrows1]
  refine ⟨E5, hLw, ?_, ?_, fun k hk => (e5U k).1 hk, fun b hb => by
    rw [e5F] at hb
    rcases hb with hb | hb
    · exact .inl (hfree b (F2 b hb)).1
    · exact .inr hb.2, fun j hj => hvnew j (by omega)⟩
  · have h0 := (hT.tmps 0 ((outLT s.outs).av ((mkAt 0 s.back fl).take (outLT s.outs).n)) rfl).2
    have hv0 : (#[v] : Array Value).getD 0 undef = v := rfl
    simp only [hv0] at h0
    rw [outLT_n, hn, hall1, List.take_left' hoL] at h0
    have hgot := gotT_mk i11 (ys := mkAt 0 (outShs s.outs) (fl.take n)) (by rw [outLT_n, hn, hoL])
    obtain ⟨_, us, u1, u2⟩ := gotT_ok hgot h0
    refine u2 E5 _ ?_ (fun b c hb => by simp [boxAt] at hb)
    have hlen : (outShs s.outs).length = (fl.take n).length := by rw [hn, List.length_take, hflen, hblen]; omega
    obtain ⟨g1, g2⟩ := mkAt_get (i := 0) hlen
    obtain ⟨g3, g4⟩ := mkAt_get (i := id) hlen
    refine ⟨by rw [g3, ← g1]; exact u1.1, fun j c u hj hu => ?_⟩
    have hjf : j < (fl.take n).length := by rw [← g3]; exact (List.getElem?_eq_some_iff.1 hj).1
    have hjs : j < (outShs s.outs).length := by rw [hlen]; exact hjf
    have hjn : j < n := by rw [← hn]; exact hjs
    have a1 := g2 j _ _ (List.getElem?_eq_getElem hjs) (List.getElem?_eq_getElem hjf)
    have a2 := g4 j _ _ (List.getElem?_eq_getElem hjs) (List.getElem?_eq_getElem hjf)
    rw [a2] at hj
    have hcu := u1.2 j _ u a1 hu
    have hbj : s.back[j]? = some (outShs s.outs)[j] := by rw [hback, List.getElem?_append, if_pos (by omega)]; exact List.getElem?_eq_getElem hjs
    have hfj : fl[j]? = some (fl.take n)[j] := by
      have := List.getElem?_eq_getElem hjf
      rw [List.getElem?_take, if_pos hjn] at this
      exact this
    generalize (outShs s.outs)[j] = qq at hj hcu hbj
    cases qq with
    | val t =>
      simp only at hj hcu
      cases hj
      obtain ⟨z, hz⟩ := hfget j _ _ hbj hfj
      rw [hz] at hcu ⊢
      exact ⟨hcu.1, hEncB (List.mem_of_getElem? hbj) (.inl rfl) hcu.2⟩
    | own t =>
      simp only at hj hcu
      cases hj
      rw [Nat.zero_add] at hcu
      refine ⟨(e5U _).2 (.inr ⟨by omega, by omega⟩), ?_, hcu.2.2⟩
      rw [(hvnew j (by omega)).1]
      exact hcu.2.1
  · rw [← hrows, ← setBoxes_less S.boxes bb]
    exact hS8

end
end Go.Proofs.YtmbmapbdbbnaeaaT

/- The builtins; all operations that call no function. -/
import Derived.Test.YtmbmapbdbbnaeaaTiL
set_option linter.unusedVariables false
set_option linter.unusedSimpArgs false
namespace Go.Proofs.YtmbmapbdbbnaeaaT
open Go

section
variable {P : Program} {B : Base} {S : St} {E : Env} {a : Act} {w : World}

/-- append onto a row of the call's own: the elements' type that the block bears does not matter. -/
theorem run_append_room' (t ty e e' : TypeId) (i : TypeInfo) (t' : TypeId) (ht : P.underlying t = some (.slice e)) (ht' : P.underlying t' = some (.slice e)) (hi : P.info? e = some i)
    (g sLen sCap : Nat) (cur : Array Value) (hg : w.heap[g]? = some (.cells cur e' (0, 0)))
    (a : Option Addr) (m c : Nat) (news : List Value) (hf : (Builtin.firstCells i.size m (.slice a m c)).run P w = .ok news.toArray w) (h1 : ∀ u ∈ news, u.oneCell' = true)
    (hroom : sLen + m ≤ sCap) (hfit : sLen * i.size + news.length ≤ cur.size) :
    (Builtin.append_ #[t, t'] ty #[.slice (some ⟨g, 0, none⟩) sLen sCap, .slice a m c]).run P w =
      .ok (.slice (some ⟨g, 0, none⟩) (sLen + m) sCap) (w.setRow g (cur.toList.take (sLen * i.size) ++ news ++ cur.toList.drop (sLen * i.size + news.length)).toArray) := by
  have hst := run_storeCells_at P g (sLen * i.size) e' news 0 cur w hg (by simpa using hfit) h1
  simp only [Nat.add_zero] at hst
  simp [Builtin.append_, run_underlying ht, run_underlying ht', sizeOf, typeInfo, hi, Builtin.lenOf, hroom, hf, Addr.add_lit, hst]

theorem run_append_none (t t' ty e : TypeId) (i : TypeInfo) (ht : P.underlying t = some (.slice e)) (ht' : P.underlying t' = some (.slice e)) (hi : P.info? e = some i) (a : Option Addr) (c : Nat) (w : World) :
    (Builtin.append_ #[t, t'] ty #[.slice none 0 0, .slice a 0 c]).run P w = .ok (.slice none 0 0) w := by
  have : (Builtin.firstCells i.size 0 (.slice a 0 c)).run P w = .ok #[] w := by
    cases a with
    | none => rfl
    | some ad => simp [Builtin.firstCells, loadCells, loadCellsFrom]
  simp [Builtin.append_, run_underlying ht, run_underlying ht', sizeOf, typeInfo, hi, Builtin.lenOf, this]

theorem run_append_grow' (t t' ty e : TypeId) (i : TypeInfo) (z : Value) (ht : P.underlying t = some (.slice e)) (ht' : P.underlying t' = some (.slice e)) (hi : P.info? e = some i) (hz : i.zero = some z)
    (b : Option Addr) (n cap : Nat) (xs : List Value) (hb : (Builtin.firstCells i.size n (.slice b n cap)).run P w.drew = .ok xs.toArray w.drew)
    (a : Option Addr) (m c : Nat) (news : List Value) (hf : (Builtin.firstCells i.size m (.slice a m c)).run P w.drew = .ok news.toArray w.drew)
    (hgrow : ¬ n + m ≤ cap) (h63 : ((n + m : Nat) : Int) ≤ 9223372036854775807) (hfit : Builtin.nextslicecap (n + m) cap * i.bytes ≤ 281474976710656) :
    (Builtin.append_ #[t, t'] ty #[.slice b n cap, .slice a m c]).run P w =
      .ok (.slice (some ⟨w.heap.size, 0, none⟩) (n + m) (grownCap w (n + m) cap e)) (w.drew.alloc (.cells (xs.toArray ++ news.toArray ++ Builtin.zeroCells z.cells (grownCap w (n + m) cap e - (n + m))) e)) := by
  have h63' : ¬ (9223372036854775807 < ((n : Int) + (m : Int))) := by omega
  have h48' : ¬ (281474976710656 < Builtin.nextslicecap (n + m) cap * i.bytes) := by omega
  have hb' := hb
  have hf' := hf
  unfold World.drew at hb' hf'
  simp [Builtin.append_, run_underlying ht, run_underlying ht', sizeOf, typeInfo, zeroValue, hi, hz, Builtin.lenOf, hgrow, h63', h48', Question.forced, hb, hf, newRow, grownCap]
  try (congr 2; apply Array.ext'; simp [List.append_assoc])

/-- The cells of a row that is read. -/
theorem row_cells {w : World} {F : Nat → Prop} {t : Ty} {l : List t.T} {v : Value} (h : Val w F (.row t) l v) :
    ∃ p c xs, v = .slice p l.length c ∧ xs.length = l.length * t.size ∧ EncL w F t l xs ∧ ∀ (w' : World), (∀ b, F b → w'.heap[b]? = w.heap[b]?) → (Builtin.firstCells t.size l.length (.slice p l.length c)).run P w' = .ok xs.toArray w' := by
  simp only [Val, Enc, Option.some.injEq] at h
  obtain ⟨p, c, e, h1, h2⟩ := h
  rcases h2 with h2 | ⟨⟨b, f, sp⟩, rfl, rfl, h5, h6⟩
  · have hl : l = [] := List.eq_nil_of_length_eq_zero h2
    subst hl
    refine ⟨p, c, [], e, by simp, fun i x hx => by simp at hx, fun w' _ => ?_⟩
    cases p with
    | none => rfl
    | some ad => simp [Builtin.firstCells, loadCells, loadCellsFrom]
  · have hex : ∀ n, n ≤ l.length → ∃ xs : List Value, xs.length = n * t.size ∧ (∀ (i : Nat) x, i < n → l[i]? = some x → Enc w F t x (fun j => xs[i * t.size + j]?)) ∧ (∀ (j : Nat) u, xs[j]? = some u → w.cell? ⟨b, f + j, none⟩ = some u) := by
      intro n
      induction n with
      | zero => exact fun _ => ⟨[], by simp, fun i x hi => by omega, fun j u hu => by simp at hu⟩
      | succ n ih =>
        intro hn
        obtain ⟨xs, g1, g2, g3⟩ := ih (by omega)
        have hlt : n < l.length := by omega
        obtain ⟨us, k1, k2, k3⟩ := Enc.list (h6 n l[n] (by simp [hlt]))
        refine ⟨xs ++ us, by simp [g1, k1, Nat.succ_mul], fun i x hi hx => ?_, fun j u hu => ?_⟩
        · by_cases e : i < n
          · refine (g2 i x e hx).congr fun j hj => ?_
            have := Nat.mul_le_mul_right t.size (Nat.succ_le_of_lt e)
            rw [Nat.succ_mul] at this
            rw [List.getElem?_append, if_pos (by omega)]
          · have e' : i = n := by omega
            subst e'
            rw [List.getElem?_eq_getElem hlt] at hx
            cases hx
            refine k3.congr fun j hj => ?_
            rw [List.getElem?_append, if_neg (by omega), g1, show i * t.size + j - i * t.size = j by omega]
        · rw [List.getElem?_append] at hu
          split at hu
          · exact g3 j u hu
          · rename_i hj
            have := k2 _ u hu
            rw [g1] at this hj
            rw [show f + (n * t.size + (j - n * t.size)) = f + j by omega] at this
            exact this
    obtain ⟨xs, g1, g2, g3⟩ := hex l.length (Nat.le_refl _)
    refine ⟨some ⟨b, f, none⟩, c, xs, e, g1, fun i x hx => g2 i x (List.getElem?_eq_some_iff.1 hx).1 hx, fun w' hw => ?_⟩
    refine run_firstCells_some (P := P) w' t.size l.length ⟨b, f, none⟩ l.length c xs g1 (fun j v hv => ?_)
    rw [addr_add, World.cell?_of_block (w := w) (a := ⟨b, f + j, none⟩) (hw b h5)]
    exact g3 j v hv

theorem EncL.one {w : World} {F : Nat → Prop} {t : Ty} {l : List t.T} {xs : List Value} (h : EncL w F t l xs) (hl : xs.length = l.length * t.size) : ∀ u ∈ xs, u.oneCell' = true := by
  intro u hu
  obtain ⟨j, hj, rfl⟩ := List.getElem_of_mem hu
  rcases Nat.eq_zero_or_pos t.size with hz | hz
  · rw [hl, hz] at hj; omega
  · have hq : j / t.size < l.length := by rw [Nat.div_lt_iff_lt_mul hz, ← hl]; exact hj
    have hen := h (j / t.size) l[j / t.size] (by simp [hq])
    have hm := Nat.mod_lt j hz
    have hall : ∀ {t : Ty} {x : t.T} {g : Nat → Option Value}, Enc w F t x g → ∀ q, q < t.size → ∃ v, g q = some v ∧ v.oneCell' = true := by
      intro t
      induction t with
      | unit => intro x g _ q hq; simp [Ty.size] at hq
      | int k => intro x g h q hq; simp only [Ty.size] at hq; simp only [Enc] at h; exact ⟨_, by rw [show q = 0 by omega]; exact h, rfl⟩
      | bool => intro x g h q hq; simp only [Ty.size] at hq; simp only [Enc] at h; exact ⟨_, by rw [show q = 0 by omega]; exact h, rfl⟩
      | deep _ t ih => intro x g h q hq; simp only [Ty.size] at hq; simp only [Enc] at h; exact ih h q hq
      | dead => intro x g h q hq; simp only [Ty.size] at hq; simp only [Enc] at h; rw [show q = 0 by omega]; exact h
      | part t _ => intro x g h q hq; simp only [Ty.size] at hq; simp only [Enc] at h; exact h q hq
      | str => intro x g h q hq; simp only [Ty.size] at hq; simp only [Enc] at h; exact ⟨_, by rw [show q = 0 by omega]; exact h, rfl⟩
      | row t ih => intro x g h q hq; simp only [Ty.size] at hq; simp only [Enc] at h; obtain ⟨p, c, e, _⟩ := h; exact ⟨_, by rw [show q = 0 by omega]; exact e, rfl⟩
      | pair p q ih1 ih2 =>
        intro x g h r hr
        simp only [Ty.size] at hr
        simp only [Enc] at h
        by_cases e : r < p.size
        · exact ih1 h.1 r e
        · obtain ⟨v, hv, ho⟩ := ih2 h.2 (r - p.size) (by omega)
          exact ⟨v, by rw [show p.size + (r - p.size) = r by omega] at hv; exact hv, ho⟩
    obtain ⟨v, hv, ho⟩ := hall hen (j % t.size) hm
    have e := Nat.div_add_mod' j t.size
    rw [e, List.getElem?_eq_getElem hj] at hv
    cases hv
    exact ho


theorem Owned.cells_run {w : World} {t : Ty} {n : Nat} {v : Value} {xs : List Value} (ho : Owned w t.size v n xs) : ∃ p c, v = .slice p n c ∧
    ∀ (w' : World), (∀ g, v.ownBlock = some g → w'.heap[g]? = w.heap[g]?) → (Builtin.firstCells t.size n v).run P w' = .ok xs.toArray w' := by
  obtain ⟨h0, h1⟩ := ho
  rcases h1 with ⟨rfl, rfl⟩ | ⟨g, cap, cur, e, rfl, h2, h3, h4, h5, h6⟩
  · have : xs = [] := List.eq_nil_of_length_eq_zero (by simpa using h0)
    subst this
    exact ⟨none, 0, rfl, fun w' _ => rfl⟩
  · refine ⟨_, _, rfl, fun w' hw => run_firstCells_some (P := P) w' t.size n ⟨g, 0, none⟩ n cap xs h0 (fun j v hv => ?_)⟩
    rw [addr_add, Nat.zero_add, cell_row (by rw [hw g rfl]; exact h2)]
    rw [← h6, List.getElem?_take] at hv
    split at hv
    · simpa using hv
    · cases hv

/-- What is appended. -/
theorem src_cells (h : Sim B S E a w) {u : Ty} {b : AC} {v : Value} (hb : ACr w E b v) {m : List u.T} (hm : srcB S u b = some m) :
    ∃ p c xs, v = .slice p m.length c ∧ xs.length = m.length * u.size ∧ EncL w E.F u m xs ∧
      ∀ (w' : World), (∀ g, E.F g → w'.heap[g]? = w.heap[g]?) → (∀ k r g, k ∈ toks [b] → S.rows k = some r → r.own = true → OwnB w (E.hv k) r.t r.l g → w'.heap[g]? = w.heap[g]?) →
        (Builtin.firstCells u.size m.length v).run P w' = .ok xs.toArray w' := by
  unfold srcB at hm
  cases b with
  | nil =>
    cases hm
    have hv : v = .slice none 0 0 := hb
    subst hv
    exact ⟨none, 0, [], rfl, by simp, fun i x hx => by simp at hx, fun w' _ _ => rfl⟩
  | v t x =>
    obtain ⟨e1, e2⟩ := cast?_some hm
    subst e1; subst e2
    obtain ⟨p, c, xs, f1, f2, f3, f4⟩ := row_cells (P := P) hb.2
    exact ⟨p, c, xs, f1, f2, f3, fun w' hw _ => by rw [f1]; exact f4 w' hw⟩
  | own k =>
    simp only at hm
    split at hm
    · rename_i r hr
      split at hm
      · cases hm
      · rename_i hd
        obtain ⟨ro, rt, rl⟩ := r
        simp only at hd
        simp only [asT, hr] at hm
        obtain ⟨hU, hv, _⟩ := hb
        cases ro with
        | true =>
          have hd' : rt.isDeep = false := by simpa using hd
          have hm' : cast? (.row rt) (.row u) rl = some m := by cases rt <;> first | exact hm | cases hd'
          obtain ⟨e1, e2⟩ := cast?_some hm'
          cases e1
          cases e2
          obtain ⟨xs, hx, hl⟩ := (h.rows k _ hr).own rfl hd'
          rw [(h.rows k _ hr).1] at hx
          obtain ⟨p, c, f1, f2⟩ := hx.cells_run (P := P)
          rw [hv]
          exact ⟨p, c, xs, f1, hx.1, hl, fun w' _ hw => f2 w' fun g hg => hw k _ g (by simp [toks]) hr rfl (.inl hg)⟩
        | false =>
          obtain ⟨_, hen⟩ := (h.rows k _ hr).shut rfl
          have hen' := (readRow_val (w := w) (F := E.F) (v := E.hv k) hm).2 hen
          obtain ⟨p, c, xs, f1, f2, f3, f4⟩ := row_cells (P := P) hen'
          rw [hv]
          exact ⟨p, c, xs, f1, f2, f3, fun w' hw _ => by rw [f1]; exact f4 w' hw⟩
    · cases hm
  | ptr b o => simp only [asT] at hm; cases hm
  | eS t x o => simp only [asT] at hm; cases hm
  | eO k i o => simp only [asT] at hm; cases hm
  | inn k q s => simp only [asT] at hm; cases hm
  | sub k lo hi => simp only [asT] at hm; cases hm
  | ownR k m => simp only [asT] at hm; cases hm

theorem EncL.append {w : World} {F : Nat → Prop} {t : Ty} {l m : List t.T} {xs ys : List Value} (hl : EncL w F t l xs) (hm : EncL w F t m ys) (hx : xs.length = l.length * t.size) : EncL w F t (l ++ m) (xs ++ ys) := by
  intro i x hi
  rw [List.getElem?_append] at hi
  split at hi
  · rename_i hlt
    refine (hl i x hi).congr fun j hj => ?_
    have := Nat.mul_le_mul_right t.size (Nat.succ_le_of_lt hlt)
    rw [Nat.succ_mul] at this
    rw [List.getElem?_append, if_pos (by omega)]
  · rename_i hge
    refine (hm _ x hi).congr fun j hj => ?_
    have hge : l.length ≤ i := by omega
    have h1 := Nat.mul_le_mul_right t.size hge
    rw [List.getElem?_append, if_neg (by omega), hx]
    congr 1
    rw [Nat.sub_mul]
    omega

/-- The row behind an append. -/
theorem append_body (h : Sim B S E a w) {id : Nat} (hid : ¬ E.U id) {t t' ty e : TypeId} {eb : Ty × Nat} (ht : P.underlying t = some (.slice e)) (ht' : P.underlying t' = some (.slice e)) (heb : elemB P e = some eb)
    {τ : Ty} (hτ : τ.size = eb.1.size) {v : Value} {l : List τ.T} {xs : List Value} (hx : Owned w eb.1.size v l.length xs)
    (hown : ∀ g, v.ownBlock = some g → Alone B S E w id g)
    {u : Value} {m : List τ.T} {p : Option Addr} {c : Nat} {ys : List Value} (hu : u = .slice p m.length c) (hys : ys.length = m.length * eb.1.size) (hone : ∀ u ∈ ys, u.oneCell' = true)
    (hb : ∀ v', (∀ g, v'.ownBlock = some g → v.ownBlock = some g ∨ w.heap.size ≤ g) → Body w E.U E.hv E.F τ (rApp l m) (xs ++ ys) v')
    (hin : ∀ g, InX τ (rApp l m) (xs ++ ys) g → g < w.heap.size ∧ v.ownBlock ≠ some g ∧ Alone B S E w id g)
    (hrun : ∀ (w' : World), (∀ g, E.F g → w'.heap[g]? = w.heap[g]?) → w'.heap = w.heap → (Builtin.firstCells eb.1.size m.length u).run P w' = .ok ys.toArray w')
    (hok : cLen (rLen (rApp l m)) eb.2 = true) :
    ∃ v' w', (Builtin.append_ #[t, t'] ty #[v, u]).run P w = .ok v' w' ∧ v'.oneCell' = true ∧ Sim B { S with rows := upd S.rows id (some ⟨true, τ, rApp l m⟩) } (E.row id v' eb.1.size) a w' ∧ E.le w w' (E.row id v' eb.1.size) := by
  obtain ⟨i, z, hi, hz, hisz, hib, hzs, hpos, hb0, hb1, _⟩ := (elemB_some heb).info
  unfold cLen rLen rApp at hok
  have hlen : (l.length + m.length) * eb.2 ≤ 35184372088832 := by
    have := (@of_decide_eq_true _ (Classical.propDecidable _) hok)
    rw [List.length_append] at this
    have hmb : ((maxBytes : Nat) : Int) = 35184372088832 := rfl
    rw [hmb] at this
    have h3 : (((l.length + m.length) * eb.2 : Nat) : Int) ≤ 35184372088832 := by rw [Int.natCast_mul]; exact this
    exact Int.ofNat_le.1 h3
  have hlen2 : l.length + m.length ≤ 35184372088832 := Nat.le_trans (Nat.le_mul_of_pos_right _ hb0) hlen
  have hxy : (xs ++ ys).length = (l.length + m.length) * eb.1.size := by rw [List.length_append, hx.1, hys, Nat.add_mul]
  subst hu
  have grow : ∀ {b : Option Addr} {cap : Nat}, v = .slice b l.length cap → cap < l.length + m.length →
      ∃ v' w', (Builtin.append_ #[t, t'] ty #[v, .slice p m.length c]).run P w = .ok v' w' ∧ v'.oneCell' = true ∧ Sim B { S with rows := upd S.rows id (some ⟨true, τ, rApp l m⟩) } (E.row id v' eb.1.size) a w' ∧ E.le w w' (E.row id v' eb.1.size) := by
    intro b cap hv hcap
    obtain ⟨_, _, _, f2⟩ := hx.cells_run (P := P) (t := eb.1)
    have hr1 := f2 w.drew (fun _ _ => rfl)
    rw [hv, ← hisz] at hr1
    have hr2 := hrun w.drew (fun _ _ => rfl) rfl
    rw [← hisz] at hr2
    have := run_append_grow' (P := P) (w := w) t t' ty e i z ht ht' hi hz b l.length cap xs hr1 p m.length c ys hr2 (by omega) (by omega) (growslice_fits hcap (by rw [hib]; omega))
    rw [hv]
    have hge := grownCap_ge w (l.length + m.length) cap e
    have e1 : ((xs.toArray ++ ys.toArray ++ Builtin.zeroCells z.cells (grownCap w (l.length + m.length) cap e - (l.length + m.length))).toList).take ((l.length + m.length) * τ.size) = xs ++ ys := by
      rw [Array.toList_append, Array.toList_append, hτ, ← hxy]
      exact List.take_left
    obtain ⟨k1, k2⟩ := newRow_body h.draw (id := id) hid (t := τ) (l := rApp l m) (e := e)
      (ds := xs.toArray ++ ys.toArray ++ Builtin.zeroCells z.cells (grownCap w (l.length + m.length) cap e - (l.length + m.length))) (n := l.length + m.length) (cap := grownCap w (l.length + m.length) cap e)
      (by simp [rApp]) hge (grownCap_le_maxLen w _ _ _ (by unfold maxLen; omega))
      (by
        rw [Array.size_append, size_zeroCells, hzs, Array.size_append, hτ]
        simp only [List.size_toArray]
        rw [hx.1, hys, ← Nat.add_mul, ← Nat.add_mul]
        congr 1
        omega)
      (by
        rw [e1]
        exact Body.mono0 (w := w) (w' := { w with drawn := w.drawn + 1 }) (E := E) (E' := E) ⟨fun _ h => h, fun _ _ => rfl, fun _ _ => rfl, fun _ _ => rfl, fun _ h => h, fun _ _ => rfl⟩
          (hb _ fun g hg => by simp only [Value.ownBlock, Option.some.injEq] at hg; exact .inr (Nat.le_of_eq hg)) (fun _ _ => rfl))
      (fun g hX => by
        rw [e1] at hX
        obtain ⟨q1, _, q3, q4, q5, q6⟩ := hin g hX
        exact ⟨q1, q3, q4, q5, fun k' r' hk' ho' hg' => q6 k' r' hk' ho' ((OwnB.world fun _ _ => rfl).1 hg')⟩)
    rw [hτ] at k1 k2
    exact ⟨_, _, this, rfl, k1, ⟨k2.U, k2.β, k2.hv, k2.sz, k2.F, k2.heap⟩⟩
  rcases hx.2 with ⟨hv, h0⟩ | ⟨g, cap, cur, e', hv, h2, h3, h4, h5, h6⟩
  · by_cases hm0 : m.length = 0
    · have hl0 : l = [] := List.eq_nil_of_length_eq_zero h0
      have hm0' : m = [] := List.eq_nil_of_length_eq_zero hm0
      have hxs : xs = [] := List.eq_nil_of_length_eq_zero (by rw [hx.1, h0, Nat.zero_mul])
      have hys0 : ys = [] := List.eq_nil_of_length_eq_zero (by rw [hys, hm0, Nat.zero_mul])
      have hb0 := hb (.slice none 0 0) (fun g hg => by simp [Value.ownBlock] at hg)
      rw [hxs, hys0] at hb0
      obtain ⟨k1, k2⟩ := h.newRow (id := id) (v := .slice none 0 0) (sz := eb.1.size) (r := ⟨true, τ, rApp l m⟩) hid
        ⟨hτ.symm, trivial, [], ⟨by rw [hl0, hm0']; simp [rApp], .inl ⟨rfl, by rw [hl0, hm0']; rfl⟩⟩, hb0⟩ (fun _ g hg => by
          rcases hg with hg | hg
          · simp [Value.ownBlock] at hg
          · cases τ with
            | deep n t' => obtain ⟨j, u, q1, _⟩ := hg; simp [kids] at q1
            | part t' => obtain ⟨j, u, q1, _⟩ := hg; simp [kids] at q1
            | _ => exact hg.elim)
      refine ⟨.slice none 0 0, w, ?_, rfl, k1, k2⟩
      rw [hv, hm0]
      exact run_append_none t t' ty e i ht ht' hi p c w
    · exact grow (b := none) (cap := 0) (by rw [hv, h0]) (by omega)
  · by_cases hroom : l.length + m.length ≤ cap
    · have hr2 := hrun w (fun _ _ => rfl) rfl
      rw [← hisz] at hr2
      have hfit : l.length * i.size + ys.length ≤ cur.size := by rw [hisz, hys, h5, ← Nat.add_mul]; exact Nat.mul_le_mul_right _ hroom
      have := run_append_room' (P := P) (w := w) t ty e e' i t' ht ht' hi g l.length cap cur h2 p m.length c ys hr2 hone hroom hfit
      have hvg : v.ownBlock = some g := by rw [hv]; rfl
      obtain ⟨n1, n2, n3, n4⟩ := hown g hvg
      rw [hv]
      generalize hcl : (cur.toList.take (l.length * i.size) ++ ys ++ cur.toList.drop (l.length * i.size + ys.length)) = cl at this
      have hno : ∀ k' r', S.rows k' = some r' → r'.own = true → ¬ OwnB w (E.hv k') r'.t r'.l g := fun k' r' hk' ho' hg' => hid ((n4 k' r' hk' ho' hg') ▸ h.rowU k' r' hk')
      have hw1 := h.writeBlk n1 n2 n3 hno cl.toArray
      have L := F_setRow h n2 cl.toArray
      have hcln : cl.length = cur.size := by
        rw [← hcl]
        simp only [List.length_append, List.length_take, List.length_drop, Array.length_toList (xs := cur)]
        omega
      have hcl2 : cl.take ((l.length + m.length) * eb.1.size) = xs ++ ys := by
        rw [← hcl, hisz, h6, ← hxy]
        exact List.take_left
      have hO : Owned (w.setRow g cl.toArray) eb.1.size (.slice (some ⟨g, 0, none⟩) (l.length + m.length) cap) (rApp l m).length (xs ++ ys) :=
        ⟨by simp only [rApp, List.length_append (as := l)]; exact hxy, .inr ⟨g, cap, cl.toArray, e', by simp [rApp], setRow_heap w g cur _ e' _ h2, by simpa [rApp] using hroom, h4, by simpa [hcln] using h5, by simpa [rApp] using hcl2⟩⟩
      have back : ∀ k' r' b, S.rows k' = some r' → r'.own = true → OwnB (w.setRow g cl.toArray) (E.hv k') r'.t r'.l b → OwnB w (E.hv k') r'.t r'.l b := fun k' r' b hk' ho' hg' =>
        (OwnB.world fun b' hb' => setRow_other w g b' _ fun e => hno k' r' hk' ho' (e ▸ .inl hb')).1 hg'
      obtain ⟨k1, k2⟩ := hw1.newRow (id := id) (v := .slice (some ⟨g, 0, none⟩) (l.length + m.length) cap) (sz := eb.1.size) (r := ⟨true, τ, rApp l m⟩) hid
        ⟨hτ.symm, trivial, xs ++ ys, hO, Body.mono0 L (hb _ fun g' hg' => by
            simp only [Value.ownBlock, Option.some.injEq] at hg'
            exact .inl (by rw [hvg, hg'])) (fun b hX => setRow_other w g b _ fun e => (hin b hX).2.1 (by rw [hvg, e]))⟩
        (fun _ g' hg' => by
          rcases hg' with hg' | hg'
          · simp only [Value.ownBlock, Option.some.injEq] at hg'
            subst hg'
            exact ⟨n1, n2, n3, fun k' r' hk' ho' hg' => n4 k' r' hk' ho' (back k' r' _ hk' ho' hg')⟩
          · rw [kids_owned (by rw [← hτ] at hO; exact hO)] at hg'
            obtain ⟨_, _, z1, z2, z3, z4⟩ := hin g' hg'
            exact ⟨z1, z2, z3, fun k' r' hk' ho' hg' => z4 k' r' hk' ho' (back k' r' _ hk' ho' hg')⟩)
      exact ⟨_, _, this, rfl, k1, L.trans k2⟩
    · exact grow (b := some ⟨g, 0, none⟩) (cap := cap) hv (by omega)

theorem append_aux (h : Sim B S E a w) {id : Nat} (hid : ¬ E.U id) {t t' ty e : TypeId} {eb : Ty × Nat} (ht : P.underlying t = some (.slice e)) (ht' : P.underlying t' = some (.slice e)) (heb : elemB P e = some eb)
    {v : Value} {l : List eb.1.T} {xs : List Value} (hx : Owned w eb.1.size v l.length xs) (hl : EncL w E.F eb.1 l xs)
    (hown : ∀ g, v.ownBlock = some g → Alone B S E w id g)
    {u : Value} {m : List eb.1.T} {p : Option Addr} {c : Nat} {ys : List Value} (hu : u = .slice p m.length c) (hys : ys.length = m.length * eb.1.size) (hm : EncL w E.F eb.1 m ys)
    (hrun : ∀ (w' : World), (∀ g, E.F g → w'.heap[g]? = w.heap[g]?) → w'.heap = w.heap → (Builtin.firstCells eb.1.size m.length u).run P w' = .ok ys.toArray w')
    (hok : cLen (rLen (rApp l m)) eb.2 = true) :
    ∃ v' w', (Builtin.append_ #[t, t'] ty #[v, u]).run P w = .ok v' w' ∧ v'.oneCell' = true ∧ Sim B { S with rows := upd S.rows id (some ⟨true, eb.1, rApp l m⟩) } (E.row id v' eb.1.size) a w' ∧ E.le w w' (E.row id v' eb.1.size) :=
  append_body h hid ht ht' heb rfl hx hown hu hys (hm.one hys) (fun v' _ => (Body.flat (elemB_some heb).flat).2 (hl.append hm hx.1)) (fun g hX => (hX.flat (elemB_some heb).flat).elim) hrun hok

theorem Kids.append {U : Nat → Prop} {hv : Nat → Value} {t : Ty} {l m : List t.T} {xs ys : List Value} {v v2 v' : Value} (h1 : Kids w U hv none t l xs v) (h2 : Kids w U hv none t m ys v2) (hl : xs.length = l.length * t.size)
    (hd : ∀ (j j' : Nat) u u' g, xs[j]? = some u → ys[j']? = some u' → u.ownBlock = some g → u'.ownBlock = some g → False) (ho : ∀ (j : Nat) u g, (xs ++ ys)[j]? = some u → u.ownBlock = some g → v'.ownBlock ≠ some g) :
    Kids w U hv none t (rApp l m) (xs ++ ys) v' := by
  have e : cellsL t (rApp l m) = cellsL t l ++ cellsL t m := by simp [cellsL, rApp]
  have hc : (cellsL t l).length = xs.length := cellsL_len.trans hl.symm
  exact
  { one := h1.one
    kid := fun j c u hcj hu _ => by
      rw [e, List.getElem?_append, hc] at hcj
      rw [List.getElem?_append] at hu
      split at hu
      · rename_i hj; rw [if_pos hj] at hcj; exact h1.kid j c u hcj hu (by simp [lentPos])
      · rename_i hj; rw [if_neg hj] at hcj; exact h2.kid _ c u hcj hu (by simp [lentPos])
    note := fun n hn => by cases hn
    inj := fun j j' u u' g hu hu' _ _ hg hg' => by
      rw [List.getElem?_append] at hu hu'
      split at hu
      · rename_i hj
        split at hu'
        · exact h1.inj j j' u u' g hu hu' (by simp [lentPos]) (by simp [lentPos]) hg hg'
        · exact (hd _ _ u u' g hu hu' hg hg').elim
      · rename_i hj
        split at hu'
        · exact (hd _ _ u' u g hu' hu hg' hg).elim
        · rename_i hj'
          have := h2.inj _ _ u u' g hu hu' (by simp [lentPos]) (by simp [lentPos]) hg hg'
          omega
    out := fun j u g hu _ hg => ho j u g hu hg }
theorem Kid.one {c : AC} {u : Value} (hk : Kid w c u) : u.oneCell' = true := by
  unfold Kid at hk
  split at hk
  · obtain ⟨_, ys, h, _⟩ := hk
    rcases h.2 with ⟨e, _⟩ | ⟨_, _, _, _, e, _⟩ <;> rw [e] <;> rfl
  · rename_i t x _
    exact ACr.one (w := w) (E := ⟨fun _ => True, fun n => n, fun _ => .agg #[], fun n => n, fun _ => False⟩) (c := .v t x) ⟨hk.2.1, hk.2.2⟩
  · exact hk.elim
theorem deepOf_some {t : Ty} {c : AC} {p : Nat × List t.T} (h : deepOf S t c = some p) : c = .own p.1 ∧ S.rows p.1 = some ⟨true, .deep none t, p.2⟩ := by
  unfold deepOf at h
  split at h
  · rename_i k
    split at h
    · rename_i r hr
      obtain ⟨ro, rt, rl⟩ := r
      simp only at h
      split at h
      · rename_i ho
        simp only [Option.bind_eq_some_iff] at h
        obtain ⟨l, hl, e⟩ := h
        cases e
        obtain ⟨e1, e2⟩ := cast?_some hl
        cases e1
        cases e2
        exact ⟨rfl, hr⟩
      · cases h
    · cases h
  · cases h
/-- A deep row of the state: its cells. -/
theorem Sim.deepRow (h : Sim B S E a w) {q : Nat} {t : Ty} {m : List t.T} (hq : S.rows q = some ⟨true, .deep none t, m⟩) : ∃ ys, Owned w t.size (E.hv q) m.length ys ∧ Kids w E.U E.hv none t m ys (E.hv q) ∧ ys.length = m.length * t.size ∧
    (∀ u ∈ ys, u.oneCell' = true) ∧ (∀ (j : Nat) u g, ys[j]? = some u → u.ownBlock = some g → OwnB w (E.hv q) (.deep none t) m g) ∧ E.sz q = t.size := by
  obtain ⟨ys, hx, hb⟩ := (h.rows q _ hq).ownB rfl
  have hs : E.sz q = t.size := (h.rows q _ hq).1
  rw [hs] at hx
  have hk : Kids w E.U E.hv none t m ys (E.hv q) := hb
  refine ⟨ys, hx, hk, hx.1, fun u hu => ?_, fun j u g hu hg => OwnB.kid (t := t) (h := none) (kids_owned hx) hu (by simp [lentPos]) hg, hs⟩
  obtain ⟨j, hj, rfl⟩ := List.getElem_of_mem hu
  have hc : j < (cellsL t m).length := by rw [cellsL_len, ← hx.1]; exact hj
  exact (hk.kid j _ _ (List.getElem?_eq_getElem hc) (by simp [hj]) (by simp [lentPos])).one

theorem run_builtin {o : Oper} {c : Call} {b : Builtin} (ho : o.op = .call c) (hc : c.callee = .builtin b) {ts : List TypeId} (ht : c.argTypes.toList = ts) {xs : List Operand} (hx : c.args.toList = xs) (w : World) :
    (execOp a.eval o).run P w = (builtin b ts.toArray o.type (c.args.map fun | .const _ => true | _ => false) (xs.map a.eval).toArray).run P w := by
  have e1 : c.args.map a.eval = (xs.map a.eval).toArray := by subst hx; rw [← Array.toList_map]
  have e2 : c.argTypes = ts.toArray := by subst ht; simp
  simp only [execOp, ho, resolve, hc, Sem.run_bind, Sem.run_pure, Result.andThen_ok, invoke, e1, e2]
  rfl

theorem op_builtin (h : Sim B S E a w) {id : Nat} (hid : ¬ E.U id) {o : Oper} {c : Call} {b : Builtin} (ho : o.op = .call c) (hc : c.callee = .builtin b) {r : Out} (hb : builtinB P S id b c.argTypes.toList c.args.toList = some r) (hok : r.ok = true) :
    OpOk P B S E a w id o r.d := by
  unfold builtinB at hb
  split at hb
  · rename_i t x ht hx
    simp only [Option.bind_eq_some_iff] at hb
    obtain ⟨cx, hcx, hb⟩ := hb
    have h1 := h.evalC hcx
    have hrun := fun w => run_builtin (P := P) (a := a) ho hc ht hx w
    have fin : ∀ {n : Int} {e : TypeId}, sliceB P t = some e → (∃ p q : Nat, ∃ ad, a.eval x = .slice ad p q ∧ n = (p : Int)) → OpOk P B S E a w id o { val := .w (.c (.v (.int .i64) n)) } := by
      intro n e he ⟨p, q, ad, hv, hn⟩
      subst hn
      refine OpOk.same h (v := .int .i64 p) ?_ acr_int
      rw [hrun]
      simp [builtin, Builtin.len_, hv, run_underlying (sliceB_some he), goInt]
    split at hb
    · simp only [Option.bind_eq_some_iff] at hb
      obtain ⟨e, he, e'⟩ := hb
      cases e'
      exact fin he ⟨0, 0, none, h1, rfl⟩
    · rename_i s
      simp only [Option.bind_eq_some_iff] at hb
      obtain ⟨_, he, e'⟩ := hb
      cases e'
      have hu : P.underlying t = some .string := by
        split at he
        · assumption
        · cases he
      refine OpOk.same h (v := .int .i64 s.size) ?_ acr_int
      rw [hrun]
      have hv := val_str h1.2
      simp [builtin, Builtin.len_, hv, run_underlying hu, goInt]
    · simp only [Option.bind_eq_some_iff] at hb
      obtain ⟨e, he, q, hq, e'⟩ := hb
      cases e'
      obtain ⟨E', g1, g2, g3, g4, g5⟩ := h.freeze (toks [cx])
      have hv := row_val h h1 hq g2.F g4
      simp only [Val, Enc, Option.some.injEq] at hv
      obtain ⟨p, cc, hv, _⟩ := hv
      exact fin he ⟨_, cc, p, hv, rfl⟩
  · rename_i x y hx
    simp only [Option.bind_eq_some_iff] at hb
    obtain ⟨p, hp, q, hq, hb⟩ := hb
    have h1 := h.evalC hp
    have h2 := h.evalC hq
    split at hb
    · rename_i k m j n
      split at hb
      · rename_i hk
        subst hk
        cases hb
        refine OpOk.same h (v := .int k (iMin m n)) ?_ acr_int
        rw [run_builtin (P := P) (a := a) ho hc rfl hx w]
        simp [builtin, Builtin.min_, Builtin.min2, val_int h1.2, val_int h2.2, iMin]
      · cases hb
    · cases hb
  · rename_i x y hx
    simp only [Option.bind_eq_some_iff] at hb
    obtain ⟨p, hp, q, hq, hb⟩ := hb
    have h1 := h.evalC hp
    have h2 := h.evalC hq
    split at hb
    · rename_i k m j n
      split at hb
      · rename_i hk
        subst hk
        cases hb
        refine OpOk.same h (v := .int k (iMax m n)) ?_ acr_int
        rw [run_builtin (P := P) (a := a) ho hc rfl hx w]
        simp [builtin, Builtin.max_, Builtin.max2, val_int h1.2, val_int h2.2, iMax]
      · cases hb
    · cases hb
  · rename_i t u x y ht hx
    simp only [Option.bind_eq_some_iff] at hb
    obtain ⟨e, he, e', he', eb, heb, hb⟩ := hb
    split at hb
    · rename_i hee
      obtain rfl := beq_nat.1 hee
      simp only [Option.bind_eq_some_iff] at hb
      obtain ⟨p, hp, q, hq, hb⟩ := hb
      have h1 := h.evalC hp
      have h2 := h.evalC hq
      split at hb
      · simp only [Option.bind_eq_some_iff] at hb
        obtain ⟨⟨kq, m⟩, hm, hb⟩ := hb
        obtain ⟨rfl, hrq⟩ := deepOf_some hm
        have h2v := h2.2.1
        obtain ⟨ys, y1, y2, y3, y4, y5, y6⟩ := h.deepRow hrq
        obtain ⟨ad, cc, f1, f2⟩ := y1.cells_run (P := P)
        have hrun := run_builtin (P := P) (a := a) ho hc ht hx w
        split at hb
        · cases hb
          have hv : a.eval x = .slice none 0 0 := h1
          have hsub : ∀ k r, upd S.rows kq none k = some r → S.rows k = some r := fun k r hk => (upd_none hk).2
          obtain ⟨v', w', k1, k2, k3, k4⟩ := append_body (P := P) (t := t) (t' := u) (ty := o.type) (h.dropRow kq) hid (sliceB_some he) (sliceB_some he') heb (τ := .deep none eb.1) rfl (v := a.eval x) (l := []) (xs := []) (m := m) (ys := ys) (u := a.eval y)
            ⟨by simp, .inl ⟨hv, rfl⟩⟩ (fun g hg => by rw [hv] at hg; simp [Value.ownBlock] at hg) (h2v.trans f1) y3 y4
            (fun v' hv' => by
              show Kids w E.U E.hv none eb.1 m ([] ++ ys) v'
              refine ⟨y2.one, y2.kid, y2.note, y2.inj, fun j u g hu _ hg e => ?_⟩
              have hlt := h.lt_row hrq rfl (y5 j u g hu hg)
              rcases hv' g e with e | e
              · rw [hv] at e; simp [Value.ownBlock] at e
              · omega)
            (fun g hX => by
              obtain ⟨j, u, hu, _, hg⟩ := hX
              obtain ⟨z1, z2⟩ := h.left_alone hrq rfl (y5 j u g hu hg) hsub (fun r hr => (upd_none hr).1 rfl) id
              exact ⟨z1, by rw [hv]; simp [Value.ownBlock], z2⟩)
            (fun w' _ hw => by rw [h2v]; exact f2 w' fun g _ => by rw [hw]) (by simpa [rApp] using hok)
          refine ⟨_, v', w', _, by rw [hrun]; simp [builtin, k1], .inl rfl, k4, ⟨.inr rfl, by simp [Env.row], k2⟩, ?_, U_row (fun _ => Iff.rfl)⟩
          exact k3
        · simp only [Option.bind_eq_some_iff] at hb
          obtain ⟨⟨kp, l⟩, hl, hb⟩ := hb
          obtain ⟨rfl, hrp⟩ := deepOf_some hl
          split at hb
          · cases hb
          · rename_i hne
            have hne : kp ≠ kq := beq_nat'.1 hne
            cases hb
            have h1v := h1.2.1
            obtain ⟨xs, x1, x2, x3, x4, x5, x6⟩ := h.deepRow hrp
            have hsub : ∀ k r, upd (upd S.rows kp none) kq none k = some r → S.rows k = some r := fun k r hk => (upd_none (upd_none hk).2).2
            have gone : ∀ k r, k = kp ∨ k = kq → upd (upd S.rows kp none) kq none k ≠ some r := fun k r hk hr => by
              obtain ⟨z1, z2⟩ := upd_none hr
              exact hk.elim (upd_none z2).1 z1
            have apart : ∀ g, OwnB w (E.hv kp) (.deep none eb.1) l g → OwnB w (E.hv kq) (.deep none eb.1) m g → False := fun g hg hg' =>
              hne ((h.rowNew kq _ g hrq rfl hg').2.2.2 kp _ hrp rfl hg)
            obtain ⟨v', w', k1, k2, k3, k4⟩ := append_body (P := P) (t := t) (t' := u) (ty := o.type) ((h.dropRow kp).dropRow kq) hid (sliceB_some he) (sliceB_some he') heb (τ := .deep none eb.1) rfl (v := E.hv kp) (l := l) (xs := xs) (m := m) (ys := ys) (u := a.eval y)
              x1 (fun g hg => (h.left_alone hrp rfl (.inl hg) hsub (fun r => gone kp r (.inl rfl)) id).2) (h2v.trans f1) y3 y4
              (fun v' hv' => Kids.append x2 y2 x3 (fun j j' u u' g hu hu' hg hg' => apart g (x5 j u g hu hg) (y5 j' u' g hu' hg')) (fun j u g hu hg e => by
                rw [List.getElem?_append] at hu
                split at hu
                · rcases hv' g e with e | e
                  · exact x2.out j u g hu (by simp [lentPos]) hg e
                  · have := h.lt_row hrp rfl (x5 j u g hu hg); omega
                · rcases hv' g e with e | e
                  · exact apart g (.inl e) (y5 _ u g hu hg)
                  · have := h.lt_row hrq rfl (y5 _ u g hu hg); omega))
              (fun g hX => by
                obtain ⟨j, u, hu, _, hg⟩ := hX
                rw [List.getElem?_append] at hu
                split at hu
                · obtain ⟨z1, z2⟩ := h.left_alone hrp rfl (x5 j u g hu hg) hsub (fun r => gone kp r (.inl rfl)) id
                  exact ⟨z1, x2.out j u g hu (by simp [lentPos]) hg, z2⟩
                · obtain ⟨z1, z2⟩ := h.left_alone hrq rfl (y5 _ u g hu hg) hsub (fun r => gone kq r (.inr rfl)) id
                  exact ⟨z1, fun e => apart g (.inl e) (y5 _ u g hu hg), z2⟩)
              (fun w' _ hw => by rw [h2v]; exact f2 w' fun g _ => by rw [hw]) hok
            refine ⟨_, v', w', _, by rw [hrun]; simp [builtin, h1v, k1], .inl rfl, k4, ⟨.inr rfl, by simp [Env.row], k2⟩, ?_, U_row (fun _ => Iff.rfl)⟩
            exact k3
      simp only [Option.bind_eq_some_iff] at hb
      obtain ⟨m, hm, hb⟩ := hb
      obtain ⟨ad, cc, ys, f1, f2, f3, f4⟩ := src_cells (P := P) h h2 hm
      have hall : ∀ (w' : World), w'.heap = w.heap → (Builtin.firstCells eb.1.size m.length (a.eval y)).run P w' = .ok ys.toArray w' := fun w' hw => f4 w' (fun _ _ => by rw [hw]) (fun _ _ _ _ _ _ _ => by rw [hw])
      have hrun := run_builtin (P := P) (a := a) ho hc ht hx w
      split at hb
      · cases hb
        have hv : a.eval x = .slice none 0 0 := h1
        have hpos := (elemB_some heb).info
        obtain ⟨_, _, _, _, _, _, _, hpos, _⟩ := hpos
        obtain ⟨v', w', k1, k2, k3, k4⟩ := append_aux (P := P) (t := t) (t' := u) (ty := o.type) h hid (sliceB_some he) (sliceB_some he') heb (v := a.eval x) (l := []) (xs := []) ⟨by simp, .inl ⟨hv, rfl⟩⟩ (fun i x hx => by simp at hx)
          (fun g hg => by rw [hv] at hg; simp [Value.ownBlock] at hg) f1 f2 f3 (fun w' _ hw => hall w' hw) (by simpa [rApp] using hok)
        refine ⟨_, v', w', _, by rw [hrun]; simp [builtin, k1], .inl rfl, k4, ⟨.inr rfl, by simp [Env.row], k2⟩, ?_, U_row (fun _ => Iff.rfl)⟩
        exact k3
      · rename_i k
        simp only [Option.bind_eq_some_iff] at hb
        obtain ⟨r0, hr0, l, hl, hb⟩ := hb
        split at hb
        · rename_i hcond
          simp only [Bool.and_eq_true, Bool.not_eq_true', List.contains_eq_mem, decide_eq_false_iff_not] at hcond
          obtain ⟨hown, hnk⟩ := hcond
          cases hb
          obtain ⟨e1, e2⟩ := cast?_some hl
          have hx' := h1.2.1
          obtain ⟨xs, hxs, hxl⟩ := (h.rows k r0 hr0).own hown (by have := (elemB_some heb).flat; rw [← Ty.row.inj e1] at this; exact this)
          rw [(h.rows k r0 hr0).1] at hxs
          obtain ⟨ro, rt, rl⟩ := r0
          simp only at e1 hxs hxl hown
          cases e1
          cases e2
          have hd := h.dropRow k
          obtain ⟨v', w', k1, k2, k3, k4⟩ := append_aux (P := P) (t := t) (t' := u) (ty := o.type) hd hid (sliceB_some he) (sliceB_some he') heb (v := E.hv k) (l := rl) (xs := xs) hxs hxl
            (fun g hg => by
              obtain ⟨n1, n2, n3, n4⟩ := h.rowNew k _ g hr0 hown (.inl hg)
              exact ⟨n1, n2, n3, fun k' r' hk' ho' hg' => absurd (n4 k' r' (upd_none hk').2 ho' hg') (upd_none hk').1⟩) f1 f2 f3 (fun w' _ hw => hall w' hw) hok
          refine ⟨_, v', w', _, by rw [hrun]; simp [builtin, hx', k1], .inl rfl, k4, ⟨.inr rfl, by simp [Env.row], k2⟩, ?_, U_row (fun _ => Iff.rfl)⟩
          exact k3
        · cases hb
      · cases hb
    · cases hb
  · cases hb

end
end Go.Proofs.YtmbmapbdbbnaeaaT

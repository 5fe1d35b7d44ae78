/- The steps of a state, one kind at a time. -/
import Derived.Test.YtmbmapbdbbnaeaaTiD
set_option linter.unusedVariables false
set_option linter.unusedSimpArgs false
namespace Go.Proofs.YtmbmapbdbbnaeaaT
open Go

def upd {α : Type} (f : Nat → Option α) (k : Nat) (x : Option α) : Nat → Option α := fun n => match Nat.beq n k with | true => x | false => f n
theorem upd_same {α : Type} (f : Nat → Option α) (k : Nat) (x : Option α) : upd f k x k = x := by simp [upd, beq_nat.2 rfl]
theorem upd_ne {α : Type} {f : Nat → Option α} {k n : Nat} {x : Option α} (h : n ≠ k) : upd f k x n = f n := by simp [upd, beq_nat'.2 h]
theorem upd_cases {α : Type} {f : Nat → Option α} {k n : Nat} {x : Option α} {y : α} (h : upd f k x n = some y) : (n = k ∧ x = some y) ∨ (n ≠ k ∧ f n = some y) := by
  by_cases e : n = k
  · subst e; rw [upd_same] at h; exact .inl ⟨rfl, h⟩
  · rw [upd_ne e] at h; exact .inr ⟨e, h⟩

section
variable {B : Base} {S : St} {E : Env} {a : Act} {w : World}

theorem getD_put {a : Act} {d t : Nat} {v : Value} (hd : d < a.tmps.size) : (a.put (some d) v).tmps.getD t undef = if t = d then v else a.tmps.getD t undef := by
  simp only [Act.put]
  by_cases h : t = d
  · subst h; simp [hd]
  · rw [if_neg h]; simp [Array.getElem?_setIfInBounds_ne (Ne.symm h)]

/-- A temporary. -/
theorem Sim.put (h : Sim B S E a w) {d : Nat} {av : AV} {v : Value} (hd : d < B.n) (hv : AVr w E av v) :
    Sim B { S with tmps := upd S.tmps d (some av) } E (a.put (some d) v) w :=
  { h with
    defers := h.defers
    size := by simp [Act.put, h.size]
    tmps := fun t x hx => by
      have hd' : d < a.tmps.size := by rw [h.size]; exact hd
      rw [getD_put hd']
      rcases upd_cases hx with ⟨rfl, e⟩ | ⟨e, e'⟩
      · cases e; rw [if_pos rfl]; exact ⟨hd, hv⟩
      · rw [if_neg e]; exact h.tmps t x e' }

/-- No temporary. -/
theorem Sim.noput (h : Sim B S E a w) (v : Value) : Sim B S E (a.put none v) w := h

/-- What the state does not look at may change. -/
theorem Sim.forget (h : Sim B S E a w) {S' : St} (ht : ∀ t x, S'.tmps t = some x → S.tmps t = some x) (hb : S'.boxes = S.boxes) (hr : S'.rows = S.rows) : Sim B S' E a w :=
  { h with
    tmps := fun t x hx => h.tmps t x (ht t x hx)
    boxU := by rw [hb]; exact h.boxU
    boxes := by rw [hb]; exact h.boxes
    boxNew := by rw [hb]; exact h.boxNew
    boxInj := by rw [hb]; exact h.boxInj
    rowU := by rw [hr]; exact h.rowU
    rows := by rw [hr]; exact h.rows
    rowNew := by rw [hr, hb]; exact h.rowNew }

theorem Owned.world {w w' : World} {sz n : Nat} {v : Value} {xs : List Value} (h : Owned w sz v n xs) (hw : ∀ g, v.ownBlock = some g → w'.heap[g]? = w.heap[g]?) : Owned w' sz v n xs := by
  obtain ⟨h0, h1⟩ := h
  refine ⟨h0, h1.imp id ?_⟩
  rintro ⟨g, cap, cur, e, rfl, h6, h7⟩
  exact ⟨g, cap, cur, e, rfl, by rw [hw g rfl]; exact h6, h7⟩
theorem kids_owned {w : World} {sz n : Nat} {v : Value} {xs : List Value} (h : Owned w sz v n xs) : kids w v sz = xs := by
  obtain ⟨h0, h1⟩ := h
  rcases h1 with ⟨rfl, rfl⟩ | ⟨g, cap, cur, e, rfl, h6, h7, h8, h9, h10⟩
  · rw [Nat.zero_mul] at h0; rw [List.eq_nil_of_length_eq_zero h0]; rfl
  · simp only [kids, h6]; exact h10
theorem kids_world {w w' : World} {v : Value} {sz : Nat} (hw : ∀ g, v.ownBlock = some g → w'.heap[g]? = w.heap[g]?) : kids w' v sz = kids w v sz := by
  unfold kids
  split
  · rename_i g n c
    rw [hw g rfl]
  · rfl
theorem OwnB.world {w w' : World} {v : Value} {t : Ty} {l : List t.T} {g : Nat} (hw : ∀ g, v.ownBlock = some g → w'.heap[g]? = w.heap[g]?) : OwnB w' v t l g ↔ OwnB w v t l g := by
  unfold OwnB
  rw [kids_world hw]
theorem flat_len : ∀ {t : Ty} {x : t.T}, (flat t x).length = t.size
  | .unit, _ => rfl
  | .int _, _ => rfl
  | .bool, _ => rfl
  | .str, _ => rfl
  | .row _, _ => rfl
  | .pair p q, x => by simp only [Go.Proofs.YtmbmapbdbbnaeaaT.flat, List.length_append, flat_len, Ty.size]
  | .deep _ t, x => by simp only [Go.Proofs.YtmbmapbdbbnaeaaT.flat, flat_len, Ty.size]
  | .dead, _ => rfl
  | .part t, x => by simp only [Go.Proofs.YtmbmapbdbbnaeaaT.flat, List.length_replicate, Ty.size]
theorem cellsL_len {t : Ty} : ∀ {l : List t.T}, (cellsL t l).length = l.length * t.size
  | [] => by simp [cellsL]
  | x :: l => by
    have := cellsL_len (l := l)
    simp only [cellsL, List.map_cons, List.flatten_cons, List.length_append, List.length_cons, flat_len] at this ⊢
    rw [this, Nat.succ_mul, Nat.add_comm]
theorem OwnB.outer {w : World} {v : Value} {t : Ty} {l : List t.T} {g : Nat} (h : v.ownBlock = some g) : OwnB w v t l g := .inl h
theorem OwnB.flat {w : World} {v : Value} {t : Ty} {l : List t.T} {g : Nat} (ht : t.isDeep = false) : OwnB w v t l g ↔ v.ownBlock = some g := by
  unfold OwnB
  cases t <;> first | (cases ht; done) | exact ⟨fun h => h.elim id False.elim, .inl⟩
theorem InX.flat {t : Ty} {l : List t.T} {xs : List Value} {g : Nat} (ht : t.isDeep = false) (h : InX t l xs g) : False := by
  cases t <;> first | (cases ht; done) | exact h.elim
theorem OwnB.kid {w : World} {v : Value} {h : Option Note} {t : Ty} {l : List t.T} {xs : List Value} (hk : kids w v t.size = xs) {g j : Nat} {u : Value} (hj : xs[j]? = some u) (hl : lentPos t h ≠ some j) (hg : u.ownBlock = some g) : OwnB w v (.deep h t) l g :=
  .inr ⟨j, u, by rw [← hk] at hj; exact hj, hl, hg⟩
theorem OwnB.inX {w : World} {v : Value} {t : Ty} {l : List t.T} {xs : List Value} (hk : kids w v t.size = xs) {g : Nat} (h : InX t l xs g) : OwnB w v t l g := .inr (by rw [hk]; exact h)
theorem Kid.world {w w' : World} {c : AC} {v : Value} (h : Kid w c v) (hw : ∀ g, v.ownBlock = some g → w'.heap[g]? = w.heap[g]?) : Kid w' c v := by
  unfold Kid at h ⊢
  split at h
  · obtain ⟨h0, ys, h1, h2⟩ := h
    exact ⟨h0, ys, h1.world hw, h2.mono (fun _ h => h) (fun _ h => h.elim)⟩
  · exact ⟨h.1, h.2.1, Enc.mono (fun _ h => h) (fun _ h => h.elim) (fun _ _ => rfl) h.2.2⟩
  · exact h
theorem Body.flat {w : World} {U : Nat → Prop} {hv : Nat → Value} {F : Nat → Prop} {t : Ty} {l : List t.T} {xs : List Value} {v : Value} (ht : t.isDeep = false) : Body w U hv F t l xs v ↔ EncL w F t l xs := by
  cases t <;> first | (cases ht; done) | exact Iff.rfl
theorem Body.mono0 {w w' : World} {E E' : Env} (L : E.le w w' E') {v : Value} {t : Ty} {l : List t.T} {xs : List Value} (h : Body w E.U E.hv E.F t l xs v)
    (ho : ∀ g, InX t l xs g → w'.heap[g]? = w.heap[g]?) : Body w' E'.U E'.hv E'.F t l xs v := by
  cases t with
  | deep n t =>
    have h : Kids w E.U E.hv n t l xs v := h
    exact show Kids w' E'.U E'.hv n t l xs v from
    { one := h.one
      kid := fun j c u hc hu hl => (h.kid j c u hc hu hl).world fun g hg => ho g ⟨j, u, hu, hl, hg⟩
      note := fun m hm => by
        obtain ⟨h1, h2, h3, h4, h5, h6⟩ := h.note m hm
        exact ⟨L.U _ h1, h2, h3, by rw [L.hv _ h1]; exact h4, by rw [L.hv _ h1]; exact h5, h6⟩
      inj := h.inj
      out := h.out }
  | part t =>
    have h : KidsP w t l xs v := h
    exact show KidsP w' t l xs v from
    { one := h.one
      cell := h.cell
      kid := fun j c u hc hu hl => (h.kid j c u hc hu hl).world fun g hg => ho g ⟨j, u, hu, hl, hg⟩
      inj := h.inj
      out := h.out }
  | _ => exact EncL.mono L.F L.heap h
theorem Body.mono {w w' : World} {E E' : Env} (L : E.le w w' E') {v : Value} {t : Ty} {l : List t.T} {xs : List Value} (hx : Owned w t.size v l.length xs) (h : Body w E.U E.hv E.F t l xs v)
    (ho : ∀ g, OwnB w v t l g → w'.heap[g]? = w.heap[g]?) : Body w' E'.U E'.hv E'.F t l xs v :=
  h.mono0 L fun g hg => ho g (OwnB.inX (kids_owned hx) hg)
theorem Kid.lt {w : World} {c : AC} {v : Value} (h : Kid w c v) {g : Nat} (hg : v.ownBlock = some g) : g < w.heap.size := by
  unfold Kid at h
  split at h
  · obtain ⟨_, ys, h5, _⟩ := h
    rcases h5.2 with ⟨rfl, _⟩ | ⟨g', cap, cur, e, rfl, h1, _⟩
    · simp [Value.ownBlock] at hg
    · simp only [Value.ownBlock, Option.some.injEq] at hg
      subst hg
      exact (Array.getElem?_eq_some_iff.1 h1).1
  · rename_i t' x hnr
    obtain ⟨h7, h8, h9⟩ := h
    exfalso
    cases t' <;> simp only [Val, Enc, Option.some.injEq] at h9 <;> first | (subst h9; simp [Value.ownBlock] at hg; done) | (cases h8; done) | (simp [Ty.hasRow] at h7; done) | skip
  · exact h.elim

theorem RowIs.mono {w w' : World} {E E' : Env} (L : E.le w w' E') {v : Value} {sz : Nat} {r : RowSt} (h : RowIs w E v sz r)
    (ho : r.own = true → ∀ g, OwnB w v r.t r.l g → w'.heap[g]? = w.heap[g]?) : RowIs w' E' v sz r := by
  obtain ⟨h0, h1, h2⟩ := h
  refine ⟨h0, h1, ?_⟩
  cases hown : r.own with
  | true =>
    rw [hown] at h2
    obtain ⟨xs, h3, h5⟩ := h2
    have h3' := h3
    rw [h0] at h3'
    exact ⟨xs, h3.world fun g hg => ho hown g (.inl hg), h5.mono L h3' (ho hown)⟩
  | false =>
    rw [hown] at h2
    exact ⟨h2.1, Enc.mono L.F L.heap (fun _ _ => rfl) h2.2⟩

/-- The world has gone on: some blocks of the call's own have changed, which the state does not name; the numbers stand. -/
theorem Sim.world (h : Sim B S E a w) {w' : World} (hos : w'.os = w.os) (htape : w'.tape = w.tape) (hout : w'.output = w.output) (hsz : w.heap.size ≤ w'.heap.size)
    (hF : ∀ b, E.F b → w'.heap[b]? = w.heap[b]?) (hB : ∀ b cs, S.boxes b = some cs → w'.heap[E.β b]? = w.heap[E.β b]?)
    (hR : ∀ k r g, S.rows k = some r → r.own = true → OwnB w (E.hv k) r.t r.l g → w'.heap[g]? = w.heap[g]?)
    (hO : ∀ b, b < B.w0.heap.size → ¬ B.M b → w'.heap[b]? = w.heap[b]?) : Sim B S E a w' := by
  have L : E.le w w' E := ⟨fun _ h => h, fun _ _ => rfl, fun _ _ => rfl, fun _ _ => rfl, fun _ h => h, hF⟩
  exact { h with
    tmps := fun t x hx => ⟨(h.tmps t x hx).1, (h.tmps t x hx).2.mono L⟩
    boxes := fun b cs hb => by
      obtain ⟨us, e, h0, h1⟩ := h.boxes b cs hb
      exact ⟨us, e, by rw [hB b cs hb]; exact h0, h1.mono L⟩
    rows := fun k r hk => (h.rows k r hk).mono L fun ho g hg => hR k r g hk ho hg
    rowNew := fun k r g hk ho hg => by
      obtain ⟨h0, h1, h2, h3⟩ := h.rowNew k r g hk ho ((OwnB.world fun g hg => hR k r g hk ho (.inl hg)).1 hg)
      exact ⟨h0, h1, h2, fun k' r' hk' ho' hg' => h3 k' r' hk' ho' ((OwnB.world fun g hg => hR k' r' g hk' ho' (.inl hg)).1 hg')⟩
    F := fun b hb => ⟨(h.F b hb).1, Nat.lt_of_lt_of_le (h.F b hb).2 hsz⟩
    os := hos.trans h.os
    tape := htape.trans h.tape
    output := hout.trans h.output
    grown := Nat.le_trans h.grown hsz
    frame := fun b hb hm => (hO b hb hm).trans (h.frame b hb hm) }

theorem Sim.draw (h : Sim B S E a w) : Sim B S E a { w with drawn := w.drawn + 1 } :=
  h.world rfl rfl rfl (Nat.le_refl _) (fun _ _ => rfl) (fun _ _ _ => rfl) (fun _ _ _ _ _ _ => rfl) (fun _ _ _ => rfl)

theorem Sim.lt_box (h : Sim B S E a w) {b : Nat} {cs : List AC} (hb : S.boxes b = some cs) : E.β b < w.heap.size := by
  obtain ⟨us, e, h0, _⟩ := h.boxes b cs hb
  exact (Array.getElem?_eq_some_iff.1 h0).1
theorem RowIs.ownB {w : World} {E : Env} {v : Value} {sz : Nat} {r : RowSt} (h : RowIs w E v sz r) (ho : r.own = true) : ∃ xs, Owned w sz v r.l.length xs ∧ Body w E.U E.hv E.F r.t r.l xs v := by
  have h2 := h.2.2
  rw [ho] at h2
  exact h2
theorem RowIs.own {w : World} {E : Env} {v : Value} {sz : Nat} {r : RowSt} (h : RowIs w E v sz r) (ho : r.own = true) (hd : r.t.isDeep = false) : ∃ xs, Owned w sz v r.l.length xs ∧ EncL w E.F r.t r.l xs := by
  obtain ⟨xs, h1, h2⟩ := h.ownB ho
  exact ⟨xs, h1, (Body.flat hd).1 h2⟩
theorem RowIs.shut {w : World} {E : Env} {v : Value} {sz : Nat} {r : RowSt} (h : RowIs w E v sz r) (ho : r.own = false) :
    (∃ g n c, v = .slice (some ⟨g, 0, none⟩) n c ∨ v = .slice none n c) ∧ Enc w E.F (.row r.t) r.l (fun _ => some v) := by
  have h2 := h.2.2
  rw [ho] at h2
  exact h2
theorem Owned.blk {w : World} {sz n : Nat} {v : Value} {xs : List Value} (h : Owned w sz v n xs) {g : Nat} (hg : v.ownBlock = some g) :
    ∃ cap cur e, v = .slice (some ⟨g, 0, none⟩) n cap ∧ w.heap[g]? = some (.cells cur e (0, 0)) ∧ n ≤ cap ∧ cap ≤ maxLen ∧ cur.size = cap * sz ∧ cur.toList.take (n * sz) = xs := by
  rcases h.2 with ⟨rfl, _⟩ | ⟨g', cap, cur, e, rfl, h1⟩
  · simp [Value.ownBlock] at hg
  · simp only [Value.ownBlock, Option.some.injEq] at hg
    subst hg
    exact ⟨cap, cur, e, rfl, h1⟩
theorem Sim.lt_row (h : Sim B S E a w) {k : Nat} {r : RowSt} {g : Nat} (hk : S.rows k = some r) (ho : r.own = true) (hg : OwnB w (E.hv k) r.t r.l g) : g < w.heap.size := by
  obtain ⟨xs, hx, hb⟩ := (h.rows k r hk).ownB ho
  rw [(h.rows k r hk).1] at hx
  rcases hg with hg | hg
  · obtain ⟨_, _, _, _, h1, _⟩ := hx.blk hg
    exact (Array.getElem?_eq_some_iff.1 h1).1
  · obtain ⟨ro, rt, rl⟩ := r
    cases rt with
    | part t =>
      obtain ⟨j, u, h1, h2, h3⟩ := hg
      rw [show (Ty.part t).size = t.size from rfl, kids_owned (sz := t.size) hx] at h1
      have hb : KidsP w t rl xs (E.hv k) := hb
      cases hc : (cellsL t (rl.map (·.2)))[j]? with
      | none =>
        exfalso
        have : (cellsL t (rl.map (·.2))).length = xs.length := by rw [cellsL_len, List.length_map]; exact hx.1.symm
        have h4 := (List.getElem?_eq_some_iff.1 h1).1
        rw [List.getElem?_eq_none_iff] at hc
        omega
      | some c => exact (hb.kid j c u hc h1 h2).lt h3
    | deep n t =>
      obtain ⟨j, u, h1, h2, h3⟩ := hg
      rw [show (Ty.deep n t).size = t.size from rfl, kids_owned (sz := t.size) hx] at h1
      have hb : Kids w E.U E.hv n t rl xs (E.hv k) := hb
      cases hc : (cellsL t rl)[j]? with
      | none =>
        exfalso
        have : (cellsL t rl).length = xs.length := cellsL_len.trans hx.1.symm
        have h4 := (List.getElem?_eq_some_iff.1 h1).1
        rw [List.getElem?_eq_none_iff] at hc
        omega
      | some c =>
        have hkid := hb.kid j c u hc h1 h2
        unfold Kid at hkid
        split at hkid
        · obtain ⟨_, ys, h5, _⟩ := hkid
          obtain ⟨_, _, _, _, h6, _⟩ := h5.blk h3
          exact (Array.getElem?_eq_some_iff.1 h6).1
        · rename_i t' x hnr
          obtain ⟨h7, h8, h9⟩ := hkid
          exfalso
          cases t' <;> simp only [Val, Enc, Option.some.injEq] at h9 <;> first | (subst h9; simp [Value.ownBlock] at h3; done) | (cases h8; done) | (simp [Ty.hasRow] at h7; done) | skip
        · exact hkid.elim
    | _ => exact hg.elim

theorem heap_alloc_lt (w : World) (o : Obj) {k : Nat} (hk : k < w.heap.size) : (w.alloc o).heap[k]? = w.heap[k]? := heap_alloc_old w o k hk
theorem heap_alloc_eq (w : World) (o : Obj) : (w.alloc o).heap[w.heap.size]? = some o := heap_alloc_new w o

/-- A block has been made that the state does not name. -/
theorem Sim.alloc (h : Sim B S E a w) (o : Obj) : Sim B S E a (w.alloc o) :=
  h.world rfl rfl rfl (by simp) (fun b hb => heap_alloc_lt w o (h.F b hb).2)
    (fun b cs hb => heap_alloc_lt w o (h.lt_box hb)) (fun k r g hk ho hg => heap_alloc_lt w o (h.lt_row hk ho hg))
    (fun b hb _ => heap_alloc_lt w o (Nat.lt_of_lt_of_le hb h.grown))

def Env.box (E : Env) (id blk : Nat) : Env := { E with U := fun k => E.U k ∨ k = id, β := fun k => if k = id then blk else E.β k }
def Env.row (E : Env) (id : Nat) (v : Value) (sz : Nat) : Env := { E with U := fun k => E.U k ∨ k = id, hv := fun k => if k = id then v else E.hv k, sz := fun k => if k = id then sz else E.sz k }
def Env.use (E : Env) (id : Nat) : Env := { E with U := fun k => E.U k ∨ k = id }
def Env.free (E : Env) (blk : Nat) : Env := { E with F := fun b => E.F b ∨ b = blk }

theorem ite_old {α : Type} {U : Nat → Prop} {id k : Nat} {x y : α} (hid : ¬ U id) (hk : U k) : (if k = id then x else y) = y := if_neg fun e => hid (by rw [← e]; exact hk)
theorem Env.le_box {E : Env} {id blk : Nat} {w w' : World} (hid : ¬ E.U id) (hF : ∀ b, E.F b → w'.heap[b]? = w.heap[b]?) : E.le w w' (E.box id blk) :=
  ⟨fun _ h => .inl h, fun k hk => ite_old hid hk, fun _ _ => rfl, fun _ _ => rfl, fun _ h => h, hF⟩
theorem Env.le_row {E : Env} {id sz : Nat} {v : Value} {w w' : World} (hid : ¬ E.U id) (hF : ∀ b, E.F b → w'.heap[b]? = w.heap[b]?) : E.le w w' (E.row id v sz) :=
  ⟨fun _ h => .inl h, fun _ _ => rfl, fun k hk => ite_old hid hk, fun k hk => ite_old hid hk, fun _ h => h, hF⟩
theorem Env.le_free {E : Env} {blk : Nat} {w : World} : E.le w w (E.free blk) :=
  ⟨fun _ h => h, fun _ _ => rfl, fun _ _ => rfl, fun _ _ => rfl, fun _ h => .inl h, fun _ _ => rfl⟩

/-- The numbers are better known: the state stands. -/
theorem Sim.env (h : Sim B S E a w) {E' : Env} (L : E.le w w E') (hF : ∀ b, E'.F b ↔ E.F b) : Sim B S E' a w := by
  have hβ : ∀ b cs, S.boxes b = some cs → E'.β b = E.β b := fun b cs hb => L.β b (h.boxU b cs hb)
  have hhv : ∀ k r, S.rows k = some r → E'.hv k = E.hv k := fun k r hk => L.hv k (h.rowU k r hk)
  have hsz : ∀ k r, S.rows k = some r → E'.sz k = E.sz k := fun k r hk => L.sz k (h.rowU k r hk)
  exact { h with
    tmps := fun t x hx => ⟨(h.tmps t x hx).1, (h.tmps t x hx).2.mono L⟩
    boxU := fun b cs hb => L.U b (h.boxU b cs hb)
    boxes := fun b cs hb => by
      obtain ⟨us, e, h0, h1⟩ := h.boxes b cs hb
      exact ⟨us, e, by rw [hβ b cs hb]; exact h0, h1.mono L⟩
    boxNew := fun b cs hb => by rw [hβ b cs hb, hF]; exact h.boxNew b cs hb
    boxInj := fun b b' cs cs' hb hb' e => by rw [hβ b cs hb, hβ b' cs' hb'] at e; exact h.boxInj b b' cs cs' hb hb' e
    rowU := fun k r hk => L.U k (h.rowU k r hk)
    rows := fun k r hk => by rw [hhv k r hk, hsz k r hk]; exact (h.rows k r hk).mono L fun _ _ _ => rfl
    rowNew := fun k r g hk ho hg => by
      rw [hhv k r hk] at hg
      obtain ⟨h0, h1, h2, h3⟩ := h.rowNew k r g hk ho hg
      refine ⟨h0, by rw [hF]; exact h1, fun b cs hb => by rw [hβ b cs hb]; exact h2 b cs hb, fun k' r' hk' ho' hg' => ?_⟩
      rw [hhv k' r' hk'] at hg'
      exact h3 k' r' hk' ho' hg'
    FA := fun b hb => (hF b).2 (h.FA b hb)
    F := fun b hb => h.F b ((hF b).1 hb) }

/-- A variable is made. -/
theorem Sim.newBox (h : Sim B S E a w) {id : Nat} (hid : ¬ E.U id) {cs : List AC} {us : Array Value} (t : TypeId) (hc : ACs w E cs us.toList) :
    Sim B { S with boxes := upd S.boxes id (some cs) } (E.box id w.heap.size) a (w.alloc (.cells us t)) ∧ E.le w (w.alloc (.cells us t)) (E.box id w.heap.size) := by
  have hlt : ∀ b, E.F b → b < w.heap.size := fun b hb => (h.F b hb).2
  have L : E.le w (w.alloc (.cells us t)) (E.box id w.heap.size) := Env.le_box hid fun b hb => heap_alloc_lt w _ (hlt b hb)
  refine ⟨?_, L⟩
  have h1 := (h.alloc (.cells us t)).env (E' := E.box id w.heap.size) (Env.le_box hid fun _ _ => rfl) (fun _ => Iff.rfl)
  have hnot : ∀ b cs', S.boxes b = some cs' → b ≠ id := fun b cs' hb e => hid (e ▸ h.boxU b cs' hb)
  have hβ : (E.box id w.heap.size).β id = w.heap.size := if_pos rfl
  have hold : ∀ b cs', S.boxes b = some cs' → (E.box id w.heap.size).β b ≠ w.heap.size := fun b cs' hb => by
    rw [L.β b (h.boxU b cs' hb)]
    exact Nat.ne_of_lt (h.lt_box hb)
  exact { h1 with
    boxU := fun b cs' hb => by
      rcases upd_cases hb with ⟨rfl, _⟩ | ⟨_, hb⟩
      · exact .inr rfl
      · exact h1.boxU b cs' hb
    boxes := fun b cs' hb => by
      rcases upd_cases hb with ⟨rfl, e⟩ | ⟨_, hb⟩
      · cases e
        exact ⟨us, t, by rw [hβ]; exact heap_alloc_eq w _, hc.mono L⟩
      · exact h1.boxes b cs' hb
    boxNew := fun b cs' hb => by
      rcases upd_cases hb with ⟨rfl, _⟩ | ⟨_, hb⟩
      · rw [hβ]; exact ⟨.inl h.grown, fun hF => Nat.lt_irrefl _ (hlt _ hF)⟩
      · exact h1.boxNew b cs' hb
    boxInj := fun b b' cs1 cs2 hb hb' e => by
      rcases upd_cases hb with ⟨e1, _⟩ | ⟨_, hb1⟩
      · rcases upd_cases hb' with ⟨e2, _⟩ | ⟨_, hb2⟩
        · rw [e1, e2]
        · rw [e1, hβ] at e; exact absurd e.symm (hold b' cs2 hb2)
      · rcases upd_cases hb' with ⟨e2, _⟩ | ⟨_, hb2⟩
        · rw [e2, hβ] at e; exact absurd e (hold b cs1 hb1)
        · exact h1.boxInj b b' cs1 cs2 hb1 hb2 e
    rowNew := fun k r g hk ho hg => by
      obtain ⟨g0, g1, g2, g3⟩ := h1.rowNew k r g hk ho hg
      refine ⟨g0, g1, fun b cs' hb => ?_, g3⟩
      rcases upd_cases hb with ⟨rfl, _⟩ | ⟨_, hb⟩
      · rw [hβ]
        intro e
        exact Nat.lt_irrefl _ (e ▸ h.lt_row hk ho ((OwnB.world fun g hg => heap_alloc_lt w _ (h.lt_row hk ho (.inl hg))).1 hg))
      · exact g2 b cs' hb }

/-- A block that is there becomes a variable. -/
theorem Sim.adopt (h : Sim B S E a w) {id g : Nat} (hid : ¬ E.U id) {cs : List AC} {us : Array Value} {t : TypeId} (hg : w.heap[g]? = some (.cells us t (0, 0))) (hc : ACs w E cs us.toList) (hnew : B.w0.heap.size ≤ g) (hF : ¬ E.F g)
    (hbx : ∀ b cs, S.boxes b = some cs → E.β b ≠ g) (hrow : ∀ k r, S.rows k = some r → r.own = true → ¬ OwnB w (E.hv k) r.t r.l g) :
    Sim B { S with boxes := upd S.boxes id (some cs) } (E.box id g) a w ∧ E.le w w (E.box id g) := by
  have L : E.le w w (E.box id g) := Env.le_box hid fun b hb => rfl
  refine ⟨?_, L⟩
  have h1 := h.env (E' := E.box id g) L (fun _ => Iff.rfl)
  have hβ : (E.box id g).β id = g := if_pos rfl
  have hold : ∀ b cs', S.boxes b = some cs' → (E.box id g).β b ≠ g := fun b cs' hb => by
    rw [L.β b (h.boxU b cs' hb)]
    exact hbx b cs' hb
  exact { h1 with
    boxU := fun b cs' hb => by
      rcases upd_cases hb with ⟨rfl, _⟩ | ⟨_, hb⟩
      · exact .inr rfl
      · exact h1.boxU b cs' hb
    boxes := fun b cs' hb => by
      rcases upd_cases hb with ⟨rfl, e⟩ | ⟨_, hb⟩
      · cases e
        exact ⟨us, t, by rw [hβ]; exact hg, hc.mono L⟩
      · exact h1.boxes b cs' hb
    boxNew := fun b cs' hb => by
      rcases upd_cases hb with ⟨rfl, _⟩ | ⟨_, hb⟩
      · rw [hβ]; exact ⟨.inl hnew, hF⟩
      · exact h1.boxNew b cs' hb
    boxInj := fun b b' cs1 cs2 hb hb' e => by
      rcases upd_cases hb with ⟨e1, _⟩ | ⟨_, hb1⟩
      · rcases upd_cases hb' with ⟨e2, _⟩ | ⟨_, hb2⟩
        · rw [e1, e2]
        · rw [e1, hβ] at e; exact absurd e.symm (hold b' cs2 hb2)
      · rcases upd_cases hb' with ⟨e2, _⟩ | ⟨_, hb2⟩
        · rw [e2, hβ] at e; exact absurd e (hold b cs1 hb1)
        · exact h1.boxInj b b' cs1 cs2 hb1 hb2 e
    rowNew := fun k r g' hk ho hg' => by
      obtain ⟨g0, g1, g2, g3⟩ := h1.rowNew k r g' hk ho hg'
      refine ⟨g0, g1, fun b cs' hb => ?_, g3⟩
      rcases upd_cases hb with ⟨rfl, _⟩ | ⟨_, hb⟩
      · rw [hβ]
        intro e
        exact hrow k r hk ho (e ▸ hg')
      · exact g2 b cs' hb }

end
end Go.Proofs.YtmbmapbdbbnaeaaT

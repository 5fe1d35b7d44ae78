/- The operations, continued: elements' addresses, parts of rows, stores. -/
import Derived.Test.YtmbmapbdbbnaeaaTiK
set_option linter.unusedVariables false
set_option linter.unusedSimpArgs false
namespace Go.Proofs.YtmbmapbdbbnaeaaT
open Go

section
variable {P : Program} {B : Base} {S : St} {E : Env} {a : Act} {w : World}

theorem elem_size {e : TypeId} {t : Ty} {n : Nat} (h : ElemIs P e t n) (w : World) : (sizeOf e).run P w = .ok t.size w := by
  obtain ⟨i, z, hi, _, hs, _⟩ := h.info
  simp [sizeOf, typeInfo, hi, hs]

theorem indexAt_run {t e : TypeId} {u : Ty} {n : Nat} (he : sliceB P t = some e) (hel : ElemIs P e u n) {x i : Value} {b len c : Nat} {f : Nat} {k : IntKind} {j : Int}
    (hx : x = .slice (some ⟨b, f, none⟩) len c) (hi : i = .int k j) (h0 : 0 ≤ j) (h1 : j < (len : Int)) (w : World) :
    (Instr.indexAt t x i).run P w = .ok (.pointer (some ⟨b, f + j.toNat * u.size, none⟩)) w := by
  subst hx; subst hi
  simp only [Instr.indexAt, asIntOf, Sem.run_bind, Sem.run_pure, Result.andThen_ok, run_underlying (sliceB_some he), h0, h1, and_self, if_true, elem_size hel, addr_add, Sem.run_ite]

theorem base_size {t : Ty} : t.base.size = t.size := by cases t <;> rfl
theorem readRow_row {u t : Ty} {l : List t.T} {x : u.T} (h : readRow u t l = some x) : ∃ s, u = .row s := by
  cases t with
  | deep n t =>
    cases n with
    | some n => simp only [readRow] at h; cases h
    | none =>
      simp only [readRow] at h
      split at h
      · rename_i y hy
        obtain ⟨e1, _⟩ := cast?_some hy
        exact ⟨_, e1.symm⟩
      · obtain ⟨e1, _⟩ := cast?_some h
        exact ⟨_, e1.symm⟩
  | _ =>
    simp only [readRow] at h
    obtain ⟨e1, _⟩ := cast?_some h
    exact ⟨_, e1.symm⟩
theorem viewRow_val {w : World} {F : Nat → Prop} {t : Ty} {l : List t.T} {p : (t : Ty) × List t.T} {v : Value} (h : viewRow t l = some p) : t.holed = false ∧ (Enc w F (.row t) l (fun _ => some v) → Val w F (.row p.1) p.2 v) := by
  cases t with
  | deep n t =>
    cases n with
    | some n => simp only [viewRow] at h; cases h
    | none =>
      simp only [viewRow] at h
      cases h
      refine ⟨rfl, fun he => ?_⟩
      simp only [Val, Enc, Ty.size] at he ⊢
      exact he
  | _ =>
    simp only [viewRow] at h
    cases h
    exact ⟨rfl, fun he => he⟩
theorem op_indexAddr (h : Sim B S E a w) {id : Nat} {o : Oper} {t : TypeId} {x i : Operand} (ho : o.op = .indexAddr t x i) {r : Out} (hb : opB P S id (.indexAddr t x i) = some r) (hok : r.ok = true) :
    OpOk P B S E a w id o r.d := by
  simp only [opB, Option.bind_eq_some_iff] at hb
  obtain ⟨e, he, eb, heb, c, hc, ci, hci, hb⟩ := hb
  have hel := elemB_some heb
  have h1 := h.evalC hc
  have h2 := h.evalC hci
  split at hb
  · rename_i u l k j
    split at hb
    · rename_i hu
      cases hb
      have hi := val_int h2.2
      have hok' : cIdx j (rLen l) = true := hok
      unfold cIdx rLen at hok'
      obtain ⟨j0, j1⟩ := of_decide_eq_true hok'
      have hv := h1.2
      simp only [Val, Enc, Option.some.injEq] at hv
      obtain ⟨p, cc, e0, e1, e2⟩ := hv
      rcases e2 with e2 | ⟨⟨b, f, sp⟩, rfl, rfl, e5, e6⟩
      · have : (List.length l : Int) = 0 := by rw [e2]; rfl
        omega
      · have hget : (l : List u.T)[j.toNat]? = some (rGet u.dflt l j) := by
          have : j.toNat < List.length l := by omega
          simp [rGet, this]
        refine OpOk.same h (v := .pointer (some ⟨b, f + j.toNat * eb.1.size, none⟩)) ?_ ⟨b, f + j.toNat * u.size, by rw [hu]; rfl, e5, ?_⟩
        · simp only [execOp, ho, Sem.run_bind, indexAt_run he hel e0 hi j0 j1, Result.andThen_ok, Sem.run_pure]
        · refine (e6 _ _ hget).congr fun q hq => ?_
          rw [Nat.add_assoc]
    · cases hb
  · rename_i k kk j
    simp only [Option.bind_eq_some_iff] at hb
    obtain ⟨r, hr, hb⟩ := hb
    split at hb
    · rename_i hu
      cases hb
      have hi := val_int h2.2
      have hok' : cIdx j (rLen r.l) = true := hok
      unfold cIdx rLen at hok'
      obtain ⟨j0, j1⟩ := of_decide_eq_true hok'
      obtain ⟨hU, e0, _⟩ := h1
      have hform : ∃ g c, E.hv k = .slice (some ⟨g, 0, none⟩) r.l.length c := by
        cases hown : r.own with
        | true =>
          obtain ⟨xs, hx, _⟩ := (h.rows k r hr).ownB hown
          rcases hx.2 with ⟨_, hz⟩ | ⟨g, cap, cur, e, e1, _⟩
          · rw [hz] at j1; simp at j1; omega
          · exact ⟨g, cap, e1⟩
        | false =>
          obtain ⟨⟨g, n, c, hf⟩, hen⟩ := (h.rows k r hr).shut hown
          simp only [Enc, Option.some.injEq] at hen
          obtain ⟨p, cc, f0, f1, f2⟩ := hen
          rcases f2 with f2 | ⟨ad, rfl, _⟩
          · rw [f2] at j1; simp at j1; omega
          · rcases hf with hf | hf
            · rw [hf] at f0; cases f0; exact ⟨g, c, hf⟩
            · rw [hf] at f0; cases f0
      obtain ⟨g, cc, hg⟩ := hform
      refine OpOk.same h (v := .pointer (some ⟨g, 0 + j.toNat * eb.1.size, none⟩)) ?_ ⟨hU, g, _, cc, hg, j0, j1, ?_⟩
      · simp only [execOp, ho, Sem.run_bind, indexAt_run he hel (e0.trans hg) hi j0 j1, Result.andThen_ok, Sem.run_pure]
      · have hs : r.t.size = eb.1.size := by rw [← base_size, hu]
        rw [(h.rows k r hr).1, hs, Nat.zero_add, Nat.add_zero]
    · cases hb
  · cases hb

/-- A part of a row. -/
theorem Enc.sub {w : World} {F : Nat → Prop} {t : Ty} {l : List t.T} {p : Option Addr} {n c lo hi : Nat} (h : Val w F (.row t) l (.slice p n c)) (h0 : lo ≤ hi) (h1 : hi ≤ n) :
    n = l.length ∧ n ≤ c ∧ Val w F (.row t) ((l.take hi).drop lo) (.slice (if c = lo then p else p.map (·.add (lo * t.size))) (hi - lo) (c - lo)) := by
  simp only [Val, Enc, Option.some.injEq, Value.slice.injEq] at h ⊢
  obtain ⟨p', c', ⟨rfl, rfl, rfl⟩, h3, h4⟩ := h
  have hl : ((l.take hi).drop lo).length = hi - lo := by rw [List.length_drop, List.length_take, Nat.min_eq_left h1]
  refine ⟨rfl, h3, _, _, ⟨rfl, hl.symm, rfl⟩, by rw [hl]; omega, ?_⟩
  rcases Nat.eq_or_lt_of_le h0 with e | e
  · exact .inl (by rw [hl, e]; omega)
  · rcases h4 with h4 | ⟨⟨b, f, sp⟩, rfl, rfl, h5, h6⟩
    · omega
    · refine .inr ⟨⟨b, f + lo * t.size, none⟩, ?_, rfl, h5, fun i x hx => ?_⟩
      · rw [if_neg (by omega)]
        simp only [Option.map_some, addr_add]
      · rw [List.getElem?_drop] at hx
        rw [List.getElem?_take] at hx
        split at hx
        · refine (h6 (lo + i) x hx).congr fun j hj => ?_
          show w.cell? ⟨b, f + lo * t.size + (i * t.size + j), none⟩ = w.cell? ⟨b, f + ((lo + i) * t.size + j), none⟩
          rw [Nat.add_mul, Nat.add_assoc f, Nat.add_assoc (lo * t.size)]
        · cases hx

theorem bound_run {x : Value} {y : Nat} {code : BoundsCode} {k : IntKind} {j : Int} (hx : x = .int k j) (h0 : 0 ≤ j) (h1 : j ≤ (y : Int)) (w : World) : (Instr.sliceBound x y code).run P w = .ok j.toNat w := by
  subst hx
  simp only [Instr.sliceBound, asIntOf, Sem.run_bind, Sem.run_pure, Result.andThen_ok, h0, h1, and_self, if_true]

theorem slice_run {t e : TypeId} {u : Ty} {q : Nat} (he : sliceB P t = some e) (hel : ElemIs P e u q) {p : Option Addr} {n c lo hi : Nat} {x y : Option Value}
    (hlo : (x = none ∧ lo = 0) ∨ ∃ k j, x = some (.int k j) ∧ 0 ≤ j ∧ lo = j.toNat) (hhi : (y = none ∧ hi = n) ∨ ∃ k j, y = some (.int k j) ∧ 0 ≤ j ∧ hi = j.toNat) (h0 : lo ≤ hi) (h1 : hi ≤ n) (h2 : n ≤ c) (w : World) :
    (Instr.sliceAt t (.slice p n c) x y none).run P w = .ok (.slice (if c = lo then p else p.map (·.add (lo * u.size))) (hi - lo) (c - lo)) w := by
  have hb : (Instr.sliceBounds true n c x y none).run P w = .ok (lo, hi, c) w := by
    unfold Instr.sliceBounds
    rcases hhi with ⟨rfl, rfl⟩ | ⟨k, j, rfl, j0, rfl⟩ <;> rcases hlo with ⟨rfl, rfl⟩ | ⟨k', j', rfl, j0', rfl⟩
    · rfl
    · simp only [Sem.run_bind, Sem.run_pure, Result.andThen_ok, bound_run (P := P) (y := hi) (code := .sliceB) rfl j0' (by omega) w, Option.isSome_none, Bool.false_eq_true, if_false]
    · simp only [Sem.run_bind, Sem.run_pure, Result.andThen_ok, if_true, bound_run (P := P) (y := c) (code := .sliceAcap) rfl j0 (by omega) w]
    · simp only [Sem.run_bind, Sem.run_pure, Result.andThen_ok, if_true, bound_run (P := P) (y := c) (code := .sliceAcap) rfl j0 (by omega) w, bound_run (P := P) (y := j.toNat) (code := .sliceB) rfl j0' (by omega) w, Option.isSome_none, Bool.false_eq_true, if_false]
  simp only [Instr.sliceAt, Instr.slice, Sem.run_bind, run_underlying (sliceB_some he), Result.andThen_ok, hb, elem_size hel, Sem.run_pure]

theorem evalAs_int (h : Sim B S E a w) {k : IntKind} {y : Operand} {n : Int} (e : evalAs S (.int k) y = some n) : a.eval y = .int k n := by
  unfold evalAs at e
  simp only [Option.bind_eq_some_iff] at e
  obtain ⟨c, hc, e⟩ := e
  have h1 := h.evalC hc
  cases c with
  | v t x =>
    obtain ⟨e1, e2⟩ := cast?_some e
    subst e1; subst e2
    exact val_int h1.2
  | own q =>
    simp only [asT] at e
    split at e
    · obtain ⟨s, e1⟩ := readRow_row e; cases e1
    · cases e
  | nil => simp only [asT] at e; cases e
  | ptr b o => simp only [asT] at e; cases e
  | eS t x o => simp only [asT] at e; cases e
  | eO q i o => simp only [asT] at e; cases e
  | inn q m s => simp only [asT] at e; cases e
  | sub q lo hi => simp only [asT] at e; cases e
  | ownR q m => simp only [asT] at e; cases e

/-- A row that is read, frozen if the state kept it. -/
theorem row_val (h : Sim B S E a w) {c : AC} {u : Value} (hc : ACr w E c u) {r : (t : Ty) × List t.T} (hr : rowOf S c = some r) {F : Nat → Prop} (hF : ∀ b, E.F b → F b) (hrd : Reads S E w F (toks [c])) :
    Val w F (.row r.1) r.2 u := by
  unfold rowOf at hr
  split at hr
  · cases hr; exact Enc.mono hF (fun _ _ => rfl) (fun _ _ => rfl) hc.2
  · rename_i k
    simp only [Option.bind_eq_some_iff] at hr
    obtain ⟨q, hq, e⟩ := hr
    obtain ⟨e1, e2⟩ := viewRow_val (w := w) (F := F) (v := u) e
    have := hrd k (by simp [toks]) q hq e1
    rw [← hc.2.1] at this
    exact e2 this
  · cases hr

theorem slice_aux (h : Sim B S E a w) {id : Nat} {o : Oper} {t e : TypeId} {x : Operand} {lo hi : Option Operand} (ho : o.op = .slice t x lo hi none) (he : sliceB P t = some e) {u : Ty} {n : Nat} (hel : ElemIs P e u n) {c : AC}
    (hc : evalC S x = some c) {r : (t : Ty) × List t.T} (hr : rowOf S c = some r) (hu : r.1 = u) {l q : Int}
    (hl : (lo = none ∧ l = 0) ∨ ∃ y, lo = some y ∧ a.eval y = .int .i64 l) (hq : (hi = none ∧ q = rLen r.2) ∨ ∃ y, hi = some y ∧ a.eval y = .int .i64 q) (hok : cSub l q (rLen r.2) = true) :
    OpOk P B S E a w id o { val := .w (.c (.v (.row r.1) (rSub r.2 l q))), rows := freeze S (toks [c]) } := by
  subst hu
  obtain ⟨E', g1, g2, g3, g4, g5⟩ := h.freeze (toks [c])
  have hv : Val w E'.F (.row r.1) r.2 (a.eval x) := row_val h (h.evalC hc) hr g2.F g4
  unfold cSub rLen at hok
  obtain ⟨k0, k1, k2⟩ := of_decide_eq_true hok
  have hform : ∃ p c, a.eval x = .slice p r.2.length c := by
    have := hv
    simp only [Val, Enc, Option.some.injEq] at this
    obtain ⟨p, c, e, _⟩ := this
    exact ⟨p, c, e⟩
  obtain ⟨p, cc, hp⟩ := hform
  rw [hp] at hv
  obtain ⟨_, m1, m2⟩ := Enc.sub (lo := l.toNat) (hi := q.toNat) hv (by omega) (by omega)
  refine ⟨_, .slice (if cc = l.toNat then p else p.map (·.add (l.toNat * r.1.size))) (q.toNat - l.toNat) (cc - l.toNat), w, E', ?_, .inl rfl, g2, ⟨rfl, m2⟩, g1, fun n hn => .inl ((g3 n).1 hn)⟩
  · have := slice_run (P := P) (p := p) (n := r.2.length) (c := cc) (lo := l.toNat) (hi := q.toNat) (x := lo.map a.eval) (y := hi.map a.eval) he hel
      (by rcases hl with ⟨rfl, rfl⟩ | ⟨y, rfl, hy⟩
          · exact .inl ⟨rfl, rfl⟩
          · exact .inr ⟨.i64, l, by rw [Option.map_some, hy], k0, rfl⟩)
      (by rcases hq with ⟨rfl, rfl⟩ | ⟨y, rfl, hy⟩
          · exact .inl ⟨rfl, by simp [rLen]⟩
          · exact .inr ⟨.i64, q, by rw [Option.map_some, hy], by omega, rfl⟩) (by omega) (by omega) m1 w
    simp only [execOp, ho, hp, Sem.run_bind, Option.map_none, this, Result.andThen_ok, Sem.run_pure]

theorem op_slice (h : Sim B S E a w) {id : Nat} {o : Oper} {t : TypeId} {x : Operand} {lo hi mx : Option Operand} (ho : o.op = .slice t x lo hi mx) {r : Out} (hb : opB P S id (.slice t x lo hi mx) = some r) (hok : r.ok = true) :
    OpOk P B S E a w id o r.d := by
  simp only [opB, Option.bind_eq_some_iff] at hb
  obtain ⟨e, he, eb, heb, c, hc, r0, hr0, hb⟩ := hb
  split at hb
  · rename_i hcond
    simp only [Bool.and_eq_true, decide_eq_true_eq, Option.isNone_iff_eq_none] at hcond
    obtain ⟨ht, rfl⟩ := hcond
    simp only [Option.bind_eq_some_iff] at hb
    obtain ⟨l, hl, q, hq, e'⟩ := hb
    cases e'
    refine slice_aux h ho he (elemB_some heb) hc hr0 ht (l := l) (q := q) ?_ ?_ hok
    · cases lo with
      | none => cases hl; exact .inl ⟨rfl, rfl⟩
      | some y => exact .inr ⟨y, rfl, evalAs_int h hl⟩
    · cases hi with
      | none => cases hq; exact .inl ⟨rfl, rfl⟩
      | some y => exact .inr ⟨y, rfl, evalAs_int h hq⟩
  · cases hb


/-- Writing cells into a block of the call's own. -/
theorem run_storeB {t : TypeId} {n : Nat} (hs : sizeB P t = some n) {g f : Nat} {cur : Array Value} {e : TypeId} (hg : w.heap[g]? = some (.cells cur e (0, 0))) {u : Value} (hn : u.cells.size = n) (hf : f + n ≤ cur.size) (h1 : ∀ v ∈ u.cells.toList, v.oneCell' = true) :
    (storeVar t ⟨g, f, none⟩ u).run P w = .ok () (w.setRow g (cur.toList.take f ++ (u.cells.toList ++ cur.toList.drop (f + u.cells.toList.length))).toArray) := by
  have := run_storeCells_at P g f e u.cells.toList 0 cur w hg (by rw [Array.length_toList (xs := u.cells), hn]; omega) h1
  simp only [Nat.add_zero, List.append_assoc] at this
  simp only [storeVar, Sem.run_bind, run_sizeB hs, Result.andThen_ok, hn, ne_eq, not_true_eq_false, if_false, this]

theorem F_setRow (h : Sim B S E a w) {g : Nat} (hg : ¬ E.F g) (cs : Array Value) : E.le w (w.setRow g cs) E :=
  ⟨fun _ h => h, fun _ _ => rfl, fun _ _ => rfl, fun _ _ => rfl, fun _ h => h, fun b hb => setRow_other w g b cs (fun e => hg (e ▸ hb))⟩

/-- A block that the state does not name any more is written. -/
theorem Sim.writeBlk (h : Sim B S E a w) {g : Nat} (hn : B.new g) (hF : ¬ E.F g) (hB : ∀ b cs, S.boxes b = some cs → E.β b ≠ g) (hR : ∀ k r, S.rows k = some r → r.own = true → ¬ OwnB w (E.hv k) r.t r.l g) (cs : Array Value) :
    Sim B S E a (w.setRow g cs) :=
  h.world rfl rfl rfl (by simp) (fun b hb => setRow_other w g b cs (fun e => hF (e ▸ hb))) (fun b c hb => setRow_other w g _ cs (hB b c hb))
    (fun k r g' hk ho hg => setRow_other w g g' cs (fun e => hR k r hk ho (e ▸ hg))) (fun b hb hm => setRow_other w g b cs (fun e => by
      subst e
      rcases hn with hn | hn
      · omega
      · exact hm hn))

theorem setAll_not {α : Type} {f : Nat → Option α} {n : Nat} : ∀ {l : List (Nat × Option α)}, (∀ p ∈ l, p.1 ≠ n) → setAll f l n = f n
  | [], _ => rfl
  | (k, x) :: l, h => by
    rw [setAll_cons, setAll_not (fun p hp => h p (List.mem_cons_of_mem _ hp)), upd_ne (Ne.symm (h (k, x) (by simp)))]
theorem freeze_keys {S : St} : ∀ {ks : List Nat}, ∀ p ∈ freeze S ks, p.1 ∈ ks
  | [], p, h => by simp [Go.Proofs.YtmbmapbdbbnaeaaT.freeze] at h
  | k :: ks, p, h => by
    simp only [Go.Proofs.YtmbmapbdbbnaeaaT.freeze] at h
    split at h
    · split at h
      · exact List.mem_cons_of_mem _ (freeze_keys p h)
      · rcases List.mem_cons.1 h with rfl | h
        · simp
        · exact List.mem_cons_of_mem _ (freeze_keys p h)
    · exact List.mem_cons_of_mem _ (freeze_keys p h)
theorem toks_flat : ∀ (t : Ty) (x : t.T), toks (flat t x) = []
  | .unit, _ => rfl
  | .int _, _ => rfl
  | .bool, _ => rfl
  | .str, _ => rfl
  | .row _, _ => rfl
  | .pair p q, x => by rw [flat, toks_append, toks_flat p, toks_flat q]; rfl
  | .deep _ t, x => toks_flat t x
  | .dead, _ => rfl
  | .part t, _ => by
    show toks (List.replicate t.size (AC.v .dead true)) = []
    induction t.size with
    | zero => rfl
    | succ n ih => rw [List.replicate_succ]; exact ih

theorem splice_get {α : Type} (l vs : List α) (f p : Nat) (hf : f + vs.length ≤ l.length) : (l.take f ++ (vs ++ l.drop (f + vs.length)))[p]? = if p < f then l[p]? else if p < f + vs.length then vs[p - f]? else l[p]? := by
  have h1 : (l.take f).length = f := by rw [List.length_take]; omega
  rw [List.getElem?_append, h1]
  by_cases hp : p < f
  · rw [if_pos hp, if_pos hp, List.getElem?_take, if_pos hp]
  · rw [if_neg hp, if_neg hp, List.getElem?_append]
    by_cases hq : p < f + vs.length
    · rw [if_pos (by omega), if_pos hq]
    · rw [if_neg (by omega), if_neg hq, List.getElem?_drop]
      congr 1
      omega

theorem asT_v {S : St} {u t : Ty} {x : t.T} {y : u.T} (h : asT S u (.v t x) = some y) : (AC.v u y) = .v t x := by
  simp only [asT] at h
  obtain ⟨e1, e2⟩ := cast?_some h
  subst e1; subst e2
  rfl
theorem cellsL_set {t : Ty} {l : List t.T} {i : Nat} {x : t.T} (hi : i < l.length) {p : Nat} {c : AC} (h : (cellsL t (l.set i x))[p]? = some c) :
    (p / t.size = i ∧ (flat t x)[p % t.size]? = some c) ∨ (p / t.size ≠ i ∧ (cellsL t l)[p]? = some c) := by
  have hp := (List.getElem?_eq_some_iff.1 h).1
  rw [cellsL_len, List.length_set] at hp
  have hz : 0 < t.size := by
    rcases Nat.eq_zero_or_pos t.size with e | e
    · rw [e] at hp; omega
    · exact e
  have hq : p / t.size < l.length := by rw [Nat.div_lt_iff_lt_mul hz]; exact hp
  have hm := Nat.mod_lt p hz
  have ep := Nat.div_add_mod' p t.size
  rw [← ep] at h
  by_cases e : p / t.size = i
  · refine .inl ⟨e, ?_⟩
    have hx : (l.set i x)[p / t.size]? = some x := by rw [e]; simp [hi]
    rw [cellsL_get hx hm] at h
    exact h
  · refine .inr ⟨e, ?_⟩
    have hx : (l.set i x)[p / t.size]? = some l[p / t.size] := by rw [List.getElem?_set_ne (Ne.symm e)]; simp [hq]
    rw [cellsL_get hx hm] at h
    rw [← ep, cellsL_get (show l[p / t.size]? = some l[p / t.size] by simp [hq]) hm]
    exact h

/-- Cells are stored into an element of a deep row. -/
theorem store_deep (h : Sim B S E a w) {k : Nat} {n : Option Note} {t : Ty} {l : List t.T} (hr0 : S.rows k = some ⟨true, .deep n t, l⟩) {i : Int} {off : Nat} {u0 : Value} (h1 : ACr w E (.eO k i off) u0) (hlent : lentPos t n = none)
    {cs : List AC} {us : List Value} (hc : ACs w E cs us) {ks : List Nat} (hks : takeOwn S cs = some ks) (hk : k ∉ toks cs) {l' : List AC} (hl : splice (flat t (rGet t.dflt l i)) off cs = some l') {x' : t.T} (hx' : parse S t l' = some x') :
    ∃ (g f : Nat) (cur : Array Value) (e : TypeId), u0 = .pointer (some ⟨g, f, none⟩) ∧ w.heap[g]? = some (.cells cur e (0, 0)) ∧ f + us.length ≤ cur.size ∧
      Sim B { S with rows := setAll S.rows (drops ks ++ [(k, some ⟨true, .deep none t, rSet l i x'⟩)]) } E a (w.setRow g (cur.toList.take f ++ (us ++ cur.toList.drop (f + us.length))).toArray) ∧
      E.le w (w.setRow g (cur.toList.take f ++ (us ++ cur.toList.drop (f + us.length))).toArray) E := by
  obtain ⟨g, cc, xs, e1, e2, e3, e4, e5, e6, e7, e8⟩ := h.elemD h1 hr0
  have hUk : E.U k := h.rowU k _ hr0
  have hblk : (E.hv k).ownBlock = some g := by rw [e1]; rfl
  obtain ⟨cap, cur, e, f1, f2, f3, f4, f5, f6⟩ := e5.blk hblk
  obtain ⟨n1, n2, n3, n4⟩ := h.rowNew k _ g hr0 rfl (.inl hblk)
  have T := takeOwn_ok hks
  have hkn : k ∉ ks := fun hm => by
    obtain ⟨j, hj⟩ := T.has k hm
    exact hk (by
      have : ∀ {cs : List AC} {j : Nat}, cs[j]? = some (.own k) → k ∈ toks cs := by
        intro cs
        induction cs with
        | nil => intro j h; simp at h
        | cons c cs ih =>
          intro j h
          rw [toks_cons]
          cases j with
          | zero => simp at h; subst h; simp [toks]
          | succ j => exact List.mem_append_right _ (ih (by simpa using h))
      exact this hj)
  obtain ⟨hfit, hl'⟩ := splice_some hl
  rw [flat_len] at hfit
  have hul : us.length = cs.length := hc.1.symm
  have hi1 : i.toNat * t.size + t.size ≤ l.length * t.size := by
    have := Nat.mul_le_mul_right t.size (Nat.succ_le_of_lt e3)
    rwa [Nat.succ_mul] at this
  have hi2 : l.length * t.size ≤ cap * t.size := Nat.mul_le_mul_right _ f3
  have hz : 0 < t.size ∨ cs.length = 0 := by omega
  generalize hf : i.toNat * t.size + off = f at *
  generalize hcl : cur.toList.take f ++ (us ++ cur.toList.drop (f + us.length)) = cl
  have hclg : ∀ p : Nat, cl[p]? = if p < f then cur[p]? else if p < f + us.length then us[p - f]? else cur[p]? := by
    intro p
    rw [← hcl, splice_get _ _ _ _ (by rw [Array.length_toList (xs := cur), f5]; omega)]
    simp
  have hcln : cl.length = cur.size := by
    rw [← hcl]
    simp only [List.length_append, List.length_take, List.length_drop, Array.length_toList (xs := cur), f5]
    omega
  have hxs : ∀ p : Nat, xs[p]? = if p < l.length * t.size then cur[p]? else none := by
    intro p
    rw [← f6, List.getElem?_take]
    split <;> simp
  have hxl := e5.1
  -- the cells afterwards
  generalize hys : cl.take (l.length * t.size) = ys
  have hyl : ys.length = l.length * t.size := by rw [← hys, List.length_take, hcln, f5]; omega
  have hy : ∀ (p : Nat) v, ys[p]? = some v → (f ≤ p ∧ p < f + us.length ∧ us[p - f]? = some v) ∨ ((p < f ∨ f + us.length ≤ p) ∧ xs[p]? = some v) := by
    intro p v hv
    rw [← hys, List.getElem?_take] at hv
    split at hv
    · rename_i hp
      rw [hclg] at hv
      rw [hxs, if_pos hp]
      by_cases q1 : p < f
      · rw [if_pos q1] at hv; exact .inr ⟨.inl q1, hv⟩
      · rw [if_neg q1] at hv
        by_cases q2 : p < f + us.length
        · rw [if_pos q2] at hv; exact .inl ⟨by omega, q2, hv⟩
        · rw [if_neg q2] at hv; exact .inr ⟨.inr (by omega), hv⟩
    · cases hv
  have kidOld : ∀ (p : Nat) v, xs[p]? = some v → ∃ c, (cellsL t l)[p]? = some c ∧ Kid w c v := by
    intro p v hv
    have hp : p < (cellsL t l).length := by rw [cellsL_len, ← hxl]; exact (List.getElem?_eq_some_iff.1 hv).1
    exact ⟨_, List.getElem?_eq_getElem hp, e6.kid p _ v (List.getElem?_eq_getElem hp) hv (by rw [hlent]; simp)⟩
  have ownOld : ∀ (p : Nat) v b, xs[p]? = some v → v.ownBlock = some b → OwnB w (E.hv k) (.deep n t) l b := fun p v b hv hb =>
    OwnB.kid (t := t) (h := n) (kids_owned e5) hv (by rw [hlent]; simp) hb
  obtain ⟨pl1, pf1⟩ := parse_flat hx'
  have hl'l : l'.length = t.size := parse_len hx'
  have hl'g : ∀ j : Nat, l'[j]? = if j < off then (flat t (rGet t.dflt l i))[j]? else if j < off + cs.length then cs[j - off]? else (flat t (rGet t.dflt l i))[j]? := by
    intro j
    rw [hl', splice_get _ _ _ _ (by rw [flat_len]; exact hfit)]
  -- a stored cell
  have stored : ∀ (p : Nat) v c, f ≤ p → p < f + us.length → us[p - f]? = some v → (cellsL t (rSet l i x'))[p]? = some c → Kid w c v ∧ ∀ b, v.ownBlock = some b → ∃ q r, cs[p - f]? = some (.own q) ∧ q ∈ ks ∧ S.rows q = some r ∧ r.own = true ∧ OwnB w (E.hv q) r.t r.l b := by
    intro p v c p1 p2 hv hcc
    have hjs : p - f < cs.length := by rw [← hul]; omega
    have hdiv : p = i.toNat * t.size + (off + (p - f)) := by omega
    have hcc2 : (flat t x')[off + (p - f)]? = some c := by
      have hx2 : (rSet l i x')[i.toNat]? = some x' := by simp [rSet, e3]
      rw [hdiv, cellsL_get hx2 (by omega)] at hcc
      exact hcc
    have hlc : l'[off + (p - f)]? = some cs[p - f] := by
      rw [hl'g, if_neg (by omega), if_pos (by omega), Nat.add_sub_cancel_left]
      simp [hjs]
    obtain ⟨u, y, rfl, hcell, has⟩ := pf1 _ _ _ hlc hcc2
    obtain ⟨r1, r2⟩ := T.kid h (j := p - f) (by simp [hjs]) (hc.2 _ _ v (by simp [hjs]) hv) hcell has (fun t' e => by subst e; exact one_row e6.one hcc2)
    refine ⟨r1, fun b hb => ?_⟩
    obtain ⟨q, r, e, q1, q2, q3, q4⟩ := r2 b hb
    exact ⟨q, r, by rw [← e]; simp [hjs], q1, q2, q3, q4⟩
  -- a cell that stays
  have stays : ∀ (p : Nat) v c, (p < f ∨ f + us.length ≤ p) → xs[p]? = some v → (cellsL t (rSet l i x'))[p]? = some c → Kid w c v := by
    intro p v c hp hv hcc
    obtain ⟨c0, hc0, hk0⟩ := kidOld p v hv
    unfold rSet at hcc
    rcases cellsL_set e3 hcc with ⟨q1, q2⟩ | ⟨q1, q2⟩
    · have hm : p % t.size < t.size := by
        have := (List.getElem?_eq_some_iff.1 q2).1
        rwa [flat_len] at this
      have ep := Nat.div_add_mod' p t.size
      rw [q1] at ep
      have hc1 : (flat t (rGet t.dflt l i))[p % t.size]? = some c0 := by
        rw [← cellsL_get e8 hm, ep]; exact hc0
      have hlc : l'[p % t.size]? = some c0 := by
        rw [hl'g]
        by_cases q3 : p % t.size < off
        · rw [if_pos q3]; exact hc1
        · rw [if_neg q3, if_neg (by omega)]; exact hc1
      obtain ⟨u, y, rfl, hcell, has⟩ := pf1 _ _ _ hlc q2
      have : ∃ t0 x0, c0 = .v t0 x0 := by
        cases c0 <;> first | exact ⟨_, _, rfl⟩ | exact hk0.elim
      obtain ⟨t0, x0, rfl⟩ := this
      rw [asT_v has]
      exact hk0
    · rw [hc0] at q2
      cases q2
      exact hk0
  have cell_ : ∀ (p : Nat) v, ys[p]? = some v → ∃ c, (cellsL t (rSet l i x'))[p]? = some c := fun p v hv => by
    have hp : p < (cellsL t (rSet l i x')).length := by
      rw [cellsL_len]
      simp only [rSet, List.length_set]
      rw [← hyl]
      exact (List.getElem?_eq_some_iff.1 hv).1
    exact ⟨_, List.getElem?_eq_getElem hp⟩
  have hsub : ∀ q r, setAll S.rows (drops ks) q = some r → S.rows q = some r := fun q r hq => (setAll_drops (f := S.rows) hq).1
  -- whose a block is
  have whose : ∀ (p : Nat) v b, ys[p]? = some v → v.ownBlock = some b → b ≠ g ∧ ∃ q r, S.rows q = some r ∧ r.own = true ∧ OwnB w (E.hv q) r.t r.l b ∧ (q = k ∨ q ∈ ks) := by
    intro p v b hv hb
    obtain ⟨c, hcc⟩ := cell_ p v hv
    rcases hy p v hv with ⟨p1, p2, p3⟩ | ⟨p1, p2⟩
    · obtain ⟨q, r, q1, q2, q3, q4, q5⟩ := (stored p v c p1 p2 p3 hcc).2 b hb
      refine ⟨fun e => ?_, q, r, q3, q4, q5, .inr q2⟩
      subst e
      exact hkn (n4 q r q3 q4 q5 ▸ q2)
    · exact ⟨fun e => e6.out p v b p2 (by rw [hlent]; simp) hb (by rw [e]; exact hblk), k, _, hr0, rfl, ownOld p v b p2 hb, .inl rfl⟩
  have kidW : ∀ (p : Nat) v c, ys[p]? = some v → (cellsL t (rSet l i x'))[p]? = some c → Kid (w.setRow g cl.toArray) c v := by
    intro p v c hv hcc
    have : Kid w c v := by
      rcases hy p v hv with ⟨p1, p2, p3⟩ | ⟨p1, p2⟩
      · exact (stored p v c p1 p2 p3 hcc).1
      · exact stays p v c p1 p2 hcc
    exact this.world fun b hb => setRow_other w g b _ (whose p v b hv hb).1
  have hkids : Kids (w.setRow g cl.toArray) E.U E.hv none t (rSet l i x') ys (E.hv k) :=
    { one := e6.one
      kid := fun p c v hcc hv _ => kidW p v c hv hcc
      note := fun m hm => by cases hm
      inj := fun p p' v v' b hv hv' _ _ hb hb' => by
        obtain ⟨c, hcc⟩ := cell_ p v hv
        obtain ⟨c', hcc'⟩ := cell_ p' v' hv'
        rcases hy p v hv with ⟨p1, p2, p3⟩ | ⟨p1, p2⟩
        · obtain ⟨q, r, q1, q2, q3, q4, q5⟩ := (stored p v c p1 p2 p3 hcc).2 b hb
          rcases hy p' v' hv' with ⟨p1', p2', p3'⟩ | ⟨p1', p2'⟩
          · obtain ⟨q', r', q1', q2', q3', q4', q5'⟩ := (stored p' v' c' p1' p2' p3' hcc').2 b hb'
            have := (h.rowNew q r b q3 q4 q5).2.2.2 q' r' q3' q4' q5'
            subst this
            have := T.inj _ _ q' q1 q1'
            omega
          · have := (h.rowNew q r b q3 q4 q5).2.2.2 k _ hr0 rfl (ownOld p' v' b p2' hb')
            subst this
            exact absurd q2 hkn
        · rcases hy p' v' hv' with ⟨p1', p2', p3'⟩ | ⟨p1', p2'⟩
          · obtain ⟨q', r', q1', q2', q3', q4', q5'⟩ := (stored p' v' c' p1' p2' p3' hcc').2 b hb'
            have := (h.rowNew q' r' b q3' q4' q5').2.2.2 k _ hr0 rfl (ownOld p v b p2 hb)
            subst this
            exact absurd q2' hkn
          · exact e6.inj p p' v v' b p2 p2' (by rw [hlent]; simp) (by rw [hlent]; simp) hb hb'
      out := fun p v b hv _ hb e => by
        rw [hblk] at e
        cases e
        exact (whose p v _ hv hb).1 rfl }
  have hown : Owned (w.setRow g cl.toArray) t.size (E.hv k) (rSet l i x').length ys := by
    refine ⟨by rw [hyl]; simp [rSet], .inr ⟨g, cap, cl.toArray, e, ?_, setRow_heap w g cur _ e _ f2, ?_, f4, ?_, ?_⟩⟩
    · simp only [rSet, List.length_set]; exact f1
    · simp only [rSet, List.length_set]; exact f3
    · simp only [List.size_toArray]; rw [hcln, f5]
    · simp only [rSet, List.length_set]; exact hys
  have hS1 := (h.fewer hsub).dropRow k
  have L := F_setRow h n2 cl.toArray
  have hnd := hS1.writeBlk n1 n2 n3 (fun k' r' hk' ho' hg' => (upd_none hk').1 (n4 k' r' (hsub _ _ (upd_none hk').2) ho' hg')) cl.toArray
  have hset := hnd.setRowSt (k := k) (r := ⟨true, .deep none t, rSet l i x'⟩) hUk ⟨e2, trivial, ys, by rw [e2]; exact hown, hkids⟩ (fun _ b hb => by
    have back : ∀ k' r' b, upd (setAll S.rows (drops ks)) k none k' = some r' → r'.own = true → OwnB (w.setRow g cl.toArray) (E.hv k') r'.t r'.l b → S.rows k' = some r' ∧ k' ≠ k ∧ k' ∉ ks ∧ OwnB w (E.hv k') r'.t r'.l b := fun k' r' b hk' ho' hg' => by
      obtain ⟨q1, q2⟩ := upd_none hk'
      obtain ⟨q3, q4⟩ := setAll_drops (f := S.rows) q2
      refine ⟨q3, q1, q4, (OwnB.world fun b' hb' => setRow_other w g b' _ fun e => ?_).1 hg'⟩
      subst e
      exact q1 (n4 k' r' q3 ho' (.inl hb'))
    rcases hb with hb | ⟨p, v, hp, _, hb⟩
    · rw [hblk] at hb
      cases hb
      exact ⟨n1, n2, n3, fun k' r' hk' ho' hg' => by
        obtain ⟨q1, q2, q3, q4⟩ := back k' r' _ hk' ho' hg'
        exact absurd (n4 k' r' q1 ho' q4) q2⟩
    · have hp : (kids (w.setRow g cl.toArray) (E.hv k) t.size)[p]? = some v := hp
      rw [kids_owned (sz := t.size) hown] at hp
      obtain ⟨_, q, r, q1, q2, q3, q4⟩ := whose p v b hp hb
      obtain ⟨m1, m2, m3, m4⟩ := h.rowNew q r b q1 q2 q3
      exact ⟨m1, m2, m3, fun k' r' hk' ho' hg' => by
        obtain ⟨z1, z2, z3, z4⟩ := back k' r' _ hk' ho' hg'
        have := m4 k' r' z1 ho' z4
        subst this
        exact q4.elim (fun e => absurd e z2) (fun e => absurd e z3)⟩)
  refine ⟨g, f, cur, e, e4, f2, by rw [f5]; omega, ?_, by rw [hcl]; exact L⟩
  have e9 : upd (upd (setAll S.rows (drops ks)) k none) k (some ⟨true, .deep none t, rSet l i x'⟩) = upd (setAll S.rows (drops ks)) k (some ⟨true, .deep none t, rSet l i x'⟩) := upd_upd _ _ _ _
  rw [setAll_one, ← e9, hcl]
  exact hset

theorem op_store (h : Sim B S E a w) {id : Nat} {o : Oper} {t : TypeId} {x y : Operand} (ho : o.op = .store t x y) {r : Out} (hb : opB P S id (.store t x y) = some r) (hok : r.ok = true) :
    OpOk P B S E a w id o r.d := by
  simp only [opB, Option.bind_eq_some_iff] at hb
  obtain ⟨c, hc, v, hv, n, hn, hb⟩ := hb
  have h1 := h.evalC hc
  have h2 := (h.evalW hv).cells
  split at hb
  · rename_i hsz
    have hsz := beq_nat.1 hsz
    have hcs : (a.eval y).cells.size = n := by rw [← hsz, h2.1, Array.length_toList]
    have hrun : ∀ {g f : Nat} {w' : World}, a.eval x = .pointer (some ⟨g, f, none⟩) → (storeVar t ⟨g, f, none⟩ (a.eval y)).run P w = .ok () w' → (execOp a.eval o).run P w = .ok .skip w' := fun e hs => by
      simp only [execOp, ho, Instr.storeAt, e, Instr.sureAddr, Sem.run_bind, Sem.run_pure, Result.andThen_ok, hs]
    split at hb
    · rename_i b off
      simp only [Option.bind_eq_some_iff] at hb
      obtain ⟨cs, hcs', l, hl, e⟩ := hb
      cases e
      obtain ⟨us, e, hw, ha⟩ := h.boxes b cs hcs'
      obtain ⟨hU, hx⟩ := h1
      obtain ⟨hnew, hF⟩ := h.boxNew b cs hcs'
      have hfit : off + n ≤ us.size := by
        have := (splice_some hl).1
        rw [ha.1, Array.length_toList (xs := us), hsz] at this
        exact this
      have hst := run_storeB (P := P) hn hw hcs hfit h2.one
      have L := F_setRow h hF (us.toList.take off ++ ((a.eval y).cells.toList ++ us.toList.drop (off + (a.eval y).cells.toList.length))).toArray
      have hnd := (h.dropBox b).writeBlk hnew hF (fun b' cs' hb' e => (upd_none hb').1 (h.boxInj b' b cs' cs (upd_none hb').2 hcs' e))
        (fun k r hk hown hg => (h.rowNew k r _ hk hown hg).2.2.1 b cs hcs' rfl) (us.toList.take off ++ ((a.eval y).cells.toList ++ us.toList.drop (off + (a.eval y).cells.toList.length))).toArray
      have hset := hnd.setBoxSt (b := b) (cs := l) (e := e) hU (setRow_heap w _ us _ e _ hw) (by simpa using (splice_acs hl ha h2).mono L) hnew hF
        (fun b' cs' hb' e => absurd (h.boxInj b' b cs' cs (upd_none hb').2 hcs' e) (upd_none hb').1)
        (fun k r g hk hown hg => (h.rowNew k r g hk hown ((OwnB.world fun b' hb' => setRow_other w _ b' _ fun e => (h.rowNew k r b' hk hown (.inl hb')).2.2.1 b cs hcs' e.symm).1 hg)).2.2.1 b cs hcs')
      refine ⟨_, undef, _, E, hrun hx hst, .inr ⟨rfl, rfl⟩, L, rfl, ?_, fun n hn => .inl hn⟩
      have e2 : upd (upd S.boxes b none) b (some l) = upd S.boxes b (some l) := upd_upd _ _ _ _
      show Sim B { S with boxes := upd S.boxes b (some l) } E a _
      rw [← e2]
      exact hset
    · rename_i k i off
      simp only [Option.bind_eq_some_iff] at hb
      obtain ⟨r0, hr0, l, hl, x', hx', hb⟩ := hb
      split at hb
      · rename_i hcond
        simp only [Bool.and_eq_true, Bool.not_eq_true', List.contains_eq_mem, decide_eq_false_iff_not] at hcond
        obtain ⟨hown, hk⟩ := hcond
        split at hb
        · rename_i hdeep
          simp only [Option.bind_eq_some_iff] at hb
          obtain ⟨ks, hks, q, hq, e⟩ := hb
          cases e
          obtain ⟨ro, rt, rl⟩ := r0
          simp only at hown hdeep hq hl hx' hr0 hk
          subst hown
          cases rt with
          | deep m u =>
            have hlent : lentPos u m = none ∧ q = ⟨true, .deep none u, rSet rl i x'⟩ := by
              unfold deepSet at hq
              simp only at hq
              split at hq
              · cases hq
              · rename_i hn
                cases hq
                refine ⟨?_, rfl⟩
                unfold lentPos
                split
                · exact (hn _ _ _ rfl).elim
                · rfl
            obtain ⟨hlent, rfl⟩ := hlent
            obtain ⟨g, f, cur, e, r1, r2, r3, r4, r5⟩ := store_deep h hr0 h1 hlent h2 hks hk hl hx'
            have hst := run_storeB (P := P) (f := f) hn r2 hcs (by rw [← hcs, ← Array.length_toList]; exact r3) h2.one
            exact ⟨_, undef, _, E, hrun r1 hst, .inr ⟨rfl, rfl⟩, r5, rfl, r4, fun n hn => .inl hn⟩
          | part u => simp [deepSet] at hq
          | _ => cases hdeep
        rename_i hdeep
        cases hb
        have hflat0 : r0.t.isDeep = false := hdeep
        obtain ⟨g, c, us, e1, e2, e3, e4, e5, e6, e7⟩ := h.elem h1 hr0 (by rw [hflat0]; simp)
        obtain ⟨E1, g1, g2, g3, g4, g5⟩ := h.freeze (toks v.cells)
        have hUk : E.U k := h.rowU k r0 hr0
        have hr1 : setAll S.rows (freeze S (toks v.cells)) k = some r0 := by
          rw [setAll_not (fun p hp e => hk (by rw [← e]; exact freeze_keys p hp))]; exact hr0
        have hhv : E1.hv k = E.hv k := g2.hv k hUk
        have hszk : E1.sz k = E.sz k := g2.sz k hUk
        obtain ⟨xs, hx, hxl⟩ := (g1.rows k r0 hr1).own hown hflat0
        have hblk : (E1.hv k).ownBlock = some g := by rw [hhv, e1]; rfl
        obtain ⟨cap, cur, e, f1, f2, f3, f4, f5, f6⟩ := hx.blk hblk
        rw [hszk, e2] at f5 f6 hx
        obtain ⟨n1, n2, n3, n4⟩ := g1.rowNew k r0 g hr1 hown (.inl hblk)
        obtain ⟨hfit, _⟩ := splice_some hl
        have hflat := flat_acs e5 e7
        rw [hflat.1, e5, hsz] at hfit
        have hi1 : i.toNat * r0.t.size + r0.t.size ≤ r0.l.length * r0.t.size := by
          have := Nat.mul_le_mul_right r0.t.size (Nat.succ_le_of_lt e3)
          rwa [Nat.succ_mul] at this
        have hi2 : r0.l.length * r0.t.size ≤ cap * r0.t.size := Nat.mul_le_mul_right _ f3
        have hst := run_storeB (P := P) (f := i.toNat * r0.t.size + off) hn f2 hcs (by rw [f5]; omega) h2.one
        have hvl : (a.eval y).cells.toList.length = n := by rw [← h2.1, hsz]
        generalize hcur : (cur.toList.take (i.toNat * r0.t.size + off) ++ ((a.eval y).cells.toList ++ cur.toList.drop (i.toNat * r0.t.size + off + (a.eval y).cells.toList.length))) = cl at hst
        have hcl : ∀ p : Nat, cl[p]? = if p < i.toNat * r0.t.size + off then cur[p]? else if p < i.toNat * r0.t.size + off + n then (a.eval y).cells.toList[p - (i.toNat * r0.t.size + off)]? else cur[p]? := by
          intro p
          rw [← hcur, splice_get _ _ _ _ (by rw [Array.length_toList (xs := cur), hvl, f5]; omega), hvl]
          simp
        have hcln : cl.length = cur.size := by
          rw [← hcur]
          simp only [List.length_append, List.length_take, List.length_drop, hvl, Array.length_toList (xs := cur), f5]
          omega
        have L := F_setRow g1 n2 cl.toArray
        have hnd := (g1.dropRow k).writeBlk n1 n2 n3 (fun k' r' hk' ho' hg' => (upd_none hk').1 (n4 k' r' (upd_none hk').2 ho' hg')) cl.toArray
        have hrd : Reads S E1 w E1.F (toks l) := fun q hq r hr hh => by
          have hq' : q ∈ toks v.cells := by
            obtain ⟨_, rfl⟩ := splice_some hl
            rw [toks_append, toks_append] at hq
            rcases List.mem_append.1 hq with hq | hq
            · have := toks_mem_take hq; rw [toks_flat] at this; cases this
            · rcases List.mem_append.1 hq with hq | hq
              · exact hq
              · have := toks_mem_drop hq; rw [toks_flat] at this; cases this
          have := g4 q hq' r hr hh
          rw [← g2.hv q (h.rowU q r hr)] at this
          exact this
        obtain ⟨_, hen⟩ := parse_enc (fun _ h => h) hrd ((splice_acs hl hflat h2).mono g2) hx'
        have hEncL : EncL w E1.F r0.t (rSet r0.l i x') (cl.take (r0.l.length * r0.t.size)) := by
          intro q z hz
          unfold rSet at hz
          rw [List.getElem?_set] at hz
          have hq : q < r0.l.length := by
            by_cases hh : i.toNat = q
            · rw [← hh]; exact e3
            · rw [if_neg hh] at hz; exact (List.getElem?_eq_some_iff.1 hz).1
          have hq1 : q * r0.t.size + r0.t.size ≤ r0.l.length * r0.t.size := by
            have := Nat.mul_le_mul_right r0.t.size (Nat.succ_le_of_lt hq)
            rwa [Nat.succ_mul] at this
          by_cases hh : i.toNat = q
          · rw [if_pos hh, if_pos e3] at hz
            cases hz
            subst hh
            refine hen.congr fun j hj => ?_
            rw [List.getElem?_take, if_pos (by omega), hcl, splice_get _ _ _ _ (by rw [e5, hvl]; exact hfit), hvl]
            have hus : us[j]? = cur[i.toNat * r0.t.size + j]? := by
              have hj' : j < us.length := by rw [e5]; exact hj
              rw [List.getElem?_eq_getElem hj']
              have := e6 j us[j] (by simp [hj'])
              rw [cell_row f2] at this
              exact this.symm
            by_cases hj1 : j < off
            · rw [if_pos (by omega), if_pos hj1, hus]
            · by_cases hj2 : j < off + n
              · rw [if_neg (by omega), if_pos (by omega), if_neg hj1, if_pos hj2, show i.toNat * r0.t.size + j - (i.toNat * r0.t.size + off) = j - off by omega]
              · rw [if_neg (by omega), if_neg (by omega), if_neg hj1, if_neg hj2, hus]
          · rw [if_neg hh] at hz
            refine (hxl q z hz).congr fun j hj => ?_
            rw [← f6, List.getElem?_take, List.getElem?_take, if_pos (by omega), if_pos (by omega), hcl]
            have hne : q < i.toNat ∨ i.toNat < q := by omega
            rcases hne with hne | hne
            · have := Nat.mul_le_mul_right r0.t.size (Nat.succ_le_of_lt hne)
              rw [Nat.succ_mul] at this
              rw [if_pos (by omega)]
              simp
            · have := Nat.mul_le_mul_right r0.t.size (Nat.succ_le_of_lt hne)
              rw [Nat.succ_mul] at this
              rw [if_neg (by omega), if_neg (by omega)]
              simp
        have hrow : RowIs (w.setRow g cl.toArray) E1 (E1.hv k) (E1.sz k) { r0 with l := rSet r0.l i x' } := by
          refine ⟨by rw [hszk]; exact e2, (g1.rows k r0 hr1).2.1, ?_⟩
          simp only [hown]
          refine ⟨cl.take (r0.l.length * r0.t.size), ⟨?_, .inr ⟨g, cap, cl.toArray, e, ?_, setRow_heap w g cur _ e _ f2, ?_, f4, ?_, ?_⟩⟩, (Body.flat hflat0).2 (hEncL.mono L.F L.heap)⟩
          · rw [List.length_take, hcln, f5, hszk, e2]
            simp only [rSet, List.length_set]
            exact Nat.min_eq_left hi2
          · simp only [rSet, List.length_set]; exact f1
          · simp only [rSet, List.length_set]; exact f3
          · rw [hszk, e2]; simp only [List.size_toArray]; rw [hcln, f5]
          · rw [hszk, e2]; simp only [rSet, List.length_set]
        have hset := hnd.setRowSt (k := k) (r := { r0 with l := rSet r0.l i x' }) (g2.U k hUk) hrow (fun _ g' hg' => by
          have hg' := (OwnB.flat hflat0).1 hg'
          rw [hblk] at hg'
          cases hg'
          exact ⟨n1, n2, n3, fun k' r' hk' ho' hg'' => absurd (n4 k' r' (upd_none hk').2 ho' ((OwnB.world fun b' hb' => setRow_other w g b' _ fun e => (upd_none hk').1 (n4 k' r' (upd_none hk').2 ho' (.inl (e ▸ hb')))).1 hg'')) (upd_none hk').1⟩)
        refine ⟨_, undef, _, E1, hrun e4 hst, .inr ⟨rfl, rfl⟩, g2.trans L, rfl, ?_, fun n hn => .inl ((g3 n).1 hn)⟩
        have e8 : upd (upd (setAll S.rows (freeze S (toks v.cells))) k none) k (some { r0 with l := rSet r0.l i x' }) = upd (setAll S.rows (freeze S (toks v.cells))) k (some { r0 with l := rSet r0.l i x' }) := upd_upd _ _ _ _
        show Sim B { S with rows := setAll S.rows (freeze S (toks v.cells) ++ [(k, some { r0 with l := rSet r0.l i x' })]) } E1 a _
        rw [setAll_one, ← e8]
        exact hset
      · cases hb
    · cases hb
  · cases hb

end
end Go.Proofs.YtmbmapbdbbnaeaaT

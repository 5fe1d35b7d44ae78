/- Another base; the marks of ranges over functions. -/
import Derived.Test.YtmbmapbdbbnaeaaTiAD
import Derived.RangeFuncRecord
set_option linter.unusedVariables false
set_option linter.unusedSimpArgs false
namespace Go.Proofs.YtmbmapbdbbnaeaaT
open Go

section
variable {P : Program} {B B1 B2 : Base} {S : St} {E : Env} {a : Act} {w : World}

def mark (D : Nat) : Deferred := { target := .collected D, args := #[] }

/-- The state in another world, over another base. -/
theorem Sim.base (h : Sim B2 S E a w) {a' : Act} {w' : World} (ha : a'.tmps = a.tmps) (hd : a'.defers = B.dfs) (hn : B.n = B2.n) (hsz : w.heap.size ≤ w'.heap.size)
    (hF : ∀ b, E.F b → w'.heap[b]? = w.heap[b]?) (hB : ∀ b cs, S.boxes b = some cs → w'.heap[E.β b]? = w.heap[E.β b]?) (hR : ∀ k r g, S.rows k = some r → r.own = true → OwnB w (E.hv k) r.t r.l g → w'.heap[g]? = w.heap[g]?)
    (hnB : ∀ b cs, S.boxes b = some cs → B.new (E.β b)) (hnR : ∀ k r g, S.rows k = some r → r.own = true → OwnB w (E.hv k) r.t r.l g → B.new g)
    (hFA : ∀ b, B.FA b → E.F b) (hF' : ∀ b, E.F b → B.FA b ∨ B.new b) (hFAlt : ∀ b, B.FA b → b < B.w0.heap.size ∧ ¬ B.M b)
    (hos : w'.os = B.w0.os) (htape : w'.tape = B.w0.tape) (hout : w'.output = B.w0.output) (hgrown : B.w0.heap.size ≤ w'.heap.size)
    (hframe : ∀ b, b < B.w0.heap.size → ¬ B.M b → w'.heap[b]? = B.w0.heap[b]?) (htab : TabOk B.w0 B.FA) : Sim B S E a' w' := by
  have L : E.le w w' E := ⟨fun _ h => h, fun _ _ => rfl, fun _ _ => rfl, fun _ _ => rfl, fun _ h => h, hF⟩
  exact
  { defers := hd
    size := by rw [ha, hn]; exact h.size
    tmps := fun t x hx => ⟨by rw [hn]; exact (h.tmps t x hx).1, by rw [ha]; exact (h.tmps t x hx).2.mono L⟩
    boxU := h.boxU
    boxes := fun b cs hb => by
      obtain ⟨us, e, h0, h1⟩ := h.boxes b cs hb
      exact ⟨us, e, by rw [hB b cs hb]; exact h0, h1.mono L⟩
    boxNew := fun b cs hb => ⟨hnB b cs hb, (h.boxNew b cs hb).2⟩
    boxInj := h.boxInj
    rowU := h.rowU
    rows := fun k r hk => (h.rows k r hk).mono L fun ho g hg => hR k r g hk ho hg
    rowNew := fun k r g hk ho hg => by
      have back : ∀ k' r' , S.rows k' = some r' → r'.own = true → OwnB w' (E.hv k') r'.t r'.l g → OwnB w (E.hv k') r'.t r'.l g := fun k' r' hk' ho' hg' =>
        (OwnB.world fun g hg => hR k' r' g hk' ho' (.inl hg)).1 hg'
      obtain ⟨h0, h1, h2, h3⟩ := h.rowNew k r g hk ho (back k r hk ho hg)
      exact ⟨hnR k r g hk ho (back k r hk ho hg), h1, h2, fun k' r' hk' ho' hg' => h3 k' r' hk' ho' (back k' r' hk' ho' hg')⟩
    FA := hFA
    F := fun b hb => ⟨hF' b hb, Nat.lt_of_lt_of_le (h.F b hb).2 hsz⟩
    FAlt := hFAlt
    os := hos
    tape := htape
    output := hout
    grown := hgrown
    frame := hframe
    tab := htab }

/-- One base is a later one than another. -/
structure Ext0 (B B2 : Base) : Prop where
  n : B2.n = B.n
  size : B.w0.heap.size ≤ B2.w0.heap.size
  M : ∀ b, B2.M b → B.new b
  FA : ∀ b, B.FA b → B2.FA b
  FA' : ∀ b, B2.FA b → B.FA b ∨ B.new b
  os : B2.w0.os = B.w0.os
  tape : B2.w0.tape = B.w0.tape
  output : B2.w0.output = B.w0.output
  frame : ∀ b, b < B.w0.heap.size → ¬ B.M b → B2.w0.heap[b]? = B.w0.heap[b]?
structure Ext (B B2 : Base) : Prop extends Ext0 B B2 where
  dfs : ∃ Ds : List Nat, B2.dfs = Ds.map mark ++ B.dfs ∧ Ds.Nodup ∧ ∀ D ∈ Ds, B.w0.heap.size ≤ D ∧ D < B2.w0.heap.size ∧ ¬ B2.M D ∧ ¬ B2.FA D ∧ B2.w0.heap[D]? = some (.deferred (some []))

theorem Ext0.new (x : Ext0 B B2) {b : Nat} (h : B2.new b) : B.new b := h.elim (fun h => .inl (Nat.le_trans x.size h)) (x.M b)
theorem Ext0.old (x : Ext0 B B2) {b : Nat} (h : b < B.w0.heap.size) (hm : ¬ B.M b) : ¬ B2.M b := fun h2 => (x.M b h2).elim (fun h3 => by omega) hm
theorem Ext0.refl : Ext0 B B := ⟨rfl, Nat.le_refl _, fun b h => .inr h, fun _ h => h, fun _ h => .inl h, rfl, rfl, rfl, fun _ _ _ => rfl⟩
theorem Ext.refl : Ext B B := { Ext0.refl with dfs := ⟨[], rfl, List.nodup_nil, fun D h => by cases h⟩ }
theorem Ext0.trans (x : Ext0 B B1) (y : Ext0 B1 B2) : Ext0 B B2 where
  n := y.n.trans x.n
  size := Nat.le_trans x.size y.size
  M := fun b h => x.new (y.M b h)
  FA := fun b h => y.FA b (x.FA b h)
  FA' := fun b h => (y.FA' b h).elim (x.FA' b) fun h => .inr (x.new h)
  os := y.os.trans x.os
  tape := y.tape.trans x.tape
  output := y.output.trans x.output
  frame := fun b hb hm => (y.frame b (Nat.lt_of_lt_of_le hb x.size) (x.old hb hm)).trans (x.frame b hb hm)
theorem Ext.trans (x : Ext B B1) (y : Ext B1 B2) : Ext B B2 :=
  { x.toExt0.trans y.toExt0 with
    dfs := by
      obtain ⟨Ds, e1, n1, h1⟩ := x.dfs
      obtain ⟨Es, e2, n2, h2⟩ := y.dfs
      refine ⟨Es ++ Ds, by rw [e2, e1, List.map_append, List.append_assoc], List.nodup_append.2 ⟨n2, n1, fun a ha b hb e => ?_⟩, fun D hD => ?_⟩
      · subst e
        have := (h2 _ ha).1
        have := (h1 _ hb).2.1
        omega
      · rcases List.mem_append.1 hD with hD | hD
        · obtain ⟨q1, q2⟩ := h2 D hD
          exact ⟨Nat.le_trans x.size q1, q2⟩
        · obtain ⟨q1, q2, q3, q4, q5⟩ := h1 D hD
          exact ⟨q1, Nat.lt_of_lt_of_le q2 y.size, y.toExt0.old q2 q3, fun h => (y.FA' D h).elim q4 fun h => h.elim (fun h => by omega) q3, (y.frame D q2 q3).trans q5⟩ }

/-- Back to the elder base. -/
theorem Sim.unbase (h : Sim B2 S E a w) (x : Ext0 B B2) (hF : ∀ b, B.FA b → b < B.w0.heap.size ∧ ¬ B.M b) (ht : TabOk B.w0 B.FA) {a' : Act} (ha : a'.tmps = a.tmps) (hd : a'.defers = B.dfs) : Sim B S E a' w :=
  h.base ha hd x.n.symm (Nat.le_refl _) (fun _ _ => rfl) (fun _ _ _ => rfl) (fun _ _ _ _ _ _ => rfl) (fun b cs hb => x.new (h.boxNew b cs hb).1) (fun k r g hk ho hg => x.new (h.rowNew k r g hk ho hg).1)
    (fun b hb => h.FA b (x.FA b hb)) (fun b hb => ((h.F b hb).1).elim (x.FA' b) fun h => .inr (x.new h)) hF (h.os.trans x.os) (h.tape.trans x.tape) (h.output.trans x.output) (Nat.le_trans x.size h.grown)
    (fun b hb hm => (h.frame b (Nat.lt_of_lt_of_le hb x.size) (x.old hb hm)).trans (x.frame b hb hm)) ht

/-- The blocks that a state names. -/
def Named (S : St) (E : Env) (w : World) (g : Nat) : Prop := (∃ b cs, S.boxes b = some cs ∧ E.β b = g) ∨ (∃ k r, S.rows k = some r ∧ r.own = true ∧ OwnB w (E.hv k) r.t r.l g)
def Base.at_ (n : Nat) (S : St) (E : Env) (w : World) (d : List Deferred) (w' : World) : Base := ⟨w', E.F, Named S E w, n, d⟩
theorem Sim.named (h : Sim B S E a w) {g : Nat} (hg : Named S E w g) : B.new g ∧ ¬ E.F g ∧ g < w.heap.size := by
  rcases hg with ⟨b, cs, hb, rfl⟩ | ⟨k, r, hk, ho, hg⟩
  · exact ⟨(h.boxNew b cs hb).1, (h.boxNew b cs hb).2, h.lt_box hb⟩
  · obtain ⟨h0, h1, _⟩ := h.rowNew k r g hk ho hg
    exact ⟨h0, h1, h.lt_row hk ho hg⟩
/-- A base of its own, in a world that has gone on outside. -/
theorem Sim.rebase (h : Sim B S E a w) (d : List Deferred) {w' : World} (hsz : w.heap.size ≤ w'.heap.size) (hos : w'.os = w.os) (htape : w'.tape = w.tape) (hout : w'.output = w.output)
    (hh : ∀ b, b < w.heap.size → (E.F b ∨ Named S E w b) → w'.heap[b]? = w.heap[b]?) : Sim (Base.at_ B.n S E w d w') S E { a with defers := d } w' :=
  h.base rfl rfl rfl hsz (fun b hb => hh b (h.F b hb).2 (.inl hb)) (fun b cs hb => hh _ (h.lt_box hb) (.inr (.inl ⟨b, cs, hb, rfl⟩))) (fun k r g hk ho hg => hh g (h.lt_row hk ho hg) (.inr (.inr ⟨k, r, hk, ho, hg⟩)))
    (fun b cs hb => .inr (.inl ⟨b, cs, hb, rfl⟩)) (fun k r g hk ho hg => .inr (.inr ⟨k, r, hk, ho, hg⟩)) (fun b hb => hb) (fun b hb => .inl hb)
    (fun b hb => ⟨Nat.lt_of_lt_of_le (h.F b hb).2 hsz, fun hm => (h.named hm).2.1 hb⟩) rfl rfl rfl (Nat.le_refl _) (fun _ _ _ => rfl) (fun q hq => by
      obtain ⟨q1, q2⟩ := h.tabNow (F := E.F) (fun _ h => h) q hq
      exact ⟨q1, fun i v hv => by rw [← q2 i v hv]; exact World.cell?_of_block (hh _ (h.F _ q1).2 (.inl q1))⟩)
theorem Sim.rebase_ext (h : Sim B S E a w) (d : List Deferred) {w' : World} (hsz : w.heap.size ≤ w'.heap.size) (hos : w'.os = w.os) (htape : w'.tape = w.tape) (hout : w'.output = w.output)
    (hh : ∀ b, b < B.w0.heap.size → ¬ B.M b → w'.heap[b]? = w.heap[b]?) : Ext0 B (Base.at_ B.n S E w d w') where
  n := rfl
  size := Nat.le_trans h.grown hsz
  M := fun b hb => (h.named hb).1
  FA := h.FA
  FA' := fun b hb => (h.F b hb).1
  os := hos.trans h.os
  tape := htape.trans h.tape
  output := hout.trans h.output
  frame := fun b hb hm => (hh b hb hm).trans (h.frame b hb hm)

/-- One block that the state does not name is another one. -/
def Base.putObj (B : Base) (l : Nat) (o : Obj) : Base := { B with w0 := B.w0.putObj l o }
theorem Ext0.putObj (x : Ext0 B B2) {l : Nat} {o : Obj} (hl : l < B.w0.heap.size) (hm : ¬ B.M l) (hf : ¬ B.FA l) : Ext0 (B.putObj l o) (B2.putObj l o) where
  n := x.n
  size := by show (B.w0.putObj l o).heap.size ≤ (B2.w0.putObj l o).heap.size; rw [World.putObj_size, World.putObj_size]; exact x.size
  M := fun b hb => (x.M b hb).imp (fun h => by show (B.w0.putObj l o).heap.size ≤ b; rw [World.putObj_size]; exact h) id
  FA := x.FA
  FA' := fun b hb => (x.FA' b hb).imp id fun h => h.imp (fun h => by show (B.w0.putObj l o).heap.size ≤ b; rw [World.putObj_size]; exact h) id
  os := x.os
  tape := x.tape
  output := x.output
  frame := fun b hb hm' => by
    have hb : b < B.w0.heap.size := by have : b < (B.w0.putObj l o).heap.size := hb; rwa [World.putObj_size] at this
    show (B2.w0.putObj l o).heap[b]? = (B.w0.putObj l o).heap[b]?
    by_cases e : b = l
    · subst e
      rw [World.putObj_heap_same (Nat.lt_of_lt_of_le hl x.size), World.putObj_heap_same hl]
    · rw [World.putObj_heap_other e, World.putObj_heap_other e]; exact x.frame b hb hm'
theorem Ext0.putR (x : Ext0 B B2) {l : Nat} {o : Obj} (hl : B.w0.heap.size ≤ l) : Ext0 B (B2.putObj l o) where
  n := x.n
  size := by show _ ≤ (B2.w0.putObj l o).heap.size; rw [World.putObj_size]; exact x.size
  M := x.M
  FA := x.FA
  FA' := x.FA'
  os := x.os
  tape := x.tape
  output := x.output
  frame := fun b hb hm => by
    show (B2.w0.putObj l o).heap[b]? = _
    rw [World.putObj_heap_other (by omega)]; exact x.frame b hb hm
theorem Sim.putObj (h : Sim B S E a w) {l : Nat} (o : Obj) (hl : l < B.w0.heap.size) (hm : ¬ B.M l) (hf : ¬ B.FA l) : Sim (B.putObj l o) S E a (w.putObj l o) := by
  have hne : ∀ b, B.new b → b ≠ l := fun b hb e => by subst e; exact hb.elim (fun h => by omega) hm
  have hsz : (B.w0.putObj l o).heap.size = B.w0.heap.size := World.putObj_size
  refine h.base rfl h.defers rfl (by rw [World.putObj_size]; exact Nat.le_refl _) (fun b hb => World.putObj_heap_other fun e => ?_) (fun b cs hb => World.putObj_heap_other (hne _ (h.boxNew b cs hb).1)) (fun k r g hk ho hg => World.putObj_heap_other (hne _ (h.rowNew k r g hk ho hg).1))
    (fun b cs hb => ?_) (fun k r g hk ho hg => ?_) h.FA (fun b hb => ?_) (fun b hb => ?_) h.os h.tape h.output (by rw [World.putObj_size]; show (B.w0.putObj l o).heap.size ≤ _; rw [hsz]; exact h.grown) (fun b hb hm' => ?_) (fun q hq => ?_)
  · subst e
    exact ((h.F b hb).1).elim hf fun hn => hne b hn rfl
  · exact ((h.boxNew b cs hb).1).imp (fun h => by show (B.w0.putObj l o).heap.size ≤ _; rw [hsz]; exact h) id
  · exact ((h.rowNew k r g hk ho hg).1).imp (fun h => by show (B.w0.putObj l o).heap.size ≤ _; rw [hsz]; exact h) id
  · exact ((h.F b hb).1).imp id fun h => h.imp (fun h => by show (B.w0.putObj l o).heap.size ≤ _; rw [hsz]; exact h) id
  · obtain ⟨q1, q2⟩ := h.FAlt b hb
    exact ⟨by show b < (B.w0.putObj l o).heap.size; rw [hsz]; exact q1, q2⟩
  · have hb : b < B.w0.heap.size := by have : b < (B.w0.putObj l o).heap.size := hb; rwa [hsz] at this
    show (w.putObj l o).heap[b]? = (B.w0.putObj l o).heap[b]?
    by_cases e : b = l
    · subst e
      rw [World.putObj_heap_same hl, World.putObj_heap_same (Nat.lt_of_lt_of_le hl h.grown)]
    · rw [World.putObj_heap_other e, World.putObj_heap_other e]; exact h.frame b hb hm'
  · obtain ⟨q1, q2⟩ := h.tab q hq
    refine ⟨q1, fun i v hv => ?_⟩
    rw [← q2 i v hv]
    exact World.cell?_of_block (World.putObj_heap_other fun e => hf (by rw [← e]; exact q1))

/-- What a temporary holds that no round changes stands. -/
theorem constAV_ok {x : Option AV} {av : AV} (h : constAV x = some av) : x = some av ∧ ∀ {w w' : World} {E E' : Env} {u : Value}, (∀ b, E.F b → E'.F b) → (∀ b, E.F b → w'.heap[b]? = w.heap[b]?) → AVr w E av u → AVr w' E' av u := by
  unfold constAV at h
  split at h
  · cases h
    exact ⟨rfl, fun hF hw hu => ⟨hu.1, Enc.mono hF hw (fun _ _ => rfl) hu.2⟩⟩
  · rename_i l
    split at h
    · rename_i hl
      cases h
      refine ⟨rfl, fun {w w' E E' u} hF hw hu => ?_⟩
      obtain ⟨us, rfl, hlen, hus⟩ := hu
      refine ⟨us, rfl, hlen, fun j c v hc hv => ?_⟩
      have hc' : ∃ t x, c = .v t x := by
        clear hus hlen
        have hm := List.mem_of_getElem? hc
        clear hc hv
        induction l with
        | nil => cases hm
        | cons d l ih =>
          cases d with
          | v t x =>
            rcases List.mem_cons.1 hm with rfl | hm
            · exact ⟨t, x, rfl⟩
            · exact ih (by simpa only [allV] using hl) hm
          | _ => simp [allV] at hl
      obtain ⟨t, x, rfl⟩ := hc'
      have := hus j _ v hc hv
      exact ⟨this.1, Enc.mono hF hw (fun _ _ => rfl) this.2⟩
    · cases h
  · cases h

end
end Go.Proofs.YtmbmapbdbbnaeaaT

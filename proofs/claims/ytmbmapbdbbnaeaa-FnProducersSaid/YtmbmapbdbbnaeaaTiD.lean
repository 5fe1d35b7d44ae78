/- What the value semantics' states mean in memory. -/
import Derived.Test.YtmbmapbdbbnaeaaTiC
import Derived.Laws.Sem
import Derived.Laws.Cells
import Derived.Laws.CopyRow
import Derived.Laws.AppendOwn
import Derived.Laws.Entries
set_option linter.unusedVariables false
set_option linter.unusedSimpArgs false
namespace Go.Proofs.YtmbmapbdbbnaeaaT
open Go

theorem beq_nat {a b : Nat} : Nat.beq a b = true ↔ a = b := ⟨Nat.eq_of_beq_eq_true, fun h => by subst h; exact Nat.beq_refl a⟩
theorem beq_nat' {a b : Nat} : Nat.beq a b = false ↔ a ≠ b := ⟨Nat.ne_of_beq_eq_false, fun h => by cases e : Nat.beq a b with
  | false => rfl
  | true => exact absurd (beq_nat.1 e) h⟩

/-- A value of a type, read off cells; rows lie in blocks of F. -/
def Enc (w : World) (F : Nat → Prop) : (t : Ty) → t.T → (Nat → Option Value) → Prop
  | .unit, _, _ => True
  | .int k, n, g => g 0 = some (.int k n)
  | .bool, b, g => g 0 = some (.bool b)
  | .str, s, g => g 0 = some (.string s)
  | .row t, l, g => ∃ a c, g 0 = some (.slice a (List.length l) c) ∧ List.length l ≤ c ∧
      (List.length l = 0 ∨ ∃ ad : Addr, a = some ad ∧ ad.spot = none ∧ F ad.block ∧
        ∀ i x, l[i]? = some x → Enc w F t x (fun j => w.cell? ⟨ad.block, ad.off + (i * t.size + j), none⟩))
  | .pair a b, x, g => Enc w F a x.1 g ∧ Enc w F b x.2 (fun j => g (a.size + j))
  | .deep _ t, x, g => Enc w F t x g
  | .dead, _, g => ∃ u, g 0 = some u ∧ u.oneCell' = true
  | .part t, _, g => ∀ j, j < t.size → ∃ u, g j = some u ∧ u.oneCell' = true

theorem Enc.mono {w w' : World} {F F' : Nat → Prop} (hF : ∀ b, F b → F' b) (hw : ∀ b, F b → w'.heap[b]? = w.heap[b]?) :
    ∀ {t : Ty} {x : t.T} {g g' : Nat → Option Value}, (∀ j, j < t.size → g' j = g j) → Enc w F t x g → Enc w' F' t x g'
  | .unit, _, _, _, _, _ => trivial
  | .int k, n, g, g', hg, h => by simp only [Enc] at h ⊢; rw [hg 0 (by simp [Ty.size])]; exact h
  | .bool, n, g, g', hg, h => by simp only [Enc] at h ⊢; rw [hg 0 (by simp [Ty.size])]; exact h
  | .str, n, g, g', hg, h => by simp only [Enc] at h ⊢; rw [hg 0 (by simp [Ty.size])]; exact h
  | .row t, l, g, g', hg, h => by
    simp only [Enc] at h ⊢
    obtain ⟨a, c, h0, hc, h1⟩ := h
    refine ⟨a, c, by rw [hg 0 (by simp [Ty.size])]; exact h0, hc, ?_⟩
    rcases h1 with h1 | ⟨ad, ha, hs, hb, h2⟩
    · exact .inl h1
    · refine .inr ⟨ad, ha, hs, hF _ hb, fun i x hi => Enc.mono hF hw (fun j _ => ?_) (h2 i x hi)⟩
      exact World.cell?_of_block (hw _ hb)
  | .pair a b, x, g, g', hg, h => by
    simp only [Enc] at h ⊢
    exact ⟨Enc.mono hF hw (fun j hj => hg j (by simp only [Ty.size]; omega)) h.1, Enc.mono hF hw (fun j hj => hg _ (by simp only [Ty.size]; omega)) h.2⟩
  | .deep _ t, x, g, g', hg, h => by
    simp only [Enc] at h ⊢
    exact Enc.mono hF hw (fun j hj => hg j (by simp only [Ty.size]; exact hj)) h
  | .dead, _, g, g', hg, h => by simp only [Enc] at h ⊢; rw [hg 0 (by simp [Ty.size])]; exact h
  | .part t, _, g, g', hg, h => by
    simp only [Enc] at h ⊢
    exact fun j hj => by rw [hg j hj]; exact h j hj

theorem Enc.congr {w : World} {F : Nat → Prop} {t : Ty} {x : t.T} {g g' : Nat → Option Value} (hg : ∀ j, j < t.size → g' j = g j) (h : Enc w F t x g) : Enc w F t x g' :=
  Enc.mono (fun _ h => h) (fun _ _ => rfl) hg h

/-- One value. -/
def Val (w : World) (F : Nat → Prop) (t : Ty) (x : t.T) (u : Value) : Prop := Enc w F t x (fun _ => some u)

/-- A row that may be written: its block is a row of its own. -/
def Owned (w : World) (sz : Nat) (v : Value) (n : Nat) (xs : List Value) : Prop :=
  xs.length = n * sz ∧ ((v = .slice none 0 0 ∧ n = 0) ∨
    ∃ g cap cur e, v = .slice (some ⟨g, 0, none⟩) n cap ∧ w.heap[g]? = some (.cells cur e (0, 0)) ∧ n ≤ cap ∧ cap ≤ maxLen ∧ cur.size = cap * sz ∧ cur.toList.take (n * sz) = xs)
def EncL (w : World) (F : Nat → Prop) (t : Ty) (l : List t.T) (xs : List Value) : Prop :=
  ∀ i x, l[i]? = some x → Enc w F t x (fun j => xs[i * t.size + j]?)

theorem EncL.mono {w w' : World} {F F' : Nat → Prop} (hF : ∀ b, F b → F' b) (hw : ∀ b, F b → w'.heap[b]? = w.heap[b]?) {t : Ty} {l : List t.T} {xs : List Value}
    (h : EncL w F t l xs) : EncL w' F' t l xs := fun i x hi => Enc.mono hF hw (fun _ _ => rfl) (h i x hi)

/-- One cell of a deep row: a plain value, or a row whose block is the deep row's. -/
def Kid (w : World) (c : AC) (v : Value) : Prop := match c with
  | .v (.row u) m => u.hasRow = false ∧ ∃ ys, Owned w u.size v (List.length m) ys ∧ EncL w (fun _ => False) u m ys
  | .v t x => t.hasRow = false ∧ t.cell = true ∧ Val w (fun _ => False) t x v
  | _ => False
def cellsL (t : Ty) (l : List t.T) : List AC := (l.map (flat t)).flatten
/-- The place of a note. -/
def notePos (t : Ty) (h : Option Note) : Option Nat := match h with
  | some n => some (n.i.toNat * t.size + n.o)
  | none => none
def lentPos (t : Ty) (h : Option Note) : Option Nat := match h with
  | some ⟨true, i, o, _⟩ => some (i.toNat * t.size + o)
  | _ => none
/-- A deep row's cells. -/
structure Kids (w : World) (U : Nat → Prop) (hv : Nat → Value) (h : Option Note) (t : Ty) (l : List t.T) (xs : List Value) (v : Value) : Prop where
  one : t.one = true
  kid : ∀ (j : Nat) c u, (cellsL t l)[j]? = some c → xs[j]? = some u → lentPos t h ≠ some j → Kid w c u
  note : ∀ n, h = some n → U n.m ∧ n.i.toNat < l.length ∧ n.o < t.size ∧ xs[n.i.toNat * t.size + n.o]? = some (hv n.m) ∧ (hv n.m).oneCell' = true ∧ ∃ u m, (cellsL t l)[n.i.toNat * t.size + n.o]? = some (.v (.row u) m)
  inj : ∀ (j j' : Nat) u u' g, xs[j]? = some u → xs[j']? = some u' → lentPos t h ≠ some j → lentPos t h ≠ some j' → u.ownBlock = some g → u'.ownBlock = some g → j = j'
  out : ∀ (j : Nat) u g, xs[j]? = some u → lentPos t h ≠ some j → u.ownBlock = some g → v.ownBlock ≠ some g
/-- An element is there. -/
def Still {α : Type} (l : List (Bool × α)) (i : Nat) : Prop := ∃ x, l[i]? = some (true, x)
/-- The cells of a row of which some elements are gone. -/
structure KidsP (w : World) (t : Ty) (l : List (Bool × t.T)) (xs : List Value) (v : Value) : Prop where
  one : t.one = true
  cell : ∀ u ∈ xs, u.oneCell' = true
  kid : ∀ (j : Nat) c u, (cellsL t (l.map (·.2)))[j]? = some c → xs[j]? = some u → Still l (j / t.size) → Kid w c u
  inj : ∀ (j j' : Nat) u u' g, xs[j]? = some u → xs[j']? = some u' → Still l (j / t.size) → Still l (j' / t.size) → u.ownBlock = some g → u'.ownBlock = some g → j = j'
  out : ∀ (j : Nat) u g, xs[j]? = some u → Still l (j / t.size) → u.ownBlock = some g → v.ownBlock ≠ some g
def Body (w : World) (U : Nat → Prop) (hv : Nat → Value) (F : Nat → Prop) : (t : Ty) → List t.T → List Value → Value → Prop
  | .deep h t, l, xs, v => Kids w U hv h t l xs v
  | .part t, l, xs, v => KidsP w t l xs v
  | t, l, xs, _ => EncL w F t l xs
/-- The cells of a row of its own. -/
def kids (w : World) (v : Value) (sz : Nat) : List Value := match v with
  | .slice (some ⟨g, 0, none⟩) n _ => match w.heap[g]? with
    | some (.cells cur _ _) => cur.toList.take (n * sz)
    | _ => []
  | _ => []
/-- The blocks of a row. -/
def InX : (t : Ty) → List t.T → List Value → Nat → Prop
  | .deep h t, _, xs, g => ∃ (j : Nat) (u : Value), xs[j]? = some u ∧ lentPos t h ≠ some j ∧ u.ownBlock = some g
  | .part t, l, xs, g => ∃ (j : Nat) (u : Value), xs[j]? = some u ∧ Still l (j / t.size) ∧ u.ownBlock = some g
  | _, _, _, _ => False
def OwnB (w : World) (v : Value) (t : Ty) (l : List t.T) (g : Nat) : Prop := v.ownBlock = some g ∨ InX t l (kids w v t.size) g

/-- What numbers stand for. -/
structure Env where
  U : Nat → Prop
  β : Nat → Nat
  hv : Nat → Value
  sz : Nat → Nat
  F : Nat → Prop

def ACr (w : World) (E : Env) : AC → Value → Prop
  | .v t x, u => t.cell = true ∧ Val w E.F t x u
  | .own k, u => E.U k ∧ u = E.hv k ∧ u.oneCell' = true
  | .nil, u => u = .slice none 0 0
  | .ptr b o, u => E.U b ∧ u = .pointer (some ⟨E.β b, o, none⟩)
  | .eS t x o, u => ∃ b f, u = .pointer (some ⟨b, f + o, none⟩) ∧ E.F b ∧ Enc w E.F t x (fun j => w.cell? ⟨b, f + j, none⟩)
  | .eO k i o, u => E.U k ∧ ∃ g n c, E.hv k = .slice (some ⟨g, 0, none⟩) n c ∧ 0 ≤ i ∧ i < (n : Int) ∧ u = .pointer (some ⟨g, i.toNat * E.sz k + o, none⟩)
  | .inn _ m s, u => E.U m ∧ u = E.hv m ∧ u.oneCell' = true ∧ E.sz m = s
  | .sub k lo hi, u => E.U k ∧ ∃ p n c, E.hv k = .slice p n c ∧ 0 ≤ lo ∧ lo ≤ hi ∧ hi ≤ (c : Int) ∧ u = .slice (if c = lo.toNat then p else p.map (·.add (lo.toNat * E.sz k))) (hi.toNat - lo.toNat) (c - lo.toNat)
  | .ownR k m, u => E.U k ∧ u = E.hv k ∧ ∃ p n c, u = .slice p n c ∧ m ≤ (c : Int)

/-- Cells, one by one. -/
def ACs (w : World) (E : Env) (cs : List AC) (us : List Value) : Prop := cs.length = us.length ∧ ∀ (j : Nat) c u, cs[j]? = some c → us[j]? = some u → ACr w E c u
def AWr (w : World) (E : Env) : AW → Value → Prop
  | .c x, u => ACr w E x u
  | .agg l, u => ∃ us : List Value, u = .agg us.toArray ∧ ACs w E l us
def AWs (w : World) (E : Env) (ws : List AW) (us : List Value) : Prop := ws.length = us.length ∧ ∀ (j : Nat) c u, ws[j]? = some c → us[j]? = some u → AWr w E c u
def AVr (w : World) (E : Env) : AV → Value → Prop
  | .w x, u => AWr w E x u
  | .tup l, u => ∃ us : List Value, u = .tuple us.toArray ∧ AWs w E l us
  | .fn f l, u => ∃ us : List Value, u = .func (.func f) #[] us.toArray ∧ AWs w E l us
  | .undef, u => u = undef
  | .any, _ => True

/-- What stood stands. -/
structure Env.le (w : World) (E : Env) (w' : World) (E' : Env) : Prop where
  U : ∀ k, E.U k → E'.U k
  β : ∀ k, E.U k → E'.β k = E.β k
  hv : ∀ k, E.U k → E'.hv k = E.hv k
  sz : ∀ k, E.U k → E'.sz k = E.sz k
  F : ∀ b, E.F b → E'.F b
  heap : ∀ b, E.F b → w'.heap[b]? = w.heap[b]?

theorem Env.le.refl (w : World) (E : Env) : E.le w w E := ⟨fun _ h => h, fun _ _ => rfl, fun _ _ => rfl, fun _ _ => rfl, fun _ h => h, fun _ _ => rfl⟩
theorem Env.le.trans {w w' w'' : World} {E E' E'' : Env} (h : E.le w w' E') (k : E'.le w' w'' E'') : E.le w w'' E'' :=
  ⟨fun x hx => k.U _ (h.U _ hx), fun x hx => (k.β _ (h.U _ hx)).trans (h.β _ hx), fun x hx => (k.hv _ (h.U _ hx)).trans (h.hv _ hx), fun x hx => (k.sz _ (h.U _ hx)).trans (h.sz _ hx),
    fun x hx => k.F _ (h.F _ hx), fun x hx => (k.heap _ (h.F _ hx)).trans (h.heap _ hx)⟩

section
variable {w w' : World} {E E' : Env}
theorem ACr.mono (L : E.le w w' E') : ∀ {c : AC} {u : Value}, ACr w E c u → ACr w' E' c u
  | .v t x, u, h => ⟨h.1, Enc.mono L.F L.heap (fun _ _ => rfl) h.2⟩
  | .own k, u, h => ⟨L.U _ h.1, by rw [L.hv _ h.1]; exact h.2.1, h.2.2⟩
  | .nil, u, h => h
  | .ptr b o, u, h => ⟨L.U _ h.1, by rw [L.β _ h.1]; exact h.2⟩
  | .eS t x o, u, h => by
    obtain ⟨b, f, h0, h1, h2⟩ := h
    exact ⟨b, f, h0, L.F _ h1, Enc.mono L.F L.heap (fun j _ => World.cell?_of_block (L.heap _ h1)) h2⟩
  | .eO k i o, u, h => by
    obtain ⟨hu, g, n, c, h0, h1, h2, h3⟩ := h
    exact ⟨L.U _ hu, g, n, c, by rw [L.hv _ hu]; exact h0, h1, h2, by rw [L.sz _ hu]; exact h3⟩
  | .inn k m s, u, h => ⟨L.U _ h.1, by rw [L.hv _ h.1]; exact h.2.1, h.2.2.1, by rw [L.sz _ h.1]; exact h.2.2.2⟩
  | .sub k lo hi, u, h => ⟨L.U _ h.1, by rw [L.hv _ h.1, L.sz _ h.1]; exact h.2⟩
  | .ownR k m, u, h => ⟨L.U _ h.1, by rw [L.hv _ h.1]; exact h.2⟩
theorem ACs.mono (L : E.le w w' E') {cs : List AC} {us : List Value} (h : ACs w E cs us) : ACs w' E' cs us := ⟨h.1, fun j c u hc hu => (h.2 j c u hc hu).mono L⟩
theorem AWr.mono (L : E.le w w' E') : ∀ {c : AW} {u : Value}, AWr w E c u → AWr w' E' c u
  | .c x, u, h => ACr.mono L h
  | .agg l, u, ⟨us, h0, h1⟩ => ⟨us, h0, h1.mono L⟩
theorem AWs.mono (L : E.le w w' E') {cs : List AW} {us : List Value} (h : AWs w E cs us) : AWs w' E' cs us := ⟨h.1, fun j c u hc hu => (h.2 j c u hc hu).mono L⟩
theorem AVr.mono (L : E.le w w' E') : ∀ {c : AV} {u : Value}, AVr w E c u → AVr w' E' c u
  | .w x, u, h => AWr.mono L h
  | .tup l, u, ⟨us, h0, h1⟩ => ⟨us, h0, h1.mono L⟩
  | .fn f l, u, ⟨us, h0, h1⟩ => ⟨us, h0, h1.mono L⟩
  | .undef, u, h => h
  | .any, u, h => trivial
end

/-- What the call began with. -/
structure Base where
  w0 : World
  FA : Nat → Prop
  M : Nat → Prop
  n : Nat
  /-- the marks of the ranges over functions that are behind -/
  dfs : List Deferred

/-- A block that this call may write. -/
def Base.new (B : Base) (b : Nat) : Prop := B.w0.heap.size ≤ b ∨ B.M b

def RowIs (w : World) (E : Env) (v : Value) (sz : Nat) (r : RowSt) : Prop :=
  sz = r.t.size ∧ True ∧
  match r.own with
  | true => ∃ xs, Owned w sz v r.l.length xs ∧ Body w E.U E.hv E.F r.t r.l xs v
  | false => (∃ g n c, v = .slice (some ⟨g, 0, none⟩) n c ∨ v = .slice none n c) ∧ Enc w E.F (.row r.t) r.l (fun _ => some v)

/-- The tables stand where they are told to stand. -/
def TabOk (w : World) (F : Nat → Prop) : Prop := ∀ q ∈ TAB, F q.1 ∧ ∀ (i : Nat) (v : Int), q.2.2[i]? = some v → w.cell? ⟨q.1, i, none⟩ = some (.int q.2.1 v)

structure Sim (B : Base) (S : St) (E : Env) (a : Act) (w : World) : Prop where
  defers : a.defers = B.dfs
  size : a.tmps.size = B.n
  tmps : ∀ t av, S.tmps t = some av → t < B.n ∧ AVr w E av (a.tmps.getD t undef)
  boxU : ∀ b cs, S.boxes b = some cs → E.U b
  boxes : ∀ b cs, S.boxes b = some cs → ∃ us e, w.heap[E.β b]? = some (.cells us e (0, 0)) ∧ ACs w E cs us.toList
  boxNew : ∀ b cs, S.boxes b = some cs → B.new (E.β b) ∧ ¬ E.F (E.β b)
  boxInj : ∀ b b' cs cs', S.boxes b = some cs → S.boxes b' = some cs' → E.β b = E.β b' → b = b'
  rowU : ∀ k r, S.rows k = some r → E.U k
  rows : ∀ k r, S.rows k = some r → RowIs w E (E.hv k) (E.sz k) r
  rowNew : ∀ k r g, S.rows k = some r → r.own = true → OwnB w (E.hv k) r.t r.l g → B.new g ∧ ¬ E.F g ∧ (∀ b cs, S.boxes b = some cs → E.β b ≠ g) ∧
    (∀ k' r', S.rows k' = some r' → r'.own = true → OwnB w (E.hv k') r'.t r'.l g → k' = k)
  FA : ∀ b, B.FA b → E.F b
  F : ∀ b, E.F b → (B.FA b ∨ B.new b) ∧ b < w.heap.size
  FAlt : ∀ b, B.FA b → b < B.w0.heap.size ∧ ¬ B.M b
  os : w.os = B.w0.os
  tape : w.tape = B.w0.tape
  output : w.output = B.w0.output
  grown : B.w0.heap.size ≤ w.heap.size
  frame : ∀ b, b < B.w0.heap.size → ¬ B.M b → w.heap[b]? = B.w0.heap[b]?
  tab : TabOk B.w0 B.FA
theorem Sim.tabNow {B : Base} {S : St} {E : Env} {a : Act} {w : World} (h : Sim B S E a w) {F : Nat → Prop} (hF : ∀ b, E.F b → F b) : TabOk w F := fun q hq => by
  obtain ⟨h1, h2⟩ := h.tab q hq
  refine ⟨hF _ (h.FA _ h1), fun i v hv => ?_⟩
  rw [← h2 i v hv]
  exact World.cell?_of_block (h.frame _ (h.FAlt _ h1).1 (h.FAlt _ h1).2)

end Go.Proofs.YtmbmapbdbbnaeaaT

/- All operations that call no function; what a function's contract says. -/
import Derived.Test.YtmbmapbdbbnaeaaTiM
import Derived.RangeFuncStops
set_option linter.unusedVariables false
set_option linter.unusedSimpArgs false
namespace Go.Proofs.YtmbmapbdbbnaeaaT
open Go

section
variable {P : Program} {B : Base} {S : St} {E : Env} {a : Act} {w : World}

theorem op_all (h : Sim B S E a w) {id : Nat} (hid : ¬ E.U id) {o : Oper} (hn : ∀ c, o.op ≠ .call c) {r : Out} (hb : opB P S id o.op = some r) (hok : r.ok = true) : OpOk P B S E a w id o r.d := by
  generalize ho : o.op = op at hb hn
  cases op with
  | move x => exact (op_move h (.inl ho) hb).2
  | assign x => exact (op_move h (.inr ho) (by rw [← hb]; rfl)).2
  | pick c x y => exact (op_pick h ho hb).2
  | alloc t => exact (op_alloc h ho hid hb).2
  | box t x => exact (op_box h ho hid hb).2
  | build t ps => exact op_build h ho hb hok
  | buildSlice t n ps => exact op_buildSlice h hid ho hb hok
  | load t x => exact (op_load h hid ho hb).2
  | store t x y => exact op_store h ho hb hok
  | nilCheck x => exact op_nilCheck h ho hb hok
  | binOp op t x y u => exact op_binOp h ho hb hok
  | unOp op t x => exact op_unOp h ho hb hok
  | convert s t x => exact op_convert h ho hb hok
  | makeSlice t x y => exact op_makeSlice h hid ho hb hok
  | slice t x lo hi mx => exact op_slice h ho hb hok
  | fieldAddr s x f => exact op_fieldAddr h ho hb hok
  | field s x f => exact op_field h ho hb hok
  | indexAddr t x i => exact op_indexAddr h ho hb hok
  | extract x n => exact op_extract h ho hb hok
  | index t x i => exact op_index h ho hb hok
  | makeFunc f first caps => exact op_makeFunc h ho hb hok
  | call c => exact absurd rfl (hn c)
  | _ => simp only [opB] at hb; cases hb

/-- A temporary that is known already. -/
theorem Sim.know (h : Sim B S E a w) {d : Nat} {av : AV} (hd : d < B.n) (hv : AVr w E av (a.tmps.getD d undef)) : Sim B { S with tmps := upd S.tmps d (some av) } E a w :=
  { h with
    tmps := fun t x hx => by
      rcases upd_cases hx with ⟨rfl, e⟩ | ⟨e, e'⟩
      · cases e; exact ⟨hd, hv⟩
      · exact h.tmps t x e' }

end

/-- The state at a function's start, and at its end: what comes back. -/
def startSt (s : Sig) (x : s.inTy.T) : St := laySt s.lay s.shs (flat s.inTy x) (mkAt 0 s.shs (flat s.inTy x))
def endSt (s : Sig) (y : s.outTy.T) : St := laySt s.outLay s.back (flat s.outTy y) (mkAt 0 s.back (flat s.outTy y))

/-- What is there when the function has returned. -/
def Post (sp : Spec) (y : sp.sig.outTy.T) (w : World) (FA M : Nat → Prop) (E : Env) (e : Ending) (w' : World) : Prop :=
  match sp.boxed with
  | false => ∃ v E', e = .returned v ∧ Sim ⟨w, FA, M, 1, []⟩ (endSt sp.sig y) E' ⟨#[v], []⟩ w' ∧
        (∀ (i j : Nat), (ownIds 0 (keepShs sp.sig.ins))[i]? = some (.own j) → E'.hv ((outShs sp.sig.outs).length + ((refShs sp.sig.ins).length + i)) = E.hv j) ∧
        (∀ (b n : Nat), (b, n) ∈ refBoxes 0 sp.sig.ins → E'.β b = E.β b) ∧ (sp.stay = true → E'.hv (outShs sp.sig.outs).length = E.hv (inShs sp.sig.ins).length)
  | true => (∀ b, ¬ M b) → ∃ (us : Array Value) (t : TypeId) (g : Nat) (E' : Env), e = .returned (.pointer (some ⟨g, 0, none⟩)) ∧ w'.heap[g]? = some (.cells us t (0, 0)) ∧ w.heap.size ≤ g ∧ ¬ E'.F g ∧
        Sim ⟨w, FA, M, 1, []⟩ (endSt sp.sig y) E' ⟨#[.agg us], []⟩ w'
/-- What deleting one element does, over cells. -/
def DelRaw (P : Program) (f : FuncId) (sz : Nat) : Prop :=
  (∃ fn, P.funcs[f]? = some fn ∧ (fn.name == "runtime.NumGoroutine") = false ∧ fn.body.isNone = false) ∧
  ∀ (w : World) (g n cap i : Nat) (cur : Array Value) (e : TypeId), w.heap[g]? = some (.cells cur e (0, 0)) → n ≤ cap → cap ≤ 9223372036854775807 → cur.size = cap * sz → (∀ u ∈ cur.toList.take (n * sz), u.oneCell' = true) → i < n →
    Calls P f #[.slice (some ⟨g, 0, none⟩) n cap, .int .i64 (i : Int), .int .i64 ((i + 1 : Nat) : Int)] w fun e' w' => e' = .returned (.slice (some ⟨g, 0, none⟩) (n - 1) cap) ∧
      w'.os = w.os ∧ w'.tape = w.tape ∧ w'.output = w.output ∧ w'.heap.size = w.heap.size ∧ (∀ b, b ≠ g → w'.heap[b]? = w.heap[b]?) ∧
      ∃ cur' : Array Value, w'.heap[g]? = some (.cells cur' e (0, 0)) ∧ cur'.size = cap * sz ∧ cur'.toList.take ((n - 1) * sz) = (cur.toList.take (n * sz)).take (i * sz) ++ (cur.toList.take (n * sz)).drop ((i + 1) * sz)
/-- What slices.Chunk does, and the function that it gives. -/
def chunkV (p : Option Addr) (j m sz : Nat) : Value := .slice (p.map (·.add (j * sz))) m m
def ChunkRaw (P : Program) (c f : FuncId) (sz : Nat) : Prop :=
  (∃ fn, P.funcs[c]? = some fn ∧ (fn.name == "runtime.NumGoroutine") = false ∧ fn.body.isNone = false) ∧
  (∃ fn, P.funcs[f]? = some fn ∧ (fn.name == "runtime.NumGoroutine") = false ∧ fn.body.isNone = false) ∧
  (∃ t1 t2 : TypeId, ∀ (w : World) (p : Option Addr) (len cap : Nat) (n : Int), 1 ≤ n → n ≤ 65536 → Calls P c #[.slice p len cap, .int .i64 n] w fun e w' =>
    e = .returned (.func (.func f) #[] #[.pointer (some ⟨w.heap.size, 0, none⟩), .pointer (some ⟨w.heap.size + 1, 0, none⟩)]) ∧ w' = (w.alloc (.cells #[.slice p len cap] t1)).alloc (.cells #[.int .i64 n] t2)) ∧
  ∀ (l b1 b2 : Nat) (W : World) (p : Option Addr) (len cap : Nat) (n : Int) (J : Nat → World → Prop) (Jx : World → Prop), 1 ≤ n → n ≤ 65536 → (len : Int) * 8 ≤ 35184372088832 → len ≤ cap →
    (∀ i W, J i W → W.cell? ⟨b1, 0, none⟩ = some (.slice p len cap) ∧ W.cell? ⟨b2, 0, none⟩ = some (.int .i64 n)) →
    (∀ i W, J i W → J i { W with drawn := W.drawn + 1 }) →
    (∀ i W, J i W → i < len → YieldAt Fence.wide 0 P l #[chunkV p i (min n.toNat (len - i)) sz] W fun e W' => (e = .returned (.bool true) ∧ J (i + n.toNat) W') ∨ (e = .returned (.bool false) ∧ Jx W')) →
    J 0 W → CallsIn Fence.wide 0 P f #[.func (.yield l) #[] #[], .pointer (some ⟨b1, 0, none⟩), .pointer (some ⟨b2, 0, none⟩)] W fun e W' => (∃ v, e = .returned v) ∧ ((∃ i, J i W' ∧ len ≤ i) ∨ Jx W')
def Extra (P : Program) (sp : Spec) : Prop := (∀ t, sp.del = some t → DelRaw P sp.sig.f t.size) ∧ ∀ q, sp.chunk = some q → ChunkRaw P sp.sig.f q.1 q.2.size
theorem extra_none {P : Program} {sp : Spec} (h : sp.del = none) (h' : sp.chunk = none) : Extra P sp := ⟨fun t e => (by rw [h] at e; cases e), fun t e => (by rw [h'] at e; cases e)⟩
/-- What a specification promises of a function. -/
def Holds (P : Program) (sp : Spec) : Prop :=
  (∃ fn, P.funcs[sp.sig.f]? = some fn ∧ (fn.name == "runtime.NumGoroutine") = false ∧ fn.body.isNone = false ∧ (sp.boxed = true → boxedOk sp.sig = true)) ∧
  (∀ (k : Nat) (x : sp.sig.inTy.T) (y : sp.sig.outTy.T), sp.fn k x = some y →
    ∀ (w : World) (FA M : Nat → Prop) (E : Env) (args : List Value), (∀ n, E.U n ↔ n < 100000) → Sim ⟨w, FA, M, args.length, []⟩ (startSt sp.sig x) E ⟨args.toArray, []⟩ w →
      Calls P sp.sig.f args.toArray w (Post sp y w FA M E)) ∧ Extra P sp

end Go.Proofs.YtmbmapbdbbnaeaaT

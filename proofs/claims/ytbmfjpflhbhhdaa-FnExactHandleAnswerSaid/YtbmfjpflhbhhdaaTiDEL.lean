/- slices.Delete of one element, over cells: what every such function shares. -/
import Derived.Test.YtbmfjpflhbhhdaaTiAI
import Derived.WalkKit
import Derived.Deep.RegionLaw
import Derived.Lib.SliceRun
set_option linter.unusedVariables false
set_option linter.unusedSimpArgs false
namespace Go.Proofs.YtbmfjpflhbhhdaaT
open Go Go.RowKit Go.Lib

theorem step_append_row {P : Program} {ops : Array Oper} {o : Oper} {a : Act} {w : World} {K : Act → World → Prop} {Q : Exit → Act → World → Prop} {E : Prop}
    (hg : o.guard = none) (s x : Operand) (t : TypeId) (hop : o.op = Op.call { callee := Callee.builtin Builtin.append, args := #[s, x], argTypes := #[t, t] })
    (e e' : TypeId) (i : TypeInfo) (size : Nat) (h1 : P.underlying t = some (.slice e)) (h2 : P.info? e = some i) (h4 : i.size = size)
    (g n cap : Nat) (cur : Array Value) (hc : w.heap[g]? = some (.cells cur e' (0, 0))) (hs : a.eval s = .slice (some ⟨g, 0, none⟩) n cap)
    (ad : Option Addr) (m c : Nat) (news : List Value) (hx : a.eval x = .slice ad m c) (hf : (Builtin.firstCells size m (.slice ad m c)).run P w = .ok news.toArray w) (h1c : ∀ u ∈ news, u.oneCell' = true)
    (hroom : n + m ≤ cap) (hfit : n * size + news.length ≤ cur.size)
    (hK : K (a.put o.dst (.slice (some ⟨g, 0, none⟩) (n + m) cap)) (w.setRow g (cur.toList.take (n * size) ++ news ++ cur.toList.drop (n * size + news.length)).toArray)) :
    if Region.wanted o (yielded ops a.tmps) = true then Oper.wp P o a w K Q else E := by
  have hw : Region.wanted o (yielded ops a.tmps) = true := by simp [Region.wanted, hg]
  rw [if_pos hw]
  subst h4
  have hrun := run_append_room' (P := P) (w := w) t o.type e e' i t h1 h1 h2 g n cap cur hc ad m c news hf h1c hroom hfit
  unfold Oper.wp
  rw [List.append_assoc] at hK hrun
  simp [execOp, hop, resolve, invoke, builtin, hs, hx, hrun, Result.andThen]
  exact hK

theorem run_clear_row {P : Program} (w : World) (t e ty : TypeId) (z : Value) (ht : P.underlying t = some (.slice e)) (hv : ∀ w, (zeroValue e).run P w = .ok z w) (h1 : ∀ u ∈ z.cells.toList, u.oneCell' = true) (g off c : Nat) (cur : Array Value) (e' : TypeId)
    (hg : w.heap[g]? = some (.cells cur e' (0, 0))) (hfit : off + z.cells.size ≤ cur.size) :
    (Builtin.clear_ #[t] ty #[.slice (some ⟨g, off, none⟩) 1 c]).run P w = .ok (.tuple #[]) (w.setRow g (cur.toList.take off ++ z.cells.toList ++ cur.toList.drop (off + z.cells.size)).toArray) := by
  have hzc : (Builtin.zeroCells z.cells 1).toList = z.cells.toList := by
    unfold Builtin.zeroCells
    rw [range_rep]
    simp
  have hst := run_storeCells_at P g off e' z.cells.toList 0 cur w hg (by simpa using hfit) h1
  simp only [Nat.add_zero] at hst
  simp [Builtin.clear_, run_underlying ht, hv, hzc, hst]


def delSig (f : FuncId) (u : Ty) : Sig := ⟨f, [.eat false [.own (.deep none u)], .w false [.int .i64], .w false [.int .i64]], [(false, [.own (.deep none u)])]⟩
theorem del_holds {P : Program} {f : FuncId} {u : Ty} (h : DelRaw P f u.size) : Holds P { sig := delSig f u, fn := fun _ _ => none, del := some u } := by
  obtain ⟨⟨fn, h1, h2, h3⟩, _⟩ := (show DelRaw P f u.size from h)
  exact ⟨⟨fn, h1, h2, h3, fun h => (by cases h)⟩, fun k x y h => (by cases h), fun t e => (by cases e; exact h)⟩
end Go.Proofs.YtbmfjpflhbhhdaaT

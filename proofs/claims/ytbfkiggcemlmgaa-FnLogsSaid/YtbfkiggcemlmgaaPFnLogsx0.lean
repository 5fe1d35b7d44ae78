/- Began as a text of the kit's print over the program with some leaves' bodies turned; those leaves' own parts are the session's. -/
import Derived.Test.YtbfkiggcemlmgaaProg
import Derived.Below
import Derived.Deep.Draws
import Derived.Deep.AppendLies
import Derived.Maps.AppendAt
import Derived.OwnWalk
import Derived.Laws.BytesArg
import Derived.Laws.MakeOwn
import Derived.Laws.OwnMore
import Derived.Deep.OwnRows
import Derived.Tactics
import Derived.Lib.ConvBytes
import Derived.Laws.Slices
import Derived.WalkKit
import Derived.KernelRfl
import Derived.RowKit3
import Derived.Deep.LoopGhost
import Derived.Deep.QuietTactic
import Derived.BigQuiet
import Derived.WideLaws
import Derived.Deep.DeepCutAuto
import Derived.Deep.CutBlock
import Derived.Deep.RegionHeld3
import Derived.Laws.Rows
import Derived.Lib.AppendStr
import Derived.ArgAppend
import Derived.Laws.IdiomCopy
import Derived.OrdersHeld
import Derived.Laws.BitsLemmas
import Derived.RowKit
import Derived.Lib.SliceRun
import Derived.Test.YtbfkiggcemlmgaaWWords
import Derived.Test.YtbfkiggcemlmgaaWLast
import Derived.Test.YtbfkiggcemlmgaaWTab
import Derived.Test.YtbfkiggcemlmgaaWFour
import Derived.Test.YtbfkiggcemlmgaaWQPut
import Derived.Test.YtbfkiggcemlmgaaWApart
import Derived.Test.YtbfkiggcemlmgaaWArr
import Derived.Test.YtbfkiggcemlmgaaWZeros
import Derived.Test.YtbfkiggcemlmgaaWFoot
import Derived.Test.YtbfkiggcemlmgaaWKept
import Derived.Test.YtbfkiggcemlmgaaWShare
import Derived.Test.YtbfkiggcemlmgaaWN
import Derived.Test.YtbfkiggcemlmgaaWFootNe
import Derived.Test.YtbfkiggcemlmgaaWAt
import Derived.Test.YtbfkiggcemlmgaaWEqStruct
import Derived.Test.YtbfkiggcemlmgaaWRepsOne
import Derived.Test.YtbfkiggcemlmgaaWInv
import Derived.Test.YtbfkiggcemlmgaaWInvWords
import Derived.Test.YtbfkiggcemlmgaaWGuard
import Derived.Test.YtbfkiggcemlmgaaWNEv
import Derived.Test.YtbfkiggcemlmgaaWMore
namespace Go.Proofs.Ytbfkiggcemlmgaa.PFnLogs
open Go.RowKit Go.Proofs.YtbfkiggcemlmgaaW.PrintWords Go.Proofs.YtbfkiggcemlmgaaW.PrintLast Go.Proofs.YtbfkiggcemlmgaaW.PrintMore
attribute [local go_sem] max2_int min2_int max_two min_two max_three min_three max_four min_four   -- for this text's walks alone
set_option linter.unusedVariables false
set_option linter.unusedSimpArgs false



/-- The bits of m, n of them. -/
def bt_ (n m : Nat) : Array Bool := ((List.range n).map fun i => m.testBit i).toArray
abbrev sa_ := @List.setIfInBounds_toArray
abbrev sb_ := @List.set_cons_zero
abbrev sc_ := @List.set_cons_succ
abbrev ba_ := @blk_drewN
abbrev bb_ := @blk_drew
abbrev bc_ := @blk_alloc
abbrev ra_ := @Kd.R_alloc
abbrev rb_ := @Kd.R_drewN
abbrev rc_ := @Kd.R_drew
def errW : Option Int → Value
  | none => .nilIface
  | some c => .iface 0 (.int .i64 c)
theorem errW_none : errW none = .nilIface := rfl
theorem errW_some (c : Int) : errW (some c) = .iface 0 (.int .i64 c) := rfl

theorem info3 : (Try.prog.info? 3).map (fun i => (i.zero, i.size, i.bytes)) = some (some (.int .i64 0), 1, 8) := by kernel_rfl
-- the values' own types

/-- From world a to world b nothing that was is changed. -/
class Up_ (a b : World) : Prop where h : Below a.heap.size a b
instance upr_ (a : World) : Up_ a a := ⟨Below.refl _ _⟩
instance upa_ (a b : World) (o : Obj) [h : Up_ a b] : Up_ a (b.alloc o) := ⟨below_alloc h.h o⟩
instance upn_ (a b : World) (n : Nat) [h : Up_ a b] : Up_ a (b.drewN n) := ⟨pw_below_drewN h.h n⟩
instance upd_ (a b : World) [h : Up_ a b] : Up_ a b.drew := ⟨below_drew1 h.h⟩
theorem bl_ {w a b : World} (h : Aside0 (Below w.heap.size w a)) [u : Up_ a b] : Below w.heap.size w b := below_step h.out u.h
theorem bu_ {a b : World} {g : Nat} {o : Obj} (h : Aside0 (a.heap[g]? = some o)) [u : Up_ a b] : b.heap[g]? = some o := blk_below h.out u.h
theorem cf4_ {w : World} {g : Nat} {t : TypeId} {v0 v1 v2 v3 : Value} (h : Aside0 (w.heap[g]? = some (.cells #[v0, v1, v2, v3] t (0, 0)))) : w.cell? ⟨g, 0, none⟩ = some v0 ∧ w.cell? ⟨g, 1, none⟩ = some v1 ∧ w.cell? ⟨g, 2, none⟩ = some v2 ∧ w.cell? ⟨g, 3, none⟩ = some v3 ∧ w.frozen? ⟨g, 0, none⟩ = false ∧ w.frozen? ⟨g, 1, none⟩ = false ∧ w.frozen? ⟨g, 2, none⟩ = false ∧ w.frozen? ⟨g, 3, none⟩ = false :=
  ⟨(blk_cell h.out 0).trans rfl, (blk_cell h.out 1).trans rfl, (blk_cell h.out 2).trans rfl, (blk_cell h.out 3).trans rfl, blk_frozen h.out 0, blk_frozen h.out 1, blk_frozen h.out 2, blk_frozen h.out 3⟩
end Go.Proofs.Ytbfkiggcemlmgaa.PFnLogs

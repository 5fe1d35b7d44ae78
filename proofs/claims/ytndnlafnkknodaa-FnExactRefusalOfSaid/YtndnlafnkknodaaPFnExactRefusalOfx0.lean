/- Began as a text of the kit's print over the program with some leaves' bodies turned; those leaves' own parts are the session's. -/
import Derived.Test.YtndnlafnkknodaaProg
import Derived.Below
import Derived.Deep.Draws
import Derived.Deep.AppendLies
import Derived.Maps.AppendAt
import Derived.OwnWalk
import Derived.Laws.BytesArg
import Derived.Laws.MakeOwn
import Derived.Laws.OwnMore
import Derived.Deep.OwnRows
import Derived.Tactics
import Derived.Lib.ConvBytes
import Derived.Laws.Slices
import Derived.WalkKit
import Derived.KernelRfl
import Derived.RowKit3
import Derived.Deep.LoopGhost
import Derived.Deep.QuietTactic
import Derived.BigQuiet
import Derived.WideLaws
import Derived.Deep.DeepCutAuto
import Derived.Deep.CutBlock
import Derived.Deep.RegionHeld3
import Derived.Laws.Rows
import Derived.Lib.AppendStr
import Derived.ArgAppend
import Derived.Laws.IdiomCopy
import Derived.OrdersHeld
import Derived.Laws.BitsLemmas
import Derived.RowKit
import Derived.Lib.SliceRun
import Derived.Test.YtndnlafnkknodaaWWords
import Derived.Test.YtndnlafnkknodaaWLast
import Derived.Test.YtndnlafnkknodaaWTab
import Derived.Test.YtndnlafnkknodaaWFour
import Derived.Test.YtndnlafnkknodaaWQPut
import Derived.Test.YtndnlafnkknodaaWApart
import Derived.Test.YtndnlafnkknodaaWArr
import Derived.Test.YtndnlafnkknodaaWZeros
import Derived.Test.YtndnlafnkknodaaWFoot
import Derived.Test.YtndnlafnkknodaaWKept
import Derived.Test.YtndnlafnkknodaaWShare
import Derived.Test.YtndnlafnkknodaaWN
import Derived.Test.YtndnlafnkknodaaWFootNe
import Derived.Test.YtndnlafnkknodaaWAt
import Derived.Test.YtndnlafnkknodaaWEqStruct
import Derived.Test.YtndnlafnkknodaaWRepsOne
import Derived.Test.YtndnlafnkknodaaWInv
import Derived.Test.YtndnlafnkknodaaWInvWords
import Derived.Test.YtndnlafnkknodaaWGuard
import Derived.Test.YtndnlafnkknodaaWNEv
import Derived.Test.YtndnlafnkknodaaWMore
namespace Go.Proofs.Ytndnlafnkknodaa.PFnExactRefusalOf
open Go.RowKit Go.Proofs.YtndnlafnkknodaaW.PrintWords Go.Proofs.YtndnlafnkknodaaW.PrintLast Go.Proofs.YtndnlafnkknodaaW.PrintMore
attribute [local go_sem] max2_int min2_int max_two min_two max_three min_three max_four min_four   -- for this text's walks alone
set_option linter.unusedVariables false
set_option linter.unusedSimpArgs false



/-- The bits of m, n of them. -/
def bt_ (n m : Nat) : Array Bool := ((List.range n).map fun i => m.testBit i).toArray
abbrev sa_ := @List.setIfInBounds_toArray
abbrev sb_ := @List.set_cons_zero
abbrev sc_ := @List.set_cons_succ
abbrev ba_ := @blk_drewN
abbrev bb_ := @blk_drew
abbrev bc_ := @blk_alloc
abbrev ra_ := @Kd.R_alloc
abbrev rb_ := @Kd.R_drewN
abbrev rc_ := @Kd.R_drew
def errW : Option Int → Value
  | none => .nilIface
  | some c => .iface 0 (.int .i64 c)
theorem errW_none : errW none = .nilIface := rfl
theorem errW_some (c : Int) : errW (some c) = .iface 0 (.int .i64 c) := rfl

theorem info3 : (Try.prog.info? 3).map (fun i => (i.zero, i.size, i.bytes)) = some (some (.int .i64 0), 1, 8) := by kernel_rfl
-- the values' own types

end Go.Proofs.Ytndnlafnkknodaa.PFnExactRefusalOf

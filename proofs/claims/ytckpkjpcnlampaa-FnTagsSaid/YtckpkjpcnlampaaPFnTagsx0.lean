/- Began as a text of the kit's print over the program with some leaves' bodies turned; those leaves' own parts are the session's. -/
import Derived.Test.YtckpkjpcnlampaaProg
import Derived.Below
import Derived.Deep.Draws
import Derived.Deep.AppendLies
import Derived.Maps.AppendAt
import Derived.OwnWalk
import Derived.Laws.BytesArg
import Derived.Laws.MakeOwn
import Derived.Laws.OwnMore
import Derived.Deep.OwnRows
import Derived.Tactics
import Derived.Lib.ConvBytes
import Derived.Laws.Slices
import Derived.WalkKit
import Derived.KernelRfl
import Derived.RowKit3
import Derived.Deep.LoopGhost
import Derived.Deep.QuietTactic
import Derived.BigQuiet
import Derived.WideLaws
import Derived.Deep.DeepCutAuto
import Derived.Deep.CutBlock
import Derived.Deep.RegionHeld3
import Derived.Laws.Rows
import Derived.Lib.AppendStr
import Derived.ArgAppend
import Derived.Laws.IdiomCopy
import Derived.OrdersHeld
import Derived.Laws.BitsLemmas
import Derived.RowKit
import Derived.Lib.SliceRun
import Derived.Test.YtckpkjpcnlampaaWWords
import Derived.Test.YtckpkjpcnlampaaWLast
import Derived.Test.YtckpkjpcnlampaaWTab
import Derived.Test.YtckpkjpcnlampaaWFour
import Derived.Test.YtckpkjpcnlampaaWQPut
import Derived.Test.YtckpkjpcnlampaaWApart
import Derived.Test.YtckpkjpcnlampaaWArr
import Derived.Test.YtckpkjpcnlampaaWZeros
import Derived.Test.YtckpkjpcnlampaaWFoot
import Derived.Test.YtckpkjpcnlampaaWKept
import Derived.Test.YtckpkjpcnlampaaWShare
import Derived.Test.YtckpkjpcnlampaaWN
import Derived.Test.YtckpkjpcnlampaaWFootNe
import Derived.Test.YtckpkjpcnlampaaWAt
import Derived.Test.YtckpkjpcnlampaaWEqStruct
import Derived.Test.YtckpkjpcnlampaaWRepsOne
import Derived.Test.YtckpkjpcnlampaaWInv
import Derived.Test.YtckpkjpcnlampaaWInvWords
import Derived.Test.YtckpkjpcnlampaaWGuard
import Derived.Test.YtckpkjpcnlampaaWNEv
import Derived.Test.YtckpkjpcnlampaaWMore
namespace Go.Proofs.Ytckpkjpcnlampaa.PFnTags
open Go.RowKit Go.Proofs.YtckpkjpcnlampaaW.PrintWords Go.Proofs.YtckpkjpcnlampaaW.PrintLast Go.Proofs.YtckpkjpcnlampaaW.PrintMore
attribute [local go_sem] max2_int min2_int max_two min_two max_three min_three max_four min_four   -- for this text's walks alone
set_option linter.unusedVariables false
set_option linter.unusedSimpArgs false



/-- The bits of m, n of them. -/
def bt_ (n m : Nat) : Array Bool := ((List.range n).map fun i => m.testBit i).toArray
abbrev sa_ := @List.setIfInBounds_toArray
abbrev sb_ := @List.set_cons_zero
abbrev sc_ := @List.set_cons_succ
abbrev ba_ := @blk_drewN
abbrev bb_ := @blk_drew
abbrev bc_ := @blk_alloc
abbrev ra_ := @Kd.R_alloc
abbrev rb_ := @Kd.R_drewN
abbrev rc_ := @Kd.R_drew
def errW : Option Int → Value
  | none => .nilIface
  | some c => .iface 0 (.int .i64 c)
theorem errW_none : errW none = .nilIface := rfl
theorem errW_some (c : Int) : errW (some c) = .iface 0 (.int .i64 c) := rfl

theorem info4 : (Try.prog.info? 4).map (fun i => (i.zero, i.size, i.bytes)) = some (some (.bool false), 1, 1) := by kernel_rfl
-- the values' own types

end Go.Proofs.Ytckpkjpcnlampaa.PFnTags

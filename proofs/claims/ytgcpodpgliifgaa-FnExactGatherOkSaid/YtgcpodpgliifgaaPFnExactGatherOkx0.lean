/- Began as a text of the kit's print over the program with some leaves' bodies turned; those leaves' own parts are the session's. -/
import Derived.Test.YtgcpodpgliifgaaProg
import Derived.Below
import Derived.Deep.Draws
import Derived.Deep.AppendLies
import Derived.Maps.AppendAt
import Derived.OwnWalk
import Derived.Laws.BytesArg
import Derived.Laws.MakeOwn
import Derived.Laws.OwnMore
import Derived.Deep.OwnRows
import Derived.Tactics
import Derived.Lib.ConvBytes
import Derived.Laws.Slices
import Derived.WalkKit
import Derived.KernelRfl
import Derived.RowKit3
import Derived.Deep.LoopGhost
import Derived.Deep.QuietTactic
import Derived.BigQuiet
import Derived.WideLaws
import Derived.Deep.DeepCutAuto
import Derived.Deep.CutBlock
import Derived.Deep.RegionHeld3
import Derived.Laws.Rows
import Derived.Lib.AppendStr
import Derived.ArgAppend
import Derived.Laws.IdiomCopy
import Derived.OrdersHeld
import Derived.Laws.BitsLemmas
import Derived.RowKit
import Derived.Lib.SliceRun
import Derived.Test.YtgcpodpgliifgaaWWords
import Derived.Test.YtgcpodpgliifgaaWLast
import Derived.Test.YtgcpodpgliifgaaWTab
import Derived.Test.YtgcpodpgliifgaaWFour
import Derived.Test.YtgcpodpgliifgaaWQPut
import Derived.Test.YtgcpodpgliifgaaWApart
import Derived.Test.YtgcpodpgliifgaaWArr
import Derived.Test.YtgcpodpgliifgaaWZeros
import Derived.Test.YtgcpodpgliifgaaWFoot
import Derived.Test.YtgcpodpgliifgaaWKept
import Derived.Test.YtgcpodpgliifgaaWShare
import Derived.Test.YtgcpodpgliifgaaWN
import Derived.Test.YtgcpodpgliifgaaWFootNe
import Derived.Test.YtgcpodpgliifgaaWAt
import Derived.Test.YtgcpodpgliifgaaWEqStruct
import Derived.Test.YtgcpodpgliifgaaWRepsOne
import Derived.Test.YtgcpodpgliifgaaWInv
import Derived.Test.YtgcpodpgliifgaaWInvWords
import Derived.Test.YtgcpodpgliifgaaWGuard
import Derived.Test.YtgcpodpgliifgaaWNEv
import Derived.Test.YtgcpodpgliifgaaWMore
namespace Go.Proofs.Ytgcpodpgliifgaa.PFnExactGatherOk
open Go.RowKit Go.Proofs.YtgcpodpgliifgaaW.PrintWords Go.Proofs.YtgcpodpgliifgaaW.PrintLast Go.Proofs.YtgcpodpgliifgaaW.PrintMore
attribute [local go_sem] max2_int min2_int max_two min_two max_three min_three max_four min_four   -- for this text's walks alone
set_option linter.unusedVariables false
set_option linter.unusedSimpArgs false



def errW : Option Int → Value
  | none => .nilIface
  | some c => .iface 0 (.int .i64 c)
theorem errW_none : errW none = .nilIface := rfl
theorem errW_some (c : Int) : errW (some c) = .iface 0 (.int .i64 c) := rfl

theorem info3 : (Try.prog.info? 3).map (fun i => (i.zero, i.size, i.bytes)) = some (some (.int .i64 0), 1, 8) := by kernel_rfl
-- the values' own types

end Go.Proofs.Ytgcpodpgliifgaa.PFnExactGatherOk

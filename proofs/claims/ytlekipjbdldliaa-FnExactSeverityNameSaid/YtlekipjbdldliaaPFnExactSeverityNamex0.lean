/- Began as a text of the kit's print over the program with some leaves' bodies turned; those leaves' own parts are the session's. -/
import Derived.Test.YtlekipjbdldliaaProg
import Derived.Below
import Derived.Deep.Draws
import Derived.Deep.AppendLies
import Derived.Maps.AppendAt
import Derived.OwnWalk
import Derived.Laws.BytesArg
import Derived.Laws.MakeOwn
import Derived.Laws.OwnMore
import Derived.Deep.OwnRows
import Derived.Tactics
import Derived.Lib.ConvBytes
import Derived.Laws.Slices
import Derived.WalkKit
import Derived.KernelRfl
import Derived.RowKit3
import Derived.Deep.LoopGhost
import Derived.Deep.QuietTactic
import Derived.BigQuiet
import Derived.WideLaws
import Derived.Deep.DeepCutAuto
import Derived.Deep.CutBlock
import Derived.Deep.RegionHeld3
import Derived.Laws.Rows
import Derived.Lib.AppendStr
import Derived.ArgAppend
import Derived.Laws.IdiomCopy
import Derived.OrdersHeld
import Derived.Laws.BitsLemmas
import Derived.RowKit
import Derived.Lib.SliceRun
import Derived.Test.YtlekipjbdldliaaWWords
import Derived.Test.YtlekipjbdldliaaWLast
import Derived.Test.YtlekipjbdldliaaWTab
import Derived.Test.YtlekipjbdldliaaWFour
import Derived.Test.YtlekipjbdldliaaWQPut
import Derived.Test.YtlekipjbdldliaaWApart
import Derived.Test.YtlekipjbdldliaaWArr
import Derived.Test.YtlekipjbdldliaaWZeros
import Derived.Test.YtlekipjbdldliaaWFoot
import Derived.Test.YtlekipjbdldliaaWKept
import Derived.Test.YtlekipjbdldliaaWShare
import Derived.Test.YtlekipjbdldliaaWN
import Derived.Test.YtlekipjbdldliaaWFootNe
import Derived.Test.YtlekipjbdldliaaWAt
import Derived.Test.YtlekipjbdldliaaWEqStruct
import Derived.Test.YtlekipjbdldliaaWRepsOne
import Derived.Test.YtlekipjbdldliaaWInv
import Derived.Test.YtlekipjbdldliaaWInvWords
import Derived.Test.YtlekipjbdldliaaWGuard
import Derived.Test.YtlekipjbdldliaaWNEv
import Derived.Test.YtlekipjbdldliaaWMore
namespace Go.Proofs.Ytlekipjbdldliaa.PFnExactSeverityName
open Go.RowKit Go.Proofs.YtlekipjbdldliaaW.PrintWords Go.Proofs.YtlekipjbdldliaaW.PrintLast Go.Proofs.YtlekipjbdldliaaW.PrintMore
attribute [local go_sem] max2_int min2_int max_two min_two max_three min_three max_four min_four   -- for this text's walks alone
set_option linter.unusedVariables false
set_option linter.unusedSimpArgs false



def errW : Option Int → Value
  | none => .nilIface
  | some c => .iface 0 (.int .i64 c)
theorem errW_none : errW none = .nilIface := rfl
theorem errW_some (c : Int) : errW (some c) = .iface 0 (.int .i64 c) := rfl

theorem info9 : (Try.prog.info? 9).map (fun i => (i.zero, i.size, i.bytes)) = some (some (.string ⟨#[]⟩), 1, 16) := by kernel_rfl
-- the values' own types

end Go.Proofs.Ytlekipjbdldliaa.PFnExactSeverityName

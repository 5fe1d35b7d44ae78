/- Began as a text of the kit's print over the program with some leaves' bodies turned; those leaves' own parts are the session's. -/
import Derived.Test.YtbfkiggcemlmgaaProg
import Derived.Below
import Derived.Deep.Draws
import Derived.Deep.AppendLies
import Derived.Maps.AppendAt
import Derived.OwnWalk
import Derived.Laws.BytesArg
import Derived.Laws.MakeOwn
import Derived.Laws.OwnMore
import Derived.Deep.OwnRows
import Derived.Tactics
import Derived.Lib.ConvBytes
import Derived.Laws.Slices
import Derived.WalkKit
import Derived.KernelRfl
import Derived.RowKit3
import Derived.Deep.LoopGhost
import Derived.Deep.QuietTactic
import Derived.BigQuiet
import Derived.WideLaws
import Derived.Deep.DeepCutAuto
import Derived.Deep.CutBlock
import Derived.Deep.RegionHeld3
import Derived.Laws.Rows
import Derived.Lib.AppendStr
import Derived.ArgAppend
import Derived.Laws.IdiomCopy
import Derived.OrdersHeld
import Derived.Laws.BitsLemmas
import Derived.RowKit
import Derived.Lib.SliceRun
import Derived.Test.YtbfkiggcemlmgaaWWords
import Derived.Test.YtbfkiggcemlmgaaWLast
import Derived.Test.YtbfkiggcemlmgaaWTab
import Derived.Test.YtbfkiggcemlmgaaWFour
import Derived.Test.YtbfkiggcemlmgaaWQPut
import Derived.Test.YtbfkiggcemlmgaaWApart
import Derived.Test.YtbfkiggcemlmgaaWArr
import Derived.Test.YtbfkiggcemlmgaaWZeros
import Derived.Test.YtbfkiggcemlmgaaWFoot
import Derived.Test.YtbfkiggcemlmgaaWKept
import Derived.Test.YtbfkiggcemlmgaaWShare
import Derived.Test.YtbfkiggcemlmgaaWN
import Derived.Test.YtbfkiggcemlmgaaWFootNe
import Derived.Test.YtbfkiggcemlmgaaWAt
import Derived.Test.YtbfkiggcemlmgaaWEqStruct
import Derived.Test.YtbfkiggcemlmgaaWRepsOne
import Derived.Test.YtbfkiggcemlmgaaWInv
import Derived.Test.YtbfkiggcemlmgaaWInvWords
import Derived.Test.YtbfkiggcemlmgaaWGuard
import Derived.Test.YtbfkiggcemlmgaaWNEv
import Derived.Test.YtbfkiggcemlmgaaWMore
namespace Go.Proofs.Ytbfkiggcemlmgaa.PFnExactLogOk
open Go.RowKit Go.Proofs.YtbfkiggcemlmgaaW.PrintWords Go.Proofs.YtbfkiggcemlmgaaW.PrintLast Go.Proofs.YtbfkiggcemlmgaaW.PrintMore
attribute [local go_sem] max2_int min2_int max_two min_two max_three min_three max_four min_four   -- for this text's walks alone
set_option linter.unusedVariables false
set_option linter.unusedSimpArgs false



def errW : Option Int → Value
  | none => .nilIface
  | some c => .iface 0 (.int .i64 c)
theorem errW_none : errW none = .nilIface := rfl
theorem errW_some (c : Int) : errW (some c) = .iface 0 (.int .i64 c) := rfl

theorem info3 : (Try.prog.info? 3).map (fun i => (i.zero, i.size, i.bytes)) = some (some (.int .i64 0), 1, 8) := by kernel_rfl
-- the values' own types

end Go.Proofs.Ytbfkiggcemlmgaa.PFnExactLogOk

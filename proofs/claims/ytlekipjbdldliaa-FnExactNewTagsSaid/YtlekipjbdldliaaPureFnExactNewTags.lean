/- The program's NewTags returns what the reference's returns; two results share no memory. -/
import Derived.Test.YtlekipjbdldliaaPFnExactNewTagsx1
namespace Go.Proofs.Ytlekipjbdldliaa.Pure
open Go.RowKit Go.Proofs.Ytlekipjbdldliaa.PFnExactNewTags Go.Proofs.YtlekipjbdldliaaW.PrintWords Go.Proofs.YtlekipjbdldliaaW.PrintLast Go.Proofs.YtlekipjbdldliaaW.PrintMore
theorem FnExactNewTags : laws_FnExactNewTags.Pure := ⟨20, by decide +kernel⟩
end Go.Proofs.Ytlekipjbdldliaa.Pure

/- The program's IsPayload and the reference's return the same for every int. -/
import Derived.Test.YtlekipjbdldliaaPFnExactIsPayloadx1
namespace Go.Proofs.Ytlekipjbdldliaa.Pure
open Go.RowKit Go.Proofs.Ytlekipjbdldliaa.PFnExactIsPayload Go.Proofs.YtlekipjbdldliaaW.PrintWords Go.Proofs.YtlekipjbdldliaaW.PrintLast
theorem FnExactIsPayload : laws_FnExactIsPayload.Pure := by
  intro a0 _
  have h : impl_IsPayload.f a0 = spec_IsPayload.f a0 := rfl
  have h2 : ∃ b, spec_IsPayload.f a0 = some b := by
    unfold spec_IsPayload.f
    repeat (split <;> first | exact ⟨_, rfl⟩ | skip)
  obtain ⟨b, hb⟩ := h2
  unfold laws_FnExactIsPayload.f
  rw [h, hb]
  simp
end Go.Proofs.Ytlekipjbdldliaa.Pure

/- The program's SeverityName returns what the reference's returns, for every int. -/
import Derived.Test.YtlekipjbdldliaaPFnExactSeverityNamex1
set_option linter.unusedVariables false
set_option linter.unusedSimpArgs false
namespace Go.Proofs.Ytlekipjbdldliaa.Pure
open Go.RowKit Go.Proofs.Ytlekipjbdldliaa.PFnExactSeverityName Go.Proofs.YtlekipjbdldliaaW.PrintWords Go.Proofs.YtlekipjbdldliaaW.PrintLast Go.Proofs.YtlekipjbdldliaaW.PrintMore
theorem l01In_eq (a b c : Int) : spec_l01In.f a b c = some (decide (b ≤ a ∧ a ≤ c)) := by
  unfold spec_l01In.f
  by_cases h : a ≥ b
  · rw [if_pos h]; simp [h]
  · rw [if_neg h]; simp; omega
theorem FnExactSeverityName : laws_FnExactSeverityName.Pure := by
  intro a0 _
  have h : impl_SeverityName.f a0 = spec_SeverityName.f a0 := rfl
  have h2 : ∃ b, spec_SeverityName.f a0 = some b := by
    simp only [spec_SeverityName.f, l01In_eq, Option.bind_some]
    by_cases h : 0 ≤ a0 ∧ a0 ≤ 2
    · rw [if_pos (by simpa using h), if_pos h.1, if_pos (by simp; omega)]; exact ⟨_, rfl⟩
    · rw [if_neg (by simpa using h)]; exact ⟨_, rfl⟩
  obtain ⟨b, hb⟩ := h2
  unfold laws_FnExactSeverityName.f
  rw [h, hb]
  simp
end Go.Proofs.Ytlekipjbdldliaa.Pure

/- FnExactMate: the plain law: what the printed functions tell answers true at every input. No condition. -/
import Derived.Test.YtoodipndmhehmaaPFnExactMatex1
import Derived.Test.YtoodipndmhehmaaAid
namespace Go.Proofs.Ytoodipndmhehmaa.Pure
open Go.RowKit Go.Proofs.Ytoodipndmhehmaa.PFnExactMate Go.Proofs.YtoodipndmhehmaaW.PrintWords Go.Proofs.YtoodipndmhehmaaW.PrintLast Go.Proofs.YtoodipndmhehmaaW.PrintMore Go.Proofs.Ytoodipndmhehmaa.Aid
set_option linter.unusedVariables false
set_option linter.unusedSimpArgs false

theorem spec_l1In.eq (a b c : Int) : spec_l1In.f a b c = some (decide (b ≤ a ∧ a ≤ c)) := by
  unfold spec_l1In.f
  by_cases h : b ≤ a
  · rw [if_pos h]; simp [h]
  · rw [if_neg h]; simp [h]
theorem FnExactMate : laws_FnExactMate.Pure := by
  intro a ha
  unfold laws_FnExactMate.f spec_Mate.f impl_Mate.f
  rw [spec_l1In.eq]
  simp only [Option.bind_some]
  have e : decide (0 ≤ a ∧ a ≤ 1) = (decide (a = 0) || decide (a = 1)) := by rw [Bool.eq_iff_iff]; simp; omega
  rw [e]
  by_cases h0 : a = 0 <;> by_cases h1 : a = 1 <;> simp [h0, h1]

end Go.Proofs.Ytoodipndmhehmaa.Pure

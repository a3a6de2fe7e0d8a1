/- The plain law: what the walk shows to be computed answers true. Conditions: the numbers are 64-bit. -/
import Derived.Test.YtlbedonjfihldaaWIsGoal
import Derived.KernelRfl
namespace Go.Proofs.Ytlbedonjfihldaa.WIsGoal
open Go.K Go.RowKit
set_option linter.unusedVariables false
set_option linter.unusedSimpArgs false

theorem in_eq (K : Nat) (a lo hi : Int) : impl_within.f K a lo hi = some (decide (lo ≤ a ∧ a ≤ hi)) := by
  unfold impl_within.f
  by_cases h : lo ≤ a <;> simp [h]
theorem in_within : spec_l1In.f = impl_within.f := by kernel_rfl
theorem IsGoal_pure (a0 : Int × Int) (_w : (Lit.int .i64 a0.1).wf = true ∧ (Lit.int .i64 a0.2).wf = true) : ∃ K, laws_FnExactIsGoal.f K a0 = some true := by
  refine ⟨1, ?_⟩
  unfold laws_FnExactIsGoal.f spec_IsGoal.f impl_IsGoal.f spec_l6Goal.f laws_toGoal.f
  rw [in_within]
  simp only [in_eq, some_bind]
  by_cases h1 : a0.1 = 2 <;> by_cases h2 : a0.1 = 3 <;> by_cases h3 : 1 ≤ a0.1 ∧ a0.1 ≤ 5 <;> simp [h1, h2, h3]
end Go.Proofs.Ytlbedonjfihldaa.WIsGoal

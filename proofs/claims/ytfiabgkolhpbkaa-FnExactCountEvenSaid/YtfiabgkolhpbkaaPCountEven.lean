/- The plain law: what the walk shows to be computed answers true. Conditions: the numbers are 64-bit. -/
import Derived.Test.YtfiabgkolhpbkaaWCountEven
import Derived.KernelRfl
namespace Go.Proofs.Ytfiabgkolhpbkaa.WCountEven
open Go.K Go.RowKit
set_option linter.unusedVariables false
set_option linter.unusedSimpArgs false

theorem in_eq (K : Nat) (a lo hi : Int) : impl_within.f K a lo hi = some (decide (lo ≤ a ∧ a ≤ hi)) := by
  unfold impl_within.f
  by_cases h : lo ≤ a <;> simp [h]
theorem in_within : spec_l1In.f = impl_within.f := by kernel_rfl
set_option maxRecDepth 100000 in
theorem CountEven_fin : ∀ i : Fin 6, laws_FnExactCountEven.f 5000 (1 + (i.val : Int)) = some true := by decide +kernel
theorem CountEven_pure (a0 : Int) (_w0 : (Lit.int .i64 a0).wf = true) : ∃ K, laws_FnExactCountEven.f K a0 = some true := by
  refine ⟨5000, ?_⟩
  by_cases h : 1 ≤ a0 ∧ a0 ≤ 6
  · exact of_fin (p := fun a => laws_FnExactCountEven.f 5000 a = some true) 1 6 CountEven_fin h.1 (by omega)
  · simp [laws_FnExactCountEven.f, spec_CountEven.f, impl_CountEven.f, in_within, in_eq, h]
end Go.Proofs.Ytfiabgkolhpbkaa.WCountEven

/- The plain law: what the walk shows to be computed answers true. Conditions: the numbers are 64-bit. -/
import Derived.Test.YtfiabgkolhpbkaaWOrdersOf
import Derived.KernelRfl
namespace Go.Proofs.Ytfiabgkolhpbkaa.WOrdersOf
open Go.K Go.RowKit
set_option linter.unusedVariables false
set_option linter.unusedSimpArgs false

theorem in_eq (K : Nat) (a lo hi : Int) : impl_within.f K a lo hi = some (decide (lo ≤ a ∧ a ≤ hi)) := by
  unfold impl_within.f
  by_cases h : lo ≤ a <;> simp [h]
theorem in_within : spec_l1In.f = impl_within.f := by kernel_rfl
set_option maxRecDepth 100000 in
theorem OrdersOf_fin : ∀ i : Fin 4, laws_FnExactOrdersOf.f 300 (1 + (i.val : Int)) = some true := by decide +kernel
theorem OrdersOf_pure (a0 : Int) (_w0 : (Lit.int .i64 a0).wf = true) : ∃ K, laws_FnExactOrdersOf.f K a0 = some true := by
  refine ⟨300, ?_⟩
  by_cases h : 1 ≤ a0 ∧ a0 ≤ 4
  · exact of_fin (p := fun a => laws_FnExactOrdersOf.f 300 a = some true) 1 4 OrdersOf_fin h.1 (by omega)
  · have e1 : laws_eqOrderS.f 300 [] [] = some true := by decide +kernel
    have e2 : laws_markOrderS.f 300 [] 1 = some (1, []) := by decide +kernel
    have e3 : laws_heldOrderS.f 300 [] 1 = some 1 := by decide +kernel
    simp [laws_FnExactOrdersOf.f, spec_OrdersOf.f, impl_OrdersOf.f, in_within, in_eq, h, e1, e2, e3]
end Go.Proofs.Ytfiabgkolhpbkaa.WOrdersOf

/- The plain law: what the walk shows to be computed answers true. Conditions: the numbers are 64-bit. -/
import Derived.Test.YtbknafijehakbaaWPairsForCoin
import Derived.KernelRfl
namespace Go.Proofs.Ytbknafijehakbaa.WPairsForCoin
open Go.K Go.RowKit
set_option linter.unusedVariables false
set_option linter.unusedSimpArgs false

theorem in_eq (K : Nat) (a lo hi : Int) : impl_within.f K a lo hi = some (decide (lo ≤ a ∧ a ≤ hi)) := by
  unfold impl_within.f
  by_cases h : lo ≤ a <;> simp [h]
theorem in_within : spec_l1In.f = impl_within.f := by kernel_rfl
theorem eqA2 (K : Nat) (hK : 3 ≤ K) (a : Ar 2) : laws_eqIntA2.f K a a = some true := by
  obtain ⟨k, rfl⟩ := Nat.exists_eq_add_of_le hK
  rw [show 3 + k = k + 1 + 1 + 1 by omega]
  simp [laws_eqIntA2.f, laws_eqIntA2.l0, wrap64]

theorem PairsForCoin_pure (a0 : Int) (_w0 : (Lit.int .i64 a0).wf = true) : ∃ K, laws_FnExactPairsForCoin.f K a0 = some true := by
  refine ⟨100, ?_⟩
  by_cases h : 1 ≤ a0 ∧ a0 ≤ 5
  · exact of_fin (p := fun a => laws_FnExactPairsForCoin.f 100 a = some true) 1 5 (by decide +kernel) h.1 (by omega)
  · simp [laws_FnExactPairsForCoin.f, spec_PairsForCoin.f, impl_PairsForCoin.f, in_within, in_eq, h, eqA2]

end Go.Proofs.Ytbknafijehakbaa.WPairsForCoin

/- The plain law: what the walk shows to be computed answers true. Conditions: the numbers are 64-bit. -/
import Derived.Test.YtbknafijehakbaaWRoomForBits
import Derived.KernelRfl
namespace Go.Proofs.Ytbknafijehakbaa.WRoomForBits
open Go.K Go.RowKit
set_option linter.unusedVariables false
set_option linter.unusedSimpArgs false

theorem in_eq (K : Nat) (a lo hi : Int) : impl_within.f K a lo hi = some (decide (lo ≤ a ∧ a ≤ hi)) := by
  unfold impl_within.f
  by_cases h : lo ≤ a <;> simp [h]
theorem in_within : spec_l1In.f = impl_within.f := by kernel_rfl
theorem RoomForBits_pure (a0 : Int) (_w0 : (Lit.int .i64 a0).wf = true) : ∃ K, laws_FnExactRoomForBits.f K a0 = some true := by
  refine ⟨100, ?_⟩
  by_cases h : 0 ≤ a0 ∧ a0 ≤ 20
  · exact of_fin (p := fun a => laws_FnExactRoomForBits.f 100 a = some true) 0 21 (by decide +kernel) h.1 (by omega)
  · simp [laws_FnExactRoomForBits.f, spec_RoomForBits.f, impl_RoomForBits.f, in_within, in_eq, h]

end Go.Proofs.Ytbknafijehakbaa.WRoomForBits

/- The plain law: what the walk shows to be computed answers true. Conditions: the numbers are 64-bit. -/
import Derived.Test.YtbknafijehakbaaWTakenOf
import Derived.KernelRfl
namespace Go.Proofs.Ytbknafijehakbaa.WTakenOf
open Go.K Go.RowKit
set_option linter.unusedVariables false
set_option linter.unusedSimpArgs false

theorem in_eq (K : Nat) (a lo hi : Int) : impl_within.f K a lo hi = some (decide (lo ≤ a ∧ a ≤ hi)) := by
  unfold impl_within.f
  by_cases h : lo ≤ a <;> simp [h]
theorem in_within : spec_l1In.f = impl_within.f := by kernel_rfl
theorem all_power : spec_l2All.f = impl_power.f := by kernel_rfl
theorem power_some (K : Nat) (hK : 100 ≤ K) : ∀ (a : Int), a ≤ 20 → ∃ p, impl_power.f K a = some p := by
  have key : ∀ (k : Nat) (a x y : Int), 0 ≤ y → a ≤ 20 → y ≤ 20 → 20 - y < k → ∃ p, impl_power.l0 K a k x y = some p := by
    intro k
    induction k with
    | zero => intro a x y h0 h1 h2 h3; omega
    | succ k ih =>
      intro a x y h0 h1 h2 h3
      rw [impl_power.l0]
      by_cases h : y < a
      · rw [if_pos h]
        have : wrap64 (y + 1) = y + 1 := w64 (by omega) (by omega)
        rw [this]
        exact ih _ _ _ (by omega) h1 (by omega) (by omega)
      · rw [if_neg h]; exact ⟨_, rfl⟩
  intro a ha
  obtain ⟨p, hp⟩ := key K a 1 0 (by omega) ha (by omega) (by omega)
  exact ⟨p, by rw [impl_power.f, hp]; rfl⟩
theorem good_made : spec_l9Good.f = impl_isMade.f := by kernel_rfl
theorem taken_taken : spec_l9Taken.f = impl_taken.f := by kernel_rfl
theorem made_some (K : Nat) (hK : 100 ≤ K) (a b : Int) : ∃ p, impl_isMade.f K a b = some p ∧ (p = true → 1 ≤ a ∧ a ≤ 1000 ∧ 1 ≤ b ∧ b ≤ 6 ∧ ∃ q, impl_power.f K b = some q ∧ a ≤ q) := by
  unfold impl_isMade.f
  simp only [in_eq, some_bind]
  by_cases h : 1 ≤ a ∧ a ≤ 1000
  · by_cases h' : 1 ≤ b ∧ b ≤ 6
    · obtain ⟨p, hp⟩ := power_some K hK b (by omega)
      simp [h, h', hp]
    · simp [h, h']
  · simp [h]

theorem law_two {α : Type} [DecidableEq α] (x : Option (α × Bool)) (r : α × Bool) (hx : x = some r) :
    (x.bind fun t1 => x.bind fun t3 => if t3.1 = t1.1 then (if (t3.2 == t1.2) = true then (some true) else (some false)) else (some false)) = some true := by
  subst hx; simp

theorem takenOf_takenOf : spec_TakenOf.f = impl_TakenOf.f := by kernel_rfl

theorem TakenOf_pure (a0 a1 : Int) (_w0 : (Lit.int .i64 a0).wf = true) (_w1 : (Lit.int .i64 a1).wf = true) : ∃ K, laws_FnExactTakenOf.f K a0 a1 = some true := by
  refine ⟨100, ?_⟩
  unfold laws_FnExactTakenOf.f
  rw [takenOf_takenOf]
  have : ∃ r, impl_TakenOf.f 100 a0 a1 = some r := by
    unfold impl_TakenOf.f impl_taken.f
    obtain ⟨p, hp, hq⟩ := made_some 100 (by omega) a0 a1
    rw [hp, some_bind]
    by_cases h : p = true
    · obtain ⟨h1, h2, h3, h4, q, hq1, hq2⟩ := hq h
      rw [if_pos h, hq1, some_bind, if_pos (by omega)]
      exact ⟨_, rfl⟩
    · rw [if_neg h]; exact ⟨_, rfl⟩
  obtain ⟨r, hr⟩ := this
  exact law_two _ r hr

end Go.Proofs.Ytbknafijehakbaa.WTakenOf

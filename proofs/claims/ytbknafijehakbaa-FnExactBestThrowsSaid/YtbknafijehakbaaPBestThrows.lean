/- The plain law: what the walk shows to be computed answers true. Conditions: the numbers are 64-bit. -/
import Derived.Test.YtbknafijehakbaaWBestThrows
import Derived.KernelRfl
namespace Go.Proofs.Ytbknafijehakbaa.WBestThrows
open Go.K Go.RowKit
set_option linter.unusedVariables false
set_option linter.unusedSimpArgs false

theorem in_eq (K : Nat) (a lo hi : Int) : impl_within.f K a lo hi = some (decide (lo ≤ a ∧ a ≤ hi)) := by
  unfold impl_within.f
  by_cases h : lo ≤ a <;> simp [h]
theorem in_within : spec_l1In.f = impl_within.f := by kernel_rfl
theorem all_power : spec_l2All.f = impl_power.f := by kernel_rfl
theorem power_some (K : Nat) (hK : 100 ≤ K) : ∀ (a : Int), a ≤ 20 → ∃ p, impl_power.f K a = some p := by
  have key : ∀ (k : Nat) (a x y : Int), 0 ≤ y → a ≤ 20 → y ≤ 20 → 20 - y < k → ∃ p, impl_power.l0 K a k x y = some p := by
    intro k
    induction k with
    | zero => intro a x y h0 h1 h2 h3; omega
    | succ k ih =>
      intro a x y h0 h1 h2 h3
      rw [impl_power.l0]
      by_cases h : y < a
      · rw [if_pos h]
        have : wrap64 (y + 1) = y + 1 := w64 (by omega) (by omega)
        rw [this]
        exact ih _ _ _ (by omega) h1 (by omega) (by omega)
      · rw [if_neg h]; exact ⟨_, rfl⟩
  intro a ha
  obtain ⟨p, hp⟩ := key K a 1 0 (by omega) ha (by omega) (by omega)
  exact ⟨p, by rw [impl_power.f, hp]; rfl⟩
theorem good_made : spec_l9Good.f = impl_isMade.f := by kernel_rfl
theorem taken_taken : spec_l9Taken.f = impl_taken.f := by kernel_rfl
theorem made_some (K : Nat) (hK : 100 ≤ K) (a b : Int) : ∃ p, impl_isMade.f K a b = some p ∧ (p = true → 1 ≤ a ∧ a ≤ 1000 ∧ 1 ≤ b ∧ b ≤ 6 ∧ ∃ q, impl_power.f K b = some q ∧ a ≤ q) := by
  unfold impl_isMade.f
  simp only [in_eq, some_bind]
  by_cases h : 1 ≤ a ∧ a ≤ 1000
  · by_cases h' : 1 ≤ b ∧ b ≤ 6
    · obtain ⟨p, hp⟩ := power_some K hK b (by omega)
      simp [h, h', hp]
    · simp [h, h']
  · simp [h]

theorem cut_l0 (K : Nat) : ∀ (k : Nat) (a b : Int), 0 < a → 0 ≤ b → b < k → ∃ g, 0 < g ∧ spec_l2Cut.l0 K k a b = some g ∧ impl_fraction.l0 K k a b = some g := by
  intro k
  induction k with
  | zero => intro a b h0 h1 h2; omega
  | succ k ih =>
    intro a b h0 h1 h2
    rw [spec_l2Cut.l0, impl_fraction.l0]
    by_cases h : b = 0
    · subst h; exact ⟨a, h0, by simp, by simp⟩
    · rw [if_pos (show 0 < b by omega), if_neg h, if_pos h, if_pos h]
      have hb : 0 ≤ a.tmod b := Int.tmod_nonneg _ (by omega)
      have hc : a.tmod b < b := Int.tmod_lt_of_pos _ (by omega)
      obtain ⟨g, h3, h4, h5⟩ := ih b (a.tmod b) (by omega) hb (by omega)
      rw [h4, h5]
      exact ⟨g, h3, rfl, rfl⟩
theorem cut_eq (K : Nat) (a b : Int) (ha : 0 < a) (hb : 0 ≤ b) (hK : b < K) : ∃ r, spec_l2Cut.f K a b = some r ∧ impl_fraction.f K a b = some r := by
  obtain ⟨g, h1, h2, h3⟩ := cut_l0 K K a b ha hb hK
  unfold spec_l2Cut.f impl_fraction.f
  rw [h2, h3]
  simp only [some_bind]
  have : spec_l1Most.f K g 1 = some g := by
    unfold spec_l1Most.f
    by_cases h : 1 < g
    · rw [if_pos h]
    · rw [if_neg h, show g = 1 by omega]
  rw [this]
  simp only [some_bind]
  have hg : g ≠ 0 := by omega
  rw [if_pos hg, if_pos hg]
  exact ⟨_, rfl, rfl⟩
theorem mean_eq (K : Nat) (hK : 1000000 ≤ K) (a b : Int) : ∃ r, spec_MeanThrows.f K a b = some r ∧ impl_MeanThrows.f K a b = some r := by
  unfold spec_MeanThrows.f impl_MeanThrows.f
  rw [good_made, all_power, taken_taken]
  obtain ⟨p, hp, hq⟩ := made_some K (by omega) a b
  rw [hp]
  simp only [some_bind]
  by_cases h : p = true
  · obtain ⟨h1, h2, h3, h4, q, hq1, hq2⟩ := hq h
    have hpos : 6 ≤ q ∧ q ≤ 46656 := by
      obtain ⟨k, rfl⟩ := Nat.exists_eq_add_of_le (show 10 ≤ K by omega)
      rw [show 10 + k = k + 10 by omega, impl_power.f] at hq1
      rcases (show b = 1 ∨ b = 2 ∨ b = 3 ∨ b = 4 ∨ b = 5 ∨ b = 6 by omega) with rfl | rfl | rfl | rfl | rfl | rfl <;>
      · simp [impl_power.l0, wrap64] at hq1
        omega
    simp only [if_pos h, impl_taken.f, hq1, some_bind, if_pos (show a ≠ 0 by omega)]
    have h5 : 0 ≤ q.tdiv a := Int.tdiv_nonneg (by omega) (by omega)
    have h6 : q.tdiv a * a ≤ q := by
      have := Int.mul_tdiv_add_tmod q a
      have := Int.tmod_nonneg (b := a) (a := q) (by omega)
      have : q.tdiv a * a = a * q.tdiv a := Int.mul_comm _ _
      omega
    have h7 : 0 ≤ q.tdiv a * a := Int.mul_nonneg h5 (by omega)
    have h8 : q.tdiv a ≤ q := by
      have : q.tdiv a * 1 ≤ q.tdiv a * a := Int.mul_le_mul_of_nonneg_left (by omega) h5
      omega
    have h9 : 6 ≤ b * q := by
      have : 1 * q ≤ b * q := Int.mul_le_mul_of_nonneg_right (by omega) (by omega)
      omega
    have h10 : b * q ≤ 6 * q := Int.mul_le_mul_of_nonneg_right (by omega) (by omega)
    rw [w64 (n := q.tdiv a) (by omega) (by omega), w64 (n := q.tdiv a * a) (by omega) (by omega), w64 (n := b * q) (by omega) (by omega)]
    obtain ⟨r, hr1, hr2⟩ := cut_eq K (b * q) (q.tdiv a * a) (by omega) h7 (by omega)
    rw [hr1, hr2]
    exact ⟨_, rfl, rfl⟩
  · simp only [if_neg h]; exact ⟨_, rfl, rfl⟩
theorem eqA2 (K : Nat) (hK : 3 ≤ K) (a : Ar 2) : laws_eqIntA2.f K a a = some true := by
  obtain ⟨k, rfl⟩ := Nat.exists_eq_add_of_le hK
  rw [show 3 + k = k + 1 + 1 + 1 by omega]
  simp [laws_eqIntA2.f, laws_eqIntA2.l0, wrap64]

theorem BestThrows_l0 (K : Nat) (hK : 1000000 ≤ K) (a : Int) : ∀ (k : Nat) (x y : Int) (z : Ar 2), spec_BestThrows.l0 K a k x y z = impl_BestThrows.l0 K a k x y z := by
  intro k
  induction k with
  | zero => intro x y z; rfl
  | succ k ih =>
    intro x y z
    rw [spec_BestThrows.l0, impl_BestThrows.l0]
    obtain ⟨r, h1, h2⟩ := mean_eq K hK a y
    rw [h1, h2]
    simp only [some_bind, spec_l2Less.f, ih, decide_eq_true_eq]
theorem BestThrows_some (K : Nat) (hK : 1000000 ≤ K) (a : Int) : ∀ (k : Nat) (x : Int) (n : Nat) (z : Ar 2), n ≤ 7 → 7 - n < k → ∃ r, impl_BestThrows.l0 K a k x (n : Int) z = some r := by
  intro k
  induction k with
  | zero => intro x n z h1 h2; omega
  | succ k ih =>
    intro x n z h1 h2
    rw [impl_BestThrows.l0]
    by_cases h : (n : Int) ≤ 6
    · obtain ⟨r, _, h4⟩ := mean_eq K hK a n
      rw [if_pos h, h4, some_bind, show wrap64 ((n : Int) + 1) = ((n + 1 : Nat) : Int) by rw [w64 (by omega) (by omega)]; omega]
      have i1 := fun x z => ih x (n + 1) z (by omega) (by omega)
      split
      · split
        · exact i1 _ _
        · split
          · exact i1 _ _
          · exact i1 _ _
      · exact i1 _ _
    · rw [if_neg h]; exact ⟨_, rfl⟩
theorem BestThrows_pure (a0 : Int) (_w0 : (Lit.int .i64 a0).wf = true) : ∃ K, laws_FnExactBestThrows.f K a0 = some true := by
  refine ⟨1000000, ?_⟩
  unfold laws_FnExactBestThrows.f spec_BestThrows.f impl_BestThrows.f
  have hz : (⟨[0, 0], rfl⟩ : Ar 2) = Ar.zero 2 := rfl
  rw [hz, BestThrows_l0 _ (Nat.le_refl _)]
  obtain ⟨r, hr⟩ := BestThrows_some 1000000 (Nat.le_refl _) a0 1000000 0 1 (Ar.zero 2) (by omega) (by omega)
  rw [show impl_BestThrows.l0 1000000 a0 1000000 0 1 (Ar.zero 2) = some r from hr]
  simp [eqA2]
end Go.Proofs.Ytbknafijehakbaa.WBestThrows

/- The plain law: what the walk shows to be computed answers true. Conditions: the numbers are 64-bit. -/
import Derived.Test.YtbknafijehakbaaWMakeNumber
import Derived.KernelRfl
namespace Go.Proofs.Ytbknafijehakbaa.WMakeNumber
open Go.K Go.RowKit
set_option linter.unusedVariables false
set_option linter.unusedSimpArgs false

theorem in_eq (K : Nat) (a lo hi : Int) : impl_within.f K a lo hi = some (decide (lo ≤ a ∧ a ≤ hi)) := by
  unfold impl_within.f
  by_cases h : lo ≤ a <;> simp [h]
theorem in_within : spec_l1In.f = impl_within.f := by kernel_rfl
def sideB (a : Int) : Bool := decide (0 ≤ a ∧ a ≤ 5)
theorem isSide_eq (K : Nat) (_hK : 2000000 ≤ K) (a : Int) : impl_isSide.f K a = some (sideB a) := by
  unfold impl_isSide.f
  rw [in_eq]; rfl
theorem w1 (n : Nat) (h : n ≤ 4000000000000000000) : wrap64 ((n : Int) + 1) = ((n + 1 : Nat) : Int) := by rw [w64 (by omega) (by omega)]; omega
theorem toS_l0 (K : Nat) (l : List Int) (h : l.length ≤ 1073741824) : ∀ (k n : Nat) (out : List Int), out.length = l.length → out.take n = l.take n → n ≤ l.length → l.length - n < k → laws_toIntS.l0 K l k (n : Int) out = some l := by
  intro k
  induction k with
  | zero => intro n out h1 h2 h3 h4; omega
  | succ k ih =>
    intro n out h1 h2 h3 h4
    rw [laws_toIntS.l0]
    by_cases hn : (n : Int) < (l.length : Int)
    · have hn' : n < l.length := by omega
      rw [if_pos hn, if_pos (by omega), if_pos (by omega), w1 n (by omega)]
      refine ih (n + 1) _ (by simp [h1]) ?_ (by omega) (by omega)
      have hnn : ((n : Int)).toNat = n := by omega
      rw [hnn, List.take_add_one, List.take_add_one, List.take_set_of_le (Nat.le_refl n), h2]
      rw [List.getElem?_set_self (by omega)]
      congr 1
      rw [List.getD_eq_getElem?_getD, List.getElem?_eq_getElem hn']
      rfl
    · rw [if_neg hn]
      have : n = l.length := by omega
      subst this
      rw [← h1, List.take_length, h1, List.take_length] at h2
      rw [h2]
theorem toS (K : Nat) (l : List Int) (h : l.length ≤ 1048576) (hK : 2000000 ≤ K) : laws_toIntS.f K l = some l := by
  unfold laws_toIntS.f
  rw [if_pos (by omega), show (0 : Int) = ((0 : Nat) : Int) from rfl, toS_l0 K l (by omega) K 0 _ (by simp) (by simp) (by omega) (by omega)]
  rfl
theorem allSide_l0 (K : Nat) (hK : 2000000 ≤ K) (l : List Int) (h : l.length ≤ 1073741824) : ∀ (k n : Nat), n ≤ l.length → l.length - n < k →
    (slices_IndexFunc_int_int__areAll_int_1_isSide.l0 K l k (n : Int) = some (Sum.inl ()) ∧ (l.drop n).all sideB = true) ∨ (∃ i : Int, 0 ≤ i ∧ slices_IndexFunc_int_int__areAll_int_1_isSide.l0 K l k (n : Int) = some (Sum.inr i) ∧ (l.drop n).all sideB = false) := by
  intro k
  induction k with
  | zero => intro n h1 h2; omega
  | succ k ih =>
    intro n h1 h2
    rw [slices_IndexFunc_int_int__areAll_int_1_isSide.l0]
    by_cases hn : (n : Int) < (l.length : Int)
    · have hn' : n < l.length := by omega
      have hnn : ((n : Int)).toNat = n := by omega
      have hd : l.drop n = l[n] :: l.drop (n + 1) := List.drop_eq_getElem_cons hn'
      have hg : l.getD n (0 : Int) = l[n] := by rw [List.getD_eq_getElem?_getD, List.getElem?_eq_getElem hn']; rfl
      rw [if_pos hn, if_pos (by omega), w1 n (by omega), hnn, hg, impl_areAll_int_1__isSide.f, isSide_eq K hK, hd]
      simp only [some_bind, List.all_cons]
      rcases Bool.eq_false_or_eq_true (sideB l[n]) with e | e
      · rw [e]
        simp only [Bool.not_true, Bool.false_eq_true, if_false, Bool.true_and]
        exact ih (n + 1) (by omega) (by omega)
      · rw [e]
        simp only [Bool.not_false, if_true, Bool.false_and]
        exact .inr ⟨_, by omega, rfl, trivial⟩
    · rw [if_neg hn]
      have : n = l.length := by omega
      subst this
      exact .inl ⟨rfl, by simp⟩
theorem allSide_eq (K : Nat) (hK : 2000000 ≤ K) (l : List Int) (h : l.length ≤ 1048576) : impl_areAll_int__isSide.f K l = some (l.all sideB) := by
  unfold impl_areAll_int__isSide.f slices_ContainsFunc_int_int__areAll_int_1_isSide.f slices_IndexFunc_int_int__areAll_int_1_isSide.f
  rcases allSide_l0 K hK l (by omega) K 0 (by omega) (by omega) with ⟨h1, h2⟩ | ⟨i, hi, h1, h2⟩
  · rw [show (0 : Int) = ((0 : Nat) : Int) from rfl, h1]
    simp only [some_bind, List.drop_zero] at h2 ⊢
    rw [h2]; rfl
  · rw [show (0 : Int) = ((0 : Nat) : Int) from rfl, h1]
    simp only [some_bind, List.drop_zero] at h2 ⊢
    rw [h2]
    have : decide (((0 : Nat) : Int) ≤ i) = true := decide_eq_true (by simpa using hi)
    rw [this]; rfl
theorem capSide_l0 (K : Nat) (hK : 2000000 ≤ K) (l : List Int) (a1 : Int) (h : l.length ≤ 1073741824) : ∀ (k n : Nat), n ≤ l.length → l.length - n < k →
    (spec_l9Throws.l0 K l a1 k (n : Int) = some (Sum.inl ()) ∧ ((l.length : Int) ≤ a1 → (l.drop n).all sideB = true)) ∨ (spec_l9Throws.l0 K l a1 k (n : Int) = some (Sum.inr false) ∧ (l.drop n).all sideB = false) := by
  intro k
  induction k with
  | zero => intro n h1 h2; omega
  | succ k ih =>
    intro n h1 h2
    rw [spec_l9Throws.l0]
    by_cases hn : (n : Int) < (l.length : Int)
    · rw [if_pos hn]
      by_cases hc : (n : Int) ≤ a1
      · have hn' : n < l.length := by omega
        have hnn : ((n : Int)).toNat = n := by omega
        have hd : l.drop n = l[n] :: l.drop (n + 1) := List.drop_eq_getElem_cons hn'
        have hg : l.getD n (0 : Int) = l[n] := by rw [List.getD_eq_getElem?_getD, List.getElem?_eq_getElem hn']; rfl
        rw [if_pos hc, if_pos (by omega), w1 n (by omega), hnn, hg, show spec_l1In.f K l[n] 0 5 = some (sideB l[n]) by rw [in_within, in_eq]; rfl, hd]
        simp only [some_bind, List.all_cons]
        rcases Bool.eq_false_or_eq_true (sideB l[n]) with e | e
        · rw [e]
          simp only [if_true, Bool.true_and]
          exact ih (n + 1) (by omega) (by omega)
        · rw [e]
          simp only [Bool.false_eq_true, if_false, Bool.false_and]
          exact .inr ⟨trivial, trivial⟩
      · rw [if_neg hc]
        exact .inl ⟨rfl, fun h => by omega⟩
    · rw [if_neg hn]
      have : n = l.length := by omega
      subst this
      exact .inl ⟨rfl, by simp⟩
theorem capSide_eq (K : Nat) (hK : 2000000 ≤ K) (l : List Int) (a1 : Int) (h : l.length ≤ 1048576) : spec_l9Throws.f K l a1 = some (decide ((l.length : Int) ≤ a1) && l.all sideB) := by
  unfold spec_l9Throws.f
  rcases capSide_l0 K hK l a1 (by omega) K 0 (by omega) (by omega) with ⟨h1, h2⟩ | ⟨h1, h2⟩
  · rw [show (0 : Int) = ((0 : Nat) : Int) from rfl, h1]
    simp only [some_bind, List.drop_zero] at h2 ⊢
    by_cases hc : (l.length : Int) ≤ a1
    · rw [h2 hc]; simp [hc]
    · simp [hc]
  · rw [show (0 : Int) = ((0 : Nat) : Int) from rfl, h1]
    simp only [some_bind, List.drop_zero] at h2 ⊢
    rw [h2]; simp
theorem throws_eq (K : Nat) (hK : 2000000 ≤ K) (l : List Int) (h : l.length ≤ 1048576) : impl_areThrows.f K l = some (l.all sideB) := by
  unfold impl_areThrows.f
  rw [allSide_eq K hK l h]; rfl
theorem number_l0 (K : Nat) (l : List Int) : ∀ (k : Nat) (x n : Int), spec_l9Number.l0 K l k x n = impl_numberOf.l0 K l k x n := by
  intro k
  induction k with
  | zero => intro x n; rfl
  | succ k ih => intro x n; rw [spec_l9Number.l0, impl_numberOf.l0, Int.mul_comm 6 x]; simp only [ih]
theorem number_eq (K : Nat) (l : List Int) : spec_l9Number.f K l = impl_numberOf.f K l := by
  unfold spec_l9Number.f impl_numberOf.f
  rw [number_l0]
theorem number_some_l0 (K : Nat) (l : List Int) (h : l.length ≤ 1073741824) : ∀ (k n : Nat) (x : Int), n ≤ l.length → l.length - n < k → ∃ r, impl_numberOf.l0 K l k x (n : Int) = some r := by
  intro k
  induction k with
  | zero => intro n x h1 h2; omega
  | succ k ih =>
    intro n x h1 h2
    rw [impl_numberOf.l0]
    by_cases hn : (n : Int) < (l.length : Int)
    · rw [if_pos hn, if_pos (by omega), w1 n (by omega)]
      exact ih (n + 1) _ (by omega) (by omega)
    · rw [if_neg hn]; exact ⟨_, rfl⟩
theorem number_some (K : Nat) (hK : 2000000 ≤ K) (l : List Int) (h : l.length ≤ 1048576) : ∃ r, impl_numberOf.f K l = some r := by
  obtain ⟨r, hr⟩ := number_some_l0 K l (by omega) K 0 0 (by omega) (by omega)
  unfold impl_numberOf.f
  rw [show impl_numberOf.l0 K l K 0 0 = some r from hr]
  exact ⟨r, rfl⟩
theorem all_power : spec_l2All.f = impl_power.f := by kernel_rfl
theorem power_some (K : Nat) (hK : 100 ≤ K) : ∀ (a : Int), a ≤ 20 → ∃ p, impl_power.f K a = some p := by
  have key : ∀ (k : Nat) (a x y : Int), 0 ≤ y → a ≤ 20 → y ≤ 20 → 20 - y < k → ∃ p, impl_power.l0 K a k x y = some p := by
    intro k
    induction k with
    | zero => intro a x y h0 h1 h2 h3; omega
    | succ k ih =>
      intro a x y h0 h1 h2 h3
      rw [impl_power.l0]
      by_cases h : y < a
      · rw [if_pos h]
        have : wrap64 (y + 1) = y + 1 := w64 (by omega) (by omega)
        rw [this]
        exact ih _ _ _ (by omega) h1 (by omega) (by omega)
      · rw [if_neg h]; exact ⟨_, rfl⟩
  intro a ha
  obtain ⟨p, hp⟩ := key K a 1 0 (by omega) ha (by omega) (by omega)
  exact ⟨p, by rw [impl_power.f, hp]; rfl⟩
theorem good_made : spec_l9Good.f = impl_isMade.f := by kernel_rfl
theorem taken_taken : spec_l9Taken.f = impl_taken.f := by kernel_rfl
theorem made_some (K : Nat) (hK : 100 ≤ K) (a b : Int) : ∃ p, impl_isMade.f K a b = some p ∧ (p = true → 1 ≤ a ∧ a ≤ 1000 ∧ 1 ≤ b ∧ b ≤ 6 ∧ ∃ q, impl_power.f K b = some q ∧ a ≤ q) := by
  unfold impl_isMade.f
  simp only [in_eq, some_bind]
  by_cases h : 1 ≤ a ∧ a ≤ 1000
  · by_cases h' : 1 ≤ b ∧ b ≤ 6
    · obtain ⟨p, hp⟩ := power_some K hK b (by omega)
      simp [h, h', hp]
    · simp [h, h']
  · simp [h]

theorem eqS_l0 (K : Nat) (l : List Int) (h : l.length ≤ 1073741824) : ∀ (k n : Nat), n ≤ l.length → l.length - n < k → laws_eqIntS.l0 K l l k (n : Int) = some (Sum.inl ()) := by
  intro k
  induction k with
  | zero => intro n h1 h2; omega
  | succ k ih =>
    intro n h1 h2
    rw [laws_eqIntS.l0]
    by_cases hn : (n : Int) < (l.length : Int)
    · rw [if_pos hn, if_pos (by omega), if_pos (by omega), if_pos rfl, w1 n (by omega)]
      exact ih (n + 1) (by omega) (by omega)
    · rw [if_neg hn]
theorem eqS (K : Nat) (l : List Int) (h : l.length ≤ 1048576) (hK : 2000000 ≤ K) : laws_eqIntS.f K l l = some true := by
  unfold laws_eqIntS.f
  rw [if_pos rfl, show (0 : Int) = ((0 : Nat) : Int) from rfl, eqS_l0 K l (by omega) K 0 (by omega) (by omega)]
  rfl
theorem MakeNumber_same (K : Nat) (hK : 2000000 ≤ K) (a : Int) (l : List Int) (h : l.length ≤ 1048576) : ∃ r, spec_MakeNumber.f K a l = some r ∧ impl_MakeNumber.f K a l = some r := by
  unfold spec_MakeNumber.f impl_MakeNumber.f
  rw [capSide_eq K hK l 6 h, throws_eq K hK l h, number_eq, good_made, taken_taken]
  obtain ⟨r, hr⟩ := number_some K hK l h
  obtain ⟨p, hp, hq⟩ := made_some K (by omega) a (l.length : Int)
  simp only [some_bind, hr, hp]
  cases p with
  | false =>
    by_cases h2 : (l.length : Int) ≤ 6 <;> by_cases h4 : l.all sideB = true <;> simp [h2, h4]
  | true =>
    obtain ⟨h5, h6, h7, h8, q, hq1, hq2⟩ := hq rfl
    have ht : impl_taken.f K a (l.length : Int) = some (wrap64 ((wrap64 (q.tdiv a)) * a)) := by
      unfold impl_taken.f
      rw [hq1, some_bind, if_pos (by omega)]
    by_cases h4 : l.all sideB = true
    · simp only [h8, h4, decide_true, Bool.and_self, if_true, ht, some_bind, show a ≠ 0 by omega]
      by_cases h9 : wrap64 ((wrap64 (q.tdiv a)) * a) ≤ r <;> simp [h9, show a ≠ 0 by omega]
    · simp [h4]
theorem MakeNumber_pure (a0 : Int) (l1 : List Int) (_w0 : (Lit.int .i64 a0).wf = true) (_m : l1.length ≤ maxLen) (_w : ∀ z ∈ l1, (Lit.int .i64 z).wf = true) : ∃ K, laws_FnExactMakeNumber.f K a0 l1 = some true := by
  refine ⟨200000000, ?_⟩
  unfold laws_FnExactMakeNumber.f
  by_cases h : (1048576 : Int) < l1.length
  · rw [if_pos h]
  · rw [if_neg h]
    have h' : l1.length ≤ 1048576 := by omega
    obtain ⟨r, h1, h2⟩ := MakeNumber_same 200000000 (by omega) a0 l1 h'
    simp [toS _ l1 h', h1, h2, eqS _ l1 h']
end Go.Proofs.Ytbknafijehakbaa.WMakeNumber

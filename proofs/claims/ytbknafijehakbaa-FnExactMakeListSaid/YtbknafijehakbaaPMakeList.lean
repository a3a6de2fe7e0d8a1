/- The plain law: what the walk shows to be computed answers true. Conditions: the numbers are 64-bit. -/
import Derived.Test.YtbknafijehakbaaWMakeList
import Derived.KernelRfl
namespace Go.Proofs.Ytbknafijehakbaa.WMakeList
open Go.K Go.RowKit
set_option linter.unusedVariables false
set_option linter.unusedSimpArgs false

theorem in_eq (K : Nat) (a lo hi : Int) : impl_within.f K a lo hi = some (decide (lo ≤ a ∧ a ≤ hi)) := by
  unfold impl_within.f
  by_cases h : lo ≤ a <;> simp [h]
theorem in_within : spec_l1In.f = impl_within.f := by kernel_rfl
def sideB (a : Int) : Bool := decide (0 ≤ a ∧ a ≤ 5)
theorem isSide_eq (K : Nat) (_hK : 2000000 ≤ K) (a : Int) : impl_isSide.f K a = some (sideB a) := by
  unfold impl_isSide.f
  rw [in_eq]; rfl
theorem w1 (n : Nat) (h : n ≤ 4000000000000000000) : wrap64 ((n : Int) + 1) = ((n + 1 : Nat) : Int) := by rw [w64 (by omega) (by omega)]; omega
theorem toS_l0 (K : Nat) (l : List Int) (h : l.length ≤ 1073741824) : ∀ (k n : Nat) (out : List Int), out.length = l.length → out.take n = l.take n → n ≤ l.length → l.length - n < k → laws_toIntS.l0 K l k (n : Int) out = some l := by
  intro k
  induction k with
  | zero => intro n out h1 h2 h3 h4; omega
  | succ k ih =>
    intro n out h1 h2 h3 h4
    rw [laws_toIntS.l0]
    by_cases hn : (n : Int) < (l.length : Int)
    · have hn' : n < l.length := by omega
      rw [if_pos hn, if_pos (by omega), if_pos (by omega), w1 n (by omega)]
      refine ih (n + 1) _ (by simp [h1]) ?_ (by omega) (by omega)
      have hnn : ((n : Int)).toNat = n := by omega
      rw [hnn, List.take_add_one, List.take_add_one, List.take_set_of_le (Nat.le_refl n), h2]
      rw [List.getElem?_set_self (by omega)]
      congr 1
      rw [List.getD_eq_getElem?_getD, List.getElem?_eq_getElem hn']
      rfl
    · rw [if_neg hn]
      have : n = l.length := by omega
      subst this
      rw [← h1, List.take_length, h1, List.take_length] at h2
      rw [h2]
theorem toS (K : Nat) (l : List Int) (h : l.length ≤ 1048576) (hK : 2000000 ≤ K) : laws_toIntS.f K l = some l := by
  unfold laws_toIntS.f
  rw [if_pos (by omega), show (0 : Int) = ((0 : Nat) : Int) from rfl, toS_l0 K l (by omega) K 0 _ (by simp) (by simp) (by omega) (by omega)]
  rfl
theorem allSide_l0 (K : Nat) (hK : 2000000 ≤ K) (l : List Int) (h : l.length ≤ 1073741824) : ∀ (k n : Nat), n ≤ l.length → l.length - n < k →
    (slices_IndexFunc_int_int__areAll_int_1_isSide.l0 K l k (n : Int) = some (Sum.inl ()) ∧ (l.drop n).all sideB = true) ∨ (∃ i : Int, 0 ≤ i ∧ slices_IndexFunc_int_int__areAll_int_1_isSide.l0 K l k (n : Int) = some (Sum.inr i) ∧ (l.drop n).all sideB = false) := by
  intro k
  induction k with
  | zero => intro n h1 h2; omega
  | succ k ih =>
    intro n h1 h2
    rw [slices_IndexFunc_int_int__areAll_int_1_isSide.l0]
    by_cases hn : (n : Int) < (l.length : Int)
    · have hn' : n < l.length := by omega
      have hnn : ((n : Int)).toNat = n := by omega
      have hd : l.drop n = l[n] :: l.drop (n + 1) := List.drop_eq_getElem_cons hn'
      have hg : l.getD n (0 : Int) = l[n] := by rw [List.getD_eq_getElem?_getD, List.getElem?_eq_getElem hn']; rfl
      rw [if_pos hn, if_pos (by omega), w1 n (by omega), hnn, hg, impl_areAll_int_1__isSide.f, isSide_eq K hK, hd]
      simp only [some_bind, List.all_cons]
      rcases Bool.eq_false_or_eq_true (sideB l[n]) with e | e
      · rw [e]
        simp only [Bool.not_true, Bool.false_eq_true, if_false, Bool.true_and]
        exact ih (n + 1) (by omega) (by omega)
      · rw [e]
        simp only [Bool.not_false, if_true, Bool.false_and]
        exact .inr ⟨_, by omega, rfl, trivial⟩
    · rw [if_neg hn]
      have : n = l.length := by omega
      subst this
      exact .inl ⟨rfl, by simp⟩
theorem allSide_eq (K : Nat) (hK : 2000000 ≤ K) (l : List Int) (h : l.length ≤ 1048576) : impl_areAll_int__isSide.f K l = some (l.all sideB) := by
  unfold impl_areAll_int__isSide.f slices_ContainsFunc_int_int__areAll_int_1_isSide.f slices_IndexFunc_int_int__areAll_int_1_isSide.f
  rcases allSide_l0 K hK l (by omega) K 0 (by omega) (by omega) with ⟨h1, h2⟩ | ⟨i, hi, h1, h2⟩
  · rw [show (0 : Int) = ((0 : Nat) : Int) from rfl, h1]
    simp only [some_bind, List.drop_zero] at h2 ⊢
    rw [h2]; rfl
  · rw [show (0 : Int) = ((0 : Nat) : Int) from rfl, h1]
    simp only [some_bind, List.drop_zero] at h2 ⊢
    rw [h2]
    have : decide (((0 : Nat) : Int) ≤ i) = true := decide_eq_true (by simpa using hi)
    rw [this]; rfl
theorem capSide_l0 (K : Nat) (hK : 2000000 ≤ K) (l : List Int) (a1 : Int) (h : l.length ≤ 1073741824) : ∀ (k n : Nat), n ≤ l.length → l.length - n < k →
    (spec_l9Throws.l0 K l a1 k (n : Int) = some (Sum.inl ()) ∧ ((l.length : Int) ≤ a1 → (l.drop n).all sideB = true)) ∨ (spec_l9Throws.l0 K l a1 k (n : Int) = some (Sum.inr false) ∧ (l.drop n).all sideB = false) := by
  intro k
  induction k with
  | zero => intro n h1 h2; omega
  | succ k ih =>
    intro n h1 h2
    rw [spec_l9Throws.l0]
    by_cases hn : (n : Int) < (l.length : Int)
    · rw [if_pos hn]
      by_cases hc : (n : Int) ≤ a1
      · have hn' : n < l.length := by omega
        have hnn : ((n : Int)).toNat = n := by omega
        have hd : l.drop n = l[n] :: l.drop (n + 1) := List.drop_eq_getElem_cons hn'
        have hg : l.getD n (0 : Int) = l[n] := by rw [List.getD_eq_getElem?_getD, List.getElem?_eq_getElem hn']; rfl
        rw [if_pos hc, if_pos (by omega), w1 n (by omega), hnn, hg, show spec_l1In.f K l[n] 0 5 = some (sideB l[n]) by rw [in_within, in_eq]; rfl, hd]
        simp only [some_bind, List.all_cons]
        rcases Bool.eq_false_or_eq_true (sideB l[n]) with e | e
        · rw [e]
          simp only [if_true, Bool.true_and]
          exact ih (n + 1) (by omega) (by omega)
        · rw [e]
          simp only [Bool.false_eq_true, if_false, Bool.false_and]
          exact .inr ⟨trivial, trivial⟩
      · rw [if_neg hc]
        exact .inl ⟨rfl, fun h => by omega⟩
    · rw [if_neg hn]
      have : n = l.length := by omega
      subst this
      exact .inl ⟨rfl, by simp⟩
theorem capSide_eq (K : Nat) (hK : 2000000 ≤ K) (l : List Int) (a1 : Int) (h : l.length ≤ 1048576) : spec_l9Throws.f K l a1 = some (decide ((l.length : Int) ≤ a1) && l.all sideB) := by
  unfold spec_l9Throws.f
  rcases capSide_l0 K hK l a1 (by omega) K 0 (by omega) (by omega) with ⟨h1, h2⟩ | ⟨h1, h2⟩
  · rw [show (0 : Int) = ((0 : Nat) : Int) from rfl, h1]
    simp only [some_bind, List.drop_zero] at h2 ⊢
    by_cases hc : (l.length : Int) ≤ a1
    · rw [h2 hc]; simp [hc]
    · simp [hc]
  · rw [show (0 : Int) = ((0 : Nat) : Int) from rfl, h1]
    simp only [some_bind, List.drop_zero] at h2 ⊢
    rw [h2]; simp
theorem throws_eq (K : Nat) (hK : 2000000 ≤ K) (l : List Int) (h : l.length ≤ 1048576) : impl_areThrows.f K l = some (l.all sideB) := by
  unfold impl_areThrows.f
  rw [allSide_eq K hK l h]; rfl
theorem number_l0 (K : Nat) (l : List Int) : ∀ (k : Nat) (x n : Int), spec_l9Number.l0 K l k x n = impl_numberOf.l0 K l k x n := by
  intro k
  induction k with
  | zero => intro x n; rfl
  | succ k ih => intro x n; rw [spec_l9Number.l0, impl_numberOf.l0, Int.mul_comm 6 x]; simp only [ih]
theorem number_eq (K : Nat) (l : List Int) : spec_l9Number.f K l = impl_numberOf.f K l := by
  unfold spec_l9Number.f impl_numberOf.f
  rw [number_l0]
theorem number_some_l0 (K : Nat) (l : List Int) (h : l.length ≤ 1073741824) : ∀ (k n : Nat) (x : Int), n ≤ l.length → l.length - n < k → ∃ r, impl_numberOf.l0 K l k x (n : Int) = some r := by
  intro k
  induction k with
  | zero => intro n x h1 h2; omega
  | succ k ih =>
    intro n x h1 h2
    rw [impl_numberOf.l0]
    by_cases hn : (n : Int) < (l.length : Int)
    · rw [if_pos hn, if_pos (by omega), w1 n (by omega)]
      exact ih (n + 1) _ (by omega) (by omega)
    · rw [if_neg hn]; exact ⟨_, rfl⟩
theorem number_some (K : Nat) (hK : 2000000 ≤ K) (l : List Int) (h : l.length ≤ 1048576) : ∃ r, impl_numberOf.f K l = some r := by
  obtain ⟨r, hr⟩ := number_some_l0 K l (by omega) K 0 0 (by omega) (by omega)
  unfold impl_numberOf.f
  rw [show impl_numberOf.l0 K l K 0 0 = some r from hr]
  exact ⟨r, rfl⟩
theorem power_some (K : Nat) (hK : 100 ≤ K) : ∀ (a : Int), a ≤ 20 → ∃ p, impl_power.f K a = some p := by
  have key : ∀ (k : Nat) (a x y : Int), 0 ≤ y → a ≤ 20 → y ≤ 20 → 20 - y < k → ∃ p, impl_power.l0 K a k x y = some p := by
    intro k
    induction k with
    | zero => intro a x y h0 h1 h2 h3; omega
    | succ k ih =>
      intro a x y h0 h1 h2 h3
      rw [impl_power.l0]
      by_cases h : y < a
      · rw [if_pos h]
        have : wrap64 (y + 1) = y + 1 := w64 (by omega) (by omega)
        rw [this]
        exact ih _ _ _ (by omega) h1 (by omega) (by omega)
      · rw [if_neg h]; exact ⟨_, rfl⟩
  intro a ha
  obtain ⟨p, hp⟩ := key K a 1 0 (by omega) ha (by omega) (by omega)
  exact ⟨p, by rw [impl_power.f, hp]; rfl⟩
theorem good_made : spec_l9Good.f = impl_isMade.f := by kernel_rfl
theorem taken_taken : spec_l9Taken.f = impl_taken.f := by kernel_rfl
theorem made_some (K : Nat) (hK : 100 ≤ K) (a b : Int) : ∃ p, impl_isMade.f K a b = some p ∧ (p = true → 1 ≤ a ∧ a ≤ 1000 ∧ 1 ≤ b ∧ b ≤ 6 ∧ ∃ q, impl_power.f K b = some q ∧ a ≤ q) := by
  unfold impl_isMade.f
  simp only [in_eq, some_bind]
  by_cases h : 1 ≤ a ∧ a ≤ 1000
  · by_cases h' : 1 ≤ b ∧ b ≤ 6
    · obtain ⟨p, hp⟩ := power_some K hK b (by omega)
      simp [h, h', hp]
    · simp [h, h']
  · simp [h]

theorem eqS_l0 (K : Nat) (l : List Int) (h : l.length ≤ 1073741824) : ∀ (k n : Nat), n ≤ l.length → l.length - n < k → laws_eqIntS.l0 K l l k (n : Int) = some (Sum.inl ()) := by
  intro k
  induction k with
  | zero => intro n h1 h2; omega
  | succ k ih =>
    intro n h1 h2
    rw [laws_eqIntS.l0]
    by_cases hn : (n : Int) < (l.length : Int)
    · rw [if_pos hn, if_pos (by omega), if_pos (by omega), if_pos rfl, w1 n (by omega)]
      exact ih (n + 1) (by omega) (by omega)
    · rw [if_neg hn]
theorem eqS (K : Nat) (l : List Int) (h : l.length ≤ 1048576) (hK : 2000000 ≤ K) : laws_eqIntS.f K l l = some true := by
  unfold laws_eqIntS.f
  rw [if_pos rfl, show (0 : Int) = ((0 : Nat) : Int) from rfl, eqS_l0 K l (by omega) K 0 (by omega) (by omega)]
  rfl
def marksS (a : Int) : Nat → List Int
  | 0 => []
  | n + 1 => a :: marksS (a + 1) n
theorem marksS_length : ∀ (n : Nat) (a : Int), (marksS a n).length = n
  | 0, _ => rfl
  | n + 1, a => by simp [marksS, marksS_length n]
theorem marksS_get : ∀ (n : Nat) (a : Int) (i : Nat), i < n → (marksS a n)[i]? = some (a + i)
  | 0, _, i, h => by omega
  | n + 1, a, 0, _ => by simp [marksS]
  | n + 1, a, i + 1, h => by
    simp only [marksS, List.getElem?_cons_succ]
    rw [marksS_get n (a + 1) i (by omega)]
    congr 1
    omega
theorem markS_l0 (K : Nat) (l : List Int) (N : Nat) (a : Int) (h0 : 0 ≤ a) (h : N ≤ 1073741824) (ha : a ≤ 1073741824) : ∀ (k n : Nat) (out : List Int), out.length = N → out.take n = (marksS a N).take n → n ≤ N → N - n < k → laws_markIntS.l0 K l k (a + n) (n : Int) out = some (a + N, marksS a N) := by
  intro k
  induction k with
  | zero => intro n out h1 h2 h3 h4; omega
  | succ k ih =>
    intro n out h1 h2 h3 h4
    rw [laws_markIntS.l0]
    by_cases hn : (n : Int) < (out.length : Int)
    · have hn' : n < N := by omega
      rw [if_pos hn, if_pos (by omega), w1 n (by omega)]
      rw [show wrap64 (a + (n : Int) + 1) = a + ((n + 1 : Nat) : Int) by rw [w64 (by omega) (by omega)]; omega]
      refine ih (n + 1) _ (by simp [h1]) ?_ (by omega) (by omega)
      have hnn : ((n : Int)).toNat = n := by omega
      rw [hnn, List.take_add_one, List.take_add_one, List.take_set_of_le (Nat.le_refl n), h2]
      rw [List.getElem?_set_self (by omega), marksS_get N a n hn']
    · rw [if_neg hn]
      have : n = N := by omega
      subst this
      have h5 : out = marksS a n := by
        have e1 : out.take n = out := by rw [← h1]; exact List.take_length
        have e2 : (marksS a n).take n = marksS a n := by
          conv => lhs; rw [← marksS_length n a]
          rw [marksS_length]; exact List.take_of_length_le (by rw [marksS_length]; omega)
        rw [e1, e2] at h2
        exact h2
      rw [h5]
theorem heldS_l0 (K : Nat) (N : Nat) (a : Int) (h0 : 0 ≤ a) (h : N ≤ 1073741824) (ha : a ≤ 1073741824) : ∀ (k n : Nat), n ≤ N → N - n < k → laws_heldIntS.l0 K (marksS a N) k (a + n) (n : Int) = some (Sum.inl (a + N)) := by
  intro k
  induction k with
  | zero => intro n h3 h4; omega
  | succ k ih =>
    intro n h3 h4
    rw [laws_heldIntS.l0, marksS_length]
    by_cases hn : (n : Int) < (N : Int)
    · have hn' : n < N := by omega
      have hnn : ((n : Int)).toNat = n := by omega
      rw [if_pos hn, if_pos (by omega), w1 n (by omega), hnn, List.getD_eq_getElem?_getD, marksS_get N a n hn', Option.getD_some, if_pos rfl]
      rw [show wrap64 (a + (n : Int) + 1) = a + ((n + 1 : Nat) : Int) by rw [w64 (by omega) (by omega)]; omega]
      exact ih (n + 1) (by omega) (by omega)
    · rw [if_neg hn]
      have : n = N := by omega
      subst this
      rfl
theorem markS (K : Nat) (l : List Int) (a : Int) (h0 : 0 ≤ a) (ha : a ≤ 1073741824) (h : l.length ≤ 100000000) (hK : 200000000 ≤ K) : laws_markIntS.f K l a = some (a + l.length, marksS a l.length) := by
  unfold laws_markIntS.f
  have := markS_l0 K l l.length a h0 (by omega) ha K 0 l rfl (by simp) (by omega) (by omega)
  simp only [Int.natCast_zero, Int.add_zero] at this
  rw [this]; rfl
theorem heldS (K : Nat) (N : Nat) (a : Int) (h0 : 0 ≤ a) (ha : a ≤ 1073741824) (h : N ≤ 100000000) (hK : 200000000 ≤ K) : laws_heldIntS.f K (marksS a N) a = some (a + N) := by
  unfold laws_heldIntS.f
  have := heldS_l0 K N a h0 (by omega) ha K 0 (by omega) (by omega)
  simp only [Int.natCast_zero, Int.add_zero] at this
  rw [this]; rfl
theorem MakeNumber_same (K : Nat) (hK : 2000000 ≤ K) (a : Int) (l : List Int) (h : l.length ≤ 1048576) : ∃ r, spec_MakeNumber.f K a l = some r ∧ impl_MakeNumber.f K a l = some r := by
  unfold spec_MakeNumber.f impl_MakeNumber.f
  rw [capSide_eq K hK l 6 h, throws_eq K hK l h, number_eq, good_made, taken_taken]
  obtain ⟨r, hr⟩ := number_some K hK l h
  obtain ⟨p, hp, hq⟩ := made_some K (by omega) a (l.length : Int)
  simp only [some_bind, hr, hp]
  cases p with
  | false =>
    by_cases h2 : (l.length : Int) ≤ 6 <;> by_cases h4 : l.all sideB = true <;> simp [h2, h4]
  | true =>
    obtain ⟨h5, h6, h7, h8, q, hq1, hq2⟩ := hq rfl
    have ht : impl_taken.f K a (l.length : Int) = some (wrap64 ((wrap64 (q.tdiv a)) * a)) := by
      unfold impl_taken.f
      rw [hq1, some_bind, if_pos (by omega)]
    by_cases h4 : l.all sideB = true
    · simp only [h8, h4, decide_true, Bool.and_self, if_true, ht, some_bind, show a ≠ 0 by omega]
      by_cases h9 : wrap64 ((wrap64 (q.tdiv a)) * a) ≤ r <;> simp [h9, show a ≠ 0 by omega]
    · simp [h4]
theorem MakeList_o (K : Nat) (a : Int) (sz : Nat) (l : List Int) (m : Nat) : impl_MakeList.o K a sz l (List.range (m + 1)) = if (impl_MakeList.x K a (chP l sz m)).2.1 = true then impl_MakeList.o K a sz l (List.range m) ++ [(impl_MakeList.x K a (chP l sz m)).1] else impl_MakeList.o K a sz l (List.range m) := by
  unfold impl_MakeList.o
  rw [List.range_succ, List.flatMap_append]
  by_cases h : (impl_MakeList.x K a (chP l sz m)).2.1 = true <;> simp [h]
theorem MakeList_e (K : Nat) (a : Int) (sz : Nat) (l : List Int) (m : Nat) : impl_MakeList.e K a sz l (List.range (m + 1)) = if (impl_MakeList.x K a (chP l sz m)).2.1 = true then impl_MakeList.e K a sz l (List.range m) else impl_MakeList.e K a sz l (List.range m) + 1 := by
  unfold impl_MakeList.e
  rw [List.range_succ, List.filter_append]
  by_cases h : (impl_MakeList.x K a (chP l sz m)).2.1 = true <;> simp [h]
theorem chP_slice (l : List Int) (sz j : Nat) (h0 : 0 < sz) (hj : (j + 1) * sz ≤ l.length) : chP l sz j = (l.take ((j + 1) * sz)).drop (j * sz) := by
  rw [Nat.succ_mul] at hj ⊢
  have h1 : j < chN l.length sz := (chN_lt h0 j).2 (by omega)
  unfold chP
  rw [chLo_eq j h1, Nat.min_eq_left hj]
theorem MakeList_x (K : Nat) (hK : 2000000 ≤ K) (a : Int) (sz : Nat) (p : List Int) (hp : p.length = sz) (hs : p.all sideB = true) (hm : impl_isMade.f K a (sz : Int) = some true) (h1 : p.length ≤ 1048576) :
    ∃ t q, spec_l9Number.f K p = some t ∧ spec_l9Taken.f K a (sz : Int) = some q ∧ a ≠ 0 ∧ impl_MakeNumber.f K a p = some (if q ≤ t then (0, false, true) else (t.tmod a, true, true)) := by
  obtain ⟨t, ht⟩ := number_some K hK p h1
  obtain ⟨y, hy, hq⟩ := made_some K (by omega) a (sz : Int)
  rw [hm] at hy
  obtain rfl := some_some hy
  obtain ⟨h5, h6, h7, h8, q, hq1, hq2⟩ := hq rfl
  have ha : a ≠ 0 := by omega
  have hk : impl_taken.f K a (sz : Int) = some (wrap64 ((wrap64 (q.tdiv a)) * a)) := by
    unfold impl_taken.f
    rw [hq1, some_bind, if_pos ha]
  refine ⟨t, _, by rw [number_eq]; exact ht, by rw [taken_taken]; exact hk, ha, ?_⟩
  unfold impl_MakeNumber.f
  rw [hp, hm, throws_eq K hK p h1, hs]
  simp only [some_bind, if_true, ht, hk]
  by_cases h9 : wrap64 ((wrap64 (q.tdiv a)) * a) ≤ t
  · rw [if_pos h9, if_pos h9]
  · rw [if_neg h9, if_neg h9, if_pos ha]
theorem all_chP (l : List Int) (sz j : Nat) (h : l.all sideB = true) : (chP l sz j).all sideB = true := by
  rw [List.all_eq_true] at h ⊢
  exact fun x hx => h x (chP_mem hx)
theorem MakeList_l0 (K : Nat) (hK : 2000000 ≤ K) (a : Int) (sz : Nat) (l : List Int) (h : l.length ≤ 40) (hs0 : 0 < sz) (hs6 : sz ≤ 6) (hb : l.all sideB = true) (hm : impl_isMade.f K a (sz : Int) = some true) : ∀ (k m : Nat), m ≤ l.length / sz → l.length / sz - m < k →
    spec_MakeList.l0 K a (sz : Int) l k (impl_MakeList.e K a sz l (List.range m)) ((m * sz : Nat) : Int) (impl_MakeList.o K a sz l (List.range m)) = some (impl_MakeList.e K a sz l (List.range (l.length / sz)), impl_MakeList.o K a sz l (List.range (l.length / sz))) := by
  intro k
  induction k with
  | zero => intro m h1 h2; omega
  | succ k ih =>
    intro m h1 h2
    rw [spec_MakeList.l0]
    have hms : m * sz ≤ l.length := Nat.le_trans (Nat.mul_le_mul_right _ h1) (Nat.div_mul_le_self _ _)
    have hsu : (m + 1) * sz = m * sz + sz := Nat.succ_mul _ _
    have e3 : wrap64 (((m * sz : Nat) : Int) + (sz : Int)) = (((m + 1) * sz : Nat) : Int) := by rw [w64 (by omega) (by omega)]; omega
    rw [e3]
    clear e3
    by_cases hlt : m < l.length / sz
    · have hle : (m + 1) * sz ≤ l.length := Nat.le_trans (Nat.mul_le_mul_right _ hlt) (Nat.div_mul_le_self _ _)
      rw [if_pos (by omega), if_pos ⟨by omega, by omega, by omega⟩, Int.toNat_natCast, Int.toNat_natCast, ← chP_slice l sz m hs0 hle]
      have hpl : (chP l sz m).length = sz := by
        rw [chP_slice l sz m hs0 hle, List.length_drop, List.length_take]; omega
      obtain ⟨t, q, g1, g2, g3, g4⟩ := MakeList_x K hK a sz (chP l sz m) hpl (all_chP l sz m hb) hm (by omega)
      rw [g1, g2]
      simp only [some_bind]
      have ho := impl_MakeList.o_len K a sz l (List.range m)
      rw [List.length_range] at ho
      have he := impl_MakeList.e_le K a sz l (List.range m)
      rw [List.length_range] at he
      have he0 : 0 ≤ impl_MakeList.e K a sz l (List.range m) := Int.natCast_nonneg _
      have hmm : m ≤ m * sz := Nat.le_mul_of_pos_right _ hs0
      have ih' := ih (m + 1) (by omega) (by omega)
      rw [MakeList_o, MakeList_e] at ih'
      have hx : impl_MakeList.x K a (chP l sz m) = if q ≤ t then (0, false, true) else (t.tmod a, true, true) := by unfold impl_MakeList.x; rw [g4]; rfl
      by_cases h5 : q ≤ t
      · rw [if_pos h5] at hx
        rw [hx, if_neg (by simp), if_neg (by simp)] at ih'
        rw [if_neg (by omega), w64 (by omega) (by omega)]
        exact ih'
      · rw [if_neg h5] at hx
        rw [hx, if_pos rfl, if_pos rfl] at ih'
        rw [if_pos (by omega), if_pos g3, if_pos (by rw [List.length_singleton]; omega)]
        exact ih'
    · have : m = l.length / sz := by omega
      have h9 : l.length < (m + 1) * sz := by
        rw [this, Nat.mul_comm]
        exact Nat.lt_mul_div_succ _ hs0
      rw [if_neg (by omega), this]
theorem MakeList_same (K : Nat) (hK : 2000000 ≤ K) (a b : Int) (l : List Int) (h : l.length ≤ 1048576) : ∃ r c y, spec_MakeList.f K a b l = some (r, c, y) ∧ impl_MakeList.f K a b l = some (r, c, y) ∧ r.length ≤ 1000 := by
  unfold spec_MakeList.f impl_MakeList.f impl_isList.f
  rw [capSide_eq K hK l 40 h, throws_eq K hK l h, good_made]
  obtain ⟨p, hp, hq⟩ := made_some K (by omega) a b
  simp only [some_bind, hp]
  cases p with
  | false => exact ⟨[], 0, false, by simp, by simp, by simp⟩
  | true =>
    obtain ⟨h5, h6, h7, h8, _⟩ := hq rfl
    obtain ⟨sz, rfl⟩ : ∃ sz : Nat, b = (sz : Int) := ⟨b.toNat, by omega⟩
    by_cases h2 : (l.length : Int) ≤ 40
    · by_cases h4 : l.all sideB = true
      · have hl := MakeList_l0 K hK a sz l (by omega) (by omega) (by omega) h4 hp K 0 (Nat.zero_le _) (Nat.lt_of_le_of_lt (Nat.le_trans (Nat.sub_le _ _) (Nat.div_le_self l.length sz)) (by omega))
        have hl' : spec_MakeList.l0 K a (sz : Int) l K 0 0 [] = some (impl_MakeList.e K a sz l (List.range (l.length / sz)), impl_MakeList.o K a sz l (List.range (l.length / sz))) := by
          rw [Nat.zero_mul] at hl
          exact hl
        have ho := impl_MakeList.o_len K a sz l (List.range (l.length / sz))
        rw [List.length_range] at ho
        have hg : (1 ≤ (sz : Int) ∧ (sz : Int) ≤ 40 ∧ l.length ≤ 40) ∧ ∀ j ∈ List.range (chN l.length (sz : Int).toNat), (impl_MakeNumber.f K a (chP l (sz : Int).toNat j)).isSome = true := by
          refine ⟨⟨h7, by omega, by omega⟩, fun j _ => ?_⟩
          have hlen := chP_len l (sz := (sz : Int).toNat) j
          obtain ⟨r, _, hr⟩ := MakeNumber_same K hK a (chP l (sz : Int).toNat j) (by omega)
          rw [hr]; rfl
        refine ⟨impl_MakeList.o K a sz l (List.range (l.length / sz)), impl_MakeList.e K a sz l (List.range (l.length / sz)), true, ?_, ?_, Nat.le_trans ho (Nat.le_trans (Nat.div_le_self l.length sz) (by omega))⟩
        · simp only [h2, h4, decide_true, Bool.and_self, if_true, hl', some_bind]
        · rw [if_pos rfl, if_pos (decide_eq_true h2), if_pos h4, if_pos hg, Int.toNat_natCast]
      · refine ⟨[], 0, false, ?_, ?_, by simp⟩ <;> simp [h2, h4]
    · refine ⟨[], 0, false, ?_, ?_, by simp⟩ <;> simp [h2]
theorem MakeList_pure (a0 a1 : Int) (l2 : List Int) (_w0 : (Lit.int .i64 a0).wf = true) (_w1 : (Lit.int .i64 a1).wf = true) (_m : l2.length ≤ maxLen) (_w : ∀ z ∈ l2, (Lit.int .i64 z).wf = true) : ∃ K, laws_FnExactMakeList.f K a0 a1 l2 = some true := by
  refine ⟨200000000, ?_⟩
  unfold laws_FnExactMakeList.f
  by_cases h : (1048576 : Int) < l2.length
  · rw [if_pos h]
  · rw [if_neg h]
    have h' : l2.length ≤ 1048576 := by omega
    obtain ⟨r, c, b, h1, h2, h3⟩ := MakeList_same 200000000 (by omega) a0 a1 l2 h'
    have m1 := markS 200000000 l2 1 (by omega) (by omega) (by omega) (by omega)
    have m2 := markS 200000000 r 1 (by omega) (by omega) (by omega) (by omega)
    have m3 := heldS 200000000 r.length 1 (by omega) (by omega) (by omega) (by omega)
    have i1 : ¬ (1 : Int) + l2.length < 0 := by omega
    have i2 : ¬ (1 : Int) + r.length < 0 := by omega
    have t1 := toS 200000000 l2 h' (by omega)
    have q1 := eqS 200000000 l2 h' (by omega)
    have q2 := eqS 200000000 r (by omega) (by omega)
    simp only [t1, h1, h2, q1, q2, m1, m2, m3, some_bind, i1, i2, if_true, if_false, beq_self_eq_true]
end Go.Proofs.Ytbknafijehakbaa.WMakeList

/- The plain law: what the walk shows to be computed answers true. Conditions: the numbers are 64-bit. -/
import Derived.Test.YtbknafijehakbaaWEvenCoin
import Derived.KernelRfl
namespace Go.Proofs.Ytbknafijehakbaa.WEvenCoin
open Go.K Go.RowKit
set_option linter.unusedVariables false
set_option linter.unusedSimpArgs false

theorem in_eq (K : Nat) (a lo hi : Int) : impl_within.f K a lo hi = some (decide (lo ≤ a ∧ a ≤ hi)) := by
  unfold impl_within.f
  by_cases h : lo ≤ a <;> simp [h]
theorem in_within : spec_l1In.f = impl_within.f := by kernel_rfl
def sideB (a : Int) : Bool := decide (0 ≤ a ∧ a ≤ 5)
theorem isSide_eq (K : Nat) (_hK : 2000000 ≤ K) (a : Int) : impl_isSide.f K a = some (sideB a) := by
  unfold impl_isSide.f
  rw [in_eq]; rfl
theorem w1 (n : Nat) (h : n ≤ 4000000000000000000) : wrap64 ((n : Int) + 1) = ((n + 1 : Nat) : Int) := by rw [w64 (by omega) (by omega)]; omega
theorem toS_l0 (K : Nat) (l : List Int) (h : l.length ≤ 1073741824) : ∀ (k n : Nat) (out : List Int), out.length = l.length → out.take n = l.take n → n ≤ l.length → l.length - n < k → laws_toIntS.l0 K l k (n : Int) out = some l := by
  intro k
  induction k with
  | zero => intro n out h1 h2 h3 h4; omega
  | succ k ih =>
    intro n out h1 h2 h3 h4
    rw [laws_toIntS.l0]
    by_cases hn : (n : Int) < (l.length : Int)
    · have hn' : n < l.length := by omega
      rw [if_pos hn, if_pos (by omega), if_pos (by omega), w1 n (by omega)]
      refine ih (n + 1) _ (by simp [h1]) ?_ (by omega) (by omega)
      have hnn : ((n : Int)).toNat = n := by omega
      rw [hnn, List.take_add_one, List.take_add_one, List.take_set_of_le (Nat.le_refl n), h2]
      rw [List.getElem?_set_self (by omega)]
      congr 1
      rw [List.getD_eq_getElem?_getD, List.getElem?_eq_getElem hn']
      rfl
    · rw [if_neg hn]
      have : n = l.length := by omega
      subst this
      rw [← h1, List.take_length, h1, List.take_length] at h2
      rw [h2]
theorem toS (K : Nat) (l : List Int) (h : l.length ≤ 1048576) (hK : 2000000 ≤ K) : laws_toIntS.f K l = some l := by
  unfold laws_toIntS.f
  rw [if_pos (by omega), show (0 : Int) = ((0 : Nat) : Int) from rfl, toS_l0 K l (by omega) K 0 _ (by simp) (by simp) (by omega) (by omega)]
  rfl
theorem allSide_l0 (K : Nat) (hK : 2000000 ≤ K) (l : List Int) (h : l.length ≤ 1073741824) : ∀ (k n : Nat), n ≤ l.length → l.length - n < k →
    (slices_IndexFunc_int_int__areAll_int_1_isSide.l0 K l k (n : Int) = some (Sum.inl ()) ∧ (l.drop n).all sideB = true) ∨ (∃ i : Int, 0 ≤ i ∧ slices_IndexFunc_int_int__areAll_int_1_isSide.l0 K l k (n : Int) = some (Sum.inr i) ∧ (l.drop n).all sideB = false) := by
  intro k
  induction k with
  | zero => intro n h1 h2; omega
  | succ k ih =>
    intro n h1 h2
    rw [slices_IndexFunc_int_int__areAll_int_1_isSide.l0]
    by_cases hn : (n : Int) < (l.length : Int)
    · have hn' : n < l.length := by omega
      have hnn : ((n : Int)).toNat = n := by omega
      have hd : l.drop n = l[n] :: l.drop (n + 1) := List.drop_eq_getElem_cons hn'
      have hg : l.getD n (0 : Int) = l[n] := by rw [List.getD_eq_getElem?_getD, List.getElem?_eq_getElem hn']; rfl
      rw [if_pos hn, if_pos (by omega), w1 n (by omega), hnn, hg, impl_areAll_int_1__isSide.f, isSide_eq K hK, hd]
      simp only [some_bind, List.all_cons]
      rcases Bool.eq_false_or_eq_true (sideB l[n]) with e | e
      · rw [e]
        simp only [Bool.not_true, Bool.false_eq_true, if_false, Bool.true_and]
        exact ih (n + 1) (by omega) (by omega)
      · rw [e]
        simp only [Bool.not_false, if_true, Bool.false_and]
        exact .inr ⟨_, by omega, rfl, trivial⟩
    · rw [if_neg hn]
      have : n = l.length := by omega
      subst this
      exact .inl ⟨rfl, by simp⟩
theorem allSide_eq (K : Nat) (hK : 2000000 ≤ K) (l : List Int) (h : l.length ≤ 1048576) : impl_areAll_int__isSide.f K l = some (l.all sideB) := by
  unfold impl_areAll_int__isSide.f slices_ContainsFunc_int_int__areAll_int_1_isSide.f slices_IndexFunc_int_int__areAll_int_1_isSide.f
  rcases allSide_l0 K hK l (by omega) K 0 (by omega) (by omega) with ⟨h1, h2⟩ | ⟨i, hi, h1, h2⟩
  · rw [show (0 : Int) = ((0 : Nat) : Int) from rfl, h1]
    simp only [some_bind, List.drop_zero] at h2 ⊢
    rw [h2]; rfl
  · rw [show (0 : Int) = ((0 : Nat) : Int) from rfl, h1]
    simp only [some_bind, List.drop_zero] at h2 ⊢
    rw [h2]
    have : decide (((0 : Nat) : Int) ≤ i) = true := decide_eq_true (by simpa using hi)
    rw [this]; rfl
theorem capSide_l0 (K : Nat) (hK : 2000000 ≤ K) (l : List Int) (a1 : Int) (h : l.length ≤ 1073741824) : ∀ (k n : Nat), n ≤ l.length → l.length - n < k →
    (spec_l9Throws.l0 K l a1 k (n : Int) = some (Sum.inl ()) ∧ ((l.length : Int) ≤ a1 → (l.drop n).all sideB = true)) ∨ (spec_l9Throws.l0 K l a1 k (n : Int) = some (Sum.inr false) ∧ (l.drop n).all sideB = false) := by
  intro k
  induction k with
  | zero => intro n h1 h2; omega
  | succ k ih =>
    intro n h1 h2
    rw [spec_l9Throws.l0]
    by_cases hn : (n : Int) < (l.length : Int)
    · rw [if_pos hn]
      by_cases hc : (n : Int) ≤ a1
      · have hn' : n < l.length := by omega
        have hnn : ((n : Int)).toNat = n := by omega
        have hd : l.drop n = l[n] :: l.drop (n + 1) := List.drop_eq_getElem_cons hn'
        have hg : l.getD n (0 : Int) = l[n] := by rw [List.getD_eq_getElem?_getD, List.getElem?_eq_getElem hn']; rfl
        rw [if_pos hc, if_pos (by omega), w1 n (by omega), hnn, hg, show spec_l1In.f K l[n] 0 5 = some (sideB l[n]) by rw [in_within, in_eq]; rfl, hd]
        simp only [some_bind, List.all_cons]
        rcases Bool.eq_false_or_eq_true (sideB l[n]) with e | e
        · rw [e]
          simp only [if_true, Bool.true_and]
          exact ih (n + 1) (by omega) (by omega)
        · rw [e]
          simp only [Bool.false_eq_true, if_false, Bool.false_and]
          exact .inr ⟨trivial, trivial⟩
      · rw [if_neg hc]
        exact .inl ⟨rfl, fun h => by omega⟩
    · rw [if_neg hn]
      have : n = l.length := by omega
      subst this
      exact .inl ⟨rfl, by simp⟩
theorem capSide_eq (K : Nat) (hK : 2000000 ≤ K) (l : List Int) (a1 : Int) (h : l.length ≤ 1048576) : spec_l9Throws.f K l a1 = some (decide ((l.length : Int) ≤ a1) && l.all sideB) := by
  unfold spec_l9Throws.f
  rcases capSide_l0 K hK l a1 (by omega) K 0 (by omega) (by omega) with ⟨h1, h2⟩ | ⟨h1, h2⟩
  · rw [show (0 : Int) = ((0 : Nat) : Int) from rfl, h1]
    simp only [some_bind, List.drop_zero] at h2 ⊢
    by_cases hc : (l.length : Int) ≤ a1
    · rw [h2 hc]; simp [hc]
    · simp [hc]
  · rw [show (0 : Int) = ((0 : Nat) : Int) from rfl, h1]
    simp only [some_bind, List.drop_zero] at h2 ⊢
    rw [h2]; simp
theorem throws_eq (K : Nat) (hK : 2000000 ≤ K) (l : List Int) (h : l.length ≤ 1048576) : impl_areThrows.f K l = some (l.all sideB) := by
  unfold impl_areThrows.f
  rw [allSide_eq K hK l h]; rfl
theorem eqS_l0 (K : Nat) (l : List Int) (h : l.length ≤ 1073741824) : ∀ (k n : Nat), n ≤ l.length → l.length - n < k → laws_eqIntS.l0 K l l k (n : Int) = some (Sum.inl ()) := by
  intro k
  induction k with
  | zero => intro n h1 h2; omega
  | succ k ih =>
    intro n h1 h2
    rw [laws_eqIntS.l0]
    by_cases hn : (n : Int) < (l.length : Int)
    · rw [if_pos hn, if_pos (by omega), if_pos (by omega), if_pos rfl, w1 n (by omega)]
      exact ih (n + 1) (by omega) (by omega)
    · rw [if_neg hn]
theorem eqS (K : Nat) (l : List Int) (h : l.length ≤ 1048576) (hK : 2000000 ≤ K) : laws_eqIntS.f K l l = some true := by
  unfold laws_eqIntS.f
  rw [if_pos rfl, show (0 : Int) = ((0 : Nat) : Int) from rfl, eqS_l0 K l (by omega) K 0 (by omega) (by omega)]
  rfl
def marksS (a : Int) : Nat → List Int
  | 0 => []
  | n + 1 => a :: marksS (a + 1) n
theorem marksS_length : ∀ (n : Nat) (a : Int), (marksS a n).length = n
  | 0, _ => rfl
  | n + 1, a => by simp [marksS, marksS_length n]
theorem marksS_get : ∀ (n : Nat) (a : Int) (i : Nat), i < n → (marksS a n)[i]? = some (a + i)
  | 0, _, i, h => by omega
  | n + 1, a, 0, _ => by simp [marksS]
  | n + 1, a, i + 1, h => by
    simp only [marksS, List.getElem?_cons_succ]
    rw [marksS_get n (a + 1) i (by omega)]
    congr 1
    omega
theorem markS_l0 (K : Nat) (l : List Int) (N : Nat) (a : Int) (h0 : 0 ≤ a) (h : N ≤ 1073741824) (ha : a ≤ 1073741824) : ∀ (k n : Nat) (out : List Int), out.length = N → out.take n = (marksS a N).take n → n ≤ N → N - n < k → laws_markIntS.l0 K l k (a + n) (n : Int) out = some (a + N, marksS a N) := by
  intro k
  induction k with
  | zero => intro n out h1 h2 h3 h4; omega
  | succ k ih =>
    intro n out h1 h2 h3 h4
    rw [laws_markIntS.l0]
    by_cases hn : (n : Int) < (out.length : Int)
    · have hn' : n < N := by omega
      rw [if_pos hn, if_pos (by omega), w1 n (by omega)]
      rw [show wrap64 (a + (n : Int) + 1) = a + ((n + 1 : Nat) : Int) by rw [w64 (by omega) (by omega)]; omega]
      refine ih (n + 1) _ (by simp [h1]) ?_ (by omega) (by omega)
      have hnn : ((n : Int)).toNat = n := by omega
      rw [hnn, List.take_add_one, List.take_add_one, List.take_set_of_le (Nat.le_refl n), h2]
      rw [List.getElem?_set_self (by omega), marksS_get N a n hn']
    · rw [if_neg hn]
      have : n = N := by omega
      subst this
      have h5 : out = marksS a n := by
        have e1 : out.take n = out := by rw [← h1]; exact List.take_length
        have e2 : (marksS a n).take n = marksS a n := by
          conv => lhs; rw [← marksS_length n a]
          rw [marksS_length]; exact List.take_of_length_le (by rw [marksS_length]; omega)
        rw [e1, e2] at h2
        exact h2
      rw [h5]
theorem heldS_l0 (K : Nat) (N : Nat) (a : Int) (h0 : 0 ≤ a) (h : N ≤ 1073741824) (ha : a ≤ 1073741824) : ∀ (k n : Nat), n ≤ N → N - n < k → laws_heldIntS.l0 K (marksS a N) k (a + n) (n : Int) = some (Sum.inl (a + N)) := by
  intro k
  induction k with
  | zero => intro n h3 h4; omega
  | succ k ih =>
    intro n h3 h4
    rw [laws_heldIntS.l0, marksS_length]
    by_cases hn : (n : Int) < (N : Int)
    · have hn' : n < N := by omega
      have hnn : ((n : Int)).toNat = n := by omega
      rw [if_pos hn, if_pos (by omega), w1 n (by omega), hnn, List.getD_eq_getElem?_getD, marksS_get N a n hn', Option.getD_some, if_pos rfl]
      rw [show wrap64 (a + (n : Int) + 1) = a + ((n + 1 : Nat) : Int) by rw [w64 (by omega) (by omega)]; omega]
      exact ih (n + 1) (by omega) (by omega)
    · rw [if_neg hn]
      have : n = N := by omega
      subst this
      rfl
theorem markS (K : Nat) (l : List Int) (a : Int) (h0 : 0 ≤ a) (ha : a ≤ 1073741824) (h : l.length ≤ 100000000) (hK : 200000000 ≤ K) : laws_markIntS.f K l a = some (a + l.length, marksS a l.length) := by
  unfold laws_markIntS.f
  have := markS_l0 K l l.length a h0 (by omega) ha K 0 l rfl (by simp) (by omega) (by omega)
  simp only [Int.natCast_zero, Int.add_zero] at this
  rw [this]; rfl
theorem heldS (K : Nat) (N : Nat) (a : Int) (h0 : 0 ≤ a) (ha : a ≤ 1073741824) (h : N ≤ 100000000) (hK : 200000000 ≤ K) : laws_heldIntS.f K (marksS a N) a = some (a + N) := by
  unfold laws_heldIntS.f
  have := heldS_l0 K N a h0 (by omega) ha K 0 (by omega) (by omega)
  simp only [Int.natCast_zero, Int.add_zero] at this
  rw [this]; rfl
theorem EvenCoin_l0 (K : Nat) (l : List Int) (a : Int) (h : l.length ≤ 1000) : ∀ (k : Nat) (x : Int) (n : Nat) (z : List Int), n ≤ l.length → spec_EvenCoin.l0 K l a k x (n : Int) z = impl_EvenCoin.l0 K l a k x (n : Int) z := by
  intro k
  induction k with
  | zero => intro x n z _; rfl
  | succ k ih =>
    intro x n z hn
    rw [spec_EvenCoin.l0, impl_EvenCoin.l0]
    have e1 : wrap64 ((n : Int) + 1) = ((n + 1 : Nat) : Int) := w1 n (by omega)
    have e2 : wrap64 ((n : Int) + 2) = ((n + 2 : Nat) : Int) := by rw [w64 (by omega) (by omega)]; omega
    rw [e1, e2]
    by_cases hc : ((n + 2 : Nat) : Int) ≤ (l.length : Int)
    · have c1 : ((n + 1 : Nat) : Int) < l.length := by omega
      have c2 : (0 : Int) ≤ (n : Int) ∧ (n : Int) < l.length := by omega
      have c3 : (0 : Int) ≤ ((n + 1 : Nat) : Int) ∧ ((n + 1 : Nat) : Int) < l.length := by omega
      have ih' := fun x z => ih x (n + 2) z (by omega)
      rw [if_pos hc, if_pos c1, if_pos c2, if_pos c3, if_pos c2, if_pos c3]
      by_cases p : l.getD ((n : Int)).toNat 0 < a <;> by_cases q : l.getD (((n + 1 : Nat) : Int)).toNat 0 < a <;> simp only [p, q, if_true, if_false, decide_true, decide_false, ih', impl_truth.f, some_bind, beq_self_eq_true, Bool.false_eq_true] <;> rfl
    · rw [if_neg hc, if_neg (show ¬ ((n + 1 : Nat) : Int) < l.length by omega)]
theorem EvenCoin_some (K : Nat) (l : List Int) (a : Int) (h : l.length ≤ 1000) : ∀ (k : Nat) (x : Int) (n : Nat) (z : List Int), n ≤ l.length + 1 → l.length + 1 - n < k → z.length ≤ n → ∃ r s, impl_EvenCoin.l0 K l a k x (n : Int) z = some (r, s) ∧ s.length ≤ l.length + 1 := by
  intro k
  induction k with
  | zero => intro x n z h1 h2; omega
  | succ k ih =>
    intro x n z h1 h2 h3
    rw [impl_EvenCoin.l0]
    have e1 : wrap64 ((n : Int) + 1) = ((n + 1 : Nat) : Int) := w1 n (by omega)
    have e2 : wrap64 ((n : Int) + 2) = ((n + 2 : Nat) : Int) := by rw [w64 (by omega) (by omega)]; omega
    rw [e1, e2]
    by_cases c1 : ((n + 1 : Nat) : Int) < (l.length : Int)
    · have c2 : (0 : Int) ≤ (n : Int) ∧ (n : Int) < l.length := by omega
      have c3 : (0 : Int) ≤ ((n + 1 : Nat) : Int) ∧ ((n + 1 : Nat) : Int) < l.length := by omega
      rw [if_pos c1, if_pos c2, if_pos c3]
      split
      · exact ih _ (n + 2) _ (by omega) (by omega) (by omega)
      · have : ∃ t, impl_truth.f K (decide (l.getD ((n : Int)).toNat 0 < a)) = some t := by
          unfold impl_truth.f
          split
          · exact ⟨_, rfl⟩
          · exact ⟨_, rfl⟩
        obtain ⟨t, ht⟩ := this
        rw [ht, some_bind, if_pos (by simp; omega)]
        exact ih _ (n + 2) _ (by omega) (by omega) (by simp; omega)
    · rw [if_neg c1]; exact ⟨_, _, rfl, by omega⟩
theorem EvenCoin_same (K : Nat) (hK : 2000000 ≤ K) (l : List Int) (a : Int) (h : l.length ≤ 1048576) : ∃ r c b, spec_EvenCoin.f K l a = some (r, c, b) ∧ impl_EvenCoin.f K l a = some (r, c, b) ∧ r.length ≤ 1000 := by
  unfold spec_EvenCoin.f impl_EvenCoin.f impl_isList.f
  rw [capSide_eq K hK l 40 h, throws_eq K hK l h, in_within, in_eq]
  simp only [some_bind]
  by_cases h2 : (l.length : Int) ≤ 40
  · by_cases h4 : l.all sideB = true
    · by_cases h5 : 0 ≤ a ∧ a ≤ 6
      · obtain ⟨r, s, hr, hl⟩ := EvenCoin_some K l a (by omega) K 0 0 [] (by omega) (by omega) (by simp)
        have e : impl_EvenCoin.l0 K l a K 0 0 [] = some (r, s) := hr
        have e' : spec_EvenCoin.l0 K l a K 0 0 [] = some (r, s) := (EvenCoin_l0 K l a (by omega) K 0 0 [] (by omega)).trans hr
        refine ⟨s, r, true, ?_, ?_, by omega⟩
        · simp only [h2, h4, h5, decide_true, Bool.and_self, if_true, e', some_bind, and_self]
        · simp only [h2, h4, h5, decide_true, Bool.and_self, if_true, e, some_bind, and_self]
      · refine ⟨[], 0, false, ?_, ?_, by simp⟩ <;> simp [h2, h4, h5]
    · refine ⟨[], 0, false, ?_, ?_, by simp⟩ <;> simp [h2, h4]
  · refine ⟨[], 0, false, ?_, ?_, by simp⟩ <;> simp [h2]
theorem EvenCoin_pure (l0 : List Int) (a1 : Int) (_m : l0.length ≤ maxLen) (_w : ∀ z ∈ l0, (Lit.int .i64 z).wf = true) (_w1 : (Lit.int .i64 a1).wf = true) : ∃ K, laws_FnExactEvenCoin.f K l0 a1 = some true := by
  refine ⟨200000000, ?_⟩
  unfold laws_FnExactEvenCoin.f
  by_cases h : (1048576 : Int) < l0.length
  · rw [if_pos h]
  · rw [if_neg h]
    have h' : l0.length ≤ 1048576 := by omega
    obtain ⟨r, c, b, h1, h2, h3⟩ := EvenCoin_same 200000000 (by omega) l0 a1 h'
    have m1 := markS 200000000 l0 1 (by omega) (by omega) (by omega) (by omega)
    have m2 := markS 200000000 r 1 (by omega) (by omega) (by omega) (by omega)
    have m3 := heldS 200000000 r.length 1 (by omega) (by omega) (by omega) (by omega)
    have i1 : ¬ (1 : Int) + l0.length < 0 := by omega
    have i2 : ¬ (1 : Int) + r.length < 0 := by omega
    have t1 := toS 200000000 l0 h' (by omega)
    have q1 := eqS 200000000 l0 h' (by omega)
    have q2 := eqS 200000000 r (by omega) (by omega)
    simp only [t1, h1, h2, q1, q2, m1, m2, m3, some_bind, i1, i2, if_true, if_false, beq_self_eq_true]
end Go.Proofs.Ytbknafijehakbaa.WEvenCoin

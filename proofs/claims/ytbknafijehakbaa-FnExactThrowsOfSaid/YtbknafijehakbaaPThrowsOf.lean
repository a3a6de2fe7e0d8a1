/- The plain law: what the walk shows to be computed answers true. Conditions: the numbers are 64-bit. -/
import Derived.Test.YtbknafijehakbaaWThrowsOf
import Derived.KernelRfl
namespace Go.Proofs.Ytbknafijehakbaa.WThrowsOf
open Go.K Go.RowKit
set_option linter.unusedVariables false
set_option linter.unusedSimpArgs false

theorem in_eq (K : Nat) (a lo hi : Int) : impl_within.f K a lo hi = some (decide (lo ≤ a ∧ a ≤ hi)) := by
  unfold impl_within.f
  by_cases h : lo ≤ a <;> simp [h]
theorem in_within : spec_l1In.f = impl_within.f := by kernel_rfl
def bitB (a : Int) : Bool := decide (0 ≤ a ∧ a ≤ 1)
theorem ThrowsOf_1_eq (K : Nat) (_hK : 2000000 ≤ K) (a : Int) : impl_ThrowsOf_1.f K a = some (bitB a) := by
  unfold impl_ThrowsOf_1.f
  rw [in_eq]; rfl
theorem w1 (n : Nat) (h : n ≤ 4000000000000000000) : wrap64 ((n : Int) + 1) = ((n + 1 : Nat) : Int) := by rw [w64 (by omega) (by omega)]; omega
theorem toS_l0 (K : Nat) (l : List Int) (h : l.length ≤ 1073741824) : ∀ (k n : Nat) (out : List Int), out.length = l.length → out.take n = l.take n → n ≤ l.length → l.length - n < k → laws_toIntS.l0 K l k (n : Int) out = some l := by
  intro k
  induction k with
  | zero => intro n out h1 h2 h3 h4; omega
  | succ k ih =>
    intro n out h1 h2 h3 h4
    rw [laws_toIntS.l0]
    by_cases hn : (n : Int) < (l.length : Int)
    · have hn' : n < l.length := by omega
      rw [if_pos hn, if_pos (by omega), if_pos (by omega), w1 n (by omega)]
      refine ih (n + 1) _ (by simp [h1]) ?_ (by omega) (by omega)
      have hnn : ((n : Int)).toNat = n := by omega
      rw [hnn, List.take_add_one, List.take_add_one, List.take_set_of_le (Nat.le_refl n), h2]
      rw [List.getElem?_set_self (by omega)]
      congr 1
      rw [List.getD_eq_getElem?_getD, List.getElem?_eq_getElem hn']
      rfl
    · rw [if_neg hn]
      have : n = l.length := by omega
      subst this
      rw [← h1, List.take_length, h1, List.take_length] at h2
      rw [h2]
theorem toS (K : Nat) (l : List Int) (h : l.length ≤ 1048576) (hK : 2000000 ≤ K) : laws_toIntS.f K l = some l := by
  unfold laws_toIntS.f
  rw [if_pos (by omega), show (0 : Int) = ((0 : Nat) : Int) from rfl, toS_l0 K l (by omega) K 0 _ (by simp) (by simp) (by omega) (by omega)]
  rfl
theorem allBit_l0 (K : Nat) (hK : 2000000 ≤ K) (l : List Int) (h : l.length ≤ 1073741824) : ∀ (k n : Nat), n ≤ l.length → l.length - n < k →
    (slices_IndexFunc_int_int__areAll_int_1_ThrowsOf_1.l0 K l k (n : Int) = some (Sum.inl ()) ∧ (l.drop n).all bitB = true) ∨ (∃ i : Int, 0 ≤ i ∧ slices_IndexFunc_int_int__areAll_int_1_ThrowsOf_1.l0 K l k (n : Int) = some (Sum.inr i) ∧ (l.drop n).all bitB = false) := by
  intro k
  induction k with
  | zero => intro n h1 h2; omega
  | succ k ih =>
    intro n h1 h2
    rw [slices_IndexFunc_int_int__areAll_int_1_ThrowsOf_1.l0]
    by_cases hn : (n : Int) < (l.length : Int)
    · have hn' : n < l.length := by omega
      have hnn : ((n : Int)).toNat = n := by omega
      have hd : l.drop n = l[n] :: l.drop (n + 1) := List.drop_eq_getElem_cons hn'
      have hg : l.getD n (0 : Int) = l[n] := by rw [List.getD_eq_getElem?_getD, List.getElem?_eq_getElem hn']; rfl
      rw [if_pos hn, if_pos (by omega), w1 n (by omega), hnn, hg, impl_areAll_int_1__ThrowsOf_1.f, ThrowsOf_1_eq K hK, hd]
      simp only [some_bind, List.all_cons]
      rcases Bool.eq_false_or_eq_true (bitB l[n]) with e | e
      · rw [e]
        simp only [Bool.not_true, Bool.false_eq_true, if_false, Bool.true_and]
        exact ih (n + 1) (by omega) (by omega)
      · rw [e]
        simp only [Bool.not_false, if_true, Bool.false_and]
        exact .inr ⟨_, by omega, rfl, trivial⟩
    · rw [if_neg hn]
      have : n = l.length := by omega
      subst this
      exact .inl ⟨rfl, by simp⟩
theorem allBit_eq (K : Nat) (hK : 2000000 ≤ K) (l : List Int) (h : l.length ≤ 1048576) : impl_areAll_int__ThrowsOf_1.f K l = some (l.all bitB) := by
  unfold impl_areAll_int__ThrowsOf_1.f slices_ContainsFunc_int_int__areAll_int_1_ThrowsOf_1.f slices_IndexFunc_int_int__areAll_int_1_ThrowsOf_1.f
  rcases allBit_l0 K hK l (by omega) K 0 (by omega) (by omega) with ⟨h1, h2⟩ | ⟨i, hi, h1, h2⟩
  · rw [show (0 : Int) = ((0 : Nat) : Int) from rfl, h1]
    simp only [some_bind, List.drop_zero] at h2 ⊢
    rw [h2]; rfl
  · rw [show (0 : Int) = ((0 : Nat) : Int) from rfl, h1]
    simp only [some_bind, List.drop_zero] at h2 ⊢
    rw [h2]
    have : decide (((0 : Nat) : Int) ≤ i) = true := decide_eq_true (by simpa using hi)
    rw [this]; rfl
theorem capBit_l0 (K : Nat) (hK : 2000000 ≤ K) (l : List Int) (h : l.length ≤ 1073741824) : ∀ (k n : Nat), n ≤ l.length → l.length - n < k →
    (spec_l9Bits.l0 K l k (n : Int) = some (Sum.inl ()) ∧ ((l.length : Int) ≤ 40 → (l.drop n).all bitB = true)) ∨ (spec_l9Bits.l0 K l k (n : Int) = some (Sum.inr false) ∧ (l.drop n).all bitB = false) := by
  intro k
  induction k with
  | zero => intro n h1 h2; omega
  | succ k ih =>
    intro n h1 h2
    rw [spec_l9Bits.l0]
    by_cases hn : (n : Int) < (l.length : Int)
    · rw [if_pos hn]
      by_cases hc : (n : Int) ≤ 40
      · have hn' : n < l.length := by omega
        have hnn : ((n : Int)).toNat = n := by omega
        have hd : l.drop n = l[n] :: l.drop (n + 1) := List.drop_eq_getElem_cons hn'
        have hg : l.getD n (0 : Int) = l[n] := by rw [List.getD_eq_getElem?_getD, List.getElem?_eq_getElem hn']; rfl
        rw [if_pos hc, if_pos (by omega), w1 n (by omega), hnn, hg, show spec_l1In.f K l[n] 0 1 = some (bitB l[n]) by rw [in_within, in_eq]; rfl, hd]
        simp only [some_bind, List.all_cons]
        rcases Bool.eq_false_or_eq_true (bitB l[n]) with e | e
        · rw [e]
          simp only [if_true, Bool.true_and]
          exact ih (n + 1) (by omega) (by omega)
        · rw [e]
          simp only [Bool.false_eq_true, if_false, Bool.false_and]
          exact .inr ⟨trivial, trivial⟩
      · rw [if_neg hc]
        exact .inl ⟨rfl, fun h => by omega⟩
    · rw [if_neg hn]
      have : n = l.length := by omega
      subst this
      exact .inl ⟨rfl, by simp⟩
theorem capBit_eq (K : Nat) (hK : 2000000 ≤ K) (l : List Int) (h : l.length ≤ 1048576) : spec_l9Bits.f K l = some (decide ((l.length : Int) ≤ 40) && l.all bitB) := by
  unfold spec_l9Bits.f
  rcases capBit_l0 K hK l (by omega) K 0 (by omega) (by omega) with ⟨h1, h2⟩ | ⟨h1, h2⟩
  · rw [show (0 : Int) = ((0 : Nat) : Int) from rfl, h1]
    simp only [some_bind, List.drop_zero] at h2 ⊢
    by_cases hc : (l.length : Int) ≤ 40
    · rw [h2 hc, Bool.and_true]
    · simp [hc]
  · rw [show (0 : Int) = ((0 : Nat) : Int) from rfl, h1]
    simp only [some_bind, List.drop_zero] at h2 ⊢
    rw [h2, Bool.and_false]
theorem chP_get (l : List Int) (sz j i : Nat) (hj : j * sz + sz ≤ l.length) (hi : i < sz) : (chP l sz j).getD i 0 = l.getD (j * sz + i) 0 := by
  have h1 : j < chN l.length sz := (chN_lt (by omega) j).2 (by omega)
  unfold chP
  rw [chLo_eq j h1, Nat.min_eq_left hj, List.getD_eq_getElem?_getD, List.getD_eq_getElem?_getD, List.getElem?_drop, List.getElem?_take, if_pos (by omega)]
theorem eqS_l0 (K : Nat) (l : List Int) (h : l.length ≤ 1073741824) : ∀ (k n : Nat), n ≤ l.length → l.length - n < k → laws_eqIntS.l0 K l l k (n : Int) = some (Sum.inl ()) := by
  intro k
  induction k with
  | zero => intro n h1 h2; omega
  | succ k ih =>
    intro n h1 h2
    rw [laws_eqIntS.l0]
    by_cases hn : (n : Int) < (l.length : Int)
    · rw [if_pos hn, if_pos (by omega), if_pos (by omega), if_pos rfl, w1 n (by omega)]
      exact ih (n + 1) (by omega) (by omega)
    · rw [if_neg hn]
theorem eqS (K : Nat) (l : List Int) (h : l.length ≤ 1048576) (hK : 2000000 ≤ K) : laws_eqIntS.f K l l = some true := by
  unfold laws_eqIntS.f
  rw [if_pos rfl, show (0 : Int) = ((0 : Nat) : Int) from rfl, eqS_l0 K l (by omega) K 0 (by omega) (by omega)]
  rfl
def marksS (a : Int) : Nat → List Int
  | 0 => []
  | n + 1 => a :: marksS (a + 1) n
theorem marksS_length : ∀ (n : Nat) (a : Int), (marksS a n).length = n
  | 0, _ => rfl
  | n + 1, a => by simp [marksS, marksS_length n]
theorem marksS_get : ∀ (n : Nat) (a : Int) (i : Nat), i < n → (marksS a n)[i]? = some (a + i)
  | 0, _, i, h => by omega
  | n + 1, a, 0, _ => by simp [marksS]
  | n + 1, a, i + 1, h => by
    simp only [marksS, List.getElem?_cons_succ]
    rw [marksS_get n (a + 1) i (by omega)]
    congr 1
    omega
theorem markS_l0 (K : Nat) (l : List Int) (N : Nat) (a : Int) (h0 : 0 ≤ a) (h : N ≤ 1073741824) (ha : a ≤ 1073741824) : ∀ (k n : Nat) (out : List Int), out.length = N → out.take n = (marksS a N).take n → n ≤ N → N - n < k → laws_markIntS.l0 K l k (a + n) (n : Int) out = some (a + N, marksS a N) := by
  intro k
  induction k with
  | zero => intro n out h1 h2 h3 h4; omega
  | succ k ih =>
    intro n out h1 h2 h3 h4
    rw [laws_markIntS.l0]
    by_cases hn : (n : Int) < (out.length : Int)
    · have hn' : n < N := by omega
      rw [if_pos hn, if_pos (by omega), w1 n (by omega)]
      rw [show wrap64 (a + (n : Int) + 1) = a + ((n + 1 : Nat) : Int) by rw [w64 (by omega) (by omega)]; omega]
      refine ih (n + 1) _ (by simp [h1]) ?_ (by omega) (by omega)
      have hnn : ((n : Int)).toNat = n := by omega
      rw [hnn, List.take_add_one, List.take_add_one, List.take_set_of_le (Nat.le_refl n), h2]
      rw [List.getElem?_set_self (by omega), marksS_get N a n hn']
    · rw [if_neg hn]
      have : n = N := by omega
      subst this
      have h5 : out = marksS a n := by
        have e1 : out.take n = out := by rw [← h1]; exact List.take_length
        have e2 : (marksS a n).take n = marksS a n := by
          conv => lhs; rw [← marksS_length n a]
          rw [marksS_length]; exact List.take_of_length_le (by rw [marksS_length]; omega)
        rw [e1, e2] at h2
        exact h2
      rw [h5]
theorem heldS_l0 (K : Nat) (N : Nat) (a : Int) (h0 : 0 ≤ a) (h : N ≤ 1073741824) (ha : a ≤ 1073741824) : ∀ (k n : Nat), n ≤ N → N - n < k → laws_heldIntS.l0 K (marksS a N) k (a + n) (n : Int) = some (Sum.inl (a + N)) := by
  intro k
  induction k with
  | zero => intro n h3 h4; omega
  | succ k ih =>
    intro n h3 h4
    rw [laws_heldIntS.l0, marksS_length]
    by_cases hn : (n : Int) < (N : Int)
    · have hn' : n < N := by omega
      have hnn : ((n : Int)).toNat = n := by omega
      rw [if_pos hn, if_pos (by omega), w1 n (by omega), hnn, List.getD_eq_getElem?_getD, marksS_get N a n hn', Option.getD_some, if_pos rfl]
      rw [show wrap64 (a + (n : Int) + 1) = a + ((n + 1 : Nat) : Int) by rw [w64 (by omega) (by omega)]; omega]
      exact ih (n + 1) (by omega) (by omega)
    · rw [if_neg hn]
      have : n = N := by omega
      subst this
      rfl
theorem markS (K : Nat) (l : List Int) (a : Int) (h0 : 0 ≤ a) (ha : a ≤ 1073741824) (h : l.length ≤ 100000000) (hK : 200000000 ≤ K) : laws_markIntS.f K l a = some (a + l.length, marksS a l.length) := by
  unfold laws_markIntS.f
  have := markS_l0 K l l.length a h0 (by omega) ha K 0 l rfl (by simp) (by omega) (by omega)
  simp only [Int.natCast_zero, Int.add_zero] at this
  rw [this]; rfl
theorem heldS (K : Nat) (N : Nat) (a : Int) (h0 : 0 ≤ a) (ha : a ≤ 1073741824) (h : N ≤ 100000000) (hK : 200000000 ≤ K) : laws_heldIntS.f K (marksS a N) a = some (a + N) := by
  unfold laws_heldIntS.f
  have := heldS_l0 K N a h0 (by omega) ha K 0 (by omega) (by omega)
  simp only [Int.natCast_zero, Int.add_zero] at this
  rw [this]; rfl
theorem ThrowsOf_o (l : List Int) (m : Nat) : impl_ThrowsOf.o l (List.range (m + 1)) = if impl_ThrowsOf.x (chP l 3 m) ≤ 5 then impl_ThrowsOf.o l (List.range m) ++ [impl_ThrowsOf.x (chP l 3 m)] else impl_ThrowsOf.o l (List.range m) := by
  unfold impl_ThrowsOf.o
  rw [List.range_succ, List.flatMap_append]
  by_cases h : impl_ThrowsOf.x (chP l 3 m) ≤ 5 <;> simp [h]
theorem bit_get (l : List Int) (h : l.all bitB = true) (i : Nat) : 0 ≤ l.getD i 0 ∧ l.getD i 0 ≤ 1 := by
  rw [List.getD_eq_getElem?_getD]
  by_cases hi : i < l.length
  · rw [List.getElem?_eq_getElem hi]
    have := List.all_eq_true.1 h l[i] (List.getElem_mem hi)
    simpa [bitB] using this
  · rw [List.getElem?_eq_none (by omega)]
    exact ⟨by simp, by simp⟩
theorem ThrowsOf_l0 (K : Nat) (l : List Int) (h : l.length ≤ 40) (hb : l.all bitB = true) : ∀ (k m : Nat), m ≤ l.length / 3 → l.length / 3 - m < k → spec_ThrowsOf.l0 K l k ((m * 3 : Nat) : Int) (impl_ThrowsOf.o l (List.range m)) = some (((l.length / 3 * 3 : Nat) : Int), impl_ThrowsOf.o l (List.range (l.length / 3))) := by
  intro k
  induction k with
  | zero => intro m h1 h2; omega
  | succ k ih =>
    intro m h1 h2
    rw [spec_ThrowsOf.l0]
    have e3 : wrap64 (((m * 3 : Nat) : Int) + 3) = (((m + 1) * 3 : Nat) : Int) := by rw [w64 (by omega) (by omega)]; omega
    have e1 : wrap64 (((m * 3 : Nat) : Int) + 1) = ((m * 3 + 1 : Nat) : Int) := by rw [w64 (by omega) (by omega)]; omega
    have e2 : wrap64 (((m * 3 : Nat) : Int) + 2) = ((m * 3 + 2 : Nat) : Int) := by rw [w64 (by omega) (by omega)]; omega
    rw [e3, e1, e2]
    by_cases hm : m < l.length / 3
    · have c0 : (((m + 1) * 3 : Nat) : Int) ≤ (l.length : Int) := by omega
      have c1 : (0 : Int) ≤ ((m * 3 : Nat) : Int) ∧ ((m * 3 : Nat) : Int) < (l.length : Int) := by omega
      have c2 : (0 : Int) ≤ ((m * 3 + 1 : Nat) : Int) ∧ ((m * 3 + 1 : Nat) : Int) < (l.length : Int) := by omega
      have c3 : (0 : Int) ≤ ((m * 3 + 2 : Nat) : Int) ∧ ((m * 3 + 2 : Nat) : Int) < (l.length : Int) := by omega
      rw [if_pos c0, if_pos c1, if_pos c2, if_pos c3]
      have b0 := bit_get l hb (m * 3)
      have b1 := bit_get l hb (m * 3 + 1)
      have b2 := bit_get l hb (m * 3 + 2)
      have hx : impl_ThrowsOf.x (chP l 3 m) = l.getD (m * 3) 0 * 4 + l.getD (m * 3 + 1) 0 * 2 + l.getD (m * 3 + 2) 0 := by
        unfold impl_ThrowsOf.x
        rw [chP_get l 3 m 0 (by omega) (by omega), chP_get l 3 m 1 (by omega) (by omega), chP_get l 3 m 2 (by omega) (by omega)]
        rfl
      rw [Int.toNat_natCast, Int.toNat_natCast, Int.toNat_natCast]
      have w4 : wrap64 (4 * l.getD (m * 3) 0) = l.getD (m * 3) 0 * 4 := by rw [w64 (by omega) (by omega)]; omega
      have w2 : wrap64 (2 * l.getD (m * 3 + 1) 0) = l.getD (m * 3 + 1) 0 * 2 := by rw [w64 (by omega) (by omega)]; omega
      rw [w4, w2]
      have w5 : wrap64 (l.getD (m * 3) 0 * 4 + l.getD (m * 3 + 1) 0 * 2) = l.getD (m * 3) 0 * 4 + l.getD (m * 3 + 1) 0 * 2 := w64 (by omega) (by omega)
      rw [w5]
      have w6 : wrap64 (l.getD (m * 3) 0 * 4 + l.getD (m * 3 + 1) 0 * 2 + l.getD (m * 3 + 2) 0) = impl_ThrowsOf.x (chP l 3 m) := by rw [hx]; exact w64 (by omega) (by omega)
      rw [w6]
      have ho := impl_ThrowsOf.o_len l (List.range m)
      rw [List.length_range] at ho
      have ih' := ih (m + 1) (by omega) (by omega)
      rw [ThrowsOf_o] at ih'
      by_cases h5 : impl_ThrowsOf.x (chP l 3 m) ≤ 5
      · rw [if_pos h5] at ih'
        rw [if_pos (by omega), if_pos (by rw [List.length_singleton]; omega)]
        exact ih'
      · rw [if_neg h5] at ih'
        rw [if_neg (by omega)]
        exact ih'
    · have : m = l.length / 3 := by omega
      rw [if_neg (by omega), this]
theorem ThrowsOf_same (K : Nat) (hK : 2000000 ≤ K) (l : List Int) (h : l.length ≤ 1048576) : ∃ r c b, spec_ThrowsOf.f K l = some (r, c, b) ∧ impl_ThrowsOf.f K l = some (r, c, b) ∧ r.length ≤ 1000 := by
  unfold spec_ThrowsOf.f impl_ThrowsOf.f impl_isList.f
  rw [capBit_eq K hK l h, allBit_eq K hK l h]
  simp only [some_bind]
  by_cases h2 : (l.length : Int) ≤ 40
  · by_cases h4 : l.all bitB = true
    · have hl := ThrowsOf_l0 K l (by omega) h4 K 0 (by omega) (by omega)
      have hl' : spec_ThrowsOf.l0 K l K 0 [] = _ := hl
      have hg : l.length ≤ 40 ∧ ∀ z ∈ l, 0 ≤ z ∧ z ≤ 1 := ⟨by omega, fun z hz => by
        have := List.all_eq_true.1 h4 z hz
        simpa [bitB] using this⟩
      have ho := impl_ThrowsOf.o_len l (List.range (l.length / 3))
      rw [List.length_range] at ho
      have ew : wrap64 ((l.length : Int) - ((l.length / 3 * 3 : Nat) : Int)) = ((l.length % 3 : Nat) : Int) := by rw [w64 (by omega) (by omega)]; omega
      refine ⟨impl_ThrowsOf.o l (List.range (l.length / 3)), ((l.length % 3 : Nat) : Int), true, ?_, ?_, by omega⟩
      · simp only [h2, h4, decide_true, Bool.and_self, if_true, hl', some_bind, ew]
      · rw [if_pos (decide_eq_true h2), if_pos h4, if_pos hg]
    · refine ⟨[], 0, false, ?_, ?_, by simp⟩ <;> simp [h2, h4]
  · refine ⟨[], 0, false, ?_, ?_, by simp⟩ <;> simp [h2]
theorem ThrowsOf_pure (l0 : List Int) (_m : l0.length ≤ maxLen) (_w : ∀ z ∈ l0, (Lit.int .i64 z).wf = true) : ∃ K, laws_FnExactThrowsOf.f K l0 = some true := by
  refine ⟨200000000, ?_⟩
  unfold laws_FnExactThrowsOf.f
  by_cases h : (1048576 : Int) < l0.length
  · rw [if_pos h]
  · rw [if_neg h]
    have h' : l0.length ≤ 1048576 := by omega
    obtain ⟨r, c, b, h1, h2, h3⟩ := ThrowsOf_same 200000000 (by omega) l0 h'
    have m1 := markS 200000000 l0 1 (by omega) (by omega) (by omega) (by omega)
    have m2 := markS 200000000 r 1 (by omega) (by omega) (by omega) (by omega)
    have m3 := heldS 200000000 r.length 1 (by omega) (by omega) (by omega) (by omega)
    have i1 : ¬ (1 : Int) + l0.length < 0 := by omega
    have i2 : ¬ (1 : Int) + r.length < 0 := by omega
    have t1 := toS 200000000 l0 h' (by omega)
    have q1 := eqS 200000000 l0 h' (by omega)
    have q2 := eqS 200000000 r (by omega) (by omega)
    simp only [t1, h1, h2, q1, q2, m1, m2, m3, some_bind, i1, i2, if_true, if_false, beq_self_eq_true]
end Go.Proofs.Ytbknafijehakbaa.WThrowsOf

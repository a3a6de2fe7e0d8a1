/- The plain law: what the walk shows to be computed answers true. Conditions: the numbers are 64-bit. -/
import Derived.Test.YtnjfmhgmbfemdaaWPhraseWait
import Derived.KernelRfl
namespace Go.Proofs.Ytnjfmhgmbfemdaa.WPhraseWait
open Go.K Go.RowKit
set_option linter.unusedVariables false
set_option linter.unusedSimpArgs false

theorem in_eq (K : Nat) (a lo hi : Int) : impl_within.f K a lo hi = some (decide (lo ≤ a ∧ a ≤ hi)) := by
  unfold impl_within.f
  by_cases h : lo ≤ a <;> simp [h]
theorem in_within : spec_l1In.f = impl_within.f := by kernel_rfl
theorem powN (n : Nat) : ((6 ^ n : Nat) : Int) = (6 : Int) ^ n := by simp
def frac (a b : Nat) : Ar 2 := ⟨[((a / Nat.gcd a b : Nat) : Int), ((b / Nat.gcd a b : Nat) : Int)], rfl⟩
theorem gcd_l0 (K : Nat) : ∀ (k a b : Nat), b < k → spec_l2Cut.l0 K k (a : Int) (b : Int) = some ((Nat.gcd a b : Nat) : Int) ∧ impl_fraction.l0 K k (a : Int) (b : Int) = some ((Nat.gcd a b : Nat) : Int) := by
  intro k
  induction k with
  | zero => intro a b h; omega
  | succ k ih =>
    intro a b h
    rw [spec_l2Cut.l0, impl_fraction.l0]
    by_cases hb : b = 0
    · subst hb
      simp
    · have h1 : (0 : Int) < (b : Int) := by omega
      have h2 : ¬ (b : Int) = 0 := by omega
      have h3 : (b : Int) ≠ 0 := h2
      have h4 : ((a : Int)).tmod (b : Int) = ((a % b : Nat) : Int) := by
        rw [Int.tmod_eq_emod_of_nonneg (by omega)]; rfl
      have h5 : a % b < b := Nat.mod_lt _ (by omega)
      rw [if_pos h1, if_neg h2, if_pos h3, if_pos h3, h4]
      obtain ⟨i1, i2⟩ := ih b (a % b) (by omega)
      rw [i1, i2]
      have : Nat.gcd b (a % b) = Nat.gcd a b := by
        rw [Nat.gcd_comm b, ← Nat.gcd_rec, Nat.gcd_comm]
      rw [this]
      exact ⟨rfl, rfl⟩
theorem frac_eq (K : Nat) (a b : Nat) (h : 0 < a ∨ 0 < b) (hK : b < K) (ha : a ≤ 4000000000000000000) (hb : b ≤ 4000000000000000000) : spec_l2Cut.f K (a : Int) (b : Int) = some (frac a b) ∧ impl_fraction.f K (a : Int) (b : Int) = some (frac a b) := by
  obtain ⟨h1, h2⟩ := gcd_l0 K K a b hK
  have hg : 0 < Nat.gcd a b := by
    rcases h with h | h
    · exact Nat.gcd_pos_of_pos_left _ h
    · exact Nat.gcd_pos_of_pos_right _ h
  unfold spec_l2Cut.f impl_fraction.f
  rw [h1, h2]
  simp only [some_bind]
  have h3 : spec_l1Most.f K ((Nat.gcd a b : Nat) : Int) 1 = some ((Nat.gcd a b : Nat) : Int) := by
    unfold spec_l1Most.f
    by_cases h : (1 : Int) < ((Nat.gcd a b : Nat) : Int)
    · rw [if_pos h]
    · rw [if_neg h, show ((Nat.gcd a b : Nat) : Int) = 1 by omega]
  have h4 : ((Nat.gcd a b : Nat) : Int) ≠ 0 := by omega
  have d1 : ∀ m : Nat, m ≤ 4000000000000000000 → wrap64 ((m : Int).tdiv ((Nat.gcd a b : Nat) : Int)) = ((m / Nat.gcd a b : Nat) : Int) := by
    intro m hm
    have e : (m : Int).tdiv ((Nat.gcd a b : Nat) : Int) = ((m / Nat.gcd a b : Nat) : Int) := by
      rw [Int.tdiv_eq_ediv_of_nonneg (by omega)]; rfl
    have := Nat.div_le_self m (Nat.gcd a b)
    rw [e]
    generalize m / Nat.gcd a b = q at *
    exact w64 (by omega) (by omega)
  rw [h3]
  simp only [some_bind, if_pos h4, d1 a ha, d1 b hb]
  exact ⟨rfl, rfl⟩
theorem frac_scale (c a b : Nat) (hc : 0 < c) : frac (c * a) (c * b) = frac a b := by
  unfold frac
  apply Ar.ext
  simp only [Nat.gcd_mul_left, Nat.mul_div_mul_left _ _ hc]
theorem frac_get (a b : Nat) : (frac a b).get 0 = ((a / Nat.gcd a b : Nat) : Int) ∧ (frac a b).get 1 = ((b / Nat.gcd a b : Nat) : Int) := ⟨rfl, rfl⟩
theorem frac_cross (p q p' q' : Nat) (hq : 0 < q) (hq' : 0 < q') (h : p * q' = p' * q) : frac p q = frac p' q' := by
  rw [← frac_scale q' p q hq', ← frac_scale q p' q' hq, Nat.mul_comm q' p, h, Nat.mul_comm p' q, Nat.mul_comm q' q]
/- The parts of a fraction. -/
theorem frac_parts (a b : Nat) (hb : 0 < b) : ∃ x y : Nat, (frac a b).get 0 = (x : Int) ∧ (frac a b).get 1 = (y : Int) ∧ 0 < y ∧ y ≤ b ∧ x ≤ a ∧ x * b = a * y := by
  have hg : 0 < Nat.gcd a b := Nat.gcd_pos_of_pos_right _ hb
  obtain ⟨x, hx⟩ := Nat.gcd_dvd_left a b
  obtain ⟨y, hy⟩ := Nat.gcd_dvd_right a b
  have e1 : a / Nat.gcd a b = x := Nat.div_eq_of_eq_mul_right hg hx
  have e2 : b / Nat.gcd a b = y := Nat.div_eq_of_eq_mul_right hg hy
  have p1 := Nat.div_le_self a (Nat.gcd a b)
  have p2 := Nat.div_le_self b (Nat.gcd a b)
  refine ⟨x, y, ?_, ?_, ?_, by omega, by omega, ?_⟩
  · rw [(frac_get a b).1, e1]
  · rw [(frac_get a b).2, e2]
  · rcases Nat.eq_zero_or_pos y with h | h
    · rw [h, Nat.mul_zero] at hy; omega
    · exact h
  · clear e1 e2 p1 p2
    generalize Nat.gcd a b = g at *
    rw [hx, hy]
    rw [← Nat.mul_assoc, Nat.mul_comm x g]
theorem plus_same (K : Nat) (a c D : Nat) (hD : 0 < D) (hK : 1000000000000000 ≤ K) (ha : a ≤ 10000000) (hc : c ≤ 10000000) (hD2 : D ≤ 10000000) : spec_l2Plus.f K (frac a D) (frac c D) = some (frac (a + c) D) := by
  obtain ⟨x, y, h1, h2, h3, h4, h5, h6⟩ := frac_parts a D hD
  obtain ⟨z, w, k1, k2, k3, k4, k5, k6⟩ := frac_parts c D hD
  unfold spec_l2Plus.f
  rw [h1, h2, k1, k2, ← Int.natCast_mul, ← Int.natCast_mul, ← Int.natCast_mul]
  have b1 : x * w ≤ 10000000 * 10000000 := Nat.mul_le_mul (by omega) (by omega)
  have b2 : z * y ≤ 10000000 * 10000000 := Nat.mul_le_mul (by omega) (by omega)
  have b3 : y * w ≤ 10000000 * 10000000 := Nat.mul_le_mul (by omega) (by omega)
  have p3 : 0 < y * w := Nat.mul_pos h3 k3
  have hcross : (x * w + z * y) * D = (a + c) * (y * w) := by
    rw [Nat.add_mul, Nat.add_mul, Nat.mul_right_comm x w D, h6, Nat.mul_right_comm z y D, k6, Nat.mul_assoc a y w, Nat.mul_assoc c w y, Nat.mul_comm w y]
  generalize x * w = A at *
  generalize z * y = B at *
  generalize y * w = C at *
  have f := (frac_eq K (A + B) C (.inr p3) (by omega) (by omega) (by omega)).1
  have e1 : wrap64 (A : Int) = (A : Int) := w64 (by omega) (by omega)
  have e2 : wrap64 (B : Int) = (B : Int) := by clear e1; exact w64 (by omega) (by omega)
  have e3 : wrap64 (C : Int) = (C : Int) := by clear e1 e2; exact w64 (by omega) (by omega)
  have e4 : wrap64 ((A : Int) + (B : Int)) = ((A + B : Nat) : Int) := by
    clear e1 e2 e3
    rw [w64 (by omega) (by omega)]; omega
  rw [e1, e2, e3, e4, f, some_bind]
  congr 1
  exact frac_cross _ _ _ _ p3 hD hcross
def faceB (a : Int) : Bool := decide (0 ≤ a ∧ a ≤ 30)
theorem isFace_eq (K : Nat) (_hK : 2000000 ≤ K) (a : Int) : impl_isFace.f K a = some (faceB a) := by
  unfold impl_isFace.f
  rw [in_eq]; rfl
theorem w1 (n : Nat) (h : n ≤ 4000000000000000000) : wrap64 ((n : Int) + 1) = ((n + 1 : Nat) : Int) := by rw [w64 (by omega) (by omega)]; omega
theorem toS_l0 (K : Nat) (l : List Int) (h : l.length ≤ 1073741824) : ∀ (k n : Nat) (out : List Int), out.length = l.length → out.take n = l.take n → n ≤ l.length → l.length - n < k → laws_toIntS.l0 K l k (n : Int) out = some l := by
  intro k
  induction k with
  | zero => intro n out h1 h2 h3 h4; omega
  | succ k ih =>
    intro n out h1 h2 h3 h4
    rw [laws_toIntS.l0]
    by_cases hn : (n : Int) < (l.length : Int)
    · have hn' : n < l.length := by omega
      rw [if_pos hn, if_pos (by omega), if_pos (by omega), w1 n (by omega)]
      refine ih (n + 1) _ (by simp [h1]) ?_ (by omega) (by omega)
      have hnn : ((n : Int)).toNat = n := by omega
      rw [hnn, List.take_add_one, List.take_add_one, List.take_set_of_le (Nat.le_refl n), h2]
      rw [List.getElem?_set_self (by omega)]
      congr 1
      rw [List.getD_eq_getElem?_getD, List.getElem?_eq_getElem hn']
      rfl
    · rw [if_neg hn]
      have : n = l.length := by omega
      subst this
      rw [← h1, List.take_length, h1, List.take_length] at h2
      rw [h2]
theorem toS (K : Nat) (l : List Int) (h : l.length ≤ 1048576) (hK : 2000000 ≤ K) : laws_toIntS.f K l = some l := by
  unfold laws_toIntS.f
  rw [if_pos (by omega), show (0 : Int) = ((0 : Nat) : Int) from rfl, toS_l0 K l (by omega) K 0 _ (by simp) (by simp) (by omega) (by omega)]
  rfl
theorem allFace_l0 (K : Nat) (hK : 2000000 ≤ K) (l : List Int) (h : l.length ≤ 1073741824) : ∀ (k n : Nat), n ≤ l.length → l.length - n < k →
    (slices_IndexFunc_int_int__areAll_int_1_isFace.l0 K l k (n : Int) = some (Sum.inl ()) ∧ (l.drop n).all faceB = true) ∨ (∃ i : Int, 0 ≤ i ∧ slices_IndexFunc_int_int__areAll_int_1_isFace.l0 K l k (n : Int) = some (Sum.inr i) ∧ (l.drop n).all faceB = false) := by
  intro k
  induction k with
  | zero => intro n h1 h2; omega
  | succ k ih =>
    intro n h1 h2
    rw [slices_IndexFunc_int_int__areAll_int_1_isFace.l0]
    by_cases hn : (n : Int) < (l.length : Int)
    · have hn' : n < l.length := by omega
      have hnn : ((n : Int)).toNat = n := by omega
      have hd : l.drop n = l[n] :: l.drop (n + 1) := List.drop_eq_getElem_cons hn'
      have hg : l.getD n (0 : Int) = l[n] := by rw [List.getD_eq_getElem?_getD, List.getElem?_eq_getElem hn']; rfl
      rw [if_pos hn, if_pos (by omega), w1 n (by omega), hnn, hg, impl_areAll_int_1__isFace.f, isFace_eq K hK, hd]
      simp only [some_bind, List.all_cons]
      rcases Bool.eq_false_or_eq_true (faceB l[n]) with e | e
      · rw [e]
        simp only [Bool.not_true, Bool.false_eq_true, if_false, Bool.true_and]
        exact ih (n + 1) (by omega) (by omega)
      · rw [e]
        simp only [Bool.not_false, if_true, Bool.false_and]
        exact .inr ⟨_, by omega, rfl, trivial⟩
    · rw [if_neg hn]
      have : n = l.length := by omega
      subst this
      exact .inl ⟨rfl, by simp⟩
theorem allFace_eq (K : Nat) (hK : 2000000 ≤ K) (l : List Int) (h : l.length ≤ 1048576) : impl_areAll_int__isFace.f K l = some (l.all faceB) := by
  unfold impl_areAll_int__isFace.f slices_ContainsFunc_int_int__areAll_int_1_isFace.f slices_IndexFunc_int_int__areAll_int_1_isFace.f
  rcases allFace_l0 K hK l (by omega) K 0 (by omega) (by omega) with ⟨h1, h2⟩ | ⟨i, hi, h1, h2⟩
  · rw [show (0 : Int) = ((0 : Nat) : Int) from rfl, h1]
    simp only [some_bind, List.drop_zero] at h2 ⊢
    rw [h2]; rfl
  · rw [show (0 : Int) = ((0 : Nat) : Int) from rfl, h1]
    simp only [some_bind, List.drop_zero] at h2 ⊢
    rw [h2]
    have : decide (((0 : Nat) : Int) ≤ i) = true := decide_eq_true (by simpa using hi)
    rw [this]; rfl
def dieP (a : Ar 6) : Prop := ((0 ≤ a.get 0 ∧ a.get 0 ≤ 30) ∧ (0 ≤ a.get 1 ∧ a.get 1 ≤ 30) ∧ (0 ≤ a.get 2 ∧ a.get 2 ≤ 30) ∧ (0 ≤ a.get 3 ∧ a.get 3 ≤ 30) ∧ (0 ≤ a.get 4 ∧ a.get 4 ≤ 30) ∧ (0 ≤ a.get 5 ∧ a.get 5 ≤ 30)) ∧ (a.get 0 ≤ a.get 1 ∧ a.get 1 ≤ a.get 2 ∧ a.get 2 ≤ a.get 3 ∧ a.get 3 ≤ a.get 4 ∧ a.get 4 ≤ a.get 5)
instance (a : Ar 6) : Decidable (dieP a) := by unfold dieP; infer_instance
def dieB (a : Ar 6) : Bool := decide (dieP a)
theorem die_get (x y z u v w : Int) : (Ar.get (⟨[x, y, z, u, v, w], rfl⟩ : Ar 6) 0 = x ∧ Ar.get (⟨[x, y, z, u, v, w], rfl⟩ : Ar 6) 1 = y ∧ Ar.get (⟨[x, y, z, u, v, w], rfl⟩ : Ar 6) 2 = z) ∧ (Ar.get (⟨[x, y, z, u, v, w], rfl⟩ : Ar 6) 3 = u ∧ Ar.get (⟨[x, y, z, u, v, w], rfl⟩ : Ar 6) 4 = v ∧ Ar.get (⟨[x, y, z, u, v, w], rfl⟩ : Ar 6) 5 = w) := ⟨⟨rfl, rfl, rfl⟩, rfl, rfl, rfl⟩
set_option maxHeartbeats 4000000 in
theorem die_spec (K : Nat) (hK : 2000000 ≤ K) (a : Ar 6) : spec_l2Die.f K a = some (dieB a) := by
  obtain ⟨k, rfl⟩ := Nat.exists_eq_add_of_le (show 8 ≤ K by omega)
  obtain ⟨x, y, z, u, v, w, rfl⟩ := Ar.cases6 a
  have e : 8 + k = k + 1 + 1 + 1 + 1 + 1 + 1 + 1 + 1 := by omega
  unfold spec_l2Die.f dieB dieP
  obtain ⟨⟨g0, g1, g2⟩, g3, g4, g5⟩ := die_get x y z u v w
  rw [e]
  simp only [spec_l2Die.l0, in_within, in_eq, some_bind, show (0 : Int) < 6 by decide, show wrap64 (0 + 1) = 1 by decide +kernel, show wrap64 (1 + 1) = 2 by decide +kernel, show wrap64 (2 + 1) = 3 by decide +kernel, show wrap64 (3 + 1) = 4 by decide +kernel, show wrap64 (4 + 1) = 5 by decide +kernel, show wrap64 (5 + 1) = 6 by decide +kernel, show wrap64 (1 - 1) = 0 by decide +kernel, show wrap64 (2 - 1) = 1 by decide +kernel, show wrap64 (3 - 1) = 2 by decide +kernel, show wrap64 (4 - 1) = 3 by decide +kernel, show wrap64 (5 - 1) = 4 by decide +kernel, g0, g1, g2, g3, g4, g5, decide_eq_true_eq]
  simp
  repeat' split
  all_goals simp_all
  all_goals omega
set_option maxHeartbeats 4000000 in
theorem die_impl (K : Nat) (hK : 2000000 ≤ K) (a : Ar 6) : impl_IsDie.f K a = some (dieB a) := by
  obtain ⟨x, y, z, u, v, w, rfl⟩ := Ar.cases6 a
  unfold impl_IsDie.f dieB dieP
  rw [allFace_eq K hK _ (by simp)]
  obtain ⟨k, rfl⟩ := Nat.exists_eq_add_of_le (show 8 ≤ K by omega)
  have e : 8 + k = k + 1 + 1 + 1 + 1 + 1 + 1 + 1 + 1 := by omega
  obtain ⟨⟨g0, g1, g2⟩, g3, g4, g5⟩ := die_get x y z u v w
  unfold slices_IsSorted_int_int.f
  rw [e]
  simp [slices_IsSorted_int_int.l0, cmp_Less_int.f, cmp_isNaN_int.f, some_bind, show wrap64 (6 - 1) = 5 by decide +kernel, show wrap64 5 = 5 by decide +kernel, show wrap64 (5 - 1) = 4 by decide +kernel, show wrap64 (4 - 1) = 3 by decide +kernel, show wrap64 (3 - 1) = 2 by decide +kernel, show wrap64 (2 - 1) = 1 by decide +kernel, show wrap64 (1 - 1) = 0 by decide +kernel, show wrap64 4 = 4 by decide +kernel, show wrap64 3 = 3 by decide +kernel, show wrap64 2 = 2 by decide +kernel, show wrap64 1 = 1 by decide +kernel, show wrap64 0 = 0 by decide +kernel, g0, g1, g2, g3, g4, g5, faceB]
  repeat' split
  all_goals simp_all
  all_goals omega
def wt (a : Ar 6) (x : Int) : Nat := a.l.count x
theorem wt_le (a : Ar 6) (x : Int) : wt a x ≤ 6 := by
  have := List.count_le_length (a := x) (l := a.l)
  rw [a.h] at this
  exact this
theorem ar_drop (a : Ar 6) (n : Nat) (h : n < 6) : a.l.drop n = a.get (n : Int) :: a.l.drop (n + 1) := by
  have hn : n < a.l.length := by rw [a.h]; exact h
  rw [List.drop_eq_getElem_cons hn]
  congr 1
  unfold Ar.get
  rw [show ((n : Int)).toNat = n by omega, List.getD_eq_getElem?_getD, List.getElem?_eq_getElem hn]
  rfl
theorem weight_l0 (K : Nat) (a : Ar 6) (x : Int) : ∀ (k n m : Nat), n ≤ 6 → 6 - n < k → m ≤ n → spec_l8Weight.l0 K a x k (m : Int) (n : Int) = some ((m + (a.l.drop n).count x : Nat) : Int) ∧ impl_weight.l0 K a x k (m : Int) (n : Int) = some ((m + (a.l.drop n).count x : Nat) : Int) := by
  intro k
  induction k with
  | zero => intro n m h1 h2; omega
  | succ k ih =>
    intro n m h1 h2 h3
    rw [spec_l8Weight.l0, impl_weight.l0]
    by_cases hn : (n : Int) < 6
    · have c2 : (0 : Int) ≤ (n : Int) ∧ (n : Int) < 6 := by omega
      have e1 : wrap64 ((n : Int) + 1) = ((n + 1 : Nat) : Int) := w1 n (by omega)
      have e2 : wrap64 ((m : Int) + 1) = ((m + 1 : Nat) : Int) := w1 m (by omega)
      have e3 : wrap64 ((m : Int) + 0) = (m : Int) := by rw [w64 (by omega) (by omega)]; omega
      simp only [if_pos hn, if_pos c2, e1, e2, impl_truth.f, decide_eq_true_eq]
      rw [ar_drop a n (by omega), List.count_cons]
      by_cases hx : a.get (n : Int) = x
      · simp only [if_pos hx, some_bind, e2]
        rw [(ih (n + 1) (m + 1) (by omega) (by omega) (by omega)).1, (ih (n + 1) (m + 1) (by omega) (by omega) (by omega)).2]
        simp [hx]
        omega
      · simp only [if_neg hx, some_bind, e3]
        rw [(ih (n + 1) m (by omega) (by omega) (by omega)).1, (ih (n + 1) m (by omega) (by omega) (by omega)).2]
        simp [hx]
    · rw [if_neg hn, if_neg hn]
      have : n = 6 := by omega
      subst this
      have : a.l.drop 6 = [] := List.drop_of_length_le (by rw [a.h]; omega)
      rw [this]
      exact ⟨rfl, rfl⟩
theorem weight_eq (K : Nat) (hK : 10 ≤ K) (a : Ar 6) (x : Int) : spec_l8Weight.f K a x = some (wt a x : Int) ∧ impl_weight.f K a x = some (wt a x : Int) := by
  have := weight_l0 K a x K 0 0 (by omega) (by omega) (by omega)
  simp only [Nat.zero_add, List.drop_zero] at this
  unfold spec_l8Weight.f impl_weight.f
  rw [show spec_l8Weight.l0 K a x K 0 0 = _ from this.1, show impl_weight.l0 K a x K 0 0 = _ from this.2]
  exact ⟨rfl, rfl⟩
theorem index_l0 (K : Nat) (l : List Int) (x : Int) (h : l.length ≤ 1073741824) : ∀ (k n : Nat), n ≤ l.length → l.length - n < k →
    (slices_Index_int_int.l0 K l x k (n : Int) = some (Sum.inl ()) ∧ x ∉ l.drop n) ∨ (∃ i : Int, 0 ≤ i ∧ slices_Index_int_int.l0 K l x k (n : Int) = some (Sum.inr i) ∧ x ∈ l.drop n) := by
  intro k
  induction k with
  | zero => intro n h1 h2; omega
  | succ k ih =>
    intro n h1 h2
    rw [slices_Index_int_int.l0]
    by_cases hn : (n : Int) < (l.length : Int)
    · have hn' : n < l.length := by omega
      have hnn : ((n : Int)).toNat = n := by omega
      have hd : l.drop n = l[n] :: l.drop (n + 1) := List.drop_eq_getElem_cons hn'
      have hg : l.getD n 0 = l[n] := by rw [List.getD_eq_getElem?_getD, List.getElem?_eq_getElem hn']; rfl
      rw [if_pos hn, if_pos (by omega), w1 n (by omega), hnn, hg, hd]
      by_cases e : x = l[n]
      · rw [if_pos e]
        exact .inr ⟨_, by omega, rfl, by rw [e]; exact List.mem_cons_self⟩
      · have e' : ¬ l[n] = x := fun h => e h.symm
        simp only [e, e', if_false, List.mem_cons, false_or]
        exact ih (n + 1) (by omega) (by omega)
    · rw [if_neg hn]
      have : n = l.length := by omega
      subst this
      exact .inl ⟨rfl, by simp⟩
theorem contains_eq (K : Nat) (hK : 2000000 ≤ K) (l : List Int) (x : Int) (h : l.length ≤ 1048576) : slices_Contains_int_int.f K l x = some (decide (x ∈ l)) := by
  unfold slices_Contains_int_int.f slices_Index_int_int.f
  rcases index_l0 K l x (by omega) K 0 (by omega) (by omega) with ⟨h1, h2⟩ | ⟨i, hi, h1, h2⟩
  · rw [show slices_Index_int_int.l0 K l x K 0 = _ from h1]
    simp only [some_bind, List.drop_zero] at h2 ⊢
    simp [h2]
  · rw [show slices_Index_int_int.l0 K l x K 0 = _ from h1]
    simp only [some_bind, List.drop_zero] at h2 ⊢
    simp [h2, hi]
theorem has_eq (K : Nat) (hK : 2000000 ≤ K) (a : Ar 6) (x : Int) : impl_has.f K a x = some (decide (0 < wt a x)) := by
  unfold impl_has.f
  rw [contains_eq K hK _ _ (by rw [a.h]; omega)]
  simp only [some_bind]
  congr 1
  rw [decide_eq_decide]
  exact List.count_pos_iff.symm
theorem pow_lt (n : Nat) (h : n ≤ 22) : (6 : Int) ^ n ≤ 131621703842267136 := by
  have : (6 : Nat) ^ n ≤ 6 ^ 22 := Nat.pow_le_pow_right (by omega) h
  have h2 : ((6 ^ n : Nat) : Int) ≤ ((6 ^ 22 : Nat) : Int) := by exact_mod_cast this
  simpa using h2
theorem pow_pos (n : Nat) : (1 : Int) ≤ 6 ^ n := by
  have : 1 ≤ (6 : Nat) ^ n := Nat.one_le_pow _ _ (by omega)
  have h2 : ((1 : Nat) : Int) ≤ ((6 ^ n : Nat) : Int) := by exact_mod_cast this
  simpa using h2
theorem power_l0 (K : Nat) (n : Nat) (hn : n ≤ 22) : ∀ (k i : Nat), i ≤ n → n - i < k → impl_power.l0 K (n : Int) k ((6 : Int) ^ i) (i : Int) = some ((6 : Int) ^ n) := by
  intro k
  induction k with
  | zero => intro i h1 h2; omega
  | succ k ih =>
    intro i h1 h2
    rw [impl_power.l0]
    by_cases h : (i : Int) < (n : Int)
    · have hp := pow_lt (i + 1) (by omega)
      have hq := pow_pos (i + 1)
      have e : (6 : Int) ^ i * 6 = 6 ^ (i + 1) := (Int.pow_succ 6 i).symm
      rw [if_pos h, e, w64 (n := (6 : Int) ^ (i + 1)) (by omega) (by omega), w64 (n := (i : Int) + 1) (by omega) (by omega), show (i : Int) + 1 = ((i + 1 : Nat) : Int) by omega]
      exact ih (i + 1) (by omega) (by omega)
    · rw [if_neg h, show i = n by omega]
theorem power_eq (K : Nat) (hK : 30 ≤ K) (n : Nat) (hn : n ≤ 22) : impl_power.f K (n : Int) = some ((6 : Int) ^ n) := by
  unfold impl_power.f
  rw [show impl_power.l0 K (n : Int) K 1 0 = some ((6 : Int) ^ n) from power_l0 K n hn K 0 (by omega) (by omega)]
  rfl
def fw (a : Ar 6) : List Int → Nat
  | [] => 1
  | x :: r => wt a x * fw a r
theorem fw_append (a : Ar 6) : ∀ l m : List Int, fw a (l ++ m) = fw a l * fw a m
  | [], m => by simp [fw]
  | x :: r, m => by simp only [List.cons_append, fw, fw_append a r m, Nat.mul_assoc]
theorem fw_le (a : Ar 6) : ∀ l : List Int, fw a l ≤ 6 ^ l.length
  | [] => by simp [fw]
  | x :: r => by
    rw [fw, List.length_cons, Nat.pow_succ, Nat.mul_comm]
    exact Nat.mul_le_mul (fw_le a r) (wt_le a x)
theorem fw_pos (a : Ar 6) : ∀ l : List Int, (∀ x ∈ l, 0 < wt a x) → 0 < fw a l
  | [], _ => by simp [fw]
  | x :: r, h => by rw [fw]; exact Nat.mul_pos (h x (by simp)) (fw_pos a r (fun y hy => h y (by simp [hy])))
theorem pow6_le (n : Nat) (h : n ≤ 6) : 1 ≤ 6 ^ n ∧ 6 ^ n ≤ 46656 := by
  rcases (show n = 0 ∨ n = 1 ∨ n = 2 ∨ n = 3 ∨ n = 4 ∨ n = 5 ∨ n = 6 by omega) with rfl | rfl | rfl | rfl | rfl | rfl | rfl <;> decide
def allW (a : Ar 6) (l : List Int) : Bool := l.all fun x => decide (0 < wt a x)
theorem allW_iff (a : Ar 6) (l : List Int) : allW a l = true ↔ ∀ x ∈ l, 0 < wt a x := by simp [allW]
theorem any_find (l : List Int) (p : Int → Bool) : (l.any p) = ((List.range' 0 l.length).find? (fun n : Nat => p (l.getD n 0))).isSome := by
  rw [Bool.eq_iff_iff, List.any_eq_true, List.find?_isSome]
  constructor
  · rintro ⟨x, hx, hp⟩
    obtain ⟨i, hi, rfl⟩ := List.getElem_of_mem hx
    exact ⟨i, List.mem_range'_1.2 ⟨by omega, by omega⟩, by rw [getD_nat _ _ _ hi]; exact hp⟩
  · rintro ⟨i, hi, hp⟩
    have hi' := (List.mem_range'_1.1 hi).2
    rw [getD_nat _ _ _ (by omega)] at hp
    exact ⟨_, List.getElem_mem _, hp⟩
theorem all_phrase (K : Nat) (hK : 2000000 ≤ K) (l : List Int) (a : Ar 6) (h : l.length ≤ 1048576) : impl_areAll_int__isPhrase_1.f K l a = some (allW a l) := by
  unfold impl_areAll_int__isPhrase_1.f slices_ContainsFunc_int_int__areAll_int_1_isPhrase_1.f slices_IndexFunc_int_int__areAll_int_1_isPhrase_1.f
  have hl := loop_find (fun k n => slices_IndexFunc_int_int__areAll_int_1_isPhrase_1.l0 K l a k n) l.length (fun n : Nat => !decide (0 < wt a (l.getD n 0))) (fun n => some (Sum.inr (n : Int))) (some (Sum.inl ())) (by
      intro k n hn
      rw [slices_IndexFunc_int_int__areAll_int_1_isPhrase_1.l0, if_pos (by omega), if_pos (by omega), Int.toNat_natCast, impl_areAll_int_1__isPhrase_1.f, impl_isPhrase_1__c.f, has_eq K hK, w1' n (by omega)]
      simp only [some_bind]) (by
      intro k
      rw [slices_IndexFunc_int_int__areAll_int_1_isPhrase_1.l0, if_neg (by omega)]) l.length 0 K (by omega) (by omega)
  rw [show slices_IndexFunc_int_int__areAll_int_1_isPhrase_1.l0 K l a K 0 = _ from hl]
  have ha : allW a l = !(l.any fun x => !decide (0 < wt a x)) := by
    unfold allW
    rw [Bool.eq_iff_iff]
    simp only [List.all_eq_true, Bool.not_eq_true', List.any_eq_false, decide_eq_true_eq, decide_eq_false_iff_not, Classical.not_not]
  rw [ha, any_find l (fun x => !decide (0 < wt a x))]
  cases hf : (List.range' 0 l.length).find? (fun n : Nat => !decide (0 < wt a (l.getD n 0))) with
  | none => rfl
  | some i => simp [some_bind]
def lenB (l : List Int) : Bool := decide ((1 : Int) ≤ (l.length : Int) ∧ (l.length : Int) ≤ 6)
theorem phrase_impl (K : Nat) (hK : 2000000 ≤ K) (a : Ar 6) (l : List Int) (h : l.length ≤ 1048576) : impl_isPhrase.f K a l = some (lenB l && allW a l) := by
  unfold impl_isPhrase.f
  rw [in_eq, all_phrase K hK l a h, some_bind]
  unfold lenB
  cases hb : decide ((1 : Int) ≤ (l.length : Int) ∧ (l.length : Int) ≤ 6) <;> simp [some_bind]
theorem phrase_spec (K : Nat) (hK : 2000000 ≤ K) (a : Ar 6) (l : List Int) (h : l.length ≤ 1048576) : spec_l8Phrase.f K a l = some (dieB a && (lenB l && allW a l)) := by
  unfold spec_l8Phrase.f
  have key : ∀ (k n : Nat), n ≤ l.length → l.length - n < k → (spec_l8Phrase.l0 K a l k (n : Int) = some (Sum.inl ()) ∧ (l.length ≤ 6 → allW a (l.drop n) = true)) ∨ (spec_l8Phrase.l0 K a l k (n : Int) = some (Sum.inr false) ∧ allW a (l.drop n) = false) := by
    intro k
    induction k with
    | zero => intro n h1 h2; omega
    | succ k ih =>
      intro n h1 h2
      rw [spec_l8Phrase.l0]
      by_cases hn : n < l.length
      · have hd : allW a (l.drop n) = (decide (0 < wt a (l.getD n 0)) && allW a (l.drop (n + 1))) := by
          rw [List.drop_eq_getElem_cons hn, getD_nat _ _ _ hn]; rfl
        rw [if_pos (by omega)]
        by_cases h6 : (n : Int) ≤ 6
        · rw [if_pos h6, if_pos (by omega), Int.toNat_natCast, (weight_eq K (by omega) _ _).1, some_bind, w1' n (by omega), hd]
          by_cases hw : wt a (l.getD n 0) = 0
          · rw [if_pos (by omega), hw]
            exact .inr ⟨rfl, rfl⟩
          · rw [if_neg (by omega), decide_eq_true (show 0 < wt a (l.getD n 0) by omega), Bool.true_and]
            exact ih (n + 1) (by omega) (by omega)
        · rw [if_neg h6]
          exact .inl ⟨rfl, fun h => by omega⟩
      · rw [if_neg (by omega)]
        refine .inl ⟨rfl, fun _ => ?_⟩
        rw [List.drop_of_length_le (by omega)]; rfl
  rcases key K 0 (by omega) (by omega) with ⟨h1, h2⟩ | ⟨h1, h2⟩
  · rw [show spec_l8Phrase.l0 K a l K 0 = _ from h1, some_bind]
    dsimp only
    rw [die_spec K hK, some_bind, in_within, in_eq, some_bind]
    cases hd : dieB a with
    | false => rfl
    | true =>
      simp only [if_true, Bool.true_and]
      unfold lenB
      by_cases hc : (1 : Int) ≤ (l.length : Int) ∧ (l.length : Int) ≤ 6
      · rw [decide_eq_true hc, Bool.true_and]
        have := h2 (by omega)
        rw [List.drop_zero] at this
        rw [this]
      · rw [decide_eq_false hc, Bool.false_and]
  · rw [show spec_l8Phrase.l0 K a l K 0 = _ from h1, some_bind]
    rw [List.drop_zero] at h2
    rw [h2, Bool.and_false, Bool.and_false]
theorem same_same : spec_l1Same.f = slices_Equal_int_int.f := by kernel_rfl
theorem equal_eq (K : Nat) (l m : List Int) (h : l.length ≤ 100) (hK : 200 ≤ K) : slices_Equal_int_int.f K l m = some (decide (l = m)) := by
  unfold slices_Equal_int_int.f
  by_cases hl : l.length = m.length
  · rw [if_pos (by omega)]
    have h1 := loop_find (fun k n => slices_Equal_int_int.l0 K l m k n) l.length (fun n : Nat => !decide (l.getD n 0 = m.getD n 0)) (fun _ => some (Sum.inr false)) (some (Sum.inl ())) (by
      intro k n hn
      rw [slices_Equal_int_int.l0, if_pos (by omega), if_pos (by omega), if_pos (by omega), Int.toNat_natCast, w1' n (by omega)]
      by_cases hc : l.getD n 0 = m.getD n 0
      · rw [if_pos hc]; simp only [hc, decide_true, Bool.not_true, Bool.false_eq_true, if_false]
      · rw [if_neg hc]; simp only [hc, decide_false, Bool.not_false, if_true]) (by
      intro k
      rw [slices_Equal_int_int.l0, if_neg (by omega)]) l.length 0 K (by omega) (by omega)
    rw [show slices_Equal_int_int.l0 K l m K 0 = _ from h1]
    cases hf : (List.range' 0 l.length).find? (fun n : Nat => !decide (l.getD n 0 = m.getD n 0)) with
    | none =>
      have : l = m := by
        apply List.ext_getElem hl
        intro i hi1 hi2
        have := List.find?_eq_none.1 hf i (List.mem_range'_1.2 ⟨by omega, by omega⟩)
        simp only [Bool.not_eq_true', decide_eq_false_iff_not, Classical.not_not] at this
        rw [getD_nat _ _ _ hi1, getD_nat _ _ _ hi2] at this
        exact this
      rw [decide_eq_true this]; rfl
    | some i =>
      have : ¬ l = m := by
        rintro rfl
        have := List.find?_some hf
        simp at this
      rw [decide_eq_false this]; rfl
  · rw [if_neg (by omega), decide_eq_false (fun e => hl (by rw [e]))]
theorem faces_eq (K : Nat) (hK : 100 ≤ K) (a : Ar 6) (l : List Int) (h : l.length ≤ 6) : impl_faces.f K a l = some (fw a l : Int) := by
  have key : ∀ (k n : Nat) (acc : Nat), n ≤ l.length → l.length - n < k → acc ≤ 6 ^ n → impl_faces.l0 K a l k (acc : Int) (n : Int) = some ((acc * fw a (l.drop n) : Nat) : Int) := by
    intro k
    induction k with
    | zero => intro n acc h1 h2; omega
    | succ k ih =>
      intro n acc h1 h2 h3
      rw [impl_faces.l0]
      by_cases hn : n < l.length
      · have hw := wt_le a (l.getD n 0)
        have hm : acc * wt a (l.getD n 0) ≤ 6 ^ n * 6 := Nat.mul_le_mul h3 hw
        have hp := (pow6_le (n + 1) (by omega)).2
        rw [Nat.pow_succ] at hp
        rw [if_pos (by omega), if_pos (by omega), Int.toNat_natCast, (weight_eq K (by omega) _ _).2, some_bind, w1' n (by omega), ← Int.natCast_mul, w64 (by omega) (by omega), ih (n + 1) _ (by omega) (by omega) (by rw [Nat.pow_succ]; exact hm), List.drop_eq_getElem_cons hn, fw, getD_nat _ _ _ hn, Nat.mul_assoc]
      · rw [if_neg (by omega), List.drop_of_length_le (by omega)]
        simp [fw]
  unfold impl_faces.f
  have := key K 0 1 (by omega) (by omega) (by simp)
  rw [show impl_faces.l0 K a l K 1 0 = _ from this]
  simp [some_bind]
/-! overlaps -/
theorem times_w (K : Nat) (a b w : Nat) (hb : 0 < b) (hw : 0 < w ∧ w ≤ 6) (hK : 100000000 ≤ K) (ha : a ≤ 10000000) (hb2 : b ≤ 10000000) : spec_l2Times.f K (frac a b) (⟨[6, (w : Int)], rfl⟩ : Ar 2) = some (frac (a * 6) (b * w)) := by
  obtain ⟨x, y, h1, h2, h3, h4, h5, h6⟩ := frac_parts a b hb
  unfold spec_l2Times.f
  have hyw : y * w ≤ 10000000 * 6 := Nat.mul_le_mul (by omega) hw.2
  have hyw0 : 0 < y * w := Nat.mul_pos h3 hw.1
  rw [h1, h2, show (⟨[6, (w : Int)], rfl⟩ : Ar 2).get 0 = 6 from rfl, show (⟨[6, (w : Int)], rfl⟩ : Ar 2).get 1 = (w : Int) from rfl, show (x : Int) * 6 = ((x * 6 : Nat) : Int) by omega, ← Int.natCast_mul]
  have f := (frac_eq K (x * 6) (y * w) (.inr hyw0) (by omega) (by omega) (by omega)).1
  have e1 : wrap64 ((x * 6 : Nat) : Int) = ((x * 6 : Nat) : Int) := w64 (by omega) (by omega)
  have e2 : wrap64 ((y * w : Nat) : Int) = ((y * w : Nat) : Int) := by clear e1; exact w64 (by omega) (by omega)
  rw [e1, e2, f, some_bind]
  clear e1 e2 f
  congr 1
  refine frac_cross _ _ _ _ hyw0 (Nat.mul_pos hb hw.1) ?_
  rw [Nat.mul_mul_mul_comm, h6, Nat.mul_mul_mul_comm]
/-- The overlap, over the product of the weights of the second phrase. -/
def ovT (a : Ar 6) (l m : List Int) (k : Nat) : Nat := if l.drop (l.length - k) = m.take k then 6 ^ k * fw a (m.drop k) else 0
def ovS (a : Ar 6) (l m : List Int) : Nat → Nat
  | 0 => 0
  | k + 1 => ovS a l m k + ovT a l m (k + 1)
def ov (a : Ar 6) (l m : List Int) : Nat := ovS a l m (min l.length m.length)
theorem ovT_le (a : Ar 6) (l m : List Int) (k : Nat) (hk : k ≤ m.length) (hm : m.length ≤ 6) : ovT a l m k ≤ 46656 := by
  unfold ovT
  split
  · have h1 := fw_le a (m.drop k)
    have h2 : 6 ^ k * fw a (m.drop k) ≤ 6 ^ k * 6 ^ (m.drop k).length := Nat.mul_le_mul_left _ h1
    rw [← Nat.pow_add, List.length_drop, show k + (m.length - k) = m.length by omega] at h2
    have := (pow6_le m.length hm).2
    omega
  · omega
theorem ovS_le (a : Ar 6) (l m : List Int) (hm : m.length ≤ 6) : ∀ k, k ≤ m.length → ovS a l m k ≤ 46656 * k
  | 0, _ => Nat.le_refl _
  | k + 1, h => by
    have := ovS_le a l m hm k (by omega)
    have := ovT_le a l m (k + 1) h hm
    rw [ovS]; omega
theorem over_impl (K : Nat) (hK : 2000000 ≤ K) (a : Ar 6) (l m : List Int) (hl : l.length ≤ 6) (hm : m.length ≤ 6) : impl_overlap.f K a l m = some (ov a l m : Int) := by
  have hmin : (if (m.length : Int) < (l.length : Int) then (m.length : Int) else (l.length : Int)) = ((min l.length m.length : Nat) : Int) := by split <;> omega
  have key : ∀ (k n : Nat), n ≤ min l.length m.length → min l.length m.length - n < k → impl_overlap.l0 K a l m k (ovS a l m n : Int) ((n + 1 : Nat) : Int) = some (ov a l m : Int) := by
    intro k
    induction k with
    | zero => intro n h1 h2; omega
    | succ k ih =>
      intro n h1 h2
      rw [impl_overlap.l0, hmin]
      by_cases hn : n < min l.length m.length
      · have e1 : wrap64 ((l.length : Int) - ((n + 1 : Nat) : Int)) = ((l.length - (n + 1) : Nat) : Int) := by rw [w64 (by omega) (by omega)]; omega
        have hT := ovT_le a l m (n + 1) (by omega) hm
        have hS := ovS_le a l m hm n (by omega)
        rw [e1, if_pos (by clear e1; omega), if_pos (by clear e1; omega), if_pos (by clear e1; omega), Int.toNat_natCast, Int.toNat_natCast, List.take_length, List.drop_zero, equal_eq K _ _ (by rw [List.length_drop]; clear e1; omega) (by omega), some_bind, w1' (n + 1) (by clear e1; omega)]
        by_cases hc : l.drop (l.length - (n + 1)) = m.take (n + 1)
        · have hT2 : ovT a l m (n + 1) = 6 ^ (n + 1) * fw a (m.drop (n + 1)) := by unfold ovT; rw [if_pos hc]
          rw [if_pos (decide_eq_true hc), power_eq K (by omega) (n + 1) (by clear e1; omega), ← powN, some_bind, if_pos (by clear e1; omega), List.take_length, faces_eq K (by omega) a _ (by rw [List.length_drop]; clear e1; omega), some_bind, ← Int.natCast_mul, ← hT2]
          have e2 : wrap64 ((ovT a l m (n + 1) : Nat) : Int) = ((ovT a l m (n + 1) : Nat) : Int) := by clear e1; exact w64 (by omega) (by omega)
          have e3 : wrap64 ((ovS a l m n : Int) + ((ovT a l m (n + 1) : Nat) : Int)) = ((ovS a l m (n + 1) : Nat) : Int) := by clear e1 e2; rw [w64 (by omega) (by omega), ovS]; omega
          rw [e2, e3]
          exact ih (n + 1) (by clear e1 e2 e3; omega) (by clear e1 e2 e3; omega)
        · have hT2 : ovT a l m (n + 1) = 0 := by unfold ovT; rw [if_neg hc]
          rw [if_neg (fun h => hc (of_decide_eq_true h)), show ovS a l m n = ovS a l m (n + 1) by rw [ovS, hT2]; rfl]
          exact ih (n + 1) (by clear e1; omega) (by clear e1; omega)
      · rw [if_neg (by omega)]
        have : n = min l.length m.length := by omega
        rw [this]; rfl
  unfold impl_overlap.f
  have := key K 0 (by omega) (by omega)
  rw [show impl_overlap.l0 K a l m K 0 1 = _ from this]
  rfl
theorem over_spec (K : Nat) (hK : 1000000000000000 ≤ K) (a : Ar 6) (l m : List Int) (hl : l.length ≤ 6) (hm : m.length ≤ 6) (hw : ∀ x ∈ m, 0 < wt a x) : spec_l8Overlap.f K a l m = some (frac (ov a l m) (fw a m)) := by
  have hF := fw_pos a m hw
  have hFle := Nat.le_trans (fw_le a m) (pow6_le m.length hm).2
  have hsplit : ∀ n, fw a (m.take n) * fw a (m.drop n) = fw a m := fun n => by rw [← fw_append, List.take_append_drop]
  have key : ∀ (k n : Nat), n ≤ min l.length m.length → min l.length m.length - n < k → spec_l8Overlap.l0 K a l m k ((n + 1 : Nat) : Int) (frac (ovS a l m n) (fw a m)) (frac (6 ^ n) (fw a (m.take n))) = some (frac (ov a l m) (fw a m)) := by
    intro k
    induction k with
    | zero => intro n h1 h2; omega
    | succ k ih =>
      intro n h1 h2
      rw [spec_l8Overlap.l0]
      by_cases hn : n < min l.length m.length
      · have hnm : n < m.length := by omega
        have e0 : wrap64 (((n + 1 : Nat) : Int) - 1) = (n : Int) := w1p n (by omega)
        have e1 : wrap64 ((l.length : Int) - ((n + 1 : Nat) : Int)) = ((l.length - (n + 1) : Nat) : Int) := by clear e0; rw [w64 (by omega) (by omega)]; omega
        have hT := ovT_le a l m (n + 1) (by clear e0 e1; omega) hm
        have hS := ovS_le a l m hm n (by clear e0 e1; omega)
        have hwn : 0 < wt a (m.getD n 0) := hw _ (by rw [getD_nat _ _ _ hnm]; exact List.getElem_mem _)
        have hwl := wt_le a (m.getD n 0)
        have hp := pow6_le n (by clear e0 e1; omega)
        have htk : fw a (m.take (n + 1)) = fw a (m.take n) * wt a (m.getD n 0) := by
          rw [List.take_succ_eq_append_getElem hnm, fw_append, getD_nat _ _ _ hnm]; simp [fw]
        have htp : 0 < fw a (m.take n) := fw_pos a _ (fun x hx => hw x (List.mem_of_mem_take hx))
        have htl : fw a (m.take n) ≤ 46656 := by
          have := fw_le a (m.take n)
          have h6 := (pow6_le (m.take n).length (by rw [List.length_take]; clear e0 e1; omega)).2
          clear e0 e1; omega
        have ht := times_w K (6 ^ n) (fw a (m.take n)) (wt a (m.getD n 0)) htp ⟨hwn, hwl⟩ (by clear e0 e1; omega) (by clear e0 e1; omega) (by clear e0 e1; omega)
        rw [← Nat.pow_succ, ← htk] at ht
        rw [e0, e1, if_pos (by clear e0 e1; omega), if_pos (by clear e0 e1; omega), if_pos (by clear e0 e1; omega), Int.toNat_natCast, (weight_eq K (by clear e0 e1; omega) _ _).1, some_bind, ht, some_bind, if_pos (by clear e0 e1; omega), if_pos (by clear e0 e1; omega), Int.toNat_natCast, Int.toNat_natCast, List.take_length, List.drop_zero, same_same, equal_eq K _ _ (by rw [List.length_drop]; clear e0 e1; omega) (by clear e0 e1; omega), some_bind, w1' (n + 1) (by clear e0 e1; omega)]
        by_cases hc : l.drop (l.length - (n + 1)) = m.take (n + 1)
        · have hT2 : ovT a l m (n + 1) = 6 ^ (n + 1) * fw a (m.drop (n + 1)) := by unfold ovT; rw [if_pos hc]
          have hdp : 0 < fw a (m.drop (n + 1)) := fw_pos a _ (fun x hx => hw x (List.mem_of_mem_drop hx))
          have hone : frac (6 ^ (n + 1)) (fw a (m.take (n + 1))) = frac (ovT a l m (n + 1)) (fw a m) := by
            rw [hT2, ← hsplit (n + 1), Nat.mul_comm (6 ^ (n + 1)), Nat.mul_comm (fw a (m.take (n + 1))), frac_scale _ _ _ hdp]
          have hpl := plus_same K (ovS a l m n) (ovT a l m (n + 1)) (fw a m) hF hK (by clear e0 e1; omega) (by clear e0 e1; omega) (by clear e0 e1; omega)
          rw [if_pos (decide_eq_true hc)]
          have : spec_l2Plus.f K (frac (ovS a l m n) (fw a m)) (frac (6 ^ (n + 1)) (fw a (m.take (n + 1)))) = some (frac (ovS a l m (n + 1)) (fw a m)) := by rw [hone]; exact hpl
          rw [this, some_bind]
          exact ih (n + 1) (by clear e0 e1; omega) (by clear e0 e1; omega)
        · have hT2 : ovT a l m (n + 1) = 0 := by unfold ovT; rw [if_neg hc]
          rw [if_neg (fun h => hc (of_decide_eq_true h)), show ovS a l m n = ovS a l m (n + 1) by rw [ovS, hT2]; rfl]
          exact ih (n + 1) (by clear e0 e1; omega) (by clear e0 e1; omega)
      · have hnn : n = min l.length m.length := by omega
        have fin : frac (ovS a l m n) (fw a m) = frac (ov a l m) (fw a m) := by rw [hnn]; rfl
        by_cases h3 : ((n + 1 : Nat) : Int) ≤ (l.length : Int)
        · rw [if_pos h3, if_neg (by omega), fin]
        · rw [if_neg h3, fin]
  unfold spec_l8Overlap.f
  have := key K 0 (by omega) (by omega)
  have e0 : frac (ovS a l m 0) (fw a m) = (⟨[0, 1], rfl⟩ : Ar 2) := by
    unfold frac
    apply Ar.ext
    simp [ovS, Nat.div_self hF]
  have e1 : frac (6 ^ 0) (fw a (m.take 0)) = (⟨[1, 1], rfl⟩ : Ar 2) := by
    unfold frac
    apply Ar.ext
    simp [fw]
  rw [e0, e1] at this
  rw [show spec_l8Overlap.l0 K a l m K 1 (⟨[0, 1], rfl⟩ : Ar 2) (⟨[1, 1], rfl⟩ : Ar 2) = _ from this]
  rfl
theorem eqA2 (K : Nat) (hK : 3 ≤ K) (a : Ar 2) : laws_eqIntA2.f K a a = some true := by
  obtain ⟨k, rfl⟩ := Nat.exists_eq_add_of_le hK
  rw [show 3 + k = k + 1 + 1 + 1 by omega]
  simp [laws_eqIntA2.f, laws_eqIntA2.l0, wrap64]

theorem toA6 (K : Nat) (hK : 8 ≤ K) (a : Ar 6) : laws_toIntA6.f K a = some a := by
  obtain ⟨k, rfl⟩ := Nat.exists_eq_add_of_le hK
  obtain ⟨x, y, z, u, v, w, rfl⟩ := Ar.cases6 a
  have e : 8 + k = k + 1 + 1 + 1 + 1 + 1 + 1 + 1 + 1 := by omega
  unfold laws_toIntA6.f
  rw [e]
  simp only [laws_toIntA6.l0, show (0 : Int) < 6 by decide, show wrap64 (0 + 1) = 1 by decide +kernel, show wrap64 (1 + 1) = 2 by decide +kernel, show wrap64 (2 + 1) = 3 by decide +kernel, show wrap64 (3 + 1) = 4 by decide +kernel, show wrap64 (4 + 1) = 5 by decide +kernel, show wrap64 (5 + 1) = 6 by decide +kernel, if_true, show (0 : Int) ≤ 0 ∧ True by decide]
  rfl
theorem eqS_l0 (K : Nat) (l : List Int) (h : l.length ≤ 1073741824) : ∀ (k n : Nat), n ≤ l.length → l.length - n < k → laws_eqIntS.l0 K l l k (n : Int) = some (Sum.inl ()) := by
  intro k
  induction k with
  | zero => intro n h1 h2; omega
  | succ k ih =>
    intro n h1 h2
    rw [laws_eqIntS.l0]
    by_cases hn : (n : Int) < (l.length : Int)
    · rw [if_pos hn, if_pos (by omega), if_pos (by omega), if_pos rfl, w1 n (by omega)]
      exact ih (n + 1) (by omega) (by omega)
    · rw [if_neg hn]
theorem eqS (K : Nat) (l : List Int) (h : l.length ≤ 1048576) (hK : 2000000 ≤ K) : laws_eqIntS.f K l l = some true := by
  unfold laws_eqIntS.f
  rw [if_pos rfl, show (0 : Int) = ((0 : Nat) : Int) from rfl, eqS_l0 K l (by omega) K 0 (by omega) (by omega)]
  rfl
theorem PhraseOverlap_same (K : Nat) (hK : 1000000000000000 ≤ K) (a : Ar 6) (l m : List Int) (hl : l.length ≤ 1048576) (hm : m.length ≤ 1048576) : ∃ r, spec_PhraseOverlap.f K a l m = some r ∧ impl_PhraseOverlap.f K a l m = some r := by
  unfold spec_PhraseOverlap.f impl_PhraseOverlap.f
  rw [phrase_spec K (by omega) a l hl, phrase_spec K (by omega) a m hm, phrase_impl K (by omega) a l hl, phrase_impl K (by omega) a m hm, die_impl K (by omega)]
  simp only [some_bind]
  cases hd : dieB a with
  | false => exact ⟨_, rfl, rfl⟩
  | true =>
    simp only [if_true, Bool.true_and]
    cases h1 : (lenB l && allW a l) with
    | false => exact ⟨_, rfl, rfl⟩
    | true =>
      simp only [if_true]
      cases h2 : (lenB m && allW a m) with
      | false => exact ⟨_, rfl, rfl⟩
      | true =>
        simp only [if_true]
        simp only [Bool.and_eq_true, lenB, decide_eq_true_eq] at h1 h2
        have hw := (allW_iff a m).1 h2.2
        have o1 := over_impl K (by omega) a l m (by omega) (by omega)
        have o2 := over_spec K hK a l m (by omega) (by omega) hw
        have o3 := faces_eq K (by omega) a m (by omega)
        have hF := fw_pos a m hw
        have hFle := Nat.le_trans (fw_le a m) (pow6_le m.length (by omega)).2
        have hov := ovS_le a l m (by omega) (min l.length m.length) (by omega)
        have hov' : ov a l m ≤ 46656 * 6 := by unfold ov; omega
        have f := (frac_eq K (ov a l m) (fw a m) (.inr hF) (by omega) (by omega) (by omega)).2
        simp only [o1, o2, o3, f, some_bind]
        exact ⟨_, rfl, rfl⟩
theorem PhraseWait_same (K : Nat) (hK : 1000000000000000 ≤ K) (a : Ar 6) (l : List Int) (hl : l.length ≤ 1048576) : ∃ r, spec_PhraseWait.f K a l = some r ∧ impl_PhraseWait.f K a l = some r := by
  obtain ⟨r, r1, r2⟩ := PhraseOverlap_same K hK a l l hl hl
  refine ⟨r, ?_, ?_⟩
  · rw [← r1]
    unfold spec_PhraseWait.f spec_PhraseOverlap.f
    rw [phrase_spec K (by omega) a l hl]
    simp only [some_bind]
    cases dieB a && (lenB l && allW a l) <;> rfl
  · unfold impl_PhraseWait.f
    rw [r2]
    rfl
theorem PhraseWait_pure (a0 : Ar 6) (l1 : List Int) (_w0 : ∀ z ∈ a0.l, (Lit.int .i64 z).wf = true) (_m1 : l1.length ≤ maxLen) (_w1 : ∀ z ∈ l1, (Lit.int .i64 z).wf = true) : ∃ K, laws_FnExactPhraseWait.f K a0 l1 = some true := by
  refine ⟨1000000000000000, ?_⟩
  unfold laws_FnExactPhraseWait.f
  by_cases h1 : (1048576 : Int) < l1.length
  · rw [if_pos h1]
  · rw [if_neg h1]
    obtain ⟨r, r1, r2⟩ := PhraseWait_same 1000000000000000 (by omega) a0 l1 (by omega)
    have t1 := toS 1000000000000000 l1 (by omega) (by omega)
    have t3 := fun a => toA6 1000000000000000 (by omega) a
    have q1 := eqS 1000000000000000 l1 (by omega) (by omega)
    have q3 := fun a => eqA2 1000000000000000 (by omega) a
    simp only [t1, t3, r1, r2, q1, q3, some_bind, if_true, beq_self_eq_true]
end Go.Proofs.Ytnjfmhgmbfemdaa.WPhraseWait

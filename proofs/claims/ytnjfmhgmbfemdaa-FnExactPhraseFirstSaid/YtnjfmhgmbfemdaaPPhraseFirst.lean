/- The plain law: what the walk shows to be computed answers true. Conditions: the numbers are 64-bit. -/
import Derived.Test.YtnjfmhgmbfemdaaWPhraseFirst
import Derived.KernelRfl
namespace Go.Proofs.Ytnjfmhgmbfemdaa.WPhraseFirst
open Go.K Go.RowKit
set_option linter.unusedVariables false
set_option linter.unusedSimpArgs false

theorem in_eq (K : Nat) (a lo hi : Int) : impl_within.f K a lo hi = some (decide (lo ≤ a ∧ a ≤ hi)) := by
  unfold impl_within.f
  by_cases h : lo ≤ a <;> simp [h]
theorem in_within : spec_l1In.f = impl_within.f := by kernel_rfl
theorem powN (n : Nat) : ((6 ^ n : Nat) : Int) = (6 : Int) ^ n := by simp
def frac (a b : Nat) : Ar 2 := ⟨[((a / Nat.gcd a b : Nat) : Int), ((b / Nat.gcd a b : Nat) : Int)], rfl⟩
theorem gcd_l0 (K : Nat) : ∀ (k a b : Nat), b < k → spec_l2Cut.l0 K k (a : Int) (b : Int) = some ((Nat.gcd a b : Nat) : Int) ∧ impl_fraction.l0 K k (a : Int) (b : Int) = some ((Nat.gcd a b : Nat) : Int) := by
  intro k
  induction k with
  | zero => intro a b h; omega
  | succ k ih =>
    intro a b h
    rw [spec_l2Cut.l0, impl_fraction.l0]
    by_cases hb : b = 0
    · subst hb
      simp
    · have h1 : (0 : Int) < (b : Int) := by omega
      have h2 : ¬ (b : Int) = 0 := by omega
      have h3 : (b : Int) ≠ 0 := h2
      have h4 : ((a : Int)).tmod (b : Int) = ((a % b : Nat) : Int) := by
        rw [Int.tmod_eq_emod_of_nonneg (by omega)]; rfl
      have h5 : a % b < b := Nat.mod_lt _ (by omega)
      rw [if_pos h1, if_neg h2, if_pos h3, if_pos h3, h4]
      obtain ⟨i1, i2⟩ := ih b (a % b) (by omega)
      rw [i1, i2]
      have : Nat.gcd b (a % b) = Nat.gcd a b := by
        rw [Nat.gcd_comm b, ← Nat.gcd_rec, Nat.gcd_comm]
      rw [this]
      exact ⟨rfl, rfl⟩
theorem frac_eq (K : Nat) (a b : Nat) (h : 0 < a ∨ 0 < b) (hK : b < K) (ha : a ≤ 4000000000000000000) (hb : b ≤ 4000000000000000000) : spec_l2Cut.f K (a : Int) (b : Int) = some (frac a b) ∧ impl_fraction.f K (a : Int) (b : Int) = some (frac a b) := by
  obtain ⟨h1, h2⟩ := gcd_l0 K K a b hK
  have hg : 0 < Nat.gcd a b := by
    rcases h with h | h
    · exact Nat.gcd_pos_of_pos_left _ h
    · exact Nat.gcd_pos_of_pos_right _ h
  unfold spec_l2Cut.f impl_fraction.f
  rw [h1, h2]
  simp only [some_bind]
  have h3 : spec_l1Most.f K ((Nat.gcd a b : Nat) : Int) 1 = some ((Nat.gcd a b : Nat) : Int) := by
    unfold spec_l1Most.f
    by_cases h : (1 : Int) < ((Nat.gcd a b : Nat) : Int)
    · rw [if_pos h]
    · rw [if_neg h, show ((Nat.gcd a b : Nat) : Int) = 1 by omega]
  have h4 : ((Nat.gcd a b : Nat) : Int) ≠ 0 := by omega
  have d1 : ∀ m : Nat, m ≤ 4000000000000000000 → wrap64 ((m : Int).tdiv ((Nat.gcd a b : Nat) : Int)) = ((m / Nat.gcd a b : Nat) : Int) := by
    intro m hm
    have e : (m : Int).tdiv ((Nat.gcd a b : Nat) : Int) = ((m / Nat.gcd a b : Nat) : Int) := by
      rw [Int.tdiv_eq_ediv_of_nonneg (by omega)]; rfl
    have := Nat.div_le_self m (Nat.gcd a b)
    rw [e]
    generalize m / Nat.gcd a b = q at *
    exact w64 (by omega) (by omega)
  rw [h3]
  simp only [some_bind, if_pos h4, d1 a ha, d1 b hb]
  exact ⟨rfl, rfl⟩
theorem frac_scale (c a b : Nat) (hc : 0 < c) : frac (c * a) (c * b) = frac a b := by
  unfold frac
  apply Ar.ext
  simp only [Nat.gcd_mul_left, Nat.mul_div_mul_left _ _ hc]
theorem frac_get (a b : Nat) : (frac a b).get 0 = ((a / Nat.gcd a b : Nat) : Int) ∧ (frac a b).get 1 = ((b / Nat.gcd a b : Nat) : Int) := ⟨rfl, rfl⟩
theorem frac_cross (p q p' q' : Nat) (hq : 0 < q) (hq' : 0 < q') (h : p * q' = p' * q) : frac p q = frac p' q' := by
  rw [← frac_scale q' p q hq', ← frac_scale q p' q' hq, Nat.mul_comm q' p, h, Nat.mul_comm p' q, Nat.mul_comm q' q]
/- The parts of a fraction. -/
theorem frac_parts (a b : Nat) (hb : 0 < b) : ∃ x y : Nat, (frac a b).get 0 = (x : Int) ∧ (frac a b).get 1 = (y : Int) ∧ 0 < y ∧ y ≤ b ∧ x ≤ a ∧ x * b = a * y := by
  have hg : 0 < Nat.gcd a b := Nat.gcd_pos_of_pos_right _ hb
  obtain ⟨x, hx⟩ := Nat.gcd_dvd_left a b
  obtain ⟨y, hy⟩ := Nat.gcd_dvd_right a b
  have e1 : a / Nat.gcd a b = x := Nat.div_eq_of_eq_mul_right hg hx
  have e2 : b / Nat.gcd a b = y := Nat.div_eq_of_eq_mul_right hg hy
  have p1 := Nat.div_le_self a (Nat.gcd a b)
  have p2 := Nat.div_le_self b (Nat.gcd a b)
  refine ⟨x, y, ?_, ?_, ?_, by omega, by omega, ?_⟩
  · rw [(frac_get a b).1, e1]
  · rw [(frac_get a b).2, e2]
  · rcases Nat.eq_zero_or_pos y with h | h
    · rw [h, Nat.mul_zero] at hy; omega
    · exact h
  · clear e1 e2 p1 p2
    generalize Nat.gcd a b = g at *
    rw [hx, hy]
    rw [← Nat.mul_assoc, Nat.mul_comm x g]
theorem plus_same (K : Nat) (a c D : Nat) (hD : 0 < D) (hK : 1000000000000000 ≤ K) (ha : a ≤ 10000000) (hc : c ≤ 10000000) (hD2 : D ≤ 10000000) : spec_l2Plus.f K (frac a D) (frac c D) = some (frac (a + c) D) := by
  obtain ⟨x, y, h1, h2, h3, h4, h5, h6⟩ := frac_parts a D hD
  obtain ⟨z, w, k1, k2, k3, k4, k5, k6⟩ := frac_parts c D hD
  unfold spec_l2Plus.f
  rw [h1, h2, k1, k2, ← Int.natCast_mul, ← Int.natCast_mul, ← Int.natCast_mul]
  have b1 : x * w ≤ 10000000 * 10000000 := Nat.mul_le_mul (by omega) (by omega)
  have b2 : z * y ≤ 10000000 * 10000000 := Nat.mul_le_mul (by omega) (by omega)
  have b3 : y * w ≤ 10000000 * 10000000 := Nat.mul_le_mul (by omega) (by omega)
  have p3 : 0 < y * w := Nat.mul_pos h3 k3
  have hcross : (x * w + z * y) * D = (a + c) * (y * w) := by
    rw [Nat.add_mul, Nat.add_mul, Nat.mul_right_comm x w D, h6, Nat.mul_right_comm z y D, k6, Nat.mul_assoc a y w, Nat.mul_assoc c w y, Nat.mul_comm w y]
  generalize x * w = A at *
  generalize z * y = B at *
  generalize y * w = C at *
  have f := (frac_eq K (A + B) C (.inr p3) (by omega) (by omega) (by omega)).1
  have e1 : wrap64 (A : Int) = (A : Int) := w64 (by omega) (by omega)
  have e2 : wrap64 (B : Int) = (B : Int) := by clear e1; exact w64 (by omega) (by omega)
  have e3 : wrap64 (C : Int) = (C : Int) := by clear e1 e2; exact w64 (by omega) (by omega)
  have e4 : wrap64 ((A : Int) + (B : Int)) = ((A + B : Nat) : Int) := by
    clear e1 e2 e3
    rw [w64 (by omega) (by omega)]; omega
  rw [e1, e2, e3, e4, f, some_bind]
  congr 1
  exact frac_cross _ _ _ _ p3 hD hcross
def faceB (a : Int) : Bool := decide (0 ≤ a ∧ a ≤ 30)
theorem isFace_eq (K : Nat) (_hK : 2000000 ≤ K) (a : Int) : impl_isFace.f K a = some (faceB a) := by
  unfold impl_isFace.f
  rw [in_eq]; rfl
theorem w1 (n : Nat) (h : n ≤ 4000000000000000000) : wrap64 ((n : Int) + 1) = ((n + 1 : Nat) : Int) := by rw [w64 (by omega) (by omega)]; omega
theorem toS_l0 (K : Nat) (l : List Int) (h : l.length ≤ 1073741824) : ∀ (k n : Nat) (out : List Int), out.length = l.length → out.take n = l.take n → n ≤ l.length → l.length - n < k → laws_toIntS.l0 K l k (n : Int) out = some l := by
  intro k
  induction k with
  | zero => intro n out h1 h2 h3 h4; omega
  | succ k ih =>
    intro n out h1 h2 h3 h4
    rw [laws_toIntS.l0]
    by_cases hn : (n : Int) < (l.length : Int)
    · have hn' : n < l.length := by omega
      rw [if_pos hn, if_pos (by omega), if_pos (by omega), w1 n (by omega)]
      refine ih (n + 1) _ (by simp [h1]) ?_ (by omega) (by omega)
      have hnn : ((n : Int)).toNat = n := by omega
      rw [hnn, List.take_add_one, List.take_add_one, List.take_set_of_le (Nat.le_refl n), h2]
      rw [List.getElem?_set_self (by omega)]
      congr 1
      rw [List.getD_eq_getElem?_getD, List.getElem?_eq_getElem hn']
      rfl
    · rw [if_neg hn]
      have : n = l.length := by omega
      subst this
      rw [← h1, List.take_length, h1, List.take_length] at h2
      rw [h2]
theorem toS (K : Nat) (l : List Int) (h : l.length ≤ 1048576) (hK : 2000000 ≤ K) : laws_toIntS.f K l = some l := by
  unfold laws_toIntS.f
  rw [if_pos (by omega), show (0 : Int) = ((0 : Nat) : Int) from rfl, toS_l0 K l (by omega) K 0 _ (by simp) (by simp) (by omega) (by omega)]
  rfl
theorem allFace_l0 (K : Nat) (hK : 2000000 ≤ K) (l : List Int) (h : l.length ≤ 1073741824) : ∀ (k n : Nat), n ≤ l.length → l.length - n < k →
    (slices_IndexFunc_int_int__areAll_int_1_isFace.l0 K l k (n : Int) = some (Sum.inl ()) ∧ (l.drop n).all faceB = true) ∨ (∃ i : Int, 0 ≤ i ∧ slices_IndexFunc_int_int__areAll_int_1_isFace.l0 K l k (n : Int) = some (Sum.inr i) ∧ (l.drop n).all faceB = false) := by
  intro k
  induction k with
  | zero => intro n h1 h2; omega
  | succ k ih =>
    intro n h1 h2
    rw [slices_IndexFunc_int_int__areAll_int_1_isFace.l0]
    by_cases hn : (n : Int) < (l.length : Int)
    · have hn' : n < l.length := by omega
      have hnn : ((n : Int)).toNat = n := by omega
      have hd : l.drop n = l[n] :: l.drop (n + 1) := List.drop_eq_getElem_cons hn'
      have hg : l.getD n (0 : Int) = l[n] := by rw [List.getD_eq_getElem?_getD, List.getElem?_eq_getElem hn']; rfl
      rw [if_pos hn, if_pos (by omega), w1 n (by omega), hnn, hg, impl_areAll_int_1__isFace.f, isFace_eq K hK, hd]
      simp only [some_bind, List.all_cons]
      rcases Bool.eq_false_or_eq_true (faceB l[n]) with e | e
      · rw [e]
        simp only [Bool.not_true, Bool.false_eq_true, if_false, Bool.true_and]
        exact ih (n + 1) (by omega) (by omega)
      · rw [e]
        simp only [Bool.not_false, if_true, Bool.false_and]
        exact .inr ⟨_, by omega, rfl, trivial⟩
    · rw [if_neg hn]
      have : n = l.length := by omega
      subst this
      exact .inl ⟨rfl, by simp⟩
theorem allFace_eq (K : Nat) (hK : 2000000 ≤ K) (l : List Int) (h : l.length ≤ 1048576) : impl_areAll_int__isFace.f K l = some (l.all faceB) := by
  unfold impl_areAll_int__isFace.f slices_ContainsFunc_int_int__areAll_int_1_isFace.f slices_IndexFunc_int_int__areAll_int_1_isFace.f
  rcases allFace_l0 K hK l (by omega) K 0 (by omega) (by omega) with ⟨h1, h2⟩ | ⟨i, hi, h1, h2⟩
  · rw [show (0 : Int) = ((0 : Nat) : Int) from rfl, h1]
    simp only [some_bind, List.drop_zero] at h2 ⊢
    rw [h2]; rfl
  · rw [show (0 : Int) = ((0 : Nat) : Int) from rfl, h1]
    simp only [some_bind, List.drop_zero] at h2 ⊢
    rw [h2]
    have : decide (((0 : Nat) : Int) ≤ i) = true := decide_eq_true (by simpa using hi)
    rw [this]; rfl
def dieP (a : Ar 6) : Prop := ((0 ≤ a.get 0 ∧ a.get 0 ≤ 30) ∧ (0 ≤ a.get 1 ∧ a.get 1 ≤ 30) ∧ (0 ≤ a.get 2 ∧ a.get 2 ≤ 30) ∧ (0 ≤ a.get 3 ∧ a.get 3 ≤ 30) ∧ (0 ≤ a.get 4 ∧ a.get 4 ≤ 30) ∧ (0 ≤ a.get 5 ∧ a.get 5 ≤ 30)) ∧ (a.get 0 ≤ a.get 1 ∧ a.get 1 ≤ a.get 2 ∧ a.get 2 ≤ a.get 3 ∧ a.get 3 ≤ a.get 4 ∧ a.get 4 ≤ a.get 5)
instance (a : Ar 6) : Decidable (dieP a) := by unfold dieP; infer_instance
def dieB (a : Ar 6) : Bool := decide (dieP a)
theorem die_get (x y z u v w : Int) : (Ar.get (⟨[x, y, z, u, v, w], rfl⟩ : Ar 6) 0 = x ∧ Ar.get (⟨[x, y, z, u, v, w], rfl⟩ : Ar 6) 1 = y ∧ Ar.get (⟨[x, y, z, u, v, w], rfl⟩ : Ar 6) 2 = z) ∧ (Ar.get (⟨[x, y, z, u, v, w], rfl⟩ : Ar 6) 3 = u ∧ Ar.get (⟨[x, y, z, u, v, w], rfl⟩ : Ar 6) 4 = v ∧ Ar.get (⟨[x, y, z, u, v, w], rfl⟩ : Ar 6) 5 = w) := ⟨⟨rfl, rfl, rfl⟩, rfl, rfl, rfl⟩
set_option maxHeartbeats 4000000 in
theorem die_spec (K : Nat) (hK : 2000000 ≤ K) (a : Ar 6) : spec_l2Die.f K a = some (dieB a) := by
  obtain ⟨k, rfl⟩ := Nat.exists_eq_add_of_le (show 8 ≤ K by omega)
  obtain ⟨x, y, z, u, v, w, rfl⟩ := Ar.cases6 a
  have e : 8 + k = k + 1 + 1 + 1 + 1 + 1 + 1 + 1 + 1 := by omega
  unfold spec_l2Die.f dieB dieP
  obtain ⟨⟨g0, g1, g2⟩, g3, g4, g5⟩ := die_get x y z u v w
  rw [e]
  simp only [spec_l2Die.l0, in_within, in_eq, some_bind, show (0 : Int) < 6 by decide, show wrap64 (0 + 1) = 1 by decide +kernel, show wrap64 (1 + 1) = 2 by decide +kernel, show wrap64 (2 + 1) = 3 by decide +kernel, show wrap64 (3 + 1) = 4 by decide +kernel, show wrap64 (4 + 1) = 5 by decide +kernel, show wrap64 (5 + 1) = 6 by decide +kernel, show wrap64 (1 - 1) = 0 by decide +kernel, show wrap64 (2 - 1) = 1 by decide +kernel, show wrap64 (3 - 1) = 2 by decide +kernel, show wrap64 (4 - 1) = 3 by decide +kernel, show wrap64 (5 - 1) = 4 by decide +kernel, g0, g1, g2, g3, g4, g5, decide_eq_true_eq]
  simp
  repeat' split
  all_goals simp_all
  all_goals omega
set_option maxHeartbeats 4000000 in
theorem die_impl (K : Nat) (hK : 2000000 ≤ K) (a : Ar 6) : impl_IsDie.f K a = some (dieB a) := by
  obtain ⟨x, y, z, u, v, w, rfl⟩ := Ar.cases6 a
  unfold impl_IsDie.f dieB dieP
  rw [allFace_eq K hK _ (by simp)]
  obtain ⟨k, rfl⟩ := Nat.exists_eq_add_of_le (show 8 ≤ K by omega)
  have e : 8 + k = k + 1 + 1 + 1 + 1 + 1 + 1 + 1 + 1 := by omega
  obtain ⟨⟨g0, g1, g2⟩, g3, g4, g5⟩ := die_get x y z u v w
  unfold slices_IsSorted_int_int.f
  rw [e]
  simp [slices_IsSorted_int_int.l0, cmp_Less_int.f, cmp_isNaN_int.f, some_bind, show wrap64 (6 - 1) = 5 by decide +kernel, show wrap64 5 = 5 by decide +kernel, show wrap64 (5 - 1) = 4 by decide +kernel, show wrap64 (4 - 1) = 3 by decide +kernel, show wrap64 (3 - 1) = 2 by decide +kernel, show wrap64 (2 - 1) = 1 by decide +kernel, show wrap64 (1 - 1) = 0 by decide +kernel, show wrap64 4 = 4 by decide +kernel, show wrap64 3 = 3 by decide +kernel, show wrap64 2 = 2 by decide +kernel, show wrap64 1 = 1 by decide +kernel, show wrap64 0 = 0 by decide +kernel, g0, g1, g2, g3, g4, g5, faceB]
  repeat' split
  all_goals simp_all
  all_goals omega
def wt (a : Ar 6) (x : Int) : Nat := a.l.count x
theorem wt_le (a : Ar 6) (x : Int) : wt a x ≤ 6 := by
  have := List.count_le_length (a := x) (l := a.l)
  rw [a.h] at this
  exact this
theorem ar_drop (a : Ar 6) (n : Nat) (h : n < 6) : a.l.drop n = a.get (n : Int) :: a.l.drop (n + 1) := by
  have hn : n < a.l.length := by rw [a.h]; exact h
  rw [List.drop_eq_getElem_cons hn]
  congr 1
  unfold Ar.get
  rw [show ((n : Int)).toNat = n by omega, List.getD_eq_getElem?_getD, List.getElem?_eq_getElem hn]
  rfl
theorem weight_l0 (K : Nat) (a : Ar 6) (x : Int) : ∀ (k n m : Nat), n ≤ 6 → 6 - n < k → m ≤ n → spec_l8Weight.l0 K a x k (m : Int) (n : Int) = some ((m + (a.l.drop n).count x : Nat) : Int) ∧ impl_weight.l0 K a x k (m : Int) (n : Int) = some ((m + (a.l.drop n).count x : Nat) : Int) := by
  intro k
  induction k with
  | zero => intro n m h1 h2; omega
  | succ k ih =>
    intro n m h1 h2 h3
    rw [spec_l8Weight.l0, impl_weight.l0]
    by_cases hn : (n : Int) < 6
    · have c2 : (0 : Int) ≤ (n : Int) ∧ (n : Int) < 6 := by omega
      have e1 : wrap64 ((n : Int) + 1) = ((n + 1 : Nat) : Int) := w1 n (by omega)
      have e2 : wrap64 ((m : Int) + 1) = ((m + 1 : Nat) : Int) := w1 m (by omega)
      have e3 : wrap64 ((m : Int) + 0) = (m : Int) := by rw [w64 (by omega) (by omega)]; omega
      simp only [if_pos hn, if_pos c2, e1, e2, impl_truth.f, decide_eq_true_eq]
      rw [ar_drop a n (by omega), List.count_cons]
      by_cases hx : a.get (n : Int) = x
      · simp only [if_pos hx, some_bind, e2]
        rw [(ih (n + 1) (m + 1) (by omega) (by omega) (by omega)).1, (ih (n + 1) (m + 1) (by omega) (by omega) (by omega)).2]
        simp [hx]
        omega
      · simp only [if_neg hx, some_bind, e3]
        rw [(ih (n + 1) m (by omega) (by omega) (by omega)).1, (ih (n + 1) m (by omega) (by omega) (by omega)).2]
        simp [hx]
    · rw [if_neg hn, if_neg hn]
      have : n = 6 := by omega
      subst this
      have : a.l.drop 6 = [] := List.drop_of_length_le (by rw [a.h]; omega)
      rw [this]
      exact ⟨rfl, rfl⟩
theorem weight_eq (K : Nat) (hK : 10 ≤ K) (a : Ar 6) (x : Int) : spec_l8Weight.f K a x = some (wt a x : Int) ∧ impl_weight.f K a x = some (wt a x : Int) := by
  have := weight_l0 K a x K 0 0 (by omega) (by omega) (by omega)
  simp only [Nat.zero_add, List.drop_zero] at this
  unfold spec_l8Weight.f impl_weight.f
  rw [show spec_l8Weight.l0 K a x K 0 0 = _ from this.1, show impl_weight.l0 K a x K 0 0 = _ from this.2]
  exact ⟨rfl, rfl⟩
theorem index_l0 (K : Nat) (l : List Int) (x : Int) (h : l.length ≤ 1073741824) : ∀ (k n : Nat), n ≤ l.length → l.length - n < k →
    (slices_Index_int_int.l0 K l x k (n : Int) = some (Sum.inl ()) ∧ x ∉ l.drop n) ∨ (∃ i : Int, 0 ≤ i ∧ slices_Index_int_int.l0 K l x k (n : Int) = some (Sum.inr i) ∧ x ∈ l.drop n) := by
  intro k
  induction k with
  | zero => intro n h1 h2; omega
  | succ k ih =>
    intro n h1 h2
    rw [slices_Index_int_int.l0]
    by_cases hn : (n : Int) < (l.length : Int)
    · have hn' : n < l.length := by omega
      have hnn : ((n : Int)).toNat = n := by omega
      have hd : l.drop n = l[n] :: l.drop (n + 1) := List.drop_eq_getElem_cons hn'
      have hg : l.getD n 0 = l[n] := by rw [List.getD_eq_getElem?_getD, List.getElem?_eq_getElem hn']; rfl
      rw [if_pos hn, if_pos (by omega), w1 n (by omega), hnn, hg, hd]
      by_cases e : x = l[n]
      · rw [if_pos e]
        exact .inr ⟨_, by omega, rfl, by rw [e]; exact List.mem_cons_self⟩
      · have e' : ¬ l[n] = x := fun h => e h.symm
        simp only [e, e', if_false, List.mem_cons, false_or]
        exact ih (n + 1) (by omega) (by omega)
    · rw [if_neg hn]
      have : n = l.length := by omega
      subst this
      exact .inl ⟨rfl, by simp⟩
theorem contains_eq (K : Nat) (hK : 2000000 ≤ K) (l : List Int) (x : Int) (h : l.length ≤ 1048576) : slices_Contains_int_int.f K l x = some (decide (x ∈ l)) := by
  unfold slices_Contains_int_int.f slices_Index_int_int.f
  rcases index_l0 K l x (by omega) K 0 (by omega) (by omega) with ⟨h1, h2⟩ | ⟨i, hi, h1, h2⟩
  · rw [show slices_Index_int_int.l0 K l x K 0 = _ from h1]
    simp only [some_bind, List.drop_zero] at h2 ⊢
    simp [h2]
  · rw [show slices_Index_int_int.l0 K l x K 0 = _ from h1]
    simp only [some_bind, List.drop_zero] at h2 ⊢
    simp [h2, hi]
theorem has_eq (K : Nat) (hK : 2000000 ≤ K) (a : Ar 6) (x : Int) : impl_has.f K a x = some (decide (0 < wt a x)) := by
  unfold impl_has.f
  rw [contains_eq K hK _ _ (by rw [a.h]; omega)]
  simp only [some_bind]
  congr 1
  rw [decide_eq_decide]
  exact List.count_pos_iff.symm
theorem pow_lt (n : Nat) (h : n ≤ 22) : (6 : Int) ^ n ≤ 131621703842267136 := by
  have : (6 : Nat) ^ n ≤ 6 ^ 22 := Nat.pow_le_pow_right (by omega) h
  have h2 : ((6 ^ n : Nat) : Int) ≤ ((6 ^ 22 : Nat) : Int) := by exact_mod_cast this
  simpa using h2
theorem pow_pos (n : Nat) : (1 : Int) ≤ 6 ^ n := by
  have : 1 ≤ (6 : Nat) ^ n := Nat.one_le_pow _ _ (by omega)
  have h2 : ((1 : Nat) : Int) ≤ ((6 ^ n : Nat) : Int) := by exact_mod_cast this
  simpa using h2
theorem power_l0 (K : Nat) (n : Nat) (hn : n ≤ 22) : ∀ (k i : Nat), i ≤ n → n - i < k → impl_power.l0 K (n : Int) k ((6 : Int) ^ i) (i : Int) = some ((6 : Int) ^ n) := by
  intro k
  induction k with
  | zero => intro i h1 h2; omega
  | succ k ih =>
    intro i h1 h2
    rw [impl_power.l0]
    by_cases h : (i : Int) < (n : Int)
    · have hp := pow_lt (i + 1) (by omega)
      have hq := pow_pos (i + 1)
      have e : (6 : Int) ^ i * 6 = 6 ^ (i + 1) := (Int.pow_succ 6 i).symm
      rw [if_pos h, e, w64 (n := (6 : Int) ^ (i + 1)) (by omega) (by omega), w64 (n := (i : Int) + 1) (by omega) (by omega), show (i : Int) + 1 = ((i + 1 : Nat) : Int) by omega]
      exact ih (i + 1) (by omega) (by omega)
    · rw [if_neg h, show i = n by omega]
theorem power_eq (K : Nat) (hK : 30 ≤ K) (n : Nat) (hn : n ≤ 22) : impl_power.f K (n : Int) = some ((6 : Int) ^ n) := by
  unfold impl_power.f
  rw [show impl_power.l0 K (n : Int) K 1 0 = some ((6 : Int) ^ n) from power_l0 K n hn K 0 (by omega) (by omega)]
  rfl
def fw (a : Ar 6) : List Int → Nat
  | [] => 1
  | x :: r => wt a x * fw a r
theorem fw_append (a : Ar 6) : ∀ l m : List Int, fw a (l ++ m) = fw a l * fw a m
  | [], m => by simp [fw]
  | x :: r, m => by simp only [List.cons_append, fw, fw_append a r m, Nat.mul_assoc]
theorem fw_le (a : Ar 6) : ∀ l : List Int, fw a l ≤ 6 ^ l.length
  | [] => by simp [fw]
  | x :: r => by
    rw [fw, List.length_cons, Nat.pow_succ, Nat.mul_comm]
    exact Nat.mul_le_mul (fw_le a r) (wt_le a x)
theorem fw_pos (a : Ar 6) : ∀ l : List Int, (∀ x ∈ l, 0 < wt a x) → 0 < fw a l
  | [], _ => by simp [fw]
  | x :: r, h => by rw [fw]; exact Nat.mul_pos (h x (by simp)) (fw_pos a r (fun y hy => h y (by simp [hy])))
theorem pow6_le (n : Nat) (h : n ≤ 6) : 1 ≤ 6 ^ n ∧ 6 ^ n ≤ 46656 := by
  rcases (show n = 0 ∨ n = 1 ∨ n = 2 ∨ n = 3 ∨ n = 4 ∨ n = 5 ∨ n = 6 by omega) with rfl | rfl | rfl | rfl | rfl | rfl | rfl <;> decide
def allW (a : Ar 6) (l : List Int) : Bool := l.all fun x => decide (0 < wt a x)
theorem allW_iff (a : Ar 6) (l : List Int) : allW a l = true ↔ ∀ x ∈ l, 0 < wt a x := by simp [allW]
theorem any_find (l : List Int) (p : Int → Bool) : (l.any p) = ((List.range' 0 l.length).find? (fun n : Nat => p (l.getD n 0))).isSome := by
  rw [Bool.eq_iff_iff, List.any_eq_true, List.find?_isSome]
  constructor
  · rintro ⟨x, hx, hp⟩
    obtain ⟨i, hi, rfl⟩ := List.getElem_of_mem hx
    exact ⟨i, List.mem_range'_1.2 ⟨by omega, by omega⟩, by rw [getD_nat _ _ _ hi]; exact hp⟩
  · rintro ⟨i, hi, hp⟩
    have hi' := (List.mem_range'_1.1 hi).2
    rw [getD_nat _ _ _ (by omega)] at hp
    exact ⟨_, List.getElem_mem _, hp⟩
theorem all_phrase (K : Nat) (hK : 2000000 ≤ K) (l : List Int) (a : Ar 6) (h : l.length ≤ 1048576) : impl_areAll_int__isPhrase_1.f K l a = some (allW a l) := by
  unfold impl_areAll_int__isPhrase_1.f slices_ContainsFunc_int_int__areAll_int_1_isPhrase_1.f slices_IndexFunc_int_int__areAll_int_1_isPhrase_1.f
  have hl := loop_find (fun k n => slices_IndexFunc_int_int__areAll_int_1_isPhrase_1.l0 K l a k n) l.length (fun n : Nat => !decide (0 < wt a (l.getD n 0))) (fun n => some (Sum.inr (n : Int))) (some (Sum.inl ())) (by
      intro k n hn
      rw [slices_IndexFunc_int_int__areAll_int_1_isPhrase_1.l0, if_pos (by omega), if_pos (by omega), Int.toNat_natCast, impl_areAll_int_1__isPhrase_1.f, impl_isPhrase_1__c.f, has_eq K hK, w1' n (by omega)]
      simp only [some_bind]) (by
      intro k
      rw [slices_IndexFunc_int_int__areAll_int_1_isPhrase_1.l0, if_neg (by omega)]) l.length 0 K (by omega) (by omega)
  rw [show slices_IndexFunc_int_int__areAll_int_1_isPhrase_1.l0 K l a K 0 = _ from hl]
  have ha : allW a l = !(l.any fun x => !decide (0 < wt a x)) := by
    unfold allW
    rw [Bool.eq_iff_iff]
    simp only [List.all_eq_true, Bool.not_eq_true', List.any_eq_false, decide_eq_true_eq, decide_eq_false_iff_not, Classical.not_not]
  rw [ha, any_find l (fun x => !decide (0 < wt a x))]
  cases hf : (List.range' 0 l.length).find? (fun n : Nat => !decide (0 < wt a (l.getD n 0))) with
  | none => rfl
  | some i => simp [some_bind]
def lenB (l : List Int) : Bool := decide ((1 : Int) ≤ (l.length : Int) ∧ (l.length : Int) ≤ 6)
theorem phrase_impl (K : Nat) (hK : 2000000 ≤ K) (a : Ar 6) (l : List Int) (h : l.length ≤ 1048576) : impl_isPhrase.f K a l = some (lenB l && allW a l) := by
  unfold impl_isPhrase.f
  rw [in_eq, all_phrase K hK l a h, some_bind]
  unfold lenB
  cases hb : decide ((1 : Int) ≤ (l.length : Int) ∧ (l.length : Int) ≤ 6) <;> simp [some_bind]
theorem phrase_spec (K : Nat) (hK : 2000000 ≤ K) (a : Ar 6) (l : List Int) (h : l.length ≤ 1048576) : spec_l8Phrase.f K a l = some (dieB a && (lenB l && allW a l)) := by
  unfold spec_l8Phrase.f
  have key : ∀ (k n : Nat), n ≤ l.length → l.length - n < k → (spec_l8Phrase.l0 K a l k (n : Int) = some (Sum.inl ()) ∧ (l.length ≤ 6 → allW a (l.drop n) = true)) ∨ (spec_l8Phrase.l0 K a l k (n : Int) = some (Sum.inr false) ∧ allW a (l.drop n) = false) := by
    intro k
    induction k with
    | zero => intro n h1 h2; omega
    | succ k ih =>
      intro n h1 h2
      rw [spec_l8Phrase.l0]
      by_cases hn : n < l.length
      · have hd : allW a (l.drop n) = (decide (0 < wt a (l.getD n 0)) && allW a (l.drop (n + 1))) := by
          rw [List.drop_eq_getElem_cons hn, getD_nat _ _ _ hn]; rfl
        rw [if_pos (by omega)]
        by_cases h6 : (n : Int) ≤ 6
        · rw [if_pos h6, if_pos (by omega), Int.toNat_natCast, (weight_eq K (by omega) _ _).1, some_bind, w1' n (by omega), hd]
          by_cases hw : wt a (l.getD n 0) = 0
          · rw [if_pos (by omega), hw]
            exact .inr ⟨rfl, rfl⟩
          · rw [if_neg (by omega), decide_eq_true (show 0 < wt a (l.getD n 0) by omega), Bool.true_and]
            exact ih (n + 1) (by omega) (by omega)
        · rw [if_neg h6]
          exact .inl ⟨rfl, fun h => by omega⟩
      · rw [if_neg (by omega)]
        refine .inl ⟨rfl, fun _ => ?_⟩
        rw [List.drop_of_length_le (by omega)]; rfl
  rcases key K 0 (by omega) (by omega) with ⟨h1, h2⟩ | ⟨h1, h2⟩
  · rw [show spec_l8Phrase.l0 K a l K 0 = _ from h1, some_bind]
    dsimp only
    rw [die_spec K hK, some_bind, in_within, in_eq, some_bind]
    cases hd : dieB a with
    | false => rfl
    | true =>
      simp only [if_true, Bool.true_and]
      unfold lenB
      by_cases hc : (1 : Int) ≤ (l.length : Int) ∧ (l.length : Int) ≤ 6
      · rw [decide_eq_true hc, Bool.true_and]
        have := h2 (by omega)
        rw [List.drop_zero] at this
        rw [this]
      · rw [decide_eq_false hc, Bool.false_and]
  · rw [show spec_l8Phrase.l0 K a l K 0 = _ from h1, some_bind]
    rw [List.drop_zero] at h2
    rw [h2, Bool.and_false, Bool.and_false]
theorem same_same : spec_l1Same.f = slices_Equal_int_int.f := by kernel_rfl
theorem equal_eq (K : Nat) (l m : List Int) (h : l.length ≤ 100) (hK : 200 ≤ K) : slices_Equal_int_int.f K l m = some (decide (l = m)) := by
  unfold slices_Equal_int_int.f
  by_cases hl : l.length = m.length
  · rw [if_pos (by omega)]
    have h1 := loop_find (fun k n => slices_Equal_int_int.l0 K l m k n) l.length (fun n : Nat => !decide (l.getD n 0 = m.getD n 0)) (fun _ => some (Sum.inr false)) (some (Sum.inl ())) (by
      intro k n hn
      rw [slices_Equal_int_int.l0, if_pos (by omega), if_pos (by omega), if_pos (by omega), Int.toNat_natCast, w1' n (by omega)]
      by_cases hc : l.getD n 0 = m.getD n 0
      · rw [if_pos hc]; simp only [hc, decide_true, Bool.not_true, Bool.false_eq_true, if_false]
      · rw [if_neg hc]; simp only [hc, decide_false, Bool.not_false, if_true]) (by
      intro k
      rw [slices_Equal_int_int.l0, if_neg (by omega)]) l.length 0 K (by omega) (by omega)
    rw [show slices_Equal_int_int.l0 K l m K 0 = _ from h1]
    cases hf : (List.range' 0 l.length).find? (fun n : Nat => !decide (l.getD n 0 = m.getD n 0)) with
    | none =>
      have : l = m := by
        apply List.ext_getElem hl
        intro i hi1 hi2
        have := List.find?_eq_none.1 hf i (List.mem_range'_1.2 ⟨by omega, by omega⟩)
        simp only [Bool.not_eq_true', decide_eq_false_iff_not, Classical.not_not] at this
        rw [getD_nat _ _ _ hi1, getD_nat _ _ _ hi2] at this
        exact this
      rw [decide_eq_true this]; rfl
    | some i =>
      have : ¬ l = m := by
        rintro rfl
        have := List.find?_some hf
        simp at this
      rw [decide_eq_false this]; rfl
  · rw [if_neg (by omega), decide_eq_false (fun e => hl (by rw [e]))]
theorem faces_eq (K : Nat) (hK : 100 ≤ K) (a : Ar 6) (l : List Int) (h : l.length ≤ 6) : impl_faces.f K a l = some (fw a l : Int) := by
  have key : ∀ (k n : Nat) (acc : Nat), n ≤ l.length → l.length - n < k → acc ≤ 6 ^ n → impl_faces.l0 K a l k (acc : Int) (n : Int) = some ((acc * fw a (l.drop n) : Nat) : Int) := by
    intro k
    induction k with
    | zero => intro n acc h1 h2; omega
    | succ k ih =>
      intro n acc h1 h2 h3
      rw [impl_faces.l0]
      by_cases hn : n < l.length
      · have hw := wt_le a (l.getD n 0)
        have hm : acc * wt a (l.getD n 0) ≤ 6 ^ n * 6 := Nat.mul_le_mul h3 hw
        have hp := (pow6_le (n + 1) (by omega)).2
        rw [Nat.pow_succ] at hp
        rw [if_pos (by omega), if_pos (by omega), Int.toNat_natCast, (weight_eq K (by omega) _ _).2, some_bind, w1' n (by omega), ← Int.natCast_mul, w64 (by omega) (by omega), ih (n + 1) _ (by omega) (by omega) (by rw [Nat.pow_succ]; exact hm), List.drop_eq_getElem_cons hn, fw, getD_nat _ _ _ hn, Nat.mul_assoc]
      · rw [if_neg (by omega), List.drop_of_length_le (by omega)]
        simp [fw]
  unfold impl_faces.f
  have := key K 0 1 (by omega) (by omega) (by simp)
  rw [show impl_faces.l0 K a l K 1 0 = _ from this]
  simp [some_bind]
/-! overlaps -/
theorem times_w (K : Nat) (a b w : Nat) (hb : 0 < b) (hw : 0 < w ∧ w ≤ 6) (hK : 100000000 ≤ K) (ha : a ≤ 10000000) (hb2 : b ≤ 10000000) : spec_l2Times.f K (frac a b) (⟨[6, (w : Int)], rfl⟩ : Ar 2) = some (frac (a * 6) (b * w)) := by
  obtain ⟨x, y, h1, h2, h3, h4, h5, h6⟩ := frac_parts a b hb
  unfold spec_l2Times.f
  have hyw : y * w ≤ 10000000 * 6 := Nat.mul_le_mul (by omega) hw.2
  have hyw0 : 0 < y * w := Nat.mul_pos h3 hw.1
  rw [h1, h2, show (⟨[6, (w : Int)], rfl⟩ : Ar 2).get 0 = 6 from rfl, show (⟨[6, (w : Int)], rfl⟩ : Ar 2).get 1 = (w : Int) from rfl, show (x : Int) * 6 = ((x * 6 : Nat) : Int) by omega, ← Int.natCast_mul]
  have f := (frac_eq K (x * 6) (y * w) (.inr hyw0) (by omega) (by omega) (by omega)).1
  have e1 : wrap64 ((x * 6 : Nat) : Int) = ((x * 6 : Nat) : Int) := w64 (by omega) (by omega)
  have e2 : wrap64 ((y * w : Nat) : Int) = ((y * w : Nat) : Int) := by clear e1; exact w64 (by omega) (by omega)
  rw [e1, e2, f, some_bind]
  clear e1 e2 f
  congr 1
  refine frac_cross _ _ _ _ hyw0 (Nat.mul_pos hb hw.1) ?_
  rw [Nat.mul_mul_mul_comm, h6, Nat.mul_mul_mul_comm]
/-- The overlap, over the product of the weights of the second phrase. -/
def ovT (a : Ar 6) (l m : List Int) (k : Nat) : Nat := if l.drop (l.length - k) = m.take k then 6 ^ k * fw a (m.drop k) else 0
def ovS (a : Ar 6) (l m : List Int) : Nat → Nat
  | 0 => 0
  | k + 1 => ovS a l m k + ovT a l m (k + 1)
def ov (a : Ar 6) (l m : List Int) : Nat := ovS a l m (min l.length m.length)
theorem ovT_le (a : Ar 6) (l m : List Int) (k : Nat) (hk : k ≤ m.length) (hm : m.length ≤ 6) : ovT a l m k ≤ 46656 := by
  unfold ovT
  split
  · have h1 := fw_le a (m.drop k)
    have h2 : 6 ^ k * fw a (m.drop k) ≤ 6 ^ k * 6 ^ (m.drop k).length := Nat.mul_le_mul_left _ h1
    rw [← Nat.pow_add, List.length_drop, show k + (m.length - k) = m.length by omega] at h2
    have := (pow6_le m.length hm).2
    omega
  · omega
theorem ovS_le (a : Ar 6) (l m : List Int) (hm : m.length ≤ 6) : ∀ k, k ≤ m.length → ovS a l m k ≤ 46656 * k
  | 0, _ => Nat.le_refl _
  | k + 1, h => by
    have := ovS_le a l m hm k (by omega)
    have := ovT_le a l m (k + 1) h hm
    rw [ovS]; omega
theorem over_impl (K : Nat) (hK : 2000000 ≤ K) (a : Ar 6) (l m : List Int) (hl : l.length ≤ 6) (hm : m.length ≤ 6) : impl_overlap.f K a l m = some (ov a l m : Int) := by
  have hmin : (if (m.length : Int) < (l.length : Int) then (m.length : Int) else (l.length : Int)) = ((min l.length m.length : Nat) : Int) := by split <;> omega
  have key : ∀ (k n : Nat), n ≤ min l.length m.length → min l.length m.length - n < k → impl_overlap.l0 K a l m k (ovS a l m n : Int) ((n + 1 : Nat) : Int) = some (ov a l m : Int) := by
    intro k
    induction k with
    | zero => intro n h1 h2; omega
    | succ k ih =>
      intro n h1 h2
      rw [impl_overlap.l0, hmin]
      by_cases hn : n < min l.length m.length
      · have e1 : wrap64 ((l.length : Int) - ((n + 1 : Nat) : Int)) = ((l.length - (n + 1) : Nat) : Int) := by rw [w64 (by omega) (by omega)]; omega
        have hT := ovT_le a l m (n + 1) (by omega) hm
        have hS := ovS_le a l m hm n (by omega)
        rw [e1, if_pos (by clear e1; omega), if_pos (by clear e1; omega), if_pos (by clear e1; omega), Int.toNat_natCast, Int.toNat_natCast, List.take_length, List.drop_zero, equal_eq K _ _ (by rw [List.length_drop]; clear e1; omega) (by omega), some_bind, w1' (n + 1) (by clear e1; omega)]
        by_cases hc : l.drop (l.length - (n + 1)) = m.take (n + 1)
        · have hT2 : ovT a l m (n + 1) = 6 ^ (n + 1) * fw a (m.drop (n + 1)) := by unfold ovT; rw [if_pos hc]
          rw [if_pos (decide_eq_true hc), power_eq K (by omega) (n + 1) (by clear e1; omega), ← powN, some_bind, if_pos (by clear e1; omega), List.take_length, faces_eq K (by omega) a _ (by rw [List.length_drop]; clear e1; omega), some_bind, ← Int.natCast_mul, ← hT2]
          have e2 : wrap64 ((ovT a l m (n + 1) : Nat) : Int) = ((ovT a l m (n + 1) : Nat) : Int) := by clear e1; exact w64 (by omega) (by omega)
          have e3 : wrap64 ((ovS a l m n : Int) + ((ovT a l m (n + 1) : Nat) : Int)) = ((ovS a l m (n + 1) : Nat) : Int) := by clear e1 e2; rw [w64 (by omega) (by omega), ovS]; omega
          rw [e2, e3]
          exact ih (n + 1) (by clear e1 e2 e3; omega) (by clear e1 e2 e3; omega)
        · have hT2 : ovT a l m (n + 1) = 0 := by unfold ovT; rw [if_neg hc]
          rw [if_neg (fun h => hc (of_decide_eq_true h)), show ovS a l m n = ovS a l m (n + 1) by rw [ovS, hT2]; rfl]
          exact ih (n + 1) (by clear e1; omega) (by clear e1; omega)
      · rw [if_neg (by omega)]
        have : n = min l.length m.length := by omega
        rw [this]; rfl
  unfold impl_overlap.f
  have := key K 0 (by omega) (by omega)
  rw [show impl_overlap.l0 K a l m K 0 1 = _ from this]
  rfl
theorem over_spec (K : Nat) (hK : 1000000000000000 ≤ K) (a : Ar 6) (l m : List Int) (hl : l.length ≤ 6) (hm : m.length ≤ 6) (hw : ∀ x ∈ m, 0 < wt a x) : spec_l8Overlap.f K a l m = some (frac (ov a l m) (fw a m)) := by
  have hF := fw_pos a m hw
  have hFle := Nat.le_trans (fw_le a m) (pow6_le m.length hm).2
  have hsplit : ∀ n, fw a (m.take n) * fw a (m.drop n) = fw a m := fun n => by rw [← fw_append, List.take_append_drop]
  have key : ∀ (k n : Nat), n ≤ min l.length m.length → min l.length m.length - n < k → spec_l8Overlap.l0 K a l m k ((n + 1 : Nat) : Int) (frac (ovS a l m n) (fw a m)) (frac (6 ^ n) (fw a (m.take n))) = some (frac (ov a l m) (fw a m)) := by
    intro k
    induction k with
    | zero => intro n h1 h2; omega
    | succ k ih =>
      intro n h1 h2
      rw [spec_l8Overlap.l0]
      by_cases hn : n < min l.length m.length
      · have hnm : n < m.length := by omega
        have e0 : wrap64 (((n + 1 : Nat) : Int) - 1) = (n : Int) := w1p n (by omega)
        have e1 : wrap64 ((l.length : Int) - ((n + 1 : Nat) : Int)) = ((l.length - (n + 1) : Nat) : Int) := by clear e0; rw [w64 (by omega) (by omega)]; omega
        have hT := ovT_le a l m (n + 1) (by clear e0 e1; omega) hm
        have hS := ovS_le a l m hm n (by clear e0 e1; omega)
        have hwn : 0 < wt a (m.getD n 0) := hw _ (by rw [getD_nat _ _ _ hnm]; exact List.getElem_mem _)
        have hwl := wt_le a (m.getD n 0)
        have hp := pow6_le n (by clear e0 e1; omega)
        have htk : fw a (m.take (n + 1)) = fw a (m.take n) * wt a (m.getD n 0) := by
          rw [List.take_succ_eq_append_getElem hnm, fw_append, getD_nat _ _ _ hnm]; simp [fw]
        have htp : 0 < fw a (m.take n) := fw_pos a _ (fun x hx => hw x (List.mem_of_mem_take hx))
        have htl : fw a (m.take n) ≤ 46656 := by
          have := fw_le a (m.take n)
          have h6 := (pow6_le (m.take n).length (by rw [List.length_take]; clear e0 e1; omega)).2
          clear e0 e1; omega
        have ht := times_w K (6 ^ n) (fw a (m.take n)) (wt a (m.getD n 0)) htp ⟨hwn, hwl⟩ (by clear e0 e1; omega) (by clear e0 e1; omega) (by clear e0 e1; omega)
        rw [← Nat.pow_succ, ← htk] at ht
        rw [e0, e1, if_pos (by clear e0 e1; omega), if_pos (by clear e0 e1; omega), if_pos (by clear e0 e1; omega), Int.toNat_natCast, (weight_eq K (by clear e0 e1; omega) _ _).1, some_bind, ht, some_bind, if_pos (by clear e0 e1; omega), if_pos (by clear e0 e1; omega), Int.toNat_natCast, Int.toNat_natCast, List.take_length, List.drop_zero, same_same, equal_eq K _ _ (by rw [List.length_drop]; clear e0 e1; omega) (by clear e0 e1; omega), some_bind, w1' (n + 1) (by clear e0 e1; omega)]
        by_cases hc : l.drop (l.length - (n + 1)) = m.take (n + 1)
        · have hT2 : ovT a l m (n + 1) = 6 ^ (n + 1) * fw a (m.drop (n + 1)) := by unfold ovT; rw [if_pos hc]
          have hdp : 0 < fw a (m.drop (n + 1)) := fw_pos a _ (fun x hx => hw x (List.mem_of_mem_drop hx))
          have hone : frac (6 ^ (n + 1)) (fw a (m.take (n + 1))) = frac (ovT a l m (n + 1)) (fw a m) := by
            rw [hT2, ← hsplit (n + 1), Nat.mul_comm (6 ^ (n + 1)), Nat.mul_comm (fw a (m.take (n + 1))), frac_scale _ _ _ hdp]
          have hpl := plus_same K (ovS a l m n) (ovT a l m (n + 1)) (fw a m) hF hK (by clear e0 e1; omega) (by clear e0 e1; omega) (by clear e0 e1; omega)
          rw [if_pos (decide_eq_true hc)]
          have : spec_l2Plus.f K (frac (ovS a l m n) (fw a m)) (frac (6 ^ (n + 1)) (fw a (m.take (n + 1)))) = some (frac (ovS a l m (n + 1)) (fw a m)) := by rw [hone]; exact hpl
          rw [this, some_bind]
          exact ih (n + 1) (by clear e0 e1; omega) (by clear e0 e1; omega)
        · have hT2 : ovT a l m (n + 1) = 0 := by unfold ovT; rw [if_neg hc]
          rw [if_neg (fun h => hc (of_decide_eq_true h)), show ovS a l m n = ovS a l m (n + 1) by rw [ovS, hT2]; rfl]
          exact ih (n + 1) (by clear e0 e1; omega) (by clear e0 e1; omega)
      · have hnn : n = min l.length m.length := by omega
        have fin : frac (ovS a l m n) (fw a m) = frac (ov a l m) (fw a m) := by rw [hnn]; rfl
        by_cases h3 : ((n + 1 : Nat) : Int) ≤ (l.length : Int)
        · rw [if_pos h3, if_neg (by omega), fin]
        · rw [if_neg h3, fin]
  unfold spec_l8Overlap.f
  have := key K 0 (by omega) (by omega)
  have e0 : frac (ovS a l m 0) (fw a m) = (⟨[0, 1], rfl⟩ : Ar 2) := by
    unfold frac
    apply Ar.ext
    simp [ovS, Nat.div_self hF]
  have e1 : frac (6 ^ 0) (fw a (m.take 0)) = (⟨[1, 1], rfl⟩ : Ar 2) := by
    unfold frac
    apply Ar.ext
    simp [fw]
  rw [e0, e1] at this
  rw [show spec_l8Overlap.l0 K a l m K 1 (⟨[0, 1], rfl⟩ : Ar 2) (⟨[1, 1], rfl⟩ : Ar 2) = _ from this]
  rfl
theorem eqA2 (K : Nat) (hK : 3 ≤ K) (a : Ar 2) : laws_eqIntA2.f K a a = some true := by
  obtain ⟨k, rfl⟩ := Nat.exists_eq_add_of_le hK
  rw [show 3 + k = k + 1 + 1 + 1 by omega]
  simp [laws_eqIntA2.f, laws_eqIntA2.l0, wrap64]

theorem toA6 (K : Nat) (hK : 8 ≤ K) (a : Ar 6) : laws_toIntA6.f K a = some a := by
  obtain ⟨k, rfl⟩ := Nat.exists_eq_add_of_le hK
  obtain ⟨x, y, z, u, v, w, rfl⟩ := Ar.cases6 a
  have e : 8 + k = k + 1 + 1 + 1 + 1 + 1 + 1 + 1 + 1 := by omega
  unfold laws_toIntA6.f
  rw [e]
  simp only [laws_toIntA6.l0, show (0 : Int) < 6 by decide, show wrap64 (0 + 1) = 1 by decide +kernel, show wrap64 (1 + 1) = 2 by decide +kernel, show wrap64 (2 + 1) = 3 by decide +kernel, show wrap64 (3 + 1) = 4 by decide +kernel, show wrap64 (4 + 1) = 5 by decide +kernel, show wrap64 (5 + 1) = 6 by decide +kernel, if_true, show (0 : Int) ≤ 0 ∧ True by decide]
  rfl
theorem eqS_l0 (K : Nat) (l : List Int) (h : l.length ≤ 1073741824) : ∀ (k n : Nat), n ≤ l.length → l.length - n < k → laws_eqIntS.l0 K l l k (n : Int) = some (Sum.inl ()) := by
  intro k
  induction k with
  | zero => intro n h1 h2; omega
  | succ k ih =>
    intro n h1 h2
    rw [laws_eqIntS.l0]
    by_cases hn : (n : Int) < (l.length : Int)
    · rw [if_pos hn, if_pos (by omega), if_pos (by omega), if_pos rfl, w1 n (by omega)]
      exact ih (n + 1) (by omega) (by omega)
    · rw [if_neg hn]
theorem eqS (K : Nat) (l : List Int) (h : l.length ≤ 1048576) (hK : 2000000 ≤ K) : laws_eqIntS.f K l l = some true := by
  unfold laws_eqIntS.f
  rw [if_pos rfl, show (0 : Int) = ((0 : Nat) : Int) from rfl, eqS_l0 K l (by omega) K 0 (by omega) (by omega)]
  rfl
def sumM : Nat → (Nat → Nat) → Nat
  | 0, _ => 0
  | n + 1, g => sumM n g + g n
theorem sumM_le (n : Nat) (g h : Nat → Nat) (H : ∀ i, i < n → g i ≤ h i) : sumM n g ≤ sumM n h := by
  induction n with
  | zero => exact Nat.le_refl _
  | succ n ih => rw [sumM, sumM]; have := ih (fun i hi => H i (by omega)); have := H n (by omega); omega
theorem sumM_add (n : Nat) (g h : Nat → Nat) : sumM n (fun i => g i + h i) = sumM n g + sumM n h := by
  induction n with
  | zero => rfl
  | succ n ih => rw [sumM, sumM, sumM, ih]; omega
theorem sumM_mul (n c : Nat) (g : Nat → Nat) : sumM n (fun i => c * g i) = c * sumM n g := by
  induction n with
  | zero => rfl
  | succ n ih => rw [sumM, sumM, ih, Nat.mul_add]
theorem sumM_head (n : Nat) (g : Nat → Nat) : sumM (n + 1) g = g 0 + sumM n (fun i => g (i + 1)) := by
  induction n with
  | zero => simp [sumM]
  | succ n ih => rw [sumM, ih, sumM]; omega
theorem sumM_congr (n : Nat) (g h : Nat → Nat) (H : ∀ i, i < n → g i = h i) : sumM n g = sumM n h := by
  induction n with
  | zero => rfl
  | succ n ih => rw [sumM, sumM, ih (fun i hi => H i (by omega)), H n (by omega)]
theorem ovS_sum (a : Ar 6) (l m : List Int) : ∀ n, ovS a l m n = sumM n (fun i => ovT a l m (i + 1))
  | 0 => rfl
  | n + 1 => by rw [ovS, sumM, ovS_sum a l m n]
theorem count_two (c e : Int) (h : c ≠ e) : ∀ l : List Int, l.count c + l.count e ≤ l.length
  | [] => by simp
  | x :: l => by
    have := count_two c e h l
    rw [List.count_cons, List.count_cons, List.length_cons]
    by_cases h1 : x = c
    · have h2 : ¬ x = e := fun h2 => h (by rw [← h1, h2])
      simp only [h1, beq_self_eq_true, if_true, beq_iff_eq]
      rw [if_neg (by rw [← h1]; exact h2)]; omega
    · simp only [beq_iff_eq, h1, if_false]
      split <;> omega
theorem wt_two (a : Ar 6) (c e : Int) (h : c ≠ e) : wt a c + wt a e ≤ 6 := by
  have := count_two c e h a.l
  rw [a.h] at this
  exact this
def SS (a : Ar 6) (c : Int) : List Int → Nat
  | [] => 0
  | e :: v => wt a e * (SS a c v + if e = c then 0 else 6 ^ v.length)
theorem SS_lt (a : Ar 6) (c : Int) (hc : wt a c < 6) : ∀ v : List Int, (∀ x ∈ v, 0 < wt a x) → wt a c * SS a c v + wt a c * 6 ^ v.length < 6 * 6 ^ v.length
  | [], _ => by simp [SS]; exact hc
  | e :: v, h => by
    have ih := SS_lt a c hc v (fun x hx => h x (by simp [hx]))
    have he := h e (by simp)
    rw [SS, List.length_cons, Nat.pow_succ]
    generalize 6 ^ v.length = P at *
    generalize SS a c v = S at *
    by_cases hec : e = c
    · subst hec
      rw [if_pos rfl, Nat.add_zero]
      have h1 : wt a e * (wt a e * S) ≤ 6 * (wt a e * S) := Nat.mul_le_mul_right _ (by omega)
      have h2 : wt a e * (P * 6) = 6 * (wt a e * P) := by rw [← Nat.mul_assoc, Nat.mul_comm]
      omega
    · rw [if_neg hec]
      have ht := wt_two a c e (fun h => hec h.symm)
      have h1 : wt a c * (wt a e * (S + P)) = wt a e * (wt a c * S + wt a c * P) := by
        rw [← Nat.mul_add, Nat.mul_left_comm]
      have h2 : wt a e * (wt a c * S + wt a c * P) < wt a e * (6 * P) := Nat.mul_lt_mul_of_pos_left ih he
      have h3 : wt a c * (P * 6) = wt a c * (6 * P) := by rw [Nat.mul_comm P 6]
      have h4 : wt a e * (6 * P) + wt a c * (6 * P) ≤ 6 * (6 * P) := by
        rw [← Nat.add_mul]
        exact Nat.mul_le_mul_right _ (by omega)
      rw [h1, h3]
      omega
def UU (a : Ar 6) (c : Int) (v : List Int) (k : Nat) : Nat := if v.getD (v.length - k - 1) 0 = c then 0 else 6 ^ k * fw a (v.take (v.length - k))
theorem SS_sum (a : Ar 6) (c : Int) : ∀ v : List Int, SS a c v = sumM v.length (UU a c v)
  | [] => rfl
  | e :: v => by
    rw [SS, SS_sum a c v, List.length_cons, sumM]
    have h1 : sumM v.length (UU a c (e :: v)) = sumM v.length (fun k => wt a e * UU a c v k) := by
      apply sumM_congr
      intro k hk
      unfold UU
      rw [List.length_cons, show v.length + 1 - k - 1 = (v.length - k - 1) + 1 by omega, List.getD_cons_succ, show v.length + 1 - k = (v.length - k) + 1 by omega, List.take_succ_cons, fw]
      by_cases h : v.getD (v.length - k - 1) 0 = c
      · rw [if_pos h, if_pos h]; rfl
      · rw [if_neg h, if_neg h, Nat.mul_left_comm]
    have h2 : UU a c (e :: v) v.length = wt a e * (if e = c then 0 else 6 ^ v.length) := by
      unfold UU
      rw [List.length_cons, show v.length + 1 - v.length - 1 = 0 by omega, show v.length + 1 - v.length = 1 by omega]
      show (if e = c then 0 else 6 ^ v.length * fw a ((e :: v).take 1)) = _
      by_cases h : e = c
      · rw [if_pos h, if_pos h]; rfl
      · rw [if_neg h, if_neg h]
        simp [fw, Nat.mul_comm]
    rw [h1, h2, sumM_mul, Nat.mul_add]
theorem border_fw (a : Ar 6) (v : List Int) (h : ∀ x ∈ v, 0 < wt a x) (k : Nat) (hk : k ≤ v.length) (hb : v.drop (v.length - k) = v.take k) : fw a (v.drop k) = fw a (v.take (v.length - k)) := by
  have e1 : fw a (v.take k) * fw a (v.drop k) = fw a v := by rw [← fw_append, List.take_append_drop]
  have e2 : fw a (v.take (v.length - k)) * fw a (v.drop (v.length - k)) = fw a v := by rw [← fw_append, List.take_append_drop]
  rw [hb, Nat.mul_comm] at e2
  have hp : 0 < fw a (v.take k) := fw_pos a _ (fun x hx => h x (List.mem_of_mem_take hx))
  exact Nat.eq_of_mul_eq_mul_left hp (by rw [e1, e2])
theorem ov_self_sum (a : Ar 6) (v : List Int) : ov a v v = sumM v.length (fun i => ovT a v v (i + 1)) := by
  unfold ov
  rw [Nat.min_self, ovS_sum]
theorem ovT_full (a : Ar 6) (v : List Int) : ovT a v v v.length = 6 ^ v.length := by
  unfold ovT
  rw [Nat.sub_self, List.drop_zero, List.take_length, if_pos rfl, List.drop_length]
  simp [fw]
theorem ov_step (a : Ar 6) (c : Int) (v : List Int) (hc : wt a c < 6) (h : ∀ x ∈ v, 0 < wt a x) : wt a c * ov a v v < ov a (c :: v) (c :: v) := by
  rw [ov_self_sum, ov_self_sum, List.length_cons]
  rcases Nat.eq_zero_or_pos v.length with h0 | hpos
  · rw [h0]
    have : v = [] := List.eq_nil_of_length_eq_zero h0
    subst this
    simp [sumM, ovT, fw]
  · obtain ⟨n, hn⟩ : ∃ n, v.length = n + 1 := ⟨v.length - 1, by omega⟩
    have hS := SS_lt a c hc v h
    rw [SS_sum, hn, sumM_head, Nat.mul_add] at hS
    have hfull := ovT_full a v
    have hfull2 := ovT_full a (c :: v)
    rw [List.length_cons, hn, Nat.pow_succ] at hfull2
    rw [hn] at hfull
    rw [hn, sumM, sumM, sumM_head, hfull, hfull2]
    have main : sumM n (fun i => wt a c * ovT a v v (i + 1)) ≤ sumM n (fun i => ovT a (c :: v) (c :: v) (i + 1 + 1) + wt a c * UU a c v (i + 1)) := by
      apply sumM_le
      intro i hi
      by_cases hb : v.drop (v.length - (i + 1)) = v.take (i + 1)
      · have hT : ovT a v v (i + 1) = 6 ^ (i + 1) * fw a (v.drop (i + 1)) := by unfold ovT; rw [if_pos hb]
        by_cases hcc : v.getD (v.length - (i + 1) - 1) 0 = c
        · have hbb : (c :: v).drop ((c :: v).length - (i + 1 + 1)) = (c :: v).take (i + 1 + 1) := by
            rw [List.length_cons, show v.length + 1 - (i + 1 + 1) = (v.length - (i + 1) - 1) + 1 by omega, List.drop_succ_cons, List.take_succ_cons, ← hb]
            have hlt : v.length - (i + 1) - 1 < v.length := by omega
            rw [List.drop_eq_getElem_cons hlt, show v.length - (i + 1) - 1 + 1 = v.length - (i + 1) by omega]
            rw [getD_nat _ _ _ hlt] at hcc
            rw [hcc]
          have hT2 : ovT a (c :: v) (c :: v) (i + 1 + 1) = 6 * ovT a v v (i + 1) := by
            rw [hT]
            unfold ovT
            rw [if_pos hbb, List.drop_succ_cons, Nat.pow_succ 6 (i + 1), Nat.mul_comm _ 6, Nat.mul_assoc]
          rw [hT2]
          have : wt a c * ovT a v v (i + 1) ≤ 6 * ovT a v v (i + 1) := Nat.mul_le_mul_right _ (by omega)
          omega
        · have hU : UU a c v (i + 1) = ovT a v v (i + 1) := by
            unfold UU
            rw [if_neg hcc, hT, border_fw a v h (i + 1) (by omega) hb]
          rw [hU]
          omega
      · have hT : ovT a v v (i + 1) = 0 := by unfold ovT; rw [if_neg hb]
        rw [hT]; omega
    rw [sumM_mul, sumM_add, sumM_mul] at main
    have e0 : 0 ≤ wt a c * UU a c v 0 := Nat.zero_le _
    have e1 : wt a c * (sumM n (fun i => ovT a v v (i + 1)) + 6 ^ (n + 1)) = wt a c * sumM n (fun i => ovT a v v (i + 1)) + wt a c * 6 ^ (n + 1) := Nat.mul_add _ _ _
    omega
theorem ov_chain (a : Ar 6) (u : List Int) (hu : ∀ x ∈ u, 0 < wt a x) : ∀ y : List Int, (∀ x ∈ y, 0 < wt a x ∧ wt a x < 6) → fw a y * ov a u u ≤ ov a (y ++ u) (y ++ u) ∧ (y ≠ [] → fw a y * ov a u u < ov a (y ++ u) (y ++ u))
  | [], _ => by simp [fw]
  | c :: y, h => by
    obtain ⟨i1, _⟩ := ov_chain a u hu y (fun x hx => h x (by simp [hx]))
    have hst := ov_step a c (y ++ u) (h c (by simp)).2 (fun x hx => by
      rcases List.mem_append.1 hx with hx | hx
      · exact (h x (by simp [hx])).1
      · exact hu x hx)
    have : fw a (c :: y) * ov a u u < ov a ((c :: y) ++ u) ((c :: y) ++ u) := by
      rw [fw, Nat.mul_assoc, List.cons_append]
      exact Nat.lt_of_le_of_lt (Nat.mul_le_mul_left _ i1) hst
    exact ⟨Nat.le_of_lt this, fun _ => this⟩
/-- The last k numbers of b are the first ones of l. -/
theorem ov_lead (a : Ar 6) (b l : List Int) (hb : ∀ x ∈ b, 0 < wt a x ∧ wt a x < 6) (hl : ∀ x ∈ l, 0 < wt a x) (h1 : ∀ i, i + b.length ≤ l.length → ¬ b = (l.take (i + b.length)).drop i) (h2 : ∀ i, i + l.length ≤ b.length → ¬ l = (b.take (i + l.length)).drop i) (hbn : b ≠ []) : ov a b l * fw a b < ov a b b * fw a l := by
  have hbp : ∀ x ∈ b, 0 < wt a x := fun x hx => (hb x hx).1
  have hbb : 0 < ov a b b := by
    have := ovT_full a b
    rw [ov_self_sum]
    obtain ⟨n, hn⟩ : ∃ n, b.length = n + 1 := ⟨b.length - 1, by have := List.length_pos_iff.2 hbn; omega⟩
    rw [hn, sumM, ← hn, this]
    have : 0 < 6 ^ b.length := Nat.pow_pos (by omega)
    omega
  have hFl := fw_pos a l hl
  have key : ∀ n, n ≤ min b.length l.length → ovS a b l n = 0 ∨ ∃ k, 1 ≤ k ∧ k ≤ n ∧ b.drop (b.length - k) = l.take k ∧ ovS a b l n ≤ fw a (l.drop k) * ov a (l.take k) (l.take k) := by
    intro n
    induction n with
    | zero => intro _; exact .inl rfl
    | succ n ih =>
      intro hn
      by_cases hm : b.drop (b.length - (n + 1)) = l.take (n + 1)
      · refine .inr ⟨n + 1, by omega, Nat.le_refl _, hm, ?_⟩
        rw [ovS_sum, ov_self_sum, ← sumM_mul, List.length_take, show min (n + 1) l.length = n + 1 by omega]
        apply sumM_le
        intro i hi
        by_cases hk : b.drop (b.length - (i + 1)) = l.take (i + 1)
        · have hu : (l.take (n + 1)).drop ((l.take (n + 1)).length - (i + 1)) = (l.take (n + 1)).take (i + 1) := by
            rw [List.length_take, show min (n + 1) l.length = n + 1 by omega, ← hm, List.drop_drop, show b.length - (n + 1) + (n + 1 - (i + 1)) = b.length - (i + 1) by omega, hm, List.take_take, show min (i + 1) (n + 1) = i + 1 by omega]
            exact hk
          have e1 : ovT a b l (i + 1) = 6 ^ (i + 1) * fw a (l.drop (i + 1)) := by unfold ovT; rw [if_pos hk]
          have e2 : ovT a (l.take (n + 1)) (l.take (n + 1)) (i + 1) = 6 ^ (i + 1) * fw a ((l.take (n + 1)).drop (i + 1)) := by unfold ovT; rw [if_pos hu]
          have e3 : l.drop (i + 1) = (l.take (n + 1)).drop (i + 1) ++ l.drop (n + 1) := by
            conv => lhs; rw [← List.take_append_drop (n + 1) l]
            rw [List.drop_append_of_le_length (by rw [List.length_take]; omega)]
          rw [e1, e2, e3, fw_append]
          exact Nat.le_of_eq (by rw [← Nat.mul_assoc, Nat.mul_comm])
        · have e1 : ovT a b l (i + 1) = 0 := by unfold ovT; rw [if_neg hk]
          rw [e1]; exact Nat.zero_le _
      · have e1 : ovS a b l (n + 1) = ovS a b l n := by
          rw [ovS]; unfold ovT; rw [if_neg hm]; rfl
        rw [e1]
        rcases ih (by omega) with h | ⟨k, k1, k2, k3, k4⟩
        · exact .inl h
        · exact .inr ⟨k, k1, by omega, k3, k4⟩
  rcases key (min b.length l.length) (Nat.le_refl _) with h | ⟨k, k1, k2, k3, k4⟩
  · have : ov a b l = 0 := h
    rw [this, Nat.zero_mul]
    exact Nat.mul_pos hbb hFl
  · have hkb : k ≠ b.length := by
      intro e
      rw [e, Nat.sub_self, List.drop_zero] at k3
      exact h1 0 (by omega) (by rw [Nat.zero_add, List.drop_zero]; exact k3)
    have hy : b = b.take (b.length - k) ++ l.take k := by rw [← k3, List.take_append_drop]
    have hyne : b.take (b.length - k) ≠ [] := by
      intro e
      have := congrArg List.length e
      rw [List.length_take] at this
      simp at this
      omega
    obtain ⟨_, c2⟩ := ov_chain a (l.take k) (fun x hx => hl x (List.mem_of_mem_take hx)) (b.take (b.length - k)) (fun x hx => hb x (List.mem_of_mem_take hx))
    have c3 := c2 hyne
    rw [← hy] at c3
    have eb : fw a b = fw a (b.take (b.length - k)) * fw a (l.take k) := by rw [← fw_append, ← hy]
    have el : fw a l = fw a (l.take k) * fw a (l.drop k) := by rw [← fw_append, List.take_append_drop]
    have hov : ov a b l ≤ fw a (l.drop k) * ov a (l.take k) (l.take k) := k4
    have hup : 0 < fw a (l.take k) := fw_pos a _ (fun x hx => hl x (List.mem_of_mem_take hx))
    have hdp : 0 < fw a (l.drop k) := fw_pos a _ (fun x hx => hl x (List.mem_of_mem_drop hx))
    rw [el]
    refine Nat.lt_of_le_of_lt (Nat.mul_le_mul_right _ hov) ?_
    rw [eb]
    generalize fw a (l.drop k) = R at *
    generalize fw a (l.take k) = U at *
    generalize fw a (b.take (b.length - k)) = Y at *
    generalize ov a (l.take k) (l.take k) = O at *
    have e1 : R * O * (Y * U) = R * U * (Y * O) := by
      rw [Nat.mul_mul_mul_comm, Nat.mul_comm O U, ← Nat.mul_assoc, Nat.mul_comm Y O, Nat.mul_assoc, Nat.mul_assoc, Nat.mul_assoc]
      congr 1
      rw [Nat.mul_left_comm Y U O, Nat.mul_left_comm U O Y, Nat.mul_comm Y O, Nat.mul_left_comm]
    have e2 : ov a b b * (U * R) = R * U * ov a b b := by rw [Nat.mul_comm, Nat.mul_comm U R]
    rw [e1, e2]
    exact Nat.mul_lt_mul_of_pos_left c3 (Nat.mul_pos hdp hup)
theorem stretch_same : spec_l8Stretch.f = impl_isStretch.f := by kernel_rfl
theorem stretch_eq (K : Nat) (hK : 300 ≤ K) (l m : List Int) (hl : l.length ≤ 6) (hm : m.length ≤ 6) : (impl_isStretch.f K l m = some false ∧ ∀ i, i + l.length ≤ m.length → ¬ l = (m.take (i + l.length)).drop i) ∨ impl_isStretch.f K l m = some true := by
  have key : ∀ (k n : Nat), n ≤ m.length + 1 → m.length + 1 - n < k → (impl_isStretch.l0 K l m k (n : Int) = some (Sum.inl ()) ∧ ∀ i, n ≤ i → i + l.length ≤ m.length → ¬ l = (m.take (i + l.length)).drop i) ∨ impl_isStretch.l0 K l m k (n : Int) = some (Sum.inr true) := by
    intro k
    induction k with
    | zero => intro n h1 h2; omega
    | succ k ih =>
      intro n h1 h2
      have e : wrap64 ((n : Int) + (l.length : Int)) = ((n + l.length : Nat) : Int) := by rw [w64 (by omega) (by omega)]; omega
      rw [impl_isStretch.l0, e]
      clear e
      by_cases hn : n + l.length ≤ m.length
      · rw [if_pos (by omega), if_pos (by omega), Int.toNat_natCast, Int.toNat_natCast, equal_eq K _ _ (by omega) (by omega), some_bind]
        by_cases hc : l = (m.take (n + l.length)).drop n
        · rw [if_pos (decide_eq_true hc)]
          exact .inr rfl
        · rw [if_neg (fun h => hc (of_decide_eq_true h)), w1' n (by omega)]
          rcases ih (n + 1) (by omega) (by omega) with ⟨i1, i2⟩ | i1
          · refine .inl ⟨i1, fun i hi hi2 => ?_⟩
            by_cases hin : i = n
            · rw [hin]; exact hc
            · exact i2 i (by omega) hi2
          · exact .inr i1
      · rw [if_neg (by omega)]
        exact .inl ⟨rfl, fun i hi hi2 => by omega⟩
  unfold impl_isStretch.f
  rcases key K 0 (by omega) (by omega) with ⟨i1, i2⟩ | i1
  · rw [show impl_isStretch.l0 K l m K 0 = _ from i1]
    exact .inl ⟨rfl, fun i hi => i2 i (by omega) hi⟩
  · rw [show impl_isStretch.l0 K l m K 0 = _ from i1]
    exact .inr rfl
theorem no_six (a : Ar 6) (l m : List Int) (hl : ∀ x ∈ l, 0 < wt a x) (hm : ∀ x ∈ m, 0 < wt a x) (h1 : ∀ i, i + l.length ≤ m.length → ¬ l = (m.take (i + l.length)).drop i) (h2 : ∀ i, i + m.length ≤ l.length → ¬ m = (l.take (i + m.length)).drop i) : (∀ x ∈ l, wt a x < 6) ∧ (∀ x ∈ m, wt a x < 6) := by
  have key : ∀ x, wt a x < 6 := by
    intro x
    have hle := wt_le a x
    rcases Nat.lt_or_ge (wt a x) 6 with h | h
    · exact h
    · exfalso
      have one : ∀ y, 0 < wt a y → y = x := by
        intro y hy
        by_cases hxy : y = x
        · exact hxy
        · have := wt_two a y x hxy; omega
      have e1 : l = List.replicate l.length x := List.eq_replicate_iff.2 ⟨rfl, fun y hy => one y (hl y hy)⟩
      have e2 : m = List.replicate m.length x := List.eq_replicate_iff.2 ⟨rfl, fun y hy => one y (hm y hy)⟩
      rcases Nat.le_total l.length m.length with h | h
      · apply h1 0 (by omega)
        rw [List.drop_zero, Nat.zero_add, e2, List.take_replicate, Nat.min_eq_left h]
        exact e1
      · apply h2 0 (by omega)
        rw [List.drop_zero, Nat.zero_add, e1, List.take_replicate, Nat.min_eq_left h]
        exact e2
  exact ⟨fun x _ => key x, fun x _ => key x⟩
theorem fw_five (a : Ar 6) : ∀ l : List Int, (∀ x ∈ l, wt a x < 6) → fw a l ≤ 5 ^ l.length
  | [], _ => by simp [fw]
  | x :: r, h => by
    rw [fw, List.length_cons, Nat.pow_succ, Nat.mul_comm]
    have := h x (by simp)
    exact Nat.mul_le_mul (fw_five a r (fun y hy => h y (by simp [hy]))) (by omega)
theorem five_le (n : Nat) (h : n ≤ 6) : 5 ^ n ≤ 15625 := by
  rcases (show n = 0 ∨ n = 1 ∨ n = 2 ∨ n = 3 ∨ n = 4 ∨ n = 5 ∨ n = 6 by omega) with rfl | rfl | rfl | rfl | rfl | rfl | rfl <;> decide
theorem minus_frac (K : Nat) (p q r s : Nat) (hq : 0 < q) (hs : 0 < s) (hlt : r * q < p * s) (hK : 1000000000000 ≤ K) (hp : p ≤ 279936) (hr : r ≤ 279936) (hq2 : q ≤ 15625) (hs2 : s ≤ 15625) : spec_l8Minus.f K (frac p q) (frac r s) = some (frac (p * s - r * q) (q * s)) := by
  obtain ⟨x, y, h1, h2, h3, h4, h5, h6⟩ := frac_parts p q hq
  obtain ⟨z, w, k1, k2, k3, k4, k5, k6⟩ := frac_parts r s hs
  unfold spec_l8Minus.f
  rw [h1, h2, k1, k2, ← Int.natCast_mul, ← Int.natCast_mul, ← Int.natCast_mul]
  have b1 : x * w ≤ 279936 * 15625 := Nat.mul_le_mul (by omega) (by omega)
  have b2 : z * y ≤ 279936 * 15625 := Nat.mul_le_mul (by omega) (by omega)
  have b3 : y * w ≤ 15625 * 15625 := Nat.mul_le_mul (by omega) (by omega)
  have p3 : 0 < y * w := Nat.mul_pos h3 k3
  have c1 : (x * w) * (q * s) = (p * s) * (y * w) := by
    rw [Nat.mul_mul_mul_comm, h6, Nat.mul_comm w s, Nat.mul_mul_mul_comm]
  have c2 : (z * y) * (q * s) = (r * q) * (y * w) := by
    rw [Nat.mul_comm q s, Nat.mul_mul_mul_comm, k6, Nat.mul_comm y q, Nat.mul_mul_mul_comm, Nat.mul_comm w y]
  have hle : z * y ≤ x * w := by
    have h := Nat.mul_lt_mul_of_pos_right hlt p3
    rw [← c1, ← c2] at h
    exact Nat.le_of_lt (Nat.lt_of_mul_lt_mul_right h)
  have hcross : (x * w - z * y) * (q * s) = (p * s - r * q) * (y * w) := by
    rw [Nat.sub_mul, Nat.sub_mul, c1, c2]
  have hqs : 0 < q * s := Nat.mul_pos hq hs
  clear c1 c2 hlt
  generalize x * w = A at *
  generalize z * y = B at *
  generalize y * w = C at *
  have f := (frac_eq K (A - B) C (.inr p3) (by omega) (by omega) (by omega)).1
  have e1 : wrap64 (A : Int) = (A : Int) := w64 (by omega) (by omega)
  have e2 : wrap64 (B : Int) = (B : Int) := by clear e1; exact w64 (by omega) (by omega)
  have e3 : wrap64 (C : Int) = (C : Int) := by clear e1 e2; exact w64 (by omega) (by omega)
  have e4 : wrap64 ((A : Int) - (B : Int)) = ((A - B : Nat) : Int) := by
    clear e1 e2 e3
    rw [w64 (by omega) (by omega)]; omega
  rw [e1, e2, e3, e4, f, some_bind]
  congr 1
  exact frac_cross _ _ _ _ p3 hqs hcross
theorem plus_big (K : Nat) (a c D : Nat) (hD : 0 < D) (hK : 1000000000000000000 ≤ K) (ha : a ≤ 4374000000) (hc : c ≤ 4374000000) (hD2 : D ≤ 244140625) : spec_l2Plus.f K (frac a D) (frac c D) = some (frac (a + c) D) := by
  obtain ⟨x, y, h1, h2, h3, h4, h5, h6⟩ := frac_parts a D hD
  obtain ⟨z, w, k1, k2, k3, k4, k5, k6⟩ := frac_parts c D hD
  unfold spec_l2Plus.f
  rw [h1, h2, k1, k2, ← Int.natCast_mul, ← Int.natCast_mul, ← Int.natCast_mul]
  have b1 : x * w ≤ 4374000000 * 244140625 := Nat.mul_le_mul (by omega) (by omega)
  have b2 : z * y ≤ 4374000000 * 244140625 := Nat.mul_le_mul (by omega) (by omega)
  have b3 : y * w ≤ 244140625 * 244140625 := Nat.mul_le_mul (by omega) (by omega)
  have p3 : 0 < y * w := Nat.mul_pos h3 k3
  have hcross : (x * w + z * y) * D = (a + c) * (y * w) := by
    rw [Nat.add_mul, Nat.add_mul, Nat.mul_right_comm x w D, h6, Nat.mul_right_comm z y D, k6, Nat.mul_assoc a y w, Nat.mul_assoc c w y, Nat.mul_comm w y]
  generalize x * w = A at *
  generalize z * y = B at *
  generalize y * w = C at *
  have f := (frac_eq K (A + B) C (.inr p3) (by omega) (by omega) (by omega)).1
  have e1 : wrap64 (A : Int) = (A : Int) := w64 (by omega) (by omega)
  have e2 : wrap64 (B : Int) = (B : Int) := by clear e1; exact w64 (by omega) (by omega)
  have e3 : wrap64 (C : Int) = (C : Int) := by clear e1 e2; exact w64 (by omega) (by omega)
  have e4 : wrap64 ((A : Int) + (B : Int)) = ((A + B : Nat) : Int) := by
    clear e1 e2 e3
    rw [w64 (by omega) (by omega)]; omega
  rw [e1, e2, e3, e4, f, some_bind]
  congr 1
  exact frac_cross _ _ _ _ p3 hD hcross
theorem ratio (K : Nat) (a S D : Nat) (hD : 0 < D) (hS : 0 < S) (hK : 4000000000000000001 ≤ K) (ha : a ≤ 4374000000) (hS2 : S ≤ 8748000000) (hD2 : D ≤ 244140625) : spec_l2Cut.f K (wrap64 ((frac a D).get 0 * (frac S D).get 1)) (wrap64 ((frac a D).get 1 * (frac S D).get 0)) = some (frac a S) := by
  obtain ⟨x, y, h1, h2, h3, h4, h5, h6⟩ := frac_parts a D hD
  obtain ⟨z, w, k1, k2, k3, k4, k5, k6⟩ := frac_parts S D hD
  rw [h1, h2, k1, k2, ← Int.natCast_mul, ← Int.natCast_mul]
  have b1 : x * w ≤ 4374000000 * 244140625 := Nat.mul_le_mul (by omega) (by omega)
  have b2 : y * z ≤ 244140625 * 8748000000 := Nat.mul_le_mul (by omega) (by omega)
  have hz : 0 < z := by
    rcases Nat.eq_zero_or_pos z with h | h
    · rw [h, Nat.zero_mul] at k6
      have := Nat.mul_pos hS k3
      omega
    · exact h
  have p3 : 0 < y * z := Nat.mul_pos h3 hz
  have hcross : (x * w) * S = a * (y * z) := by
    rw [Nat.mul_assoc, Nat.mul_comm w S, ← k6, Nat.mul_left_comm, h6, Nat.mul_left_comm, Nat.mul_comm z y]
  generalize x * w = A at *
  generalize y * z = B at *
  have f := (frac_eq K A B (.inr p3) (by omega) (by omega) (by omega)).1
  have e1 : wrap64 (A : Int) = (A : Int) := w64 (by omega) (by omega)
  have e2 : wrap64 (B : Int) = (B : Int) := by clear e1; exact w64 (by omega) (by omega)
  rw [e1, e2, f]
  congr 1
  exact frac_cross _ _ _ _ p3 hS hcross
theorem ov_le (a : Ar 6) (l m : List Int) (hm : m.length ≤ 6) : ov a l m ≤ 279936 := by
  have := ovS_le a l m hm (min l.length m.length) (by omega)
  unfold ov
  omega
theorem first_end (K : Nat) (hK : 5000000000000000000 ≤ K) (o22 o21 o11 o12 f1 f2 : Nat) (h1 : o21 * f2 < o22 * f1) (h2 : o12 * f1 < o11 * f2) (hf1 : 0 < f1) (hf2 : 0 < f2) (b1 : f1 ≤ 15625) (b2 : f2 ≤ 15625) (c1 : o22 ≤ 279936) (c2 : o21 ≤ 279936) (c3 : o11 ≤ 279936) (c4 : o12 ≤ 279936) :
    (impl_fraction.f K (wrap64 ((wrap64 ((o22 : Int) * (f1 : Int))) - (wrap64 ((o21 : Int) * (f2 : Int))))) (wrap64 ((wrap64 ((wrap64 ((o22 : Int) * (f1 : Int))) - (wrap64 ((o21 : Int) * (f2 : Int))))) + (wrap64 ((wrap64 ((o11 : Int) * (f2 : Int))) - (wrap64 ((o12 : Int) * (f1 : Int)))))))) = some (frac (o22 * f1 - o21 * f2) (o22 * f1 - o21 * f2 + (o11 * f2 - o12 * f1))) := by
  rw [← Int.natCast_mul, ← Int.natCast_mul, ← Int.natCast_mul, ← Int.natCast_mul]
  have d1 : o22 * f1 ≤ 279936 * 15625 := Nat.mul_le_mul c1 b1
  have d2 : o21 * f2 ≤ 279936 * 15625 := Nat.mul_le_mul c2 b2
  have d3 : o11 * f2 ≤ 279936 * 15625 := Nat.mul_le_mul c3 b2
  have d4 : o12 * f1 ≤ 279936 * 15625 := Nat.mul_le_mul c4 b1
  generalize o22 * f1 = A at *
  generalize o21 * f2 = B at *
  generalize o11 * f2 = C at *
  generalize o12 * f1 = D at *
  have e1 : wrap64 (A : Int) = (A : Int) := w64 (by omega) (by omega)
  have e2 : wrap64 (B : Int) = (B : Int) := by clear e1; exact w64 (by omega) (by omega)
  have e3 : wrap64 (C : Int) = (C : Int) := by clear e1 e2; exact w64 (by omega) (by omega)
  have e4 : wrap64 (D : Int) = (D : Int) := by clear e1 e2 e3; exact w64 (by omega) (by omega)
  have e5 : wrap64 ((A : Int) - (B : Int)) = ((A - B : Nat) : Int) := by
    clear e1 e2 e3 e4
    rw [w64 (by omega) (by omega)]; omega
  have e6 : wrap64 ((C : Int) - (D : Int)) = ((C - D : Nat) : Int) := by
    clear e1 e2 e3 e4 e5
    rw [w64 (by omega) (by omega)]; omega
  rw [e1, e2, e3, e4, e5, e6, ← Int.natCast_add]
  clear e1 e2 e3 e4 e5 e6
  have e7 : wrap64 ((A - B + (C - D) : Nat) : Int) = ((A - B + (C - D) : Nat) : Int) := w64 (by omega) (by omega)
  rw [e7]
  clear e7
  exact (frac_eq K (A - B) (A - B + (C - D)) (.inr (by omega)) (by omega) (by omega) (by omega)).2
theorem PhraseFirst_same (K : Nat) (hK : 5000000000000000000 ≤ K) (a : Ar 6) (l m : List Int) (hl : l.length ≤ 1048576) (hm : m.length ≤ 1048576) : ∃ r, spec_PhraseFirst.f K a l m = some r ∧ impl_PhraseFirst.f K a l m = some r := by
  unfold spec_PhraseFirst.f impl_PhraseFirst.f
  rw [phrase_spec K (by omega) a l hl, phrase_spec K (by omega) a m hm, phrase_impl K (by omega) a l hl, phrase_impl K (by omega) a m hm, die_impl K (by omega), stretch_same]
  simp only [some_bind]
  cases hd : dieB a with
  | false => exact ⟨_, rfl, rfl⟩
  | true =>
    simp only [if_true, Bool.true_and]
    cases h1 : (lenB l && allW a l) with
    | false => exact ⟨_, rfl, rfl⟩
    | true =>
      simp only [if_true]
      cases h2 : (lenB m && allW a m) with
      | false => exact ⟨_, rfl, rfl⟩
      | true =>
        simp only [if_true]
        simp only [Bool.and_eq_true, lenB, decide_eq_true_eq] at h1 h2
        have hwl := (allW_iff a l).1 h1.2
        have hwm := (allW_iff a m).1 h2.2
        rcases stretch_eq K (by omega) l m (by omega) (by omega) with ⟨s1, s2⟩ | s1
        · rcases stretch_eq K (by omega) m l (by omega) (by omega) with ⟨s3, s4⟩ | s3
          · obtain ⟨n1, n2⟩ := no_six a l m hwl hwm s2 s4
            have hln : l ≠ [] := fun e => by rw [e] at h1; simp at h1
            have hmn : m ≠ [] := fun e => by rw [e] at h2; simp at h2
            have t1 := ov_lead a m l (fun x hx => ⟨hwm x hx, n2 x hx⟩) hwl s4 s2 hmn
            have t2 := ov_lead a l m (fun x hx => ⟨hwl x hx, n1 x hx⟩) hwm s2 s4 hln
            have o1 := over_impl K (by omega) a m m (by omega) (by omega)
            have o2 := over_impl K (by omega) a m l (by omega) (by omega)
            have o3 := over_impl K (by omega) a l l (by omega) (by omega)
            have o4 := over_impl K (by omega) a l m (by omega) (by omega)
            have p1 := over_spec K (by omega) a m m (by omega) (by omega) hwm
            have p2 := over_spec K (by omega) a m l (by omega) (by omega) hwl
            have p3 := over_spec K (by omega) a l l (by omega) (by omega) hwl
            have p4 := over_spec K (by omega) a l m (by omega) (by omega) hwm
            have f1 := faces_eq K (by omega) a l (by omega)
            have f2 := faces_eq K (by omega) a m (by omega)
            have g1 := fw_pos a l hwl
            have g2 := fw_pos a m hwm
            have g3 := Nat.le_trans (fw_five a l n1) (five_le l.length (by omega))
            have g4 := Nat.le_trans (fw_five a m n2) (five_le m.length (by omega))
            have v1 := ov_le a m m (by omega)
            have v2 := ov_le a m l (by omega)
            have v3 := ov_le a l l (by omega)
            have v4 := ov_le a l m (by omega)
            have w1 := minus_frac K _ _ _ _ g2 g1 t1 (by omega) v1 v2 g4 g3
            have w2 := minus_frac K _ _ _ _ g1 g2 t2 (by omega) v3 v4 g3 g4
            have w3 := first_end K hK _ _ _ _ _ _ t1 t2 g1 g2 g3 g4 v1 v2 v3 v4
            simp only [s1, s3, o1, o2, o3, o4, p1, p2, p3, p4, f1, f2, w1, w2, w3, some_bind, if_false, Bool.false_eq_true]
            refine ⟨_, ?_, rfl⟩
            have hDp : 0 < fw a m * fw a l := Nat.mul_pos g2 g1
            have hDl : fw a m * fw a l ≤ 15625 * 15625 := Nat.mul_le_mul g4 g3
            rw [Nat.mul_comm (fw a l) (fw a m)]
            have d1 : ov a m m * fw a l ≤ 279936 * 15625 := Nat.mul_le_mul v1 g3
            have d3 : ov a l l * fw a m ≤ 279936 * 15625 := Nat.mul_le_mul v3 g4
            generalize fw a m * fw a l = D at *
            clear w1 w2 w3 o1 o2 o3 o4 p1 p2 p3 p4 f1 f2
            generalize ov a m m * fw a l = A at *
            generalize ov a m l * fw a m = B at *
            generalize ov a l l * fw a m = C at *
            generalize ov a l m * fw a l = E at *
            have w4 := plus_big K (A - B) (C - E) D hDp (by omega) (by omega) (by omega) (by omega)
            have w5 := ratio K (A - B) (A - B + (C - E)) D hDp (by omega) (by omega) (by omega) (by omega) (by omega)
            rw [w4, some_bind, w5, some_bind]
          · simp only [s1, s3, some_bind, if_true]
            exact ⟨_, rfl, rfl⟩
        · simp only [s1, some_bind, if_true]
          exact ⟨_, rfl, rfl⟩
theorem PhraseFirst_pure (a0 : Ar 6) (l1 l2 : List Int) (_w0 : ∀ z ∈ a0.l, (Lit.int .i64 z).wf = true) (_m1 : l1.length ≤ maxLen) (_w1 : ∀ z ∈ l1, (Lit.int .i64 z).wf = true) (_m2 : l2.length ≤ maxLen) (_w2 : ∀ z ∈ l2, (Lit.int .i64 z).wf = true) : ∃ K, laws_FnExactPhraseFirst.f K a0 l1 l2 = some true := by
  obtain ⟨K, hK⟩ : ∃ K : Nat, 5000000000000000000 ≤ K := ⟨_, Nat.le_refl _⟩
  refine ⟨K, ?_⟩
  unfold laws_FnExactPhraseFirst.f
  by_cases h1 : (1048576 : Int) < l1.length
  · rw [if_pos h1]
  · by_cases h2 : (1048576 : Int) < l2.length
    · rw [if_neg h1, if_pos h2]
    · rw [if_neg h1, if_neg h2]
      obtain ⟨r, r1, r2⟩ := PhraseFirst_same K hK a0 l1 l2 (by omega) (by omega)
      have t1 := toS K l1 (by omega) (by omega)
      have t2 := toS K l2 (by omega) (by omega)
      have t3 := fun a => toA6 K (by omega) a
      have q1 := eqS K l1 (by omega) (by omega)
      have q2 := eqS K l2 (by omega) (by omega)
      have q3 := fun a => eqA2 K (by omega) a
      simp only [t1, t2, t3, r1, r2, q1, q2, q3, some_bind, if_true, beq_self_eq_true]
end Go.Proofs.Ytnjfmhgmbfemdaa.WPhraseFirst

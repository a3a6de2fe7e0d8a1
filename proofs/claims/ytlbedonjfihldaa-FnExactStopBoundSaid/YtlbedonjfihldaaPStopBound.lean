/- The plain law: what the walk shows to be computed answers true. Conditions: the numbers are 64-bit. -/
import Derived.Test.YtlbedonjfihldaaWStopBound
import Derived.KernelRfl
namespace Go.Proofs.Ytlbedonjfihldaa.WStopBound
open Go.K Go.RowKit
set_option linter.unusedVariables false
set_option linter.unusedSimpArgs false

theorem in_eq (K : Nat) (a lo hi : Int) : impl_within.f K a lo hi = some (decide (lo ≤ a ∧ a ≤ hi)) := by
  unfold impl_within.f
  by_cases h : lo ≤ a <;> simp [h]
theorem in_within : spec_l1In.f = impl_within.f := by kernel_rfl
theorem powN (n : Nat) : ((6 ^ n : Nat) : Int) = (6 : Int) ^ n := by simp
def frac (a b : Nat) : Ar 2 := ⟨[((a / Nat.gcd a b : Nat) : Int), ((b / Nat.gcd a b : Nat) : Int)], rfl⟩
theorem gcd_l0 (K : Nat) : ∀ (k a b : Nat), b < k → spec_l2Cut.l0 K k (a : Int) (b : Int) = some ((Nat.gcd a b : Nat) : Int) ∧ impl_fraction.l0 K k (a : Int) (b : Int) = some ((Nat.gcd a b : Nat) : Int) := by
  intro k
  induction k with
  | zero => intro a b h; omega
  | succ k ih =>
    intro a b h
    rw [spec_l2Cut.l0, impl_fraction.l0]
    by_cases hb : b = 0
    · subst hb
      simp
    · have h1 : (0 : Int) < (b : Int) := by omega
      have h2 : ¬ (b : Int) = 0 := by omega
      have h3 : (b : Int) ≠ 0 := h2
      have h4 : ((a : Int)).tmod (b : Int) = ((a % b : Nat) : Int) := by
        rw [Int.tmod_eq_emod_of_nonneg (by omega)]; rfl
      have h5 : a % b < b := Nat.mod_lt _ (by omega)
      rw [if_pos h1, if_neg h2, if_pos h3, if_pos h3, h4]
      obtain ⟨i1, i2⟩ := ih b (a % b) (by omega)
      rw [i1, i2]
      have : Nat.gcd b (a % b) = Nat.gcd a b := by
        rw [Nat.gcd_comm b, ← Nat.gcd_rec, Nat.gcd_comm]
      rw [this]
      exact ⟨rfl, rfl⟩
theorem frac_eq (K : Nat) (a b : Nat) (h : 0 < a ∨ 0 < b) (hK : b < K) (ha : a ≤ 4000000000000000000) (hb : b ≤ 4000000000000000000) : spec_l2Cut.f K (a : Int) (b : Int) = some (frac a b) ∧ impl_fraction.f K (a : Int) (b : Int) = some (frac a b) := by
  obtain ⟨h1, h2⟩ := gcd_l0 K K a b hK
  have hg : 0 < Nat.gcd a b := by
    rcases h with h | h
    · exact Nat.gcd_pos_of_pos_left _ h
    · exact Nat.gcd_pos_of_pos_right _ h
  unfold spec_l2Cut.f impl_fraction.f
  rw [h1, h2]
  simp only [some_bind]
  have h3 : spec_l1Most.f K ((Nat.gcd a b : Nat) : Int) 1 = some ((Nat.gcd a b : Nat) : Int) := by
    unfold spec_l1Most.f
    by_cases h : (1 : Int) < ((Nat.gcd a b : Nat) : Int)
    · rw [if_pos h]
    · rw [if_neg h, show ((Nat.gcd a b : Nat) : Int) = 1 by omega]
  have h4 : ((Nat.gcd a b : Nat) : Int) ≠ 0 := by omega
  have d1 : ∀ m : Nat, m ≤ 4000000000000000000 → wrap64 ((m : Int).tdiv ((Nat.gcd a b : Nat) : Int)) = ((m / Nat.gcd a b : Nat) : Int) := by
    intro m hm
    have e : (m : Int).tdiv ((Nat.gcd a b : Nat) : Int) = ((m / Nat.gcd a b : Nat) : Int) := by
      rw [Int.tdiv_eq_ediv_of_nonneg (by omega)]; rfl
    have := Nat.div_le_self m (Nat.gcd a b)
    rw [e]
    generalize m / Nat.gcd a b = q at *
    exact w64 (by omega) (by omega)
  rw [h3]
  simp only [some_bind, if_pos h4, d1 a ha, d1 b hb]
  exact ⟨rfl, rfl⟩
theorem frac_scale (c a b : Nat) (hc : 0 < c) : frac (c * a) (c * b) = frac a b := by
  unfold frac
  apply Ar.ext
  simp only [Nat.gcd_mul_left, Nat.mul_div_mul_left _ _ hc]
theorem frac_get (a b : Nat) : (frac a b).get 0 = ((a / Nat.gcd a b : Nat) : Int) ∧ (frac a b).get 1 = ((b / Nat.gcd a b : Nat) : Int) := ⟨rfl, rfl⟩
theorem frac_less (K : Nat) (a c D : Nat) (hD : 0 < D) (ha : a ≤ 10000000000) (hc : c ≤ 10000000000) (hDD : D ≤ 100000000) : spec_l2Less.f K (frac a D) (frac c D) = some (decide (a < c)) := by
  have g1 : 0 < Nat.gcd a D := Nat.gcd_pos_of_pos_right _ hD
  have g2 : 0 < Nat.gcd c D := Nat.gcd_pos_of_pos_right _ hD
  unfold spec_l2Less.f
  rw [(frac_get a D).1, (frac_get a D).2, (frac_get c D).1, (frac_get c D).2]
  have p1 := Nat.div_le_self a (Nat.gcd a D)
  have p2 := Nat.div_le_self D (Nat.gcd a D)
  have p3 := Nat.div_le_self c (Nat.gcd c D)
  have p4 := Nat.div_le_self D (Nat.gcd c D)
  obtain ⟨x, hx⟩ := Nat.gcd_dvd_left a D
  obtain ⟨y, hy⟩ := Nat.gcd_dvd_right a D
  obtain ⟨z, hz⟩ := Nat.gcd_dvd_left c D
  obtain ⟨w, hw⟩ := Nat.gcd_dvd_right c D
  have e1 : a / Nat.gcd a D = x := Nat.div_eq_of_eq_mul_right g1 hx
  have e2 : D / Nat.gcd a D = y := Nat.div_eq_of_eq_mul_right g1 hy
  have e3 : c / Nat.gcd c D = z := Nat.div_eq_of_eq_mul_right g2 hz
  have e4 : D / Nat.gcd c D = w := Nat.div_eq_of_eq_mul_right g2 hw
  rw [e1, e2, e3, e4]
  rw [e1] at p1
  rw [e2] at p2
  rw [e3] at p3
  rw [e4] at p4
  have q1 : x * w ≤ 10000000000 * 100000000 := Nat.mul_le_mul (by omega) (by omega)
  have q2 : z * y ≤ 10000000000 * 100000000 := Nat.mul_le_mul (by omega) (by omega)
  have f1 : wrap64 ((x : Int) * (w : Int)) = ((x * w : Nat) : Int) := by
    rw [← Int.natCast_mul]
    generalize x * w = m at *
    exact w64 (by omega) (by omega)
  have f2 : wrap64 ((z : Int) * (y : Int)) = ((z * y : Nat) : Int) := by
    rw [← Int.natCast_mul]
    generalize z * y = m at *
    exact w64 (by omega) (by omega)
  rw [f1, f2]
  congr 1
  rw [decide_eq_decide, Int.ofNat_lt]
  generalize Nat.gcd a D = g at *
  generalize Nat.gcd c D = h at *
  have k1 : (a * D) = (g * h) * (x * w) := by
    rw [hx]; conv => lhs; rhs; rw [hw]
    rw [Nat.mul_mul_mul_comm]
  have k2 : (c * D) = (g * h) * (z * y) := by
    rw [hz]; conv => lhs; rhs; rw [hy]
    rw [Nat.mul_mul_mul_comm, Nat.mul_comm h g]
  have hgh : 0 < g * h := Nat.mul_pos g1 g2
  constructor
  · intro hlt
    have : (g * h) * (x * w) < (g * h) * (z * y) := Nat.mul_lt_mul_of_pos_left hlt hgh
    rw [← k1, ← k2] at this
    exact Nat.lt_of_mul_lt_mul_right this
  · intro hlt
    have : a * D < c * D := Nat.mul_lt_mul_of_pos_right hlt hD
    rw [k1, k2] at this
    exact Nat.lt_of_mul_lt_mul_left this
theorem frac_cross (p q p' q' : Nat) (hq : 0 < q) (hq' : 0 < q') (h : p * q' = p' * q) : frac p q = frac p' q' := by
  rw [← frac_scale q' p q hq', ← frac_scale q p' q' hq, Nat.mul_comm q' p, h, Nat.mul_comm p' q, Nat.mul_comm q' q]
/- The parts of a fraction. -/
theorem frac_parts (a b : Nat) (hb : 0 < b) : ∃ x y : Nat, (frac a b).get 0 = (x : Int) ∧ (frac a b).get 1 = (y : Int) ∧ 0 < y ∧ y ≤ b ∧ x ≤ a ∧ x * b = a * y := by
  have hg : 0 < Nat.gcd a b := Nat.gcd_pos_of_pos_right _ hb
  obtain ⟨x, hx⟩ := Nat.gcd_dvd_left a b
  obtain ⟨y, hy⟩ := Nat.gcd_dvd_right a b
  have e1 : a / Nat.gcd a b = x := Nat.div_eq_of_eq_mul_right hg hx
  have e2 : b / Nat.gcd a b = y := Nat.div_eq_of_eq_mul_right hg hy
  have p1 := Nat.div_le_self a (Nat.gcd a b)
  have p2 := Nat.div_le_self b (Nat.gcd a b)
  refine ⟨x, y, ?_, ?_, ?_, by omega, by omega, ?_⟩
  · rw [(frac_get a b).1, e1]
  · rw [(frac_get a b).2, e2]
  · rcases Nat.eq_zero_or_pos y with h | h
    · rw [h, Nat.mul_zero] at hy; omega
    · exact h
  · clear e1 e2 p1 p2
    generalize Nat.gcd a b = g at *
    rw [hx, hy]
    rw [← Nat.mul_assoc, Nat.mul_comm x g]
theorem times_six (K : Nat) (a b : Nat) (hb : 0 < b) (hK : 100000000 ≤ K) (ha : a ≤ 10000000) (hb2 : b ≤ 10000000) : spec_l2Times.f K (frac a b) (⟨[1, 6], rfl⟩ : Ar 2) = some (frac a (6 * b)) := by
  obtain ⟨x, y, h1, h2, h3, h4, h5, h6⟩ := frac_parts a b hb
  unfold spec_l2Times.f
  rw [h1, h2, show (⟨[1, 6], rfl⟩ : Ar 2).get 0 = 1 from rfl, show (⟨[1, 6], rfl⟩ : Ar 2).get 1 = 6 from rfl, Int.mul_one, show (y : Int) * 6 = ((y * 6 : Nat) : Int) by omega]
  have f := (frac_eq K x (y * 6) (by omega) (by omega) (by omega) (by omega)).1
  have e1 : wrap64 (x : Int) = (x : Int) := w64 (by omega) (by omega)
  have e2 : wrap64 ((y * 6 : Nat) : Int) = ((y * 6 : Nat) : Int) := by clear e1; exact w64 (by omega) (by omega)
  rw [e1, e2, f, some_bind]
  clear e1 e2 f
  congr 1
  refine frac_cross _ _ _ _ (by omega) (by omega) ?_
  rw [Nat.mul_left_comm, h6, Nat.mul_left_comm 6, ← Nat.mul_assoc, Nat.mul_comm y 6, ← Nat.mul_assoc]
theorem plus_same (K : Nat) (a c D : Nat) (hD : 0 < D) (hK : 1000000000000000 ≤ K) (ha : a ≤ 10000000) (hc : c ≤ 10000000) (hD2 : D ≤ 10000000) : spec_l2Plus.f K (frac a D) (frac c D) = some (frac (a + c) D) := by
  obtain ⟨x, y, h1, h2, h3, h4, h5, h6⟩ := frac_parts a D hD
  obtain ⟨z, w, k1, k2, k3, k4, k5, k6⟩ := frac_parts c D hD
  unfold spec_l2Plus.f
  rw [h1, h2, k1, k2, ← Int.natCast_mul, ← Int.natCast_mul, ← Int.natCast_mul]
  have b1 : x * w ≤ 10000000 * 10000000 := Nat.mul_le_mul (by omega) (by omega)
  have b2 : z * y ≤ 10000000 * 10000000 := Nat.mul_le_mul (by omega) (by omega)
  have b3 : y * w ≤ 10000000 * 10000000 := Nat.mul_le_mul (by omega) (by omega)
  have p3 : 0 < y * w := Nat.mul_pos h3 k3
  have hcross : (x * w + z * y) * D = (a + c) * (y * w) := by
    rw [Nat.add_mul, Nat.add_mul, Nat.mul_right_comm x w D, h6, Nat.mul_right_comm z y D, k6, Nat.mul_assoc a y w, Nat.mul_assoc c w y, Nat.mul_comm w y]
  generalize x * w = A at *
  generalize z * y = B at *
  generalize y * w = C at *
  have f := (frac_eq K (A + B) C (.inr p3) (by omega) (by omega) (by omega)).1
  have e1 : wrap64 (A : Int) = (A : Int) := w64 (by omega) (by omega)
  have e2 : wrap64 (B : Int) = (B : Int) := by clear e1; exact w64 (by omega) (by omega)
  have e3 : wrap64 (C : Int) = (C : Int) := by clear e1 e2; exact w64 (by omega) (by omega)
  have e4 : wrap64 ((A : Int) + (B : Int)) = ((A + B : Nat) : Int) := by
    clear e1 e2 e3
    rw [w64 (by omega) (by omega)]; omega
  rw [e1, e2, e3, e4, f, some_bind]
  congr 1
  exact frac_cross _ _ _ _ p3 hD hcross
def faceB (a : Int) : Bool := decide (0 ≤ a ∧ a ≤ 30)
theorem isFace_eq (K : Nat) (_hK : 2000000 ≤ K) (a : Int) : impl_isFace.f K a = some (faceB a) := by
  unfold impl_isFace.f
  rw [in_eq]; rfl
theorem w1 (n : Nat) (h : n ≤ 4000000000000000000) : wrap64 ((n : Int) + 1) = ((n + 1 : Nat) : Int) := by rw [w64 (by omega) (by omega)]; omega
theorem allFace_l0 (K : Nat) (hK : 2000000 ≤ K) (l : List Int) (h : l.length ≤ 1073741824) : ∀ (k n : Nat), n ≤ l.length → l.length - n < k →
    (slices_IndexFunc_int_int__areAll_int_1_isFace.l0 K l k (n : Int) = some (Sum.inl ()) ∧ (l.drop n).all faceB = true) ∨ (∃ i : Int, 0 ≤ i ∧ slices_IndexFunc_int_int__areAll_int_1_isFace.l0 K l k (n : Int) = some (Sum.inr i) ∧ (l.drop n).all faceB = false) := by
  intro k
  induction k with
  | zero => intro n h1 h2; omega
  | succ k ih =>
    intro n h1 h2
    rw [slices_IndexFunc_int_int__areAll_int_1_isFace.l0]
    by_cases hn : (n : Int) < (l.length : Int)
    · have hn' : n < l.length := by omega
      have hnn : ((n : Int)).toNat = n := by omega
      have hd : l.drop n = l[n] :: l.drop (n + 1) := List.drop_eq_getElem_cons hn'
      have hg : l.getD n (0 : Int) = l[n] := by rw [List.getD_eq_getElem?_getD, List.getElem?_eq_getElem hn']; rfl
      rw [if_pos hn, if_pos (by omega), w1 n (by omega), hnn, hg, impl_areAll_int_1__isFace.f, isFace_eq K hK, hd]
      simp only [some_bind, List.all_cons]
      rcases Bool.eq_false_or_eq_true (faceB l[n]) with e | e
      · rw [e]
        simp only [Bool.not_true, Bool.false_eq_true, if_false, Bool.true_and]
        exact ih (n + 1) (by omega) (by omega)
      · rw [e]
        simp only [Bool.not_false, if_true, Bool.false_and]
        exact .inr ⟨_, by omega, rfl, trivial⟩
    · rw [if_neg hn]
      have : n = l.length := by omega
      subst this
      exact .inl ⟨rfl, by simp⟩
theorem allFace_eq (K : Nat) (hK : 2000000 ≤ K) (l : List Int) (h : l.length ≤ 1048576) : impl_areAll_int__isFace.f K l = some (l.all faceB) := by
  unfold impl_areAll_int__isFace.f slices_ContainsFunc_int_int__areAll_int_1_isFace.f slices_IndexFunc_int_int__areAll_int_1_isFace.f
  rcases allFace_l0 K hK l (by omega) K 0 (by omega) (by omega) with ⟨h1, h2⟩ | ⟨i, hi, h1, h2⟩
  · rw [show (0 : Int) = ((0 : Nat) : Int) from rfl, h1]
    simp only [some_bind, List.drop_zero] at h2 ⊢
    rw [h2]; rfl
  · rw [show (0 : Int) = ((0 : Nat) : Int) from rfl, h1]
    simp only [some_bind, List.drop_zero] at h2 ⊢
    rw [h2]
    have : decide (((0 : Nat) : Int) ≤ i) = true := decide_eq_true (by simpa using hi)
    rw [this]; rfl
def dieP (a : Ar 6) : Prop := ((0 ≤ a.get 0 ∧ a.get 0 ≤ 30) ∧ (0 ≤ a.get 1 ∧ a.get 1 ≤ 30) ∧ (0 ≤ a.get 2 ∧ a.get 2 ≤ 30) ∧ (0 ≤ a.get 3 ∧ a.get 3 ≤ 30) ∧ (0 ≤ a.get 4 ∧ a.get 4 ≤ 30) ∧ (0 ≤ a.get 5 ∧ a.get 5 ≤ 30)) ∧ (a.get 0 ≤ a.get 1 ∧ a.get 1 ≤ a.get 2 ∧ a.get 2 ≤ a.get 3 ∧ a.get 3 ≤ a.get 4 ∧ a.get 4 ≤ a.get 5)
instance (a : Ar 6) : Decidable (dieP a) := by unfold dieP; infer_instance
def dieB (a : Ar 6) : Bool := decide (dieP a)
theorem die_get (x y z u v w : Int) : (Ar.get (⟨[x, y, z, u, v, w], rfl⟩ : Ar 6) 0 = x ∧ Ar.get (⟨[x, y, z, u, v, w], rfl⟩ : Ar 6) 1 = y ∧ Ar.get (⟨[x, y, z, u, v, w], rfl⟩ : Ar 6) 2 = z) ∧ (Ar.get (⟨[x, y, z, u, v, w], rfl⟩ : Ar 6) 3 = u ∧ Ar.get (⟨[x, y, z, u, v, w], rfl⟩ : Ar 6) 4 = v ∧ Ar.get (⟨[x, y, z, u, v, w], rfl⟩ : Ar 6) 5 = w) := ⟨⟨rfl, rfl, rfl⟩, rfl, rfl, rfl⟩
set_option maxHeartbeats 4000000 in
theorem die_spec (K : Nat) (hK : 2000000 ≤ K) (a : Ar 6) : spec_l2Die.f K a = some (dieB a) := by
  obtain ⟨k, rfl⟩ := Nat.exists_eq_add_of_le (show 8 ≤ K by omega)
  obtain ⟨x, y, z, u, v, w, rfl⟩ := Ar.cases6 a
  have e : 8 + k = k + 1 + 1 + 1 + 1 + 1 + 1 + 1 + 1 := by omega
  unfold spec_l2Die.f dieB dieP
  obtain ⟨⟨g0, g1, g2⟩, g3, g4, g5⟩ := die_get x y z u v w
  rw [e]
  simp only [spec_l2Die.l0, in_within, in_eq, some_bind, show (0 : Int) < 6 by decide, show wrap64 (0 + 1) = 1 by decide +kernel, show wrap64 (1 + 1) = 2 by decide +kernel, show wrap64 (2 + 1) = 3 by decide +kernel, show wrap64 (3 + 1) = 4 by decide +kernel, show wrap64 (4 + 1) = 5 by decide +kernel, show wrap64 (5 + 1) = 6 by decide +kernel, show wrap64 (1 - 1) = 0 by decide +kernel, show wrap64 (2 - 1) = 1 by decide +kernel, show wrap64 (3 - 1) = 2 by decide +kernel, show wrap64 (4 - 1) = 3 by decide +kernel, show wrap64 (5 - 1) = 4 by decide +kernel, g0, g1, g2, g3, g4, g5, decide_eq_true_eq]
  simp
  repeat' split
  all_goals simp_all
  all_goals omega
set_option maxHeartbeats 4000000 in
theorem die_impl (K : Nat) (hK : 2000000 ≤ K) (a : Ar 6) : impl_IsDie.f K a = some (dieB a) := by
  obtain ⟨x, y, z, u, v, w, rfl⟩ := Ar.cases6 a
  unfold impl_IsDie.f dieB dieP
  rw [allFace_eq K hK _ (by simp)]
  obtain ⟨k, rfl⟩ := Nat.exists_eq_add_of_le (show 8 ≤ K by omega)
  have e : 8 + k = k + 1 + 1 + 1 + 1 + 1 + 1 + 1 + 1 := by omega
  obtain ⟨⟨g0, g1, g2⟩, g3, g4, g5⟩ := die_get x y z u v w
  unfold slices_IsSorted_int_int.f
  rw [e]
  simp [slices_IsSorted_int_int.l0, cmp_Less_int.f, cmp_isNaN_int.f, some_bind, show wrap64 (6 - 1) = 5 by decide +kernel, show wrap64 5 = 5 by decide +kernel, show wrap64 (5 - 1) = 4 by decide +kernel, show wrap64 (4 - 1) = 3 by decide +kernel, show wrap64 (3 - 1) = 2 by decide +kernel, show wrap64 (2 - 1) = 1 by decide +kernel, show wrap64 (1 - 1) = 0 by decide +kernel, show wrap64 4 = 4 by decide +kernel, show wrap64 3 = 3 by decide +kernel, show wrap64 2 = 2 by decide +kernel, show wrap64 1 = 1 by decide +kernel, show wrap64 0 = 0 by decide +kernel, g0, g1, g2, g3, g4, g5, faceB]
  repeat' split
  all_goals simp_all
  all_goals omega
theorem die_faces (a : Ar 6) (h : dieB a = true) : ∀ z ∈ a.l, 0 ≤ z ∧ z ≤ 30 := by
  obtain ⟨x, y, z, u, v, w, rfl⟩ := Ar.cases6 a
  replace h := of_decide_eq_true h
  unfold dieP at h
  obtain ⟨⟨g0, g1, g2⟩, g3, g4, g5⟩ := die_get x y z u v w
  rw [g0, g1, g2, g3, g4, g5] at h
  intro t ht
  simp only [List.mem_cons, List.not_mem_nil, or_false] at ht
  omega
theorem die_face (a : Ar 6) (h : dieB a = true) (i : Int) (h0 : 0 ≤ i) (h1 : i < 6) : 0 ≤ a.get i ∧ a.get i ≤ 30 := by
  refine die_faces a h _ ?_
  unfold Ar.get
  have hl : i.toNat < a.l.length := by rw [a.h]; omega
  rw [List.getD_eq_getElem?_getD, List.getElem?_eq_getElem hl]
  exact List.getElem_mem hl
theorem pow_lt (n : Nat) (h : n ≤ 22) : (6 : Int) ^ n ≤ 131621703842267136 := by
  have : (6 : Nat) ^ n ≤ 6 ^ 22 := Nat.pow_le_pow_right (by omega) h
  have h2 : ((6 ^ n : Nat) : Int) ≤ ((6 ^ 22 : Nat) : Int) := by exact_mod_cast this
  simpa using h2
theorem pow_pos (n : Nat) : (1 : Int) ≤ 6 ^ n := by
  have : 1 ≤ (6 : Nat) ^ n := Nat.one_le_pow _ _ (by omega)
  have h2 : ((1 : Nat) : Int) ≤ ((6 ^ n : Nat) : Int) := by exact_mod_cast this
  simpa using h2
theorem power_l0 (K : Nat) (n : Nat) (hn : n ≤ 22) : ∀ (k i : Nat), i ≤ n → n - i < k → impl_power.l0 K (n : Int) k ((6 : Int) ^ i) (i : Int) = some ((6 : Int) ^ n) := by
  intro k
  induction k with
  | zero => intro i h1 h2; omega
  | succ k ih =>
    intro i h1 h2
    rw [impl_power.l0]
    by_cases h : (i : Int) < (n : Int)
    · have hp := pow_lt (i + 1) (by omega)
      have hq := pow_pos (i + 1)
      have e : (6 : Int) ^ i * 6 = 6 ^ (i + 1) := (Int.pow_succ 6 i).symm
      rw [if_pos h, e, w64 (n := (6 : Int) ^ (i + 1)) (by omega) (by omega), w64 (n := (i : Int) + 1) (by omega) (by omega), show (i : Int) + 1 = ((i + 1 : Nat) : Int) by omega]
      exact ih (i + 1) (by omega) (by omega)
    · rw [if_neg h, show i = n by omega]
theorem power_eq (K : Nat) (hK : 30 ≤ K) (n : Nat) (hn : n ≤ 22) : impl_power.f K (n : Int) = some ((6 : Int) ^ n) := by
  unfold impl_power.f
  rw [show impl_power.l0 K (n : Int) K 1 0 = some ((6 : Int) ^ n) from power_l0 K n hn K 0 (by omega) (by omega)]
  rfl
theorem frac_one (a : Nat) : frac a 1 = (⟨[(a : Int), 1], rfl⟩ : Ar 2) := by
  unfold frac
  apply Ar.ext
  simp
theorem frac_nil (D : Nat) (hD : 0 < D) : frac 0 D = (⟨[0, 1], rfl⟩ : Ar 2) := by
  unfold frac
  apply Ar.ext
  simp [Nat.div_self hD]
theorem stop_l3 (K : Nat) (hK : 1000000000000000 ≤ K) (a : Ar 6) (hd : dieB a = true) (x P V : Nat) (hx : x ≤ 5) (hP : P = 6 ^ x) (hP0 : 0 < P) (hPM : P ≤ 7776) (M : Nat) (hM : M = 30 * P) (hV : V ≤ M) (L : List (Ar 2)) (hLl : L.length = x) (hL : 0 < x → L.getD (x - 1) (Ar.zero 2) = frac V P) (hV0 : x = 0 → V = 0) :
    ∀ (k n S : Nat), n ≤ 6 → 6 - n < k → S ≤ n * M → ∃ S', S' ≤ 6 * M ∧ spec_StopMeans.l3 K a (x : Int) L k (n : Int) (frac S (6 * P)) = some (frac S' (6 * P)) ∧ impl_stopMeans.l4 K a (V : Int) (x : Int) k (S : Int) (n : Int) = some (S' : Int) := by
  intro k
  induction k with
  | zero => intro n S h1 h2; omega
  | succ k ih =>
    intro n S h1 h2 h3
    rw [spec_StopMeans.l3, impl_stopMeans.l4]
    by_cases hn : (n : Int) < 6
    · have f0 : n < 6 := by omega
      have f1 : 6 - (n + 1) < k := by omega
      have f2 : n ≤ 4000000000000000000 := by omega
      have c1 : (0 : Int) ≤ (n : Int) ∧ (n : Int) < 6 := by omega
      have hface := die_face a hd (n : Int) c1.1 c1.2
      obtain ⟨v, hv⟩ : ∃ v : Nat, a.get (n : Int) = v := ⟨(a.get (n : Int)).toNat, by omega⟩
      rw [hv] at hface
      have hv30 : v ≤ 30 := by omega
      have hvP : v * P ≤ 30 * 7776 := Nat.mul_le_mul hv30 hPM
      have hpw : impl_power.f K (x : Int) = some (P : Int) := by rw [power_eq K (by omega) x (by omega), hP, powN]
      have M0 : M ≤ 233280 := by omega
      have hnM : n * M ≤ 6 * M := Nat.mul_le_mul_right M h1
      have hnM1 : (n + 1) * M = n * M + M := Nat.succ_mul n M
      have hvM : v * P ≤ M := by rw [hM]; exact Nat.mul_le_mul_right P hv30
      have S0 : S ≤ 10000000 := by omega
      have D0 : 6 * P ≤ 10000000 := by omega
      have D1 : 0 < 6 * P := by omega
      have V0 : V ≤ M := hV
      have w0 : wrap64 ((v : Int) * (P : Int)) = ((v * P : Nat) : Int) := by
        rw [← Int.natCast_mul]
        generalize v * P = z at *
        exact w64 (by omega) (by omega)
      have base : spec_l2Times.f K (⟨[(v : Int), 1], rfl⟩ : Ar 2) (⟨[1, 6], rfl⟩ : Ar 2) = some (frac (v * P) (6 * P)) := by
        rw [← frac_one, times_six K v 1 (by decide) (by omega) (by omega) (by decide), Nat.mul_one, Nat.mul_comm v P, Nat.mul_comm 6 P, frac_scale P v 6 hP0]
      rw [if_pos hn, if_pos hn, if_pos c1, if_pos c1, hv, hpw, some_bind, w0, w1 n f2]
      have done : ∀ T : Nat, T ≤ M → ∃ S', S' ≤ 6 * M ∧ (spec_l2Plus.f K (frac S (6 * P)) (frac T (6 * P))).bind (fun t => spec_StopMeans.l3 K a (x : Int) L k ((n + 1 : Nat) : Int) t) = some (frac S' (6 * P)) ∧ impl_stopMeans.l4 K a (V : Int) (x : Int) k (wrap64 ((S : Int) + (T : Int))) ((n + 1 : Nat) : Int) = some (S' : Int) := by
        intro T hT
        have e : wrap64 ((S : Int) + (T : Int)) = ((S + T : Nat) : Int) := by
          clear w0
          rw [w64 (by omega) (by omega)]; omega
        rw [plus_same K S T (6 * P) D1 hK S0 (by clear w0 e; omega) D0, some_bind, e]
        exact ih (n + 1) (S + T) f0 f1 (by rw [hnM1]; exact Nat.add_le_add h3 hT)
      by_cases hx0 : 0 < x
      · have c2 : (0 : Int) < (x : Int) := by clear w0; omega
        have ex : wrap64 ((x : Int) - 1) = ((x - 1 : Nat) : Int) := by
          clear w0
          rw [w64 (by omega) (by omega)]; omega
        have c3 : (0 : Int) ≤ ((x - 1 : Nat) : Int) ∧ ((x - 1 : Nat) : Int) < (L.length : Int) := by clear w0 ex; omega
        rw [if_pos c2, ex, if_pos c3, show (((x - 1 : Nat) : Int)).toNat = x - 1 from rfl, hL hx0]
        have hless : spec_l2Less.f K (⟨[(v : Int), 1], rfl⟩ : Ar 2) (frac V P) = some (decide (v * P < V)) := by
          have e1 : (⟨[(v : Int), 1], rfl⟩ : Ar 2) = frac (v * P) P := by
            rw [← frac_one]
            have := frac_scale P v 1 hP0
            rw [Nat.mul_one, Nat.mul_comm P v] at this
            exact this.symm
          rw [e1]
          exact frac_less K (v * P) V P hP0 (by clear w0 ex; omega) (by clear w0 ex; omega) (by clear w0 ex; omega)
        rw [hless, some_bind]
        by_cases hlt : v * P < V
        · rw [if_pos (decide_eq_true hlt), times_six K V P hP0 (by clear w0 ex; omega) (by clear w0 ex; omega) (by clear w0 ex; omega), some_bind, if_pos (show (V : Int) > ((v * P : Nat) : Int) from Int.ofNat_lt.2 hlt)]
          exact done V V0
        · rw [if_neg (fun h => hlt (of_decide_eq_true h)), base, some_bind, if_neg (show ¬ (V : Int) > ((v * P : Nat) : Int) from fun h => hlt (Int.ofNat_lt.1 h))]
          exact done (v * P) hvM
      · have hz : x = 0 := by clear w0; omega
        have hVz := hV0 hz
        have c2 : ¬ (0 : Int) < (x : Int) := by clear w0; omega
        rw [if_neg c2, base, some_bind, if_neg (show ¬ (V : Int) > ((v * P : Nat) : Int) by rw [hVz]; exact Int.not_lt.2 (Int.natCast_nonneg _))]
        exact done (v * P) hvM
    · have : n = 6 := by omega
      subst this
      rw [if_neg hn, if_neg hn]
      exact ⟨S, h3, rfl, rfl⟩
def StopR (x : Nat) (L : List (Ar 2)) (I : List Int) : Prop := L.length = x ∧ I.length = x ∧ ∀ i : Nat, i < x → ∃ W : Nat, I.getD i 0 = (W : Int) ∧ W ≤ 30 * 6 ^ (i + 1) ∧ L.getD i (Ar.zero 2) = frac W (6 ^ (i + 1))
theorem p6 (x : Nat) (hx : x ≤ 6) : 0 < 6 ^ x ∧ 6 ^ x ≤ 46656 := by
  rcases (show x = 0 ∨ x = 1 ∨ x = 2 ∨ x = 3 ∨ x = 4 ∨ x = 5 ∨ x = 6 by omega) with rfl | rfl | rfl | rfl | rfl | rfl | rfl <;> decide
theorem stop_l2 (K : Nat) (hK : 1000000000000000 ≤ K) (a : Ar 6) (hd : dieB a = true) (A : Nat) (hA : A ≤ 6) : ∀ (k k2 x V : Nat) (L : List (Ar 2)) (I : List Int), x ≤ A → A - x < k → A - x < k2 → StopR x L I → V ≤ 30 * 6 ^ x → (x = 0 → V = 0) → (0 < x → L.getD (x - 1) (Ar.zero 2) = frac V (6 ^ x)) → ∃ L' I', spec_StopMeans.l2 K a (A : Int) k (x : Int) L = some L' ∧ impl_stopMeans.l3 K a (A : Int) k2 (V : Int) (x : Int) I = some I' ∧ StopR A L' I' := by
  intro k
  induction k with
  | zero => intro k2 x V L I h1 h2; omega
  | succ k ih =>
    intro k2 x V L I h1 h2 h3 hR hV hV0 hL
    match k2, h3 with
    | k2 + 1, h3 =>
      rw [spec_StopMeans.l2, impl_stopMeans.l3]
      by_cases hx : x < A
      · have c1 : (x : Int) < (A : Int) := by omega
        have f1 : A - (x + 1) < k := by omega
        have f2 : A - (x + 1) < k2 := by omega
        have f3 : x ≤ 4000000000000000000 := by omega
        have f4 : x ≤ 5 := by omega
        obtain ⟨p1, _⟩ := p6 x (by omega)
        have p2 : 6 ^ x ≤ 7776 := by
          rcases (show x = 0 ∨ x = 1 ∨ x = 2 ∨ x = 3 ∨ x = 4 ∨ x = 5 by omega) with rfl | rfl | rfl | rfl | rfl | rfl <;> decide
        have e6 : 6 * 6 ^ x = 6 ^ (x + 1) := by rw [Nat.pow_succ, Nat.mul_comm]
        obtain ⟨r1, r2, r3⟩ := hR
        obtain ⟨S, s1, s2, s3⟩ := stop_l3 K hK a hd x (6 ^ x) V f4 rfl p1 p2 (30 * 6 ^ x) rfl hV L r1 hL hV0 K 0 0 (by omega) (by omega) (Nat.zero_le _)
        have hS : S ≤ 30 * 6 ^ (x + 1) := by rw [← e6]; rw [Nat.mul_left_comm]; exact s1
        rw [e6] at s2
        have s2' : spec_StopMeans.l3 K a (x : Int) L K 0 (⟨[0, 1], rfl⟩ : Ar 2) = some (frac S (6 ^ (x + 1))) := by
          rw [← frac_nil (6 ^ (x + 1)) (Nat.one_le_pow _ _ (by omega))]; exact s2
        have s3' : impl_stopMeans.l4 K a (V : Int) (x : Int) K 0 0 = some (S : Int) := s3
        have c2 : L.length + [frac S (6 ^ (x + 1))].length ≤ 1073741824 := by rw [List.length_singleton]; omega
        have c3 : I.length + [(S : Int)].length ≤ 1073741824 := by rw [List.length_singleton]; omega
        rw [if_pos c1, if_pos c1, s2', s3', some_bind, some_bind, if_pos c2, if_pos c3, w1 x f3]
        have hlast : (L ++ [frac S (6 ^ (x + 1))]).getD x (Ar.zero 2) = frac S (6 ^ (x + 1)) := by
          rw [List.getD_eq_getElem?_getD, List.getElem?_append_right (by omega), r1, Nat.sub_self]; rfl
        refine ih k2 (x + 1) S _ _ hx f1 f2 ⟨by rw [List.length_append, List.length_singleton, r1], by rw [List.length_append, List.length_singleton, r2], ?_⟩ hS (fun h => by omega) (fun _ => hlast)
        intro i hi
        by_cases hix : i = x
        · subst hix
          refine ⟨S, ?_, hS, hlast⟩
          rw [List.getD_eq_getElem?_getD, List.getElem?_append_right (by omega), r2, Nat.sub_self]; rfl
        · obtain ⟨W, w1', w2', w3'⟩ := r3 i (by omega)
          refine ⟨W, ?_, w2', ?_⟩
          · rw [List.getD_eq_getElem?_getD, List.getElem?_append_left (by omega), ← List.getD_eq_getElem?_getD]; exact w1'
          · rw [List.getD_eq_getElem?_getD, List.getElem?_append_left (by omega), ← List.getD_eq_getElem?_getD]; exact w3'
      · have : x = A := by omega
        subst this
        have c1 : ¬ (x : Int) < (x : Int) := Int.lt_irrefl _
        rw [if_neg c1, if_neg c1]
        exact ⟨L, I, rfl, rfl, hR⟩
theorem toA6 (K : Nat) (hK : 8 ≤ K) (a : Ar 6) : laws_toIntA6.f K a = some a := by
  obtain ⟨k, rfl⟩ := Nat.exists_eq_add_of_le hK
  obtain ⟨x, y, z, u, v, w, rfl⟩ := Ar.cases6 a
  have e : 8 + k = k + 1 + 1 + 1 + 1 + 1 + 1 + 1 + 1 := by omega
  unfold laws_toIntA6.f
  rw [e]
  simp only [laws_toIntA6.l0, show (0 : Int) < 6 by decide, show wrap64 (0 + 1) = 1 by decide +kernel, show wrap64 (1 + 1) = 2 by decide +kernel, show wrap64 (2 + 1) = 3 by decide +kernel, show wrap64 (3 + 1) = 4 by decide +kernel, show wrap64 (4 + 1) = 5 by decide +kernel, show wrap64 (5 + 1) = 6 by decide +kernel, if_true, show (0 : Int) ≤ 0 ∧ True by decide]
  rfl
theorem die_top (a : Ar 6) (h : dieB a = true) (n : Nat) (hn : n < 6) : 0 ≤ a.get (n : Int) ∧ a.get (n : Int) ≤ a.get 5 ∧ a.get 5 ≤ 30 := by
  have hd : dieP a := of_decide_eq_true h
  unfold dieP at hd
  rcases (show n = 0 ∨ n = 1 ∨ n = 2 ∨ n = 3 ∨ n = 4 ∨ n = 5 by omega) with rfl | rfl | rfl | rfl | rfl | rfl
  · show 0 ≤ a.get 0 ∧ a.get 0 ≤ a.get 5 ∧ _; omega
  · show 0 ≤ a.get 1 ∧ a.get 1 ≤ a.get 5 ∧ _; omega
  · show 0 ≤ a.get 2 ∧ a.get 2 ≤ a.get 5 ∧ _; omega
  · show 0 ≤ a.get 3 ∧ a.get 3 ≤ a.get 5 ∧ _; omega
  · show 0 ≤ a.get 4 ∧ a.get 4 ≤ a.get 5 ∧ _; omega
  · show 0 ≤ a.get 5 ∧ a.get 5 ≤ a.get 5 ∧ _; omega
theorem top_l4 (K : Nat) (hK : 100 ≤ K) (a : Ar 6) (hd : dieB a = true) (x : Nat) (hx : x ≤ 5) (D V : Int) (hD : D = a.get 5 * ((6 ^ x : Nat) : Int)) (hD1 : 0 ≤ D ∧ D ≤ 233280) (hV : 0 ≤ V ∧ V ≤ D) : ∀ (k n : Nat) (S r : Int), n ≤ 6 → 0 ≤ S → S ≤ n * D → impl_stopMeans.l4 K a V (x : Int) k S (n : Int) = some r → 0 ≤ r ∧ r ≤ 6 * D := by
  intro k
  induction k with
  | zero => intro n S r h1 h2 h3 h4; exact none_some h4
  | succ k ih =>
    intro n S r h1 h2 h3 h4
    rw [impl_stopMeans.l4] at h4
    by_cases hn : n < 6
    · obtain ⟨d0, d1, d2⟩ := die_top a hd n hn
      have hp := power_eq K (by omega) x (by omega)
      rw [← powN] at hp
      obtain ⟨p1, p2⟩ := p6 x (by omega)
      have m1 : a.get (n : Int) * ((6 ^ x : Nat) : Int) ≤ D := by rw [hD]; exact Int.mul_le_mul_of_nonneg_right d1 (by omega)
      have m0 : 0 ≤ a.get (n : Int) * ((6 ^ x : Nat) : Int) := Int.mul_nonneg d0 (by omega)
      have nD : (n : Int) * D ≤ 6 * D := Int.mul_le_mul_of_nonneg_right (by omega) hD1.1
      have nD1 : ((n + 1 : Nat) : Int) * D = (n : Int) * D + D := by rw [Int.natCast_add, Int.add_mul]; simp
      rw [if_pos (by omega), if_pos (by omega), hp, some_bind, w64 (n := a.get (n : Int) * ((6 ^ x : Nat) : Int)) (by omega) (by omega), w1' n (by omega)] at h4
      generalize a.get (n : Int) * ((6 ^ x : Nat) : Int) = z at *
      by_cases hc : V > z
      · rw [if_pos hc, w64 (n := S + V) (by omega) (by omega)] at h4
        exact ih (n + 1) _ r (by omega) (by omega) (by omega) h4
      · rw [if_neg hc, w64 (n := S + z) (by omega) (by omega)] at h4
        exact ih (n + 1) _ r (by omega) (by omega) (by omega) h4
    · have : n = 6 := by omega
      subst this
      rw [if_neg (by omega)] at h4
      rw [← some_some h4]
      exact ⟨h2, h3⟩
theorem top_l3 (K : Nat) (hK : 100 ≤ K) (a : Ar 6) (hd : dieB a = true) (A : Nat) (hA : A ≤ 6) : ∀ (k x : Nat) (V : Int) (I r : List Int), x ≤ A → I.length = x → 0 ≤ V → V ≤ a.get 5 * ((6 ^ x : Nat) : Int) → (∀ i, i < x → I.getD i 0 ≤ a.get 5 * ((6 ^ (i + 1) : Nat) : Int)) → impl_stopMeans.l3 K a (A : Int) k V (x : Int) I = some r → ∀ i, i < A → r.getD i 0 ≤ a.get 5 * ((6 ^ (i + 1) : Nat) : Int) := by
  intro k
  induction k with
  | zero => intro x V I r h1 h2 h3 h4 h5 h6; exact none_some h6
  | succ k ih =>
    intro x V I r h1 h2 h3 h4 h5 h6
    rw [impl_stopMeans.l3] at h6
    by_cases hx : x < A
    · rw [if_pos (by omega)] at h6
      obtain ⟨v, hv, h6⟩ := bind_some h6
      obtain ⟨_, h6⟩ := ite_some h6
      rw [w1' x (by omega)] at h6
      obtain ⟨p1, p2⟩ := p6 x (by omega)
      have p3 : 6 ^ x ≤ 7776 := by
        rcases (show x = 0 ∨ x = 1 ∨ x = 2 ∨ x = 3 ∨ x = 4 ∨ x = 5 by omega) with rfl | rfl | rfl | rfl | rfl | rfl <;> decide
      obtain ⟨d0, _, d2⟩ := die_top a hd 5 (by omega)
      have d0' : 0 ≤ a.get 5 := d0
      have hD0 : 0 ≤ a.get 5 * ((6 ^ x : Nat) : Int) := Int.mul_nonneg d0' (by omega)
      have hD1 : a.get 5 * ((6 ^ x : Nat) : Int) ≤ 30 * 7776 := Int.le_trans (Int.mul_le_mul_of_nonneg_right d2 (by omega)) (Int.mul_le_mul_of_nonneg_left (by omega) (by omega))
      obtain ⟨r0, r1⟩ := top_l4 K hK a hd x (by omega) _ V rfl ⟨hD0, by omega⟩ ⟨h3, h4⟩ K 0 0 v (by omega) (by omega) (by simp) hv
      have e6 : a.get 5 * ((6 ^ (x + 1) : Nat) : Int) = 6 * (a.get 5 * ((6 ^ x : Nat) : Int)) := by
        rw [Nat.pow_succ, Int.natCast_mul, ← Int.mul_assoc, Int.mul_comm]; rfl
      refine ih (x + 1) v _ r (by omega) (by simp [h2]) r0 (by rw [e6]; exact r1) ?_ h6
      intro i hi
      by_cases hix : i = x
      · subst hix
        rw [List.getD_eq_getElem?_getD, List.getElem?_append_right (by omega), h2, Nat.sub_self]
        show v ≤ _
        rw [e6]; exact r1
      · rw [List.getD_eq_getElem?_getD, List.getElem?_append_left (by omega), ← List.getD_eq_getElem?_getD]
        exact h5 i (by omega)
    · rw [if_neg (by omega)] at h6
      rw [← some_some h6]
      intro i hi
      exact h5 i (by omega)
theorem bound_l0 (K : Nat) (hK : 1000000000000000 ≤ K) (a : Ar 6) (hd : dieB a = true) (A W : Nat) (hA : 1 ≤ A ∧ A ≤ 5) (L : List (Ar 2)) (I : List Int) (c : Bool) (hL : L.length = A) (hLW : L.getD (A - 1) (Ar.zero 2) = frac W (6 ^ A)) (hIW : I.getD (A - 1) 0 = (W : Int)) (hW : W ≤ 30 * 6 ^ A) (hWt : (W : Int) ≤ a.get 5 * ((6 ^ A : Nat) : Int)) : ∀ (k n : Nat), n ≤ 5 → 6 - n < k → ∃ x : Nat, x < 6 ∧ spec_StopBound.l0 K a (A : Int) (L, c) k (n : Int) = some (x : Int) ∧ impl_StopBound.l0 K a (A : Int) I k (n : Int) = some (Sum.inr (a.get (x : Int), true)) := by
  have e : wrap64 ((A : Int) - 1) = ((A - 1 : Nat) : Int) := by rw [w64 (by omega) (by omega)]; omega
  obtain ⟨p1, p2⟩ := p6 A (by omega)
  have p3 : 6 ^ A ≤ 7776 := by
    rcases (show A = 1 ∨ A = 2 ∨ A = 3 ∨ A = 4 ∨ A = 5 by omega) with rfl | rfl | rfl | rfl | rfl <;> decide
  intro k
  induction k with
  | zero => intro n h1 h2; omega
  | succ k ih =>
    intro n h1 h2
    rw [spec_StopBound.l0, impl_StopBound.l0]
    obtain ⟨d0, d1, d2⟩ := die_top a hd n (by omega)
    obtain ⟨v, hv⟩ : ∃ v : Nat, a.get (n : Int) = v := ⟨(a.get (n : Int)).toNat, by clear e; omega⟩
    have hv30 : v ≤ 30 := by clear e; omega
    have hvP : v * 6 ^ A ≤ 30 * 7776 := Nat.mul_le_mul hv30 p3
    have hp := power_eq K (by omega) A (by omega)
    rw [← powN] at hp
    have hless : spec_l2Less.f K (⟨[(v : Int), 1], rfl⟩ : Ar 2) (frac W (6 ^ A)) = some (decide (v * 6 ^ A < W)) := by
      have e1 : (⟨[(v : Int), 1], rfl⟩ : Ar 2) = frac (v * 6 ^ A) (6 ^ A) := by
        rw [← frac_one]
        have := frac_scale (6 ^ A) v 1 p1
        rw [Nat.mul_one, Nat.mul_comm (6 ^ A) v] at this
        exact this.symm
      rw [e1]
      exact frac_less K (v * 6 ^ A) W (6 ^ A) p1 (by clear e; omega) (by clear e; omega) (by clear e; omega)
    have w0 : wrap64 ((v : Int) * ((6 ^ A : Nat) : Int)) = ((v * 6 ^ A : Nat) : Int) := by
      rw [← Int.natCast_mul]
      generalize v * 6 ^ A = z at *
      clear e
      exact w64 (by omega) (by omega)
    rw [e, if_pos (by clear e w0; omega), if_pos (by clear e w0; show (0 : Int) ≤ _ ∧ _ < (L.length : Int); omega), if_pos (by clear e w0; omega), if_pos (by clear e w0; omega)]
    show ∃ x : Nat, x < 6 ∧ (spec_l2Less.f K (⟨[a.get (n : Int), 1], rfl⟩ : Ar 2) (L.getD (((A - 1 : Nat) : Int)).toNat (Ar.zero 2))).bind _ = _ ∧ _
    rw [Int.toNat_natCast, hLW, hIW, hp, some_bind, w1' n (by clear e w0; omega)]
    simp only [hv]
    rw [hless, some_bind, w0]
    by_cases hlt : v * 6 ^ A < W
    · have hn5 : n ≠ 5 := by
        intro h5
        subst h5
        have hv5 : a.get 5 = (v : Int) := hv
        rw [hv5, ← Int.natCast_mul] at hWt
        clear e w0
        omega
      rw [if_pos (decide_eq_true hlt), if_neg (by clear e w0; omega)]
      exact ih (n + 1) (by clear e w0; omega) (by clear e w0; omega)
    · rw [if_neg (fun h => hlt (of_decide_eq_true h)), if_pos (by clear e w0; omega)]
      exact ⟨n, by clear e w0; omega, rfl, by rw [hv]⟩
theorem StopBound_same (K : Nat) (hK : 1000000000000000 ≤ K) (a : Ar 6) (b : Int) : ∃ r, spec_StopBound.f K a b = some r ∧ impl_StopBound.f K a b = some r := by
  unfold spec_StopBound.f impl_StopBound.f spec_StopMeans.f impl_stopMeans.f
  rw [die_spec K (by omega), die_impl K (by omega), in_within]
  simp only [some_bind, in_eq]
  cases hd : dieB a with
  | false => exact ⟨_, rfl, rfl⟩
  | true =>
    by_cases hb : 0 ≤ b ∧ b ≤ 5
    · have db : decide (0 ≤ b ∧ b ≤ 5) = true := decide_eq_true hb
      simp only [if_true, db]
      by_cases hb0 : b = 0
      · simp only [if_pos hb0]
        exact ⟨_, rfl, rfl⟩
      · obtain ⟨A, hA⟩ : ∃ A : Nat, b = A := ⟨b.toNat, by omega⟩
        subst hA
        have hb6 : decide (1 ≤ (A : Int) ∧ (A : Int) ≤ 6) = true := decide_eq_true (by omega)
        obtain ⟨L, I, s1, s2, s3⟩ := stop_l2 K hK a hd A (by omega) K K 0 0 [] [] (by omega) (by omega) (by omega) ⟨rfl, rfl, fun i hi => by omega⟩ (Nat.zero_le _) (fun _ => rfl) (fun h => by omega)
        have s1' : spec_StopMeans.l2 K a (A : Int) K 0 [] = some L := s1
        have s2' : impl_stopMeans.l3 K a (A : Int) K 0 0 [] = some I := s2
        obtain ⟨r1, r2, r3⟩ := s3
        obtain ⟨W, w1x, w2x, w3x⟩ := r3 (A - 1) (by omega)
        rw [show A - 1 + 1 = A by omega] at w2x w3x
        obtain ⟨d0, _, d2⟩ := die_top a hd 5 (by omega)
        have top := top_l3 K (by omega) a hd A (by omega) K 0 0 [] I (by omega) rfl (by omega) (by have d0' : 0 ≤ a.get 5 := d0; simp; exact d0') (fun i hi => by omega) s2' (A - 1) (by omega)
        rw [w1x, show A - 1 + 1 = A by omega] at top
        obtain ⟨x, x1, x2, x3⟩ := bound_l0 K hK a hd A W ⟨by omega, by omega⟩ L I true r1 w3x w1x w2x top K 0 (by omega) (by omega)
        have e : wrap64 ((A : Int) - 1) = ((A - 1 : Nat) : Int) := by rw [w64 (by omega) (by omega)]; omega
        have x2' : spec_StopBound.l0 K a (A : Int) (L, true) K 0 = some (x : Int) := x2
        have x3' : impl_StopBound.l0 K a (A : Int) I K 0 = some (Sum.inr (a.get (x : Int), true)) := x3
        have c1 : (0 : Int) ≤ ((A - 1 : Nat) : Int) ∧ ((A - 1 : Nat) : Int) < (I.length : Int) := by clear e; omega
        have c2 : (0 : Int) ≤ (x : Int) ∧ (x : Int) < 6 := by clear e; omega
        simp only [if_neg hb0, hb6, if_true, s1', s2', some_bind, e, if_pos c1, x2', x3', if_pos c2]
        exact ⟨_, rfl, rfl⟩
    · have db : decide (0 ≤ b ∧ b ≤ 5) = false := decide_eq_false hb
      simp only [if_true, db]
      exact ⟨_, rfl, rfl⟩
theorem StopBound_pure (a0 : Ar 6) (a1 : Int) (_w0 : ∀ z ∈ a0.l, (Lit.int .i64 z).wf = true) (_w1 : (Lit.int .i64 a1).wf = true) : ∃ K, laws_FnExactStopBound.f K a0 a1 = some true := by
  refine ⟨1000000000000000, ?_⟩
  unfold laws_FnExactStopBound.f
  obtain ⟨o, h1, h2⟩ := StopBound_same 1000000000000000 (by omega) a0 a1
  have t2 := fun a => toA6 1000000000000000 (by omega) a
  simp only [t2, h1, h2, some_bind, if_true, beq_self_eq_true]
end Go.Proofs.Ytlbedonjfihldaa.WStopBound

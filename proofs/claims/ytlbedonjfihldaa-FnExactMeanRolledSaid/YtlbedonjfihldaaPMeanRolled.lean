/- The plain law: what the walk shows to be computed answers true. Conditions: the numbers are 64-bit. -/
import Derived.Test.YtlbedonjfihldaaWMeanRolled
import Derived.KernelRfl
namespace Go.Proofs.Ytlbedonjfihldaa.WMeanRolled
open Go.K Go.RowKit
set_option linter.unusedVariables false
set_option linter.unusedSimpArgs false

theorem in_eq (K : Nat) (a lo hi : Int) : impl_within.f K a lo hi = some (decide (lo ≤ a ∧ a ≤ hi)) := by
  unfold impl_within.f
  by_cases h : lo ≤ a <;> simp [h]
theorem in_within : spec_l1In.f = impl_within.f := by kernel_rfl
def sumN : Nat → (Nat → Int) → Int
  | 0, _ => 0
  | n + 1, g => sumN n g + g n
theorem sumN_congr : ∀ (n : Nat) (g h : Nat → Int), (∀ i, i < n → g i = h i) → sumN n g = sumN n h
  | 0, _, _, _ => rfl
  | n + 1, g, h, e => by rw [sumN, sumN, sumN_congr n g h (fun i hi => e i (by omega)), e n (by omega)]
theorem sumN_add (n : Nat) (g h : Nat → Int) : sumN n (fun i => g i + h i) = sumN n g + sumN n h := by
  induction n with
  | zero => rfl
  | succ n ih => rw [sumN, sumN, sumN, ih]; omega
theorem sumN_zero (n : Nat) : sumN n (fun _ => 0) = 0 := by
  induction n with
  | zero => rfl
  | succ n ih => rw [sumN, ih]; rfl
theorem sumN_comm (a b : Nat) (g : Nat → Nat → Int) : sumN a (fun i => sumN b (g i)) = sumN b (fun j => sumN a (fun i => g i j)) := by
  induction a with
  | zero => exact (sumN_zero b).symm
  | succ a ih =>
    rw [sumN, ih, ← sumN_add]
    rfl
theorem sumN_six (g : Nat → Int) : sumN 6 g = g 0 + g 1 + g 2 + g 3 + g 4 + g 5 := by
  simp only [sumN]; omega
theorem sumN_mul6 (m : Nat) (g : Nat → Int) : sumN (m * 6) g = sumN m (fun q => sumN 6 (fun k => g (6 * q + k))) := by
  induction m with
  | zero => rfl
  | succ m ih =>
    rw [sumN, ← ih, sumN_six, show (m + 1) * 6 = m * 6 + 5 + 1 by omega, sumN, sumN, sumN, sumN, sumN, sumN, Nat.mul_comm 6 m]
    simp only [Nat.add_zero]
    omega
theorem sumN_range (n : Nat) (g : Nat → Int) (B : Int) (h : ∀ i, i < n → 0 ≤ g i ∧ g i ≤ B) : 0 ≤ sumN n g ∧ sumN n g ≤ n * B := by
  induction n with
  | zero => simp [sumN]
  | succ n ih =>
    obtain ⟨h1, h2⟩ := ih (fun i hi => h i (by omega))
    obtain ⟨h3, h4⟩ := h n (by omega)
    rw [sumN]
    refine ⟨by omega, ?_⟩
    have : ((n + 1 : Nat) : Int) * B = n * B + B := by rw [Int.natCast_add, Int.add_mul]; simp
    omega
def faceB (a : Int) : Bool := decide (0 ≤ a ∧ a ≤ 30)
theorem isFace_eq (K : Nat) (_hK : 2000000 ≤ K) (a : Int) : impl_isFace.f K a = some (faceB a) := by
  unfold impl_isFace.f
  rw [in_eq]; rfl
theorem w1 (n : Nat) (h : n ≤ 4000000000000000000) : wrap64 ((n : Int) + 1) = ((n + 1 : Nat) : Int) := by rw [w64 (by omega) (by omega)]; omega
theorem allFace_l0 (K : Nat) (hK : 2000000 ≤ K) (l : List Int) (h : l.length ≤ 1073741824) : ∀ (k n : Nat), n ≤ l.length → l.length - n < k →
    (slices_IndexFunc_int_int__areAll_int_1_isFace.l0 K l k (n : Int) = some (Sum.inl ()) ∧ (l.drop n).all faceB = true) ∨ (∃ i : Int, 0 ≤ i ∧ slices_IndexFunc_int_int__areAll_int_1_isFace.l0 K l k (n : Int) = some (Sum.inr i) ∧ (l.drop n).all faceB = false) := by
  intro k
  induction k with
  | zero => intro n h1 h2; omega
  | succ k ih =>
    intro n h1 h2
    rw [slices_IndexFunc_int_int__areAll_int_1_isFace.l0]
    by_cases hn : (n : Int) < (l.length : Int)
    · have hn' : n < l.length := by omega
      have hnn : ((n : Int)).toNat = n := by omega
      have hd : l.drop n = l[n] :: l.drop (n + 1) := List.drop_eq_getElem_cons hn'
      have hg : l.getD n (0 : Int) = l[n] := by rw [List.getD_eq_getElem?_getD, List.getElem?_eq_getElem hn']; rfl
      rw [if_pos hn, if_pos (by omega), w1 n (by omega), hnn, hg, impl_areAll_int_1__isFace.f, isFace_eq K hK, hd]
      simp only [some_bind, List.all_cons]
      rcases Bool.eq_false_or_eq_true (faceB l[n]) with e | e
      · rw [e]
        simp only [Bool.not_true, Bool.false_eq_true, if_false, Bool.true_and]
        exact ih (n + 1) (by omega) (by omega)
      · rw [e]
        simp only [Bool.not_false, if_true, Bool.false_and]
        exact .inr ⟨_, by omega, rfl, trivial⟩
    · rw [if_neg hn]
      have : n = l.length := by omega
      subst this
      exact .inl ⟨rfl, by simp⟩
theorem allFace_eq (K : Nat) (hK : 2000000 ≤ K) (l : List Int) (h : l.length ≤ 1048576) : impl_areAll_int__isFace.f K l = some (l.all faceB) := by
  unfold impl_areAll_int__isFace.f slices_ContainsFunc_int_int__areAll_int_1_isFace.f slices_IndexFunc_int_int__areAll_int_1_isFace.f
  rcases allFace_l0 K hK l (by omega) K 0 (by omega) (by omega) with ⟨h1, h2⟩ | ⟨i, hi, h1, h2⟩
  · rw [show (0 : Int) = ((0 : Nat) : Int) from rfl, h1]
    simp only [some_bind, List.drop_zero] at h2 ⊢
    rw [h2]; rfl
  · rw [show (0 : Int) = ((0 : Nat) : Int) from rfl, h1]
    simp only [some_bind, List.drop_zero] at h2 ⊢
    rw [h2]
    have : decide (((0 : Nat) : Int) ≤ i) = true := decide_eq_true (by simpa using hi)
    rw [this]; rfl
theorem most_eq (K : Nat) (a b : Int) : spec_l1Most.f K a b = some (if b < a then a else b) := by
  unfold spec_l1Most.f
  split <;> rfl
theorem one_eq (K : Nat) (b : Bool) : spec_l6One.f K b = some (if b = true then 1 else 0) := by
  unfold spec_l6One.f
  split <;> rfl
theorem truth_eq (K : Nat) (b : Bool) : impl_truth.f K b = some (if b = true then 1 else 0) := by
  unfold impl_truth.f
  split <;> rfl
theorem goal_eq (K : Nat) (g : Int × Int) : ∃ b, spec_l6Goal.f K g = some b ∧ impl_IsGoal.f K g = some b ∧ (b = true → 1 ≤ g.1 ∧ g.1 ≤ 5) := by
  unfold spec_l6Goal.f impl_IsGoal.f
  rw [in_within]
  simp only [in_eq, some_bind]
  by_cases h1 : g.1 = 2
  · exact ⟨_, by rw [if_pos h1], by rw [if_pos h1], fun _ => by omega⟩
  · by_cases h2 : g.1 = 3
    · exact ⟨_, by rw [if_neg h1, if_pos h2], by rw [if_neg h1, if_pos h2], fun _ => by omega⟩
    · by_cases h3 : 1 ≤ g.1 ∧ g.1 ≤ 5
      · exact ⟨_, by rw [if_neg h1, if_neg h2, if_pos (decide_eq_true h3)], by rw [if_neg h1, if_neg h2, if_pos (decide_eq_true h3)], fun _ => h3⟩
      · exact ⟨false, by rw [if_neg h1, if_neg h2]; simp [h3], by rw [if_neg h1, if_neg h2]; simp [h3], by simp⟩
set_option maxHeartbeats 4000000 in
theorem score_same (K : Nat) (hK : 10 ≤ K) (g : Int × Int) (hg : 1 ≤ g.1 ∧ g.1 ≤ 5) (l : List Int) (h0 : 1 ≤ l.length) (h3 : l.length ≤ 3) (hf : ∀ z ∈ l, 0 ≤ z ∧ z ≤ 30) : spec_l6Score.f K g l = impl_Goal_score.f K g l ∧ ∃ r, impl_Goal_score.f K g l = some r := by
  obtain ⟨k, rfl⟩ := Nat.exists_eq_add_of_le (show 5 ≤ K by omega)
  have e : 5 + k = k + 1 + 1 + 1 + 1 + 1 := by omega
  have e1 : wrap64 (0 + 1) = 1 := by decide +kernel
  have e2 : wrap64 (1 + 1) = 2 := by decide +kernel
  have e3 : wrap64 (2 + 1) = 3 := by decide +kernel
  have e4 : wrap64 1 = 1 := by decide +kernel
  have e5 : wrap64 2 = 2 := by decide +kernel
  have e6 : wrap64 3 = 3 := by decide +kernel
  unfold spec_l6Score.f impl_Goal_score.f impl_total.f slices_Max_int_int.f slices_Min_int_int.f
  rw [e]
  obtain ⟨t, b⟩ := g
  match l, h0, h3, hf with
  | [x], _, _, hf =>
    have hx := hf x (by simp)
    rcases (show t = 1 ∨ t = 2 ∨ t = 3 ∨ t = 4 ∨ t = 5 by simp at hg; omega) with rfl | rfl | rfl | rfl | rfl <;>
    · simp [spec_l6Score.l0, impl_total.l0, slices_Max_int_int.l0, slices_Min_int_int.l0, most_eq, one_eq, truth_eq, some_bind, e1, e2, e3, e4, e5, e6]
      try (repeat' split)
      all_goals (try omega)
  | [x, y], _, _, hf =>
    have hx := hf x (by simp)
    have hy := hf y (by simp)
    rcases (show t = 1 ∨ t = 2 ∨ t = 3 ∨ t = 4 ∨ t = 5 by simp at hg; omega) with rfl | rfl | rfl | rfl | rfl <;>
    · simp [spec_l6Score.l0, impl_total.l0, slices_Max_int_int.l0, slices_Min_int_int.l0, most_eq, one_eq, truth_eq, some_bind, e1, e2, e3, e4, e5, e6]
      try (repeat' split)
      all_goals (try omega)
  | [x, y, z], _, _, hf =>
    have hx := hf x (by simp)
    have hy := hf y (by simp)
    have hz := hf z (by simp)
    by_cases hyx : y = x <;>
    · rcases (show t = 1 ∨ t = 2 ∨ t = 3 ∨ t = 4 ∨ t = 5 by simp at hg; omega) with rfl | rfl | rfl | rfl | rfl <;>
      · simp [spec_l6Score.l0, impl_total.l0, slices_Max_int_int.l0, slices_Min_int_int.l0, most_eq, one_eq, truth_eq, some_bind, e1, e2, e3, e4, e5, e6, hyx]
        try (repeat' split)
        all_goals (try omega)
def dieP (a : Ar 6) : Prop := ((0 ≤ a.get 0 ∧ a.get 0 ≤ 30) ∧ (0 ≤ a.get 1 ∧ a.get 1 ≤ 30) ∧ (0 ≤ a.get 2 ∧ a.get 2 ≤ 30) ∧ (0 ≤ a.get 3 ∧ a.get 3 ≤ 30) ∧ (0 ≤ a.get 4 ∧ a.get 4 ≤ 30) ∧ (0 ≤ a.get 5 ∧ a.get 5 ≤ 30)) ∧ (a.get 0 ≤ a.get 1 ∧ a.get 1 ≤ a.get 2 ∧ a.get 2 ≤ a.get 3 ∧ a.get 3 ≤ a.get 4 ∧ a.get 4 ≤ a.get 5)
instance (a : Ar 6) : Decidable (dieP a) := by unfold dieP; infer_instance
def dieB (a : Ar 6) : Bool := decide (dieP a)
theorem die_get (x y z u v w : Int) : (Ar.get (⟨[x, y, z, u, v, w], rfl⟩ : Ar 6) 0 = x ∧ Ar.get (⟨[x, y, z, u, v, w], rfl⟩ : Ar 6) 1 = y ∧ Ar.get (⟨[x, y, z, u, v, w], rfl⟩ : Ar 6) 2 = z) ∧ (Ar.get (⟨[x, y, z, u, v, w], rfl⟩ : Ar 6) 3 = u ∧ Ar.get (⟨[x, y, z, u, v, w], rfl⟩ : Ar 6) 4 = v ∧ Ar.get (⟨[x, y, z, u, v, w], rfl⟩ : Ar 6) 5 = w) := ⟨⟨rfl, rfl, rfl⟩, rfl, rfl, rfl⟩
set_option maxHeartbeats 4000000 in
theorem die_spec (K : Nat) (hK : 2000000 ≤ K) (a : Ar 6) : spec_l2Die.f K a = some (dieB a) := by
  obtain ⟨k, rfl⟩ := Nat.exists_eq_add_of_le (show 8 ≤ K by omega)
  obtain ⟨x, y, z, u, v, w, rfl⟩ := Ar.cases6 a
  have e : 8 + k = k + 1 + 1 + 1 + 1 + 1 + 1 + 1 + 1 := by omega
  unfold spec_l2Die.f dieB dieP
  obtain ⟨⟨g0, g1, g2⟩, g3, g4, g5⟩ := die_get x y z u v w
  rw [e]
  simp only [spec_l2Die.l0, in_within, in_eq, some_bind, show (0 : Int) < 6 by decide, show wrap64 (0 + 1) = 1 by decide +kernel, show wrap64 (1 + 1) = 2 by decide +kernel, show wrap64 (2 + 1) = 3 by decide +kernel, show wrap64 (3 + 1) = 4 by decide +kernel, show wrap64 (4 + 1) = 5 by decide +kernel, show wrap64 (5 + 1) = 6 by decide +kernel, show wrap64 (1 - 1) = 0 by decide +kernel, show wrap64 (2 - 1) = 1 by decide +kernel, show wrap64 (3 - 1) = 2 by decide +kernel, show wrap64 (4 - 1) = 3 by decide +kernel, show wrap64 (5 - 1) = 4 by decide +kernel, g0, g1, g2, g3, g4, g5, decide_eq_true_eq]
  simp
  repeat' split
  all_goals simp_all
  all_goals omega
set_option maxHeartbeats 4000000 in
theorem die_impl (K : Nat) (hK : 2000000 ≤ K) (a : Ar 6) : impl_IsDie.f K a = some (dieB a) := by
  obtain ⟨x, y, z, u, v, w, rfl⟩ := Ar.cases6 a
  unfold impl_IsDie.f dieB dieP
  rw [allFace_eq K hK _ (by simp)]
  obtain ⟨k, rfl⟩ := Nat.exists_eq_add_of_le (show 8 ≤ K by omega)
  have e : 8 + k = k + 1 + 1 + 1 + 1 + 1 + 1 + 1 + 1 := by omega
  obtain ⟨⟨g0, g1, g2⟩, g3, g4, g5⟩ := die_get x y z u v w
  unfold slices_IsSorted_int_int.f
  rw [e]
  simp [slices_IsSorted_int_int.l0, cmp_Less_int.f, cmp_isNaN_int.f, some_bind, show wrap64 (6 - 1) = 5 by decide +kernel, show wrap64 5 = 5 by decide +kernel, show wrap64 (5 - 1) = 4 by decide +kernel, show wrap64 (4 - 1) = 3 by decide +kernel, show wrap64 (3 - 1) = 2 by decide +kernel, show wrap64 (2 - 1) = 1 by decide +kernel, show wrap64 (1 - 1) = 0 by decide +kernel, show wrap64 4 = 4 by decide +kernel, show wrap64 3 = 3 by decide +kernel, show wrap64 2 = 2 by decide +kernel, show wrap64 1 = 1 by decide +kernel, show wrap64 0 = 0 by decide +kernel, g0, g1, g2, g3, g4, g5, faceB]
  repeat' split
  all_goals simp_all
  all_goals omega
theorem IsDie_eq (K : Nat) (hK : 2000000 ≤ K) (a : Ar 6) : impl_IsDie.f K a = some (dieB a) := die_impl K hK a
theorem allDie_l0 (K : Nat) (hK : 2000000 ≤ K) (l : List (Ar 6)) (h : l.length ≤ 1073741824) : ∀ (k n : Nat), n ≤ l.length → l.length - n < k →
    (slices_IndexFunc_6_int_6_int__areAll_6_int_1_IsDie.l0 K l k (n : Int) = some (Sum.inl ()) ∧ (l.drop n).all dieB = true) ∨ (∃ i : Int, 0 ≤ i ∧ slices_IndexFunc_6_int_6_int__areAll_6_int_1_IsDie.l0 K l k (n : Int) = some (Sum.inr i) ∧ (l.drop n).all dieB = false) := by
  intro k
  induction k with
  | zero => intro n h1 h2; omega
  | succ k ih =>
    intro n h1 h2
    rw [slices_IndexFunc_6_int_6_int__areAll_6_int_1_IsDie.l0]
    by_cases hn : (n : Int) < (l.length : Int)
    · have hn' : n < l.length := by omega
      have hnn : ((n : Int)).toNat = n := by omega
      have hd : l.drop n = l[n] :: l.drop (n + 1) := List.drop_eq_getElem_cons hn'
      have hg : l.getD n (Ar.zero 6) = l[n] := by rw [List.getD_eq_getElem?_getD, List.getElem?_eq_getElem hn']; rfl
      rw [if_pos hn, if_pos (by omega), w1 n (by omega), hnn, hg, impl_areAll_6_int_1__IsDie.f, IsDie_eq K hK, hd]
      simp only [some_bind, List.all_cons]
      rcases Bool.eq_false_or_eq_true (dieB l[n]) with e | e
      · rw [e]
        simp only [Bool.not_true, Bool.false_eq_true, if_false, Bool.true_and]
        exact ih (n + 1) (by omega) (by omega)
      · rw [e]
        simp only [Bool.not_false, if_true, Bool.false_and]
        exact .inr ⟨_, by omega, rfl, trivial⟩
    · rw [if_neg hn]
      have : n = l.length := by omega
      subst this
      exact .inl ⟨rfl, by simp⟩
theorem allDie_eq (K : Nat) (hK : 2000000 ≤ K) (l : List (Ar 6)) (h : l.length ≤ 1048576) : impl_areAll_6_int__IsDie.f K l = some (l.all dieB) := by
  unfold impl_areAll_6_int__IsDie.f slices_ContainsFunc_6_int_6_int__areAll_6_int_1_IsDie.f slices_IndexFunc_6_int_6_int__areAll_6_int_1_IsDie.f
  rcases allDie_l0 K hK l (by omega) K 0 (by omega) (by omega) with ⟨h1, h2⟩ | ⟨i, hi, h1, h2⟩
  · rw [show (0 : Int) = ((0 : Nat) : Int) from rfl, h1]
    simp only [some_bind, List.drop_zero] at h2 ⊢
    rw [h2]; rfl
  · rw [show (0 : Int) = ((0 : Nat) : Int) from rfl, h1]
    simp only [some_bind, List.drop_zero] at h2 ⊢
    rw [h2]
    have : decide (((0 : Nat) : Int) ≤ i) = true := decide_eq_true (by simpa using hi)
    rw [this]; rfl
theorem capDie_l0 (K : Nat) (hK : 2000000 ≤ K) (l : List (Ar 6)) (h : l.length ≤ 1073741824) : ∀ (k n : Nat), n ≤ l.length → l.length - n < k →
    (spec_l2Pool.l0 K l k (n : Int) = some (Sum.inl ()) ∧ ((l.length : Int) ≤ 4 → (l.drop n).all dieB = true)) ∨ (spec_l2Pool.l0 K l k (n : Int) = some (Sum.inr false) ∧ (l.drop n).all dieB = false) := by
  intro k
  induction k with
  | zero => intro n h1 h2; omega
  | succ k ih =>
    intro n h1 h2
    rw [spec_l2Pool.l0]
    by_cases hn : (n : Int) < (l.length : Int)
    · rw [if_pos hn]
      by_cases hc : (n : Int) ≤ 4
      · have hn' : n < l.length := by omega
        have hnn : ((n : Int)).toNat = n := by omega
        have hd : l.drop n = l[n] :: l.drop (n + 1) := List.drop_eq_getElem_cons hn'
        have hg : l.getD n (Ar.zero 6) = l[n] := by rw [List.getD_eq_getElem?_getD, List.getElem?_eq_getElem hn']; rfl
        rw [if_pos hc, if_pos (by omega), w1 n (by omega), hnn, hg, die_spec K hK, hd]
        simp only [some_bind, List.all_cons]
        rcases Bool.eq_false_or_eq_true (dieB l[n]) with e | e
        · rw [e]
          simp only [if_true, Bool.true_and]
          exact ih (n + 1) (by omega) (by omega)
        · rw [e]
          simp only [Bool.false_eq_true, if_false, Bool.false_and]
          exact .inr ⟨trivial, trivial⟩
      · rw [if_neg hc]
        exact .inl ⟨rfl, fun h => by omega⟩
    · rw [if_neg hn]
      have : n = l.length := by omega
      subst this
      exact .inl ⟨rfl, by simp⟩
def poolB (l : List (Ar 6)) : Bool := decide ((1 : Int) ≤ l.length ∧ (l.length : Int) ≤ 4) && l.all dieB
theorem pool_spec (K : Nat) (hK : 2000000 ≤ K) (l : List (Ar 6)) (h : l.length ≤ 1048576) : spec_l2Pool.f K l = some (poolB l) := by
  unfold spec_l2Pool.f poolB
  rcases capDie_l0 K hK l (by omega) K 0 (by omega) (by omega) with ⟨h1, h2⟩ | ⟨h1, h2⟩
  · rw [show (0 : Int) = ((0 : Nat) : Int) from rfl, h1, in_within]
    simp only [some_bind, List.drop_zero, in_eq] at h2 ⊢
    by_cases hc : (l.length : Int) ≤ 4
    · rw [h2 hc]; simp [hc]
    · simp [hc]
  · rw [show (0 : Int) = ((0 : Nat) : Int) from rfl, h1]
    simp only [some_bind, List.drop_zero] at h2 ⊢
    rw [h2]; simp
theorem pool_impl (K : Nat) (hK : 2000000 ≤ K) (l : List (Ar 6)) (h : l.length ≤ 1048576) : impl_IsPool.f K l = some (poolB l) := by
  unfold impl_IsPool.f poolB
  rw [in_eq, allDie_eq K hK l h]
  simp only [some_bind]
  by_cases hc : (1 : Int) ≤ l.length ∧ (l.length : Int) ≤ 4 <;> simp [hc]
theorem pool_good (l : List (Ar 6)) (h : poolB l = true) : (1 ≤ l.length ∧ l.length ≤ 4) ∧ ∀ a ∈ l, dieB a = true := by
  unfold poolB at h
  simp only [Bool.and_eq_true, decide_eq_true_eq, List.all_eq_true] at h
  exact ⟨by omega, h.2⟩
theorem all_power : spec_l2All.f = impl_power.f := by kernel_rfl
theorem pow_lt (n : Nat) (h : n ≤ 22) : (6 : Int) ^ n ≤ 131621703842267136 := by
  have : (6 : Nat) ^ n ≤ 6 ^ 22 := Nat.pow_le_pow_right (by omega) h
  have h2 : ((6 ^ n : Nat) : Int) ≤ ((6 ^ 22 : Nat) : Int) := by exact_mod_cast this
  simpa using h2
theorem pow_pos (n : Nat) : (1 : Int) ≤ 6 ^ n := by
  have : 1 ≤ (6 : Nat) ^ n := Nat.one_le_pow _ _ (by omega)
  have h2 : ((1 : Nat) : Int) ≤ ((6 ^ n : Nat) : Int) := by exact_mod_cast this
  simpa using h2
theorem power_l0 (K : Nat) (n : Nat) (hn : n ≤ 22) : ∀ (k i : Nat), i ≤ n → n - i < k → impl_power.l0 K (n : Int) k ((6 : Int) ^ i) (i : Int) = some ((6 : Int) ^ n) := by
  intro k
  induction k with
  | zero => intro i h1 h2; omega
  | succ k ih =>
    intro i h1 h2
    rw [impl_power.l0]
    by_cases h : (i : Int) < (n : Int)
    · have hp := pow_lt (i + 1) (by omega)
      have hq := pow_pos (i + 1)
      have e : (6 : Int) ^ i * 6 = 6 ^ (i + 1) := (Int.pow_succ 6 i).symm
      rw [if_pos h, e, w64 (n := (6 : Int) ^ (i + 1)) (by omega) (by omega), w64 (n := (i : Int) + 1) (by omega) (by omega), show (i : Int) + 1 = ((i + 1 : Nat) : Int) by omega]
      exact ih (i + 1) (by omega) (by omega)
    · rw [if_neg h, show i = n by omega]
theorem power_eq (K : Nat) (hK : 30 ≤ K) (n : Nat) (hn : n ≤ 22) : impl_power.f K (n : Int) = some ((6 : Int) ^ n) := by
  unfold impl_power.f
  rw [show impl_power.l0 K (n : Int) K 1 0 = some ((6 : Int) ^ n) from power_l0 K n hn K 0 (by omega) (by omega)]
  rfl
theorem toA6 (K : Nat) (hK : 8 ≤ K) (a : Ar 6) : laws_toIntA6.f K a = some a := by
  obtain ⟨k, rfl⟩ := Nat.exists_eq_add_of_le hK
  obtain ⟨x, y, z, u, v, w, rfl⟩ := Ar.cases6 a
  have e : 8 + k = k + 1 + 1 + 1 + 1 + 1 + 1 + 1 + 1 := by omega
  unfold laws_toIntA6.f
  rw [e]
  simp only [laws_toIntA6.l0, show (0 : Int) < 6 by decide, show wrap64 (0 + 1) = 1 by decide +kernel, show wrap64 (1 + 1) = 2 by decide +kernel, show wrap64 (2 + 1) = 3 by decide +kernel, show wrap64 (3 + 1) = 4 by decide +kernel, show wrap64 (4 + 1) = 5 by decide +kernel, show wrap64 (5 + 1) = 6 by decide +kernel, if_true, show (0 : Int) ≤ 0 ∧ True by decide]
  rfl
theorem toA6S_l0 (K : Nat) (hK : 8 ≤ K) (l : List (Ar 6)) (h : l.length ≤ 1073741824) : ∀ (k n : Nat) (out : List (Ar 6)), out.length = l.length → out.take n = l.take n → n ≤ l.length → l.length - n < k → laws_toIntA6S.l0 K l k (n : Int) out = some l := by
  intro k
  induction k with
  | zero => intro n out h1 h2 h3 h4; omega
  | succ k ih =>
    intro n out h1 h2 h3 h4
    rw [laws_toIntA6S.l0]
    by_cases hn : (n : Int) < (l.length : Int)
    · have hn' : n < l.length := by omega
      rw [if_pos hn, if_pos (by omega), toA6 K hK, some_bind, if_pos (by omega), w1 n (by omega)]
      refine ih (n + 1) _ (by simp [h1]) ?_ (by omega) (by omega)
      have hnn : ((n : Int)).toNat = n := by omega
      rw [hnn, List.take_add_one, List.take_add_one, List.take_set_of_le (Nat.le_refl n), h2]
      rw [List.getElem?_set_self (by omega)]
      congr 1
      rw [List.getD_eq_getElem?_getD, List.getElem?_eq_getElem hn']
      rfl
    · rw [if_neg hn]
      have : n = l.length := by omega
      subst this
      rw [← h1, List.take_length, h1, List.take_length] at h2
      rw [h2]
theorem toA6S (K : Nat) (l : List (Ar 6)) (h : l.length ≤ 1048576) (hK : 2000000 ≤ K) : laws_toIntA6S.f K l = some l := by
  unfold laws_toIntA6S.f
  rw [if_pos (by omega), show (0 : Int) = ((0 : Nat) : Int) from rfl, toA6S_l0 K (by omega) l (by omega) K 0 _ (by simp) (by simp) (by omega) (by omega)]
  rfl
theorem sizeA6S (K : Nat) (l : List (Ar 6)) (h : l.length ≤ maxLen) : (laws_szIntA6S.f K l 1048576 = some (-1) ∧ 1048576 < l.length) ∨ (∃ r : Int, 0 ≤ r ∧ laws_szIntA6S.f K l 1048576 = some r ∧ l.length ≤ 1048576) := by
  have hm : l.length ≤ 2 ^ 63 - 1 := h
  unfold laws_szIntA6S.f
  have e : wrap64 (1048576 - (l.length : Int)) = 1048576 - (l.length : Int) := w64 (by omega) (by omega)
  rw [e]
  by_cases hc : (1048576 : Int) - (l.length : Int) < 0
  · rw [if_pos hc]; exact .inl ⟨rfl, by omega⟩
  · rw [if_neg hc]; exact .inr ⟨_, by omega, rfl, by omega⟩
theorem eqA6 (K : Nat) (hK : 8 ≤ K) (a : Ar 6) : laws_eqIntA6.f K a a = some true := by
  obtain ⟨k, rfl⟩ := Nat.exists_eq_add_of_le hK
  rw [show 8 + k = k + 1 + 1 + 1 + 1 + 1 + 1 + 1 + 1 by omega]
  simp [laws_eqIntA6.f, laws_eqIntA6.l0, wrap64]
theorem eqA6S_l0 (K : Nat) (hK : 8 ≤ K) (l : List (Ar 6)) (h : l.length ≤ 1073741824) : ∀ (k n : Nat), n ≤ l.length → l.length - n < k → laws_eqIntA6S.l0 K l l k (n : Int) = some (Sum.inl ()) := by
  intro k
  induction k with
  | zero => intro n h1 h2; omega
  | succ k ih =>
    intro n h1 h2
    rw [laws_eqIntA6S.l0]
    by_cases hn : (n : Int) < (l.length : Int)
    · rw [if_pos hn, if_pos (by omega), if_pos (by omega), eqA6 K hK, some_bind, if_pos rfl, w1 n (by omega)]
      exact ih (n + 1) (by omega) (by omega)
    · rw [if_neg hn]
theorem eqA6S (K : Nat) (l : List (Ar 6)) (h : l.length ≤ 1048576) (hK : 2000000 ≤ K) : laws_eqIntA6S.f K l l = some true := by
  unfold laws_eqIntA6S.f
  rw [if_pos rfl, show (0 : Int) = ((0 : Nat) : Int) from rfl, eqA6S_l0 K (by omega) l (by omega) K 0 (by omega) (by omega)]
  rfl
theorem eqA2 (K : Nat) (hK : 3 ≤ K) (a : Ar 2) : laws_eqIntA2.f K a a = some true := by
  obtain ⟨k, rfl⟩ := Nat.exists_eq_add_of_le hK
  rw [show 3 + k = k + 1 + 1 + 1 by omega]
  simp [laws_eqIntA2.f, laws_eqIntA2.l0, wrap64]

theorem roll_roll : spec_l2Roll.f = impl_rollAt.f := by kernel_rfl
theorem roll_l0 (K : Nat) (l : List (Ar 6)) (h8 : l.length ≤ 8) : ∀ (k n : Nat) (v : Int) (out : List Int), n ≤ l.length → n < k → 0 ≤ v → v ≤ 1000000 → out.length = l.length → ∃ o, impl_rollAt.l0 K l k v ((n : Int) - 1) out = some o ∧ o.length = l.length := by
  intro k
  induction k with
  | zero => intro n v out h1 h2; omega
  | succ k ih =>
    intro n v out h1 h2 h3 h4 h5
    rw [impl_rollAt.l0]
    by_cases hn : n = 0
    · subst hn
      rw [if_neg (by decide)]
      exact ⟨out, rfl, h5⟩
    · obtain ⟨p, rfl⟩ : ∃ p, n = p + 1 := ⟨n - 1, by omega⟩
      have e : ((p + 1 : Nat) : Int) - 1 = (p : Int) := by omega
      have c0 : (0 : Int) ≤ (p : Int) := by omega
      have c1 : (0 : Int) ≤ (p : Int) ∧ (p : Int) < (l.length : Int) := by omega
      have c2 : (0 : Int) ≤ v.tmod 6 ∧ v.tmod 6 < 6 := by
        have := Int.tmod_nonneg (a := v) 6 h3
        have := Int.tmod_lt_of_pos v (b := 6) (by omega)
        omega
      have c3 : (0 : Int) ≤ (p : Int) ∧ (p : Int) < (out.length : Int) := by omega
      have d0 : 0 ≤ v.tdiv 6 := Int.tdiv_nonneg h3 (by omega)
      have d1 : v.tdiv 6 ≤ v := Int.tdiv_le_self _ h3
      have f1 : p ≤ l.length := by omega
      have f2 : p < k := by omega
      have f3 : v.tdiv 6 ≤ 1000000 := by omega
      have e1 : wrap64 (v.tdiv 6) = v.tdiv 6 := w64 (by omega) (by omega)
      have e2 : wrap64 ((p : Int) - 1) = (p : Int) - 1 := by clear e1; exact w64 (by omega) (by omega)
      rw [e, if_pos c0, if_pos c1, if_pos c2, if_pos c3, e1, e2]
      exact ih p _ _ f1 f2 d0 f3 (by rw [List.length_set]; exact h5)
def put (num w k : Nat) : Nat := num - num / w % 6 * w + k * w
def combo (N w : Nat) : Prop := (N = 6 ∧ w = 1) ∨ (N = 36 ∧ w = 6) ∨ (N = 36 ∧ w = 1) ∨ (N = 216 ∧ w = 36) ∨ (N = 216 ∧ w = 6) ∨ (N = 216 ∧ w = 1)
theorem put_lt (N w num k : Nat) (h : combo N w) (h1 : num < N) (hk : k < 6) : put num w k < N := by
  unfold put
  rcases h with ⟨rfl, rfl⟩ | ⟨rfl, rfl⟩ | ⟨rfl, rfl⟩ | ⟨rfl, rfl⟩ | ⟨rfl, rfl⟩ | ⟨rfl, rfl⟩ <;> omega
theorem combo_few (N w : Nat) (h : combo N w) : 1 ≤ w ∧ w ≤ 36 ∧ N ≤ 216 := by
  rcases h with ⟨rfl, rfl⟩ | ⟨rfl, rfl⟩ | ⟨rfl, rfl⟩ | ⟨rfl, rfl⟩ | ⟨rfl, rfl⟩ | ⟨rfl, rfl⟩ <;> omega
theorem combo_of (n i : Nat) (hn : 1 ≤ n ∧ n ≤ 3) (hi : i < n) : combo (6 ^ n) (6 ^ (n - 1 - i)) := by
  unfold combo
  rcases (show (n = 1 ∧ i = 0) ∨ (n = 2 ∧ i = 0) ∨ (n = 2 ∧ i = 1) ∨ (n = 3 ∧ i = 0) ∨ (n = 3 ∧ i = 1) ∨ (n = 3 ∧ i = 2) by omega) with ⟨rfl, rfl⟩ | ⟨rfl, rfl⟩ | ⟨rfl, rfl⟩ | ⟨rfl, rfl⟩ | ⟨rfl, rfl⟩ | ⟨rfl, rfl⟩ <;> simp
def sbit (set i : Nat) : Bool := decide (Go.bits .and .i64 ((set : Int).fdiv (2 ^ (min (i : Int).toNat 64))) 1 = 1)
theorem sbit_zero : ∀ (s : Fin 8) (i : Fin 3), (Go.bits .and .i64 ((s.val : Int).fdiv (2 ^ (min (i.val : Int).toNat 64))) 1 = 0) = (sbit s.val i.val = false) := by
  intro s i
  apply propext
  revert s i
  decide +kernel
def FS (n set : Nat) (f : Nat → Int) : Nat → Nat → Int
  | 0 => f
  | i + 1 => fun num => if sbit set i = true then sumN 6 (fun k => FS n set f i (put num (6 ^ (n - 1 - i)) k)) else 6 * FS n set f i num
def mg (n set : Nat) : Nat → Nat → Nat → Nat
  | 0, num, _ => num
  | i + 1, num, o => mg n set i (if sbit set i = true then put num (6 ^ (n - 1 - i)) (o % 6) else num) (o / 6)
theorem FS_mg (n set : Nat) (f : Nat → Int) : ∀ (i num : Nat), FS n set f i num = sumN (6 ^ i) (fun o => f (mg n set i num o))
  | 0, num => by simp [FS, sumN, mg]
  | i + 1, num => by
    have e : FS n set f (i + 1) num = sumN 6 (fun k => FS n set f i (if sbit set i = true then put num (6 ^ (n - 1 - i)) k else num)) := by
      rw [FS]
      by_cases hs : sbit set i = true
      · simp only [if_pos hs]
      · simp only [if_neg hs]
        rw [sumN_six]; omega
    rw [e, Nat.pow_succ, sumN_mul6]
    rw [sumN_congr 6 _ _ (fun k _ => FS_mg n set f i _), sumN_comm]
    apply sumN_congr
    intro q _
    apply sumN_congr
    intro k hk
    show _ = f (mg n set (i + 1) num (6 * q + k))
    rw [mg, show (6 * q + k) % 6 = k by omega, show (6 * q + k) / 6 = q by omega]
theorem mg_lt (n set : Nat) (hn : 1 ≤ n ∧ n ≤ 3) : ∀ (i num o : Nat), i ≤ n → num < 6 ^ n → mg n set i num o < 6 ^ n
  | 0, num, o, _, h => h
  | i + 1, num, o, hi, h => by
    rw [mg]
    apply mg_lt n set hn i _ _ (by omega)
    split
    · exact put_lt _ _ _ _ (combo_of n i hn (by omega)) h (Nat.mod_lt _ (by omega))
    · exact h
theorem FS_range (n set : Nat) (f : Nat → Int) (B : Int) (hB : 0 ≤ B) (hn : 1 ≤ n ∧ n ≤ 3) (h : ∀ j, j < 6 ^ n → 0 ≤ f j ∧ f j ≤ B) (i num : Nat) (hi : i ≤ n) (hnum : num < 6 ^ n) : 0 ≤ FS n set f i num ∧ FS n set f i num ≤ 216 * B := by
  rw [FS_mg]
  have := sumN_range (6 ^ i) (fun o => f (mg n set i num o)) B (fun o _ => h _ (mg_lt n set hn i num o hi hnum))
  have h6 : 6 ^ i ≤ 216 := by
    have : 6 ^ i ≤ 6 ^ 3 := Nat.pow_le_pow_right (by omega) (by omega)
    simpa using this
  refine ⟨this.1, Int.le_trans this.2 ?_⟩
  exact Int.mul_le_mul_of_nonneg_right (by omega) hB
/-! the reference's sums -/
theorem w6_eq (n i : Nat) (hn : 1 ≤ n ∧ n ≤ 3) (hi : i < n) : spec_l6Power.f 200000000 (n : Int) (i : Int) = some ((6 ^ (n - 1 - i) : Nat) : Int) := by
  unfold spec_l6Power.f
  have e : wrap64 (wrap64 ((n : Int) - 1) - (i : Int)) = ((n - 1 - i : Nat) : Int) := by
    rw [w64 (n := (n : Int) - 1) (by omega) (by omega), w64 (by omega) (by omega)]; omega
  rw [e, all_power, power_eq 200000000 (by omega) _ (by omega), some_bind]
  simp
theorem digit_eq (n i num : Nat) (hn : 1 ≤ n ∧ n ≤ 3) (hi : i < n) (hnum : num ≤ 1000) : spec_l6Digit.f 200000000 (n : Int) (num : Int) (i : Int) = some ((num / 6 ^ (n - 1 - i) % 6 : Nat) : Int) := by
  unfold spec_l6Digit.f
  have hp : 0 < 6 ^ (n - 1 - i) := Nat.pow_pos (by omega)
  rw [w6_eq n i hn hi, some_bind]
  generalize 6 ^ (n - 1 - i) = w at *
  have e1 : (num : Int).tdiv (w : Int) = ((num / w : Nat) : Int) := by rw [Int.tdiv_eq_ediv_of_nonneg (by omega)]; rfl
  have hle : num / w ≤ num := Nat.div_le_self _ _
  rw [if_pos (by omega), e1]
  generalize num / w = q at *
  rw [w64 (by omega) (by omega), Int.tmod_eq_emod_of_nonneg (by omega)]
  rfl
theorem idx_put (N w num k : Nat) (h : combo N w) (h1 : num < N) (hk : k < 6) : wrap64 (wrap64 ((num : Int) - wrap64 (((num / w % 6 : Nat) : Int) * (w : Int))) + wrap64 ((k : Int) * (w : Int))) = ((put num w k : Nat) : Int) := by
  unfold put
  rcases h with ⟨rfl, rfl⟩ | ⟨rfl, rfl⟩ | ⟨rfl, rfl⟩ | ⟨rfl, rfl⟩ | ⟨rfl, rfl⟩ | ⟨rfl, rfl⟩ <;>
  · rw [w64 (n := ((num / _ % 6 : Nat) : Int) * _) (by omega) (by omega), w64 (n := (k : Int) * _) (by omega) (by omega), w64 (n := (num : Int) - _) (by omega) (by omega), w64 (by omega) (by omega)]
    omega
theorem sums_l12 (N w num : Nat) (h : combo N w) (h1 : num < N) (L : List Int) (hL : L.length = N) (B : Int) (hB : 0 ≤ B ∧ B ≤ 100000000000000) (hr : ∀ j, j < N → 0 ≤ L.getD j 0 ∧ L.getD j 0 ≤ B) : ∀ (k x : Nat) (s : List Int), x ≤ 6 → 6 - x < k → s.length = N → s.getD num 0 = sumN x (fun q => L.getD (put num w q) 0) →
    spec_l6Sums.l12 200000000 L (w : Int) (num : Int) ((num / w % 6 : Nat) : Int) k (x : Int) s = some (s.set num (sumN 6 (fun q => L.getD (put num w q) 0))) := by
  intro k
  induction k with
  | zero => intro x s h1 h2; omega
  | succ k ih =>
    intro x s h2 h3 h4 h5
    rw [spec_l6Sums.l12]
    by_cases hx : x < 6
    · have hp := put_lt N w num x h h1 hx
      have hsr := sumN_range x (fun q => L.getD (put num w q) 0) B (fun i hi => hr _ (put_lt N w num i h h1 (by omega)))
      have hb : (x : Int) * B ≤ 6 * B := Int.mul_le_mul_of_nonneg_right (by omega) hB.1
      have hpr := hr _ hp
      rw [if_pos (by omega), idx_put N w num x h h1 hx, if_pos (by omega), if_pos (by omega), Int.toNat_natCast, Int.toNat_natCast, h5, w64 (n := sumN x _ + _) (by omega) (by omega), w1' x (by omega)]
      rw [ih (x + 1) _ (by omega) (by omega) (by simpa using h4) (by
        rw [List.getD_eq_getElem?_getD, List.getElem?_set_self (by omega)]
        rfl), List.set_set]
    · rw [if_neg (by omega)]
      have : x = 6 := by omega
      subst this
      rw [← h5]
      congr 1
      rw [getD_nat _ _ _ (by omega)]
      exact (List.set_getElem_self _).symm
def stepG (n set i : Nat) (L : List Int) (num : Nat) : Int := if sbit set i = true then sumN 6 (fun k => L.getD (put num (6 ^ (n - 1 - i)) k) 0) else 6 * L.getD num 0
theorem sums_l11 (n set i : Nat) (hn : 1 ≤ n ∧ n ≤ 3) (hset : set < 8) (hi : i < n) (L : List Int) (hL : L.length = 6 ^ n) (B : Int) (hB : 0 ≤ B ∧ B ≤ 100000000000000) (hr : ∀ j, j < 6 ^ n → 0 ≤ L.getD j 0 ∧ L.getD j 0 ≤ B) :
    spec_l6Sums.l11 200000000 (n : Int) (set : Int) (i : Int) L ((6 ^ (n - 1 - i) : Nat) : Int) 200000000 0 (List.replicate (6 ^ n) 0) = some ((List.range (6 ^ n)).map (stepG n set i L)) := by
  have hc := combo_of n i hn hi
  obtain ⟨hw1, hw2, hN⟩ := combo_few _ _ hc
  have hz : (Go.bits .and .i64 ((set : Int).fdiv (2 ^ (min (i : Int).toNat 64))) 1 = 0) = (sbit set i = false) := sbit_zero ⟨set, hset⟩ ⟨i, by omega⟩
  have key : ∀ (k num : Nat) (s : List Int), num ≤ 6 ^ n → 6 ^ n - num < k → s.length = 6 ^ n → (∀ j, j < 6 ^ n → s.getD j 0 = if j < num then stepG n set i L j else 0) →
      spec_l6Sums.l11 200000000 (n : Int) (set : Int) (i : Int) L ((6 ^ (n - 1 - i) : Nat) : Int) k (num : Int) s = some ((List.range (6 ^ n)).map (stepG n set i L)) := by
    intro k
    induction k with
    | zero => intro num s h1 h2; omega
    | succ k ih =>
      intro num s h1 h2 h3 h4
      rw [spec_l6Sums.l11, hL]
      have next : ∀ v, v = stepG n set i L num → num < 6 ^ n → ∀ j, j < 6 ^ n → (s.set num v).getD j 0 = if j < num + 1 then stepG n set i L j else 0 := by
        intro v hv hlt j hj
        rw [List.getD_eq_getElem?_getD, List.getElem?_set]
        by_cases hjn : num = j
        · subst hjn
          rw [if_pos rfl, if_pos (by omega), if_pos (by omega), hv]; rfl
        · rw [if_neg hjn, ← List.getD_eq_getElem?_getD, h4 j hj]
          by_cases hlt2 : j < num
          · rw [if_pos hlt2, if_pos (by omega)]
          · rw [if_neg hlt2, if_neg (by omega)]
      by_cases hnum : num < 6 ^ n
      · have hv := hr num hnum
        rw [if_pos (by omega), if_pos (by omega)]
        simp only [hz]
        by_cases hs : sbit set i = false
        · rw [if_pos hs, if_pos (by omega), if_pos (by omega), Int.toNat_natCast, w64 (n := 6 * _) (by omega) (by omega), w1' num (by omega)]
          refine ih (num + 1) _ (by omega) (by omega) (by simpa using h3) (next _ ?_ hnum)
          unfold stepG
          rw [if_neg (by rw [hs]; exact Bool.false_ne_true)]
        · have hs' : sbit set i = true := by simpa using hs
          rw [if_neg hs, digit_eq n i num hn hi (by omega), some_bind]
          have h0 : s.getD num 0 = sumN 0 (fun q => L.getD (put num (6 ^ (n - 1 - i)) q) 0) := by rw [h4 num hnum, if_neg (by omega)]; rfl
          have := sums_l12 (6 ^ n) (6 ^ (n - 1 - i)) num hc hnum L hL B hB hr 200000000 0 s (by omega) (by omega) h3 h0
          rw [show spec_l6Sums.l12 200000000 L ((6 ^ (n - 1 - i) : Nat) : Int) (num : Int) ((num / 6 ^ (n - 1 - i) % 6 : Nat) : Int) 200000000 0 s = _ from this, some_bind, w1' num (by omega)]
          refine ih (num + 1) _ (by omega) (by omega) (by simpa using h3) (next _ ?_ hnum)
          unfold stepG
          rw [if_pos hs']
      · rw [if_neg (by omega)]
        have hne : num = 6 ^ n := by omega
        congr 1
        apply List.ext_getElem?
        intro j
        by_cases hj : j < 6 ^ n
        · have := h4 j hj
          rw [if_pos (by omega), getD_nat _ _ _ (by omega)] at this
          rw [List.getElem?_eq_getElem (by omega), this]
          simp [hj]
        · rw [List.getElem?_eq_none (by omega), List.getElem?_eq_none (by simp; omega)]
  exact key 200000000 0 _ (by omega) (by omega) (by simp) (fun j hj => by
    rw [if_neg (by omega), getD_nat _ _ _ (by simpa using hj)]; simp)
theorem range_getD (N j : Nat) (g : Nat → Int) (hj : j < N) : ((List.range N).map g).getD j 0 = g j := by
  rw [getD_nat _ _ _ (by simpa using hj)]; simp
theorem stepG_FS (n set : Nat) (f : Nat → Int) (hn : 1 ≤ n ∧ n ≤ 3) (i : Nat) (hi : i < n) : (List.range (6 ^ n)).map (stepG n set i ((List.range (6 ^ n)).map (FS n set f i))) = (List.range (6 ^ n)).map (FS n set f (i + 1)) := by
  apply List.map_congr_left
  intro num hnum
  have hnum' : num < 6 ^ n := List.mem_range.1 hnum
  unfold stepG
  have e : FS n set f (i + 1) num = if sbit set i = true then sumN 6 (fun k => FS n set f i (put num (6 ^ (n - 1 - i)) k)) else 6 * FS n set f i num := rfl
  rw [e]
  by_cases hs : sbit set i = true
  · rw [if_pos hs, if_pos hs]
    apply sumN_congr
    intro k hk
    exact range_getD _ _ _ (put_lt _ _ _ _ (combo_of n i hn hi) hnum' hk)
  · rw [if_neg hs, if_neg hs, range_getD _ _ _ hnum']
theorem list_range (L : List Int) (N : Nat) (h : L.length = N) : L = (List.range N).map (fun j => L.getD j 0) := by
  apply List.ext_getElem?
  intro j
  by_cases hj : j < N
  · simp [hj, List.getElem?_eq_getElem (show j < L.length by omega)]
  · rw [List.getElem?_eq_none (by omega), List.getElem?_eq_none (by simp; omega)]
theorem pow6_few (n : Nat) (hn : n ≤ 3) : 1 ≤ 6 ^ n ∧ 6 ^ n ≤ 216 := by
  rcases (show n = 0 ∨ n = 1 ∨ n = 2 ∨ n = 3 by omega) with rfl | rfl | rfl | rfl <;> decide
theorem sums_eq (n set : Nat) (hn : 1 ≤ n ∧ n ≤ 3) (hset : set < 8) (L : List Int) (hL : L.length = 6 ^ n) (B : Int) (hB : 0 ≤ B ∧ B ≤ 400000000000) (hr : ∀ j, j < 6 ^ n → 0 ≤ L.getD j 0 ∧ L.getD j 0 ≤ B) :
    spec_l6Sums.f 200000000 (n : Int) L (set : Int) = some ((List.range (6 ^ n)).map (FS n set (fun j => L.getD j 0) n)) := by
  have hN := pow6_few n hn.2
  unfold spec_l6Sums.f spec_l1Own.f
  have h1 : ([] : List Int).length + L.length ≤ 1073741824 := by simp; omega
  rw [if_pos h1, some_bind, List.nil_append]
  have key : ∀ (k i : Nat), i ≤ n → n - i < k → spec_l6Sums.l8 200000000 (n : Int) (set : Int) k (i : Int) ((List.range (6 ^ n)).map (FS n set (fun j => L.getD j 0) i)) = some ((List.range (6 ^ n)).map (FS n set (fun j => L.getD j 0) n)) := by
    intro k
    induction k with
    | zero => intro i h1 h2; omega
    | succ k ih =>
      intro i h1 h2
      rw [spec_l6Sums.l8]
      by_cases hi : i < n
      · have hlen : ((List.range (6 ^ n)).map (FS n set (fun j => L.getD j 0) i)).length = 6 ^ n := by simp
        have hs := sums_l11 n set i hn hset hi _ hlen (216 * B) (by omega) (fun j hj => by
          rw [range_getD _ _ _ hj]
          exact FS_range n set _ B hB.1 hn hr i j (by omega) hj)
        rw [if_pos (by omega), hlen, if_pos (by omega), w6_eq n i hn hi, some_bind, Int.toNat_natCast, hs, some_bind, stepG_FS n set _ hn i hi, w1' i (by omega)]
        exact ih (i + 1) (by omega) (by omega)
      · rw [if_neg (by omega), show i = n by omega]
  have := key 200000000 0 (by omega) (by omega)
  rw [show (List.range (6 ^ n)).map (FS n set (fun j => L.getD j 0) 0) = L from (list_range L _ hL).symm] at this
  rw [show spec_l6Sums.l8 200000000 (n : Int) (set : Int) 200000000 0 L = _ from this]
  rfl
/-! the program's sums -/
theorem mrg_step (k set i num oth out wt : Nat) (hset : set < 8) (hi : i < 3) (hb : num ≤ 1000 ∧ oth ≤ 1000 ∧ out ≤ 1000000 ∧ wt ≤ 1000) : impl_again_merged__c.l0 200000000 (set : Int) (k + 1) (num : Int) (oth : Int) (out : Int) (wt : Int) (i : Int) = impl_again_merged__c.l0 200000000 (set : Int) k ((num / 6 : Nat) : Int) ((oth / 6 : Nat) : Int) ((out + (if sbit set i = true then oth % 6 else num % 6) * wt : Nat) : Int) ((wt * 6 : Nat) : Int) ((i : Int) - 1) := by
  have e1 : (num : Int).tdiv 6 = ((num / 6 : Nat) : Int) := by rw [Int.tdiv_eq_ediv_of_nonneg (by omega)]; rfl
  have e2 : (oth : Int).tdiv 6 = ((oth / 6 : Nat) : Int) := by rw [Int.tdiv_eq_ediv_of_nonneg (by omega)]; rfl
  have e3 : (num : Int).tmod 6 = ((num % 6 : Nat) : Int) := by rw [Int.tmod_eq_emod_of_nonneg (by omega)]; rfl
  have e4 : (oth : Int).tmod 6 = ((oth % 6 : Nat) : Int) := by rw [Int.tmod_eq_emod_of_nonneg (by omega)]; rfl
  have m1 : num % 6 * wt ≤ 5000 := by
    have : num % 6 * wt ≤ 5 * wt := Nat.mul_le_mul_right _ (by omega)
    omega
  have m2 : oth % 6 * wt ≤ 5000 := by
    have : oth % 6 * wt ≤ 5 * wt := Nat.mul_le_mul_right _ (by omega)
    omega
  rw [impl_again_merged__c.l0, if_pos (by omega), impl_isIn.f, if_pos (by omega), some_bind, e1, e2, e3, e4, w64 (n := ((num / 6 : Nat) : Int)) (by omega) (by omega), w64 (n := ((oth / 6 : Nat) : Int)) (by omega) (by omega), ← Int.natCast_mul, ← Int.natCast_mul, w64 (n := ((oth % 6 * wt : Nat) : Int)) (by omega) (by omega), w64 (n := ((num % 6 * wt : Nat) : Int)) (by omega) (by omega), w64 (n := (out : Int) + ((oth % 6 * wt : Nat) : Int)) (by omega) (by omega), w64 (n := (out : Int) + ((num % 6 * wt : Nat) : Int)) (by omega) (by omega), w64 (n := (wt : Int) * 6) (by omega) (by omega), w64 (n := (i : Int) - 1) (by omega) (by omega)]
  show (if sbit set i = true then _ else _) = _
  by_cases hs : sbit set i = true
  · simp only [if_pos hs]
    congr 1
  · simp only [if_neg hs]
    congr 1
theorem merged_eq (p : List (Ar 6)) (y : List (List Int)) (n set num oth : Nat) (hp : p.length = n) (hn : 1 ≤ n ∧ n ≤ 3) (hset : set < 8) (h1 : num < 6 ^ n) (h2 : oth < 6 ^ n) : impl_again_merged__c.f 200000000 p y (num : Int) (set : Int) (oth : Int) = some ((mg n set n num oth : Nat) : Int) := by
  unfold impl_again_merged__c.f
  have hN := pow6_few n hn.2
  have e : wrap64 ((p.length : Int) - 1) = ((n - 1 : Nat) : Int) := by rw [hp, w64 (by omega) (by omega)]; omega
  have stop : ∀ (k : Nat) (a b c d : Int), impl_again_merged__c.l0 200000000 (set : Int) (k + 1) a b c d (((0 : Nat) : Int) - 1) = some c := by
    intro k a b c d
    rw [impl_again_merged__c.l0, if_neg (by decide)]
  rw [e]
  rcases (show n = 1 ∨ n = 2 ∨ n = 3 by omega) with rfl | rfl | rfl
  · rw [show (200000000 : Nat) = 199999998 + 1 + 1 from rfl] at *
    have s1 := mrg_step (199999998 + 1) set 0 num oth 0 1 hset (by omega) (by omega)
    rw [show impl_again_merged__c.l0 (199999998 + 1 + 1) (set : Int) (199999998 + 1 + 1) (num : Int) (oth : Int) 0 1 ((1 - 1 : Nat) : Int) = _ from s1, stop, some_bind]
    congr 2
    simp only [mg, put]
    rcases Bool.eq_false_or_eq_true (sbit set 0) with h0 | h0 <;> simp [h0] <;> omega
  · have s1 := mrg_step 199999999 set 1 num oth 0 1 hset (by omega) (by omega)
    have hq : (if sbit set 1 = true then oth % 6 else num % 6) * 1 ≤ 5 := by split <;> omega
    have s2 := mrg_step 199999998 set 0 (num / 6) (oth / 6) (0 + (if sbit set 1 = true then oth % 6 else num % 6) * 1) (1 * 6) hset (by omega) (by omega)
    rw [show impl_again_merged__c.l0 200000000 (set : Int) 200000000 (num : Int) (oth : Int) 0 1 ((2 - 1 : Nat) : Int) = _ from s1]
    rw [show ((1 : Nat) : Int) - 1 = ((0 : Nat) : Int) from rfl]
    rw [show impl_again_merged__c.l0 200000000 (set : Int) 199999999 ((num / 6 : Nat) : Int) ((oth / 6 : Nat) : Int) ((0 + (if sbit set 1 = true then oth % 6 else num % 6) * 1 : Nat) : Int) ((1 * 6 : Nat) : Int) ((0 : Nat) : Int) = _ from s2, stop 199999997, some_bind]
    congr 2
    simp only [mg, put]
    rcases Bool.eq_false_or_eq_true (sbit set 0) with h0 | h0 <;> rcases Bool.eq_false_or_eq_true (sbit set 1) with h3 | h3 <;> simp [h0, h3] <;> omega
  · have s1 := mrg_step 199999999 set 2 num oth 0 1 hset (by omega) (by omega)
    have hq : (if sbit set 2 = true then oth % 6 else num % 6) * 1 ≤ 5 := by split <;> omega
    have s2 := mrg_step 199999998 set 1 (num / 6) (oth / 6) (0 + (if sbit set 2 = true then oth % 6 else num % 6) * 1) (1 * 6) hset (by omega) (by omega)
    have hq2 : (if sbit set 1 = true then oth / 6 % 6 else num / 6 % 6) * (1 * 6) ≤ 30 := by split <;> omega
    have s3 := mrg_step 199999997 set 0 (num / 6 / 6) (oth / 6 / 6) (0 + (if sbit set 2 = true then oth % 6 else num % 6) * 1 + (if sbit set 1 = true then oth / 6 % 6 else num / 6 % 6) * (1 * 6)) (1 * 6 * 6) hset (by omega) (by omega)
    rw [show impl_again_merged__c.l0 200000000 (set : Int) 200000000 (num : Int) (oth : Int) 0 1 ((3 - 1 : Nat) : Int) = _ from s1]
    rw [show ((2 : Nat) : Int) - 1 = ((1 : Nat) : Int) from rfl]
    rw [show impl_again_merged__c.l0 200000000 (set : Int) 199999999 ((num / 6 : Nat) : Int) ((oth / 6 : Nat) : Int) ((0 + (if sbit set 2 = true then oth % 6 else num % 6) * 1 : Nat) : Int) ((1 * 6 : Nat) : Int) ((1 : Nat) : Int) = _ from s2]
    rw [show ((1 : Nat) : Int) - 1 = ((0 : Nat) : Int) from rfl]
    rw [show impl_again_merged__c.l0 200000000 (set : Int) 199999998 ((num / 6 / 6 : Nat) : Int) ((oth / 6 / 6 : Nat) : Int) ((0 + (if sbit set 2 = true then oth % 6 else num % 6) * 1 + (if sbit set 1 = true then oth / 6 % 6 else num / 6 % 6) * (1 * 6) : Nat) : Int) ((1 * 6 * 6 : Nat) : Int) ((0 : Nat) : Int) = _ from s3, stop 199999996, some_bind]
    congr 2
    simp only [mg, put]
    rcases Bool.eq_false_or_eq_true (sbit set 0) with h0 | h0 <;> rcases Bool.eq_false_or_eq_true (sbit set 1) with h3 | h3 <;> rcases Bool.eq_false_or_eq_true (sbit set 2) with h4 | h4 <;> simp [h0, h3, h4] <;> omega
theorem die_faces (a : Ar 6) (h : dieB a = true) : ∀ z ∈ a.l, 0 ≤ z ∧ z ≤ 30 := by
  obtain ⟨x, y, z, u, v, w, rfl⟩ := Ar.cases6 a
  replace h := of_decide_eq_true h
  unfold dieP at h
  obtain ⟨⟨g0, g1, g2⟩, g3, g4, g5⟩ := die_get x y z u v w
  rw [g0, g1, g2, g3, g4, g5] at h
  intro t ht
  simp only [List.mem_cons, List.not_mem_nil, or_false] at ht
  omega
theorem powN (n : Nat) : ((6 ^ n : Nat) : Int) = (6 : Int) ^ n := by simp
theorem roll_faces_l0 (K : Nat) (l : List (Ar 6)) (hd : ∀ a ∈ l, dieB a = true) : ∀ (k : Nat) (v i : Int) (out o : List Int), (∀ z ∈ out, 0 ≤ z ∧ z ≤ 30) → impl_rollAt.l0 K l k v i out = some o → ∀ z ∈ o, 0 ≤ z ∧ z ≤ 30 := by
  intro k
  induction k with
  | zero => intro v i out o h1 h2; exact none_some h2
  | succ k ih =>
    intro v i out o h1 h2
    rw [impl_rollAt.l0] at h2
    by_cases hi : 0 ≤ i
    · rw [if_pos hi] at h2
      obtain ⟨c1, h2⟩ := ite_some h2
      obtain ⟨c2, h2⟩ := ite_some h2
      obtain ⟨c3, h2⟩ := ite_some h2
      refine ih _ _ _ _ (fun z hz => ?_) h2
      rcases List.mem_or_eq_of_mem_set hz with hz | hz
      · exact h1 z hz
      · subst hz
        have hin : i.toNat < l.length := by omega
        have hf := die_faces _ (hd _ (List.getElem_mem hin))
        apply hf
        rw [getD_nat _ _ _ hin]
        unfold Ar.get
        rw [getD_nat _ _ _ (by rw [Ar.h]; omega)]
        exact List.getElem_mem _
    · rw [if_neg hi] at h2
      rw [← some_some h2]
      exact h1
theorem roll_faces (K : Nat) (l : List (Ar 6)) (hd : ∀ a ∈ l, dieB a = true) (v : Int) (o : List Int) (h : impl_rollAt.f K l v = some o) : ∀ z ∈ o, 0 ≤ z ∧ z ≤ 30 := by
  unfold impl_rollAt.f at h
  obtain ⟨_, h⟩ := ite_some h
  obtain ⟨q, hq, h⟩ := bind_some h
  have := some_some h
  subst this
  refine roll_faces_l0 K l hd K _ _ _ _ (fun z hz => ?_) hq
  rw [(List.mem_replicate.1 hz).2]; omega
theorem roll_some6 (l : List (Ar 6)) (h4 : l.length ≤ 4) (v : Int) (h0 : 0 ≤ v) (h1 : v ≤ 1000000) : ∃ o, impl_rollAt.f 200000000 l v = some o ∧ o.length = l.length := by
  obtain ⟨o, o1, o2⟩ := roll_l0 200000000 l (by omega) 200000000 l.length v (List.replicate l.length 0) (Nat.le_refl _) (by omega) h0 (by omega) (by simp)
  have c : (0 : Int) ≤ (l.length : Int) ∧ (l.length : Int) ≤ 1073741824 := by omega
  have e2 : wrap64 ((l.length : Int) - 1) = (l.length : Int) - 1 := w64 (by omega) (by omega)
  refine ⟨o, ?_, o2⟩
  unfold impl_rollAt.f
  rw [if_pos c, e2, Int.toNat_natCast, o1]
  rfl
set_option maxHeartbeats 4000000 in
theorem score_range (K : Nat) (hK : 10 ≤ K) (g : Int × Int) (hg : 1 ≤ g.1 ∧ g.1 ≤ 5) (l : List Int) (h0 : 1 ≤ l.length) (h3 : l.length ≤ 3) (hf : ∀ z ∈ l, 0 ≤ z ∧ z ≤ 30) (r : Int) (h : impl_Goal_score.f K g l = some r) : 0 ≤ r ∧ r ≤ 90 := by
  obtain ⟨k, rfl⟩ := Nat.exists_eq_add_of_le (show 5 ≤ K by omega)
  have e : 5 + k = k + 1 + 1 + 1 + 1 + 1 := by omega
  have e1 : wrap64 (0 + 1) = 1 := by decide +kernel
  have e2 : wrap64 (1 + 1) = 2 := by decide +kernel
  have e3 : wrap64 (2 + 1) = 3 := by decide +kernel
  have e4 : wrap64 1 = 1 := by decide +kernel
  have e5 : wrap64 2 = 2 := by decide +kernel
  have e6 : wrap64 3 = 3 := by decide +kernel
  unfold impl_Goal_score.f impl_total.f slices_Max_int_int.f slices_Min_int_int.f at h
  rw [e] at h
  obtain ⟨t, b⟩ := g
  match l, h0, h3, hf with
  | [x], _, _, hf =>
    have hx := hf x (by simp)
    have a1 : wrap64 x = x := w64 (by omega) (by omega)
    rcases (show t = 1 ∨ t = 2 ∨ t = 3 ∨ t = 4 ∨ t = 5 by simp at hg; omega) with rfl | rfl | rfl | rfl | rfl <;>
    · simp [impl_total.l0, slices_Max_int_int.l0, slices_Min_int_int.l0, truth_eq, some_bind, e1, e2, e3, e4, e5, e6, a1] at h
      try (repeat' split at h)
      all_goals (try omega)
  | [x, y], _, _, hf =>
    have hx := hf x (by simp)
    have hy := hf y (by simp)
    have a1 : wrap64 x = x := w64 (by omega) (by omega)
    have a2 : wrap64 (x + y) = x + y := w64 (by omega) (by omega)
    rcases (show t = 1 ∨ t = 2 ∨ t = 3 ∨ t = 4 ∨ t = 5 by simp at hg; omega) with rfl | rfl | rfl | rfl | rfl <;>
    · simp [impl_total.l0, slices_Max_int_int.l0, slices_Min_int_int.l0, truth_eq, some_bind, e1, e2, e3, e4, e5, e6, a1, a2] at h
      try (repeat' split at h)
      all_goals (try omega)
  | [x, y, z], _, _, hf =>
    have hx := hf x (by simp)
    have hy := hf y (by simp)
    have hz := hf z (by simp)
    have a1 : wrap64 x = x := w64 (by omega) (by omega)
    have a2 : wrap64 (x + y) = x + y := w64 (by omega) (by omega)
    have a3 : wrap64 (x + y + z) = x + y + z := w64 (by omega) (by omega)
    rcases (show t = 1 ∨ t = 2 ∨ t = 3 ∨ t = 4 ∨ t = 5 by simp at hg; omega) with rfl | rfl | rfl | rfl | rfl <;>
    · simp [impl_total.l0, slices_Max_int_int.l0, slices_Min_int_int.l0, truth_eq, some_bind, e1, e2, e3, e4, e5, e6, a1, a2, a3] at h
      try (repeat' split at h)
      all_goals (try omega)
theorem outs_eq (p : List (Ar 6)) (y : List (List Int)) (n : Nat) (hp : p.length = n) (hn : n ≤ 3) : impl_again_outcomes__c.f 200000000 p y = some ((6 ^ n : Nat) : Int) := by
  unfold impl_again_outcomes__c.f
  rw [hp, power_eq 200000000 (by omega) n (by omega), powN]
  rfl
theorem sets_eq (p : List (Ar 6)) (y : List (List Int)) (n : Nat) (hp : p.length = n) (hn : 1 ≤ n ∧ n ≤ 3) : impl_again_sets__c.f 200000000 p y = some ((2 ^ n : Nat) : Int) := by
  unfold impl_again_sets__c.f
  rw [hp, if_pos (by omega)]
  rcases (show n = 1 ∨ n = 2 ∨ n = 3 by omega) with rfl | rfl | rfl <;> kernel_rfl
theorem shl_eq (n : Nat) (hn : 1 ≤ n ∧ n ≤ 3) : wrap64 (1 * 2 ^ (min ((n : Int) : Int).toNat 64)) = ((2 ^ n : Nat) : Int) := by
  rcases (show n = 1 ∨ n = 2 ∨ n = 3 by omega) with rfl | rfl | rfl <;> kernel_rfl
theorem pow2_few (n : Nat) (hn : 1 ≤ n ∧ n ≤ 3) : 2 ≤ 2 ^ n ∧ 2 ^ n ≤ 8 := by
  rcases (show n = 1 ∨ n = 2 ∨ n = 3 by omega) with rfl | rfl | rfl <;> decide
/-- Lists of values: so many, and none too great. -/
def okL (n : Nat) (B : Int) (L : List Int) : Prop := L.length = 6 ^ n ∧ ∀ j, j < 6 ^ n → 0 ≤ L.getD j 0 ∧ L.getD j 0 ≤ B
def SV (n : Nat) (L : List Int) (set num : Nat) : Int := FS n set (fun j => L.getD j 0) n num
theorem SV_range (n : Nat) (hn : 1 ≤ n ∧ n ≤ 3) (B : Int) (hB : 0 ≤ B) (L : List Int) (hL : okL n B L) (set num : Nat) (hnum : num < 6 ^ n) : 0 ≤ SV n L set num ∧ SV n L set num ≤ 216 * B :=
  FS_range n set _ B hB hn hL.2 n num (Nat.le_refl _) hnum
theorem value_eq (p : List (Ar 6)) (y : List (List Int)) (n set num r : Nat) (hp : p.length = n) (hn : 1 ≤ n ∧ n ≤ 3) (hset : set < 8) (hnum : num < 6 ^ n) (B : Int) (hB : 0 ≤ B ∧ B ≤ 400000000000) (hr : 1 ≤ r ∧ r ≤ y.length ∧ r ≤ 100) (hL : okL n B (y.getD (r - 1) [])) :
    impl_again_setValue__c.f 200000000 p y (num : Int) (set : Int) (r : Int) = some (SV n (y.getD (r - 1) []) set num) := by
  have hN := pow6_few n hn.2
  unfold impl_again_setValue__c.f
  have e : wrap64 ((r : Int) - 1) = ((r - 1 : Nat) : Int) := by rw [w64 (by omega) (by omega)]; omega
  rw [outs_eq p y n hp hn.2, some_bind]
  have a1 := loop_fold0 (fun k x (s : Int) => impl_again_setValue__c.l0 200000000 p y (num : Int) (set : Int) (r : Int) ((6 ^ n : Nat) : Int) k s x) (6 ^ n) (fun x s => s = sumN x (fun o => (y.getD (r - 1) []).getD (mg n set n num o) 0)) (fun o s => s + (y.getD (r - 1) []).getD (mg n set n num o) 0) some (by
    intro k x s hx hs
    have hm := mg_lt n set hn n num x (Nat.le_refl _) hnum
    have hv := hL.2 _ hm
    have hsr := sumN_range x (fun o => (y.getD (r - 1) []).getD (mg n set n num o) 0) B (fun i _ => hL.2 _ (mg_lt n set hn n num i (Nat.le_refl _) hnum))
    have hb : (x : Int) * B ≤ 216 * B := Int.mul_le_mul_of_nonneg_right (by omega) hB.1
    refine ⟨?_, by rw [hs]; rfl⟩
    rw [impl_again_setValue__c.l0, if_pos (by omega), e, if_pos (by omega), merged_eq p y n set num x hp hn hset hnum hx, some_bind, Int.toNat_natCast, Int.toNat_natCast, if_pos ⟨by omega, by rw [hL.1]; omega⟩, w1' x (by omega), hs, w64 (n := sumN x _ + _) (by omega) (by omega)]) (by
    intro k s hs
    rw [impl_again_setValue__c.l0, if_neg (by omega)]) 200000000 0 (by omega) rfl
  rw [show impl_again_setValue__c.l0 200000000 p y (num : Int) (set : Int) (r : Int) ((6 ^ n : Nat) : Int) 200000000 0 0 = _ from a1.1, a1.2]
  unfold SV
  rw [FS_mg]
  rfl
def mx (a b : Int) : Int := if b > a then b else a
theorem mx_other (a b : Int) : (if b < a then a else b) = mx a b := by unfold mx; split <;> split <;> omega
def MX (n : Nat) (L : List Int) (num : Nat) : Nat → Int
  | 0 => 0
  | s + 1 => mx (MX n L num s) (SV n L s num)
theorem MX_range (n : Nat) (hn : 1 ≤ n ∧ n ≤ 3) (B : Int) (hB : 0 ≤ B) (L : List Int) (hL : okL n B L) (num : Nat) (hnum : num < 6 ^ n) : ∀ s, 0 ≤ MX n L num s ∧ MX n L num s ≤ 216 * B
  | 0 => ⟨Int.le_refl _, by show (0 : Int) ≤ _; omega⟩
  | s + 1 => by
    have h1 := MX_range n hn B hB L hL num hnum s
    have h2 := SV_range n hn B hB L hL s num hnum
    rw [MX]
    unfold mx
    split <;> omega
def nextL (n : Nat) (L : List Int) : List Int := (List.range (6 ^ n)).map (fun num => MX n L num (2 ^ n))
theorem nextL_ok (n : Nat) (hn : 1 ≤ n ∧ n ≤ 3) (B : Int) (hB : 0 ≤ B) (L : List Int) (hL : okL n B L) : okL n (216 * B) (nextL n L) := by
  refine ⟨by simp [nextL], fun j hj => ?_⟩
  unfold nextL
  rw [range_getD _ _ _ hj]
  exact MX_range n hn B hB L hL j hj _
def VL (n : Nat) (L0 : List Int) : Nat → List Int
  | 0 => L0
  | k + 1 => nextL n (VL n L0 k)
theorem VL_ok (n : Nat) (hn : 1 ≤ n ∧ n ≤ 3) (L0 : List Int) (h : okL n 90 L0) (k : Nat) (hk : k ≤ 2) : okL n 4199040 (VL n L0 k) := by
  have w : ∀ (B C : Int) (L : List Int), B ≤ C → okL n B L → okL n C L := fun B C L hBC hL => ⟨hL.1, fun j hj => ⟨(hL.2 j hj).1, Int.le_trans (hL.2 j hj).2 hBC⟩⟩
  have h1 := nextL_ok n hn 90 (by omega) L0 h
  have h2 := nextL_ok n hn (216 * 90) (by omega) _ h1
  rcases (show k = 0 ∨ k = 1 ∨ k = 2 by omega) with rfl | rfl | rfl
  · exact w _ _ _ (by omega) h
  · exact w _ _ _ (by omega) h1
  · exact w _ _ _ (by omega) h2
theorem range_map_succ (g : Nat → Int) (x : Nat) : (List.range x).map g ++ [g x] = (List.range (x + 1)).map g := by
  rw [List.range_succ, List.map_append]; rfl
/-! the program's values -/
theorem next_impl (p : List (Ar 6)) (y : List (List Int)) (n r : Nat) (hp : p.length = n) (hn : 1 ≤ n ∧ n ≤ 3) (B : Int) (hB : 0 ≤ B ∧ B ≤ 400000000000) (hr : 1 ≤ r ∧ r ≤ y.length ∧ r ≤ 100) (hL : okL n B (y.getD (r - 1) [])) :
    impl_againOf.l15 200000000 p (r : Int) y ((6 ^ n : Nat) : Int) 200000000 0 [] = some (nextL n (y.getD (r - 1) [])) := by
  have hN := pow6_few n hn.2
  have h2 := pow2_few n hn
  have inner : ∀ num : Nat, num < 6 ^ n → impl_againOf.l16 200000000 p (r : Int) y (num : Int) ((2 ^ n : Nat) : Int) 200000000 0 0 = some (MX n (y.getD (r - 1) []) num (2 ^ n)) := by
    intro num hnum
    have a1 := loop_fold0 (fun k x (s : Int) => impl_againOf.l16 200000000 p (r : Int) y (num : Int) ((2 ^ n : Nat) : Int) k s x) (2 ^ n) (fun x s => s = MX n (y.getD (r - 1) []) num x) (fun o s => mx s (SV n (y.getD (r - 1) []) o num)) some (by
      intro k x s hx hs
      refine ⟨?_, by rw [hs]; rfl⟩
      rw [impl_againOf.l16, if_pos (by omega), value_eq p y n x num r hp hn (by omega) hnum B hB hr hL, some_bind, w1' x (by omega)]
      rfl) (by
      intro k s hs
      rw [impl_againOf.l16, if_neg (by omega)]) 200000000 0 (by omega) rfl
    rw [show impl_againOf.l16 200000000 p (r : Int) y (num : Int) ((2 ^ n : Nat) : Int) 200000000 0 0 = _ from a1.1, a1.2]
  have a1 := loop_fold0 (fun k x (s : List Int) => impl_againOf.l15 200000000 p (r : Int) y ((6 ^ n : Nat) : Int) k x s) (6 ^ n) (fun x s => s = (List.range x).map (fun num => MX n (y.getD (r - 1) []) num (2 ^ n))) (fun o s => s ++ [MX n (y.getD (r - 1) []) o (2 ^ n)]) some (by
    intro k x s hx hs
    refine ⟨?_, by rw [hs]; exact range_map_succ _ _⟩
    rw [impl_againOf.l15, if_pos (by omega), sets_eq p y n hp hn, some_bind, inner x hx, some_bind, if_pos (by rw [hs]; simp; omega), w1' x (by omega)]) (by
    intro k s hs
    rw [impl_againOf.l15, if_neg (by omega)]) 200000000 [] (by omega) rfl
  rw [show impl_againOf.l15 200000000 p (r : Int) y ((6 ^ n : Nat) : Int) 200000000 0 [] = _ from a1.1, a1.2]
  rfl
/-! the reference's values -/
theorem max_l13 (n : Nat) (hn : n ≤ 3) (T : List Int) (hT : T.length = 6 ^ n) (g : Nat → Int) : spec_l6Values.l13 200000000 T 200000000 0 ((List.range (6 ^ n)).map g) = some ((List.range (6 ^ n)).map (fun num => mx (g num) (T.getD num 0))) := by
  have hN := pow6_few n hn
  have key : ∀ (k x : Nat) (s : List Int), x ≤ 6 ^ n → 6 ^ n - x < k → s.length = 6 ^ n → (∀ j, j < 6 ^ n → s.getD j 0 = if j < x then mx (g j) (T.getD j 0) else g j) → spec_l6Values.l13 200000000 T k (x : Int) s = some ((List.range (6 ^ n)).map (fun num => mx (g num) (T.getD num 0))) := by
    intro k
    induction k with
    | zero => intro x s h1 h2; omega
    | succ k ih =>
      intro x s h1 h2 h3 h4
      rw [spec_l6Values.l13]
      by_cases hx : x < 6 ^ n
      · rw [if_pos (by omega), if_pos (by omega), if_pos (by omega), Int.toNat_natCast, most_eq, some_bind, w1' x (by omega), mx_other]
        refine ih (x + 1) _ (by omega) (by omega) (by simpa using h3) fun j hj => ?_
        rw [List.getD_eq_getElem?_getD, List.getElem?_set]
        by_cases hjn : x = j
        · subst hjn
          rw [if_pos rfl, if_pos (by omega), if_pos (by omega), h4 x hx, if_neg (by omega)]; rfl
        · rw [if_neg hjn, ← List.getD_eq_getElem?_getD, h4 j hj]
          by_cases hlt2 : j < x
          · rw [if_pos hlt2, if_pos (by omega)]
          · rw [if_neg hlt2, if_neg (by omega)]
      · rw [if_neg (by omega)]
        congr 1
        apply List.ext_getElem?
        intro j
        by_cases hj : j < 6 ^ n
        · have := h4 j hj
          rw [if_pos (by omega), getD_nat _ _ _ (by omega)] at this
          rw [List.getElem?_eq_getElem (by omega), this]
          simp [hj]
        · rw [List.getElem?_eq_none (by omega), List.getElem?_eq_none (by simp; omega)]
  exact key 200000000 0 _ (by omega) (by omega) (by simp) (fun j hj => by rw [if_neg (by omega), range_getD _ _ _ hj])
theorem next_spec (p : List (Ar 6)) (n : Nat) (hp : p.length = n) (hn : 1 ≤ n ∧ n ≤ 3) (B : Int) (hB : 0 ≤ B ∧ B ≤ 400000000000) (L : List Int) (hL : okL n B L) : ∃ S0, spec_l6Sums.f 200000000 (n : Int) L 0 = some S0 ∧ spec_l6Values.l12 200000000 p L 200000000 1 S0 = some (nextL n L) := by
  have hN := pow6_few n hn.2
  have h2 := pow2_few n hn
  have s0 := sums_eq n 0 hn (by omega) L hL.1 B hB hL.2
  refine ⟨_, s0, ?_⟩
  have a1 := loop_fold (fun k x (s : List Int) => spec_l6Values.l12 200000000 p L k x s) (2 ^ n) (fun x s => 1 ≤ x ∧ s = (List.range (6 ^ n)).map (fun num => MX n L num x)) (fun o s => (List.range (6 ^ n)).map (fun num => MX n L num (o + 1))) some (by
    intro k x s hx hs
    refine ⟨?_, by omega, rfl⟩
    rw [spec_l6Values.l12, hp, if_pos (by omega), shl_eq n hn, if_pos (by omega), sums_eq n x hn (by omega) L hL.1 B hB hL.2, some_bind, hs.2, max_l13 n hn.2 _ (by simp) _, some_bind, w1' x (by omega)]
    congr 1
    apply List.map_congr_left
    intro num hnum
    rw [range_getD _ _ _ (List.mem_range.1 hnum)]
    rfl) (by
    intro k s hs
    rw [spec_l6Values.l12, hp, if_pos (by omega), shl_eq n hn, if_neg (by omega)]) (2 ^ n - 1) 1 200000000 ((List.range (6 ^ n)).map (FS n 0 (fun j => L.getD j 0) n)) (by omega) (by omega) ⟨by omega, by
      apply List.map_congr_left
      intro num hnum
      have := SV_range n hn B hB.1 L hL 0 num (List.mem_range.1 hnum)
      show SV n L 0 num = mx 0 (SV n L 0 num)
      unfold mx
      split <;> omega⟩
  rw [show spec_l6Values.l12 200000000 p L 200000000 1 ((List.range (6 ^ n)).map (FS n 0 (fun j => L.getD j 0) n)) = _ from a1.1, a1.2.2]
  rfl
theorem cut_l0 (K : Nat) : ∀ (k : Nat) (a b : Int), 0 < a → 0 ≤ b → b < k → ∃ g, 0 < g ∧ spec_l2Cut.l0 K k a b = some g ∧ impl_fraction.l0 K k a b = some g := by
  intro k
  induction k with
  | zero => intro a b h0 h1 h2; omega
  | succ k ih =>
    intro a b h0 h1 h2
    rw [spec_l2Cut.l0, impl_fraction.l0]
    by_cases h : b = 0
    · subst h; exact ⟨a, h0, by simp, by simp⟩
    · rw [if_pos (show 0 < b by omega), if_neg h, if_pos h, if_pos h]
      have hb : 0 ≤ a.tmod b := Int.tmod_nonneg _ (by omega)
      have hc : a.tmod b < b := Int.tmod_lt_of_pos _ (by omega)
      obtain ⟨g, h3, h4, h5⟩ := ih b (a.tmod b) (by omega) hb (by omega)
      rw [h4, h5]
      exact ⟨g, h3, rfl, rfl⟩
theorem cutz_l0 (K : Nat) (k : Nat) (a b : Int) (ha : 0 ≤ a) (hb : 0 ≤ b) (h : 0 < a ∨ 0 < b) (hk : b + 1 < k) : ∃ g, 0 < g ∧ spec_l2Cut.l0 K k a b = some g ∧ impl_fraction.l0 K k a b = some g := by
  rcases Int.lt_or_eq_of_le ha with h0 | h0
  · exact cut_l0 K k a b h0 hb (by omega)
  · have hb' : 0 < b := by omega
    match k, hk with
    | 0, hk => omega
    | k + 1, hk =>
      rw [spec_l2Cut.l0, impl_fraction.l0]
      have hne : b ≠ 0 := by omega
      have h1 : (0 : Int).tmod b = 0 := Int.zero_tmod b
      subst h0
      rw [if_pos hb', if_neg hne, if_pos hne, if_pos hne, h1]
      exact cut_l0 K k b 0 hb' (by omega) (by omega)
theorem cutz_eq (K : Nat) (a b : Int) (ha : 0 ≤ a) (hb : 0 ≤ b) (h : 0 < a ∨ 0 < b) (hK : b + 1 < K) : ∃ r, spec_l2Cut.f K a b = some r ∧ impl_fraction.f K a b = some r := by
  obtain ⟨g, h1, h2, h3⟩ := cutz_l0 K K a b ha hb h hK
  unfold spec_l2Cut.f impl_fraction.f
  rw [h2, h3]
  simp only [some_bind]
  have : spec_l1Most.f K g 1 = some g := by
    unfold spec_l1Most.f
    by_cases h : 1 < g
    · rw [if_pos h]
    · rw [if_neg h, show g = 1 by omega]
  rw [this]
  simp only [some_bind]
  have hg : g ≠ 0 := by omega
  rw [if_pos hg, if_pos hg]
  exact ⟨_, rfl, rfl⟩
theorem good_same (l : List (Ar 6)) (g : Int × Int) (r : Int) (h : l.length ≤ 1048576) : ∃ b, spec_l6Good.f 200000000 l g r = some b ∧ impl_isAgain.f 200000000 l g r 0 = some b ∧ impl_isAgain.f 200000000 l g r 1 = some (b && decide (1 ≤ r)) ∧ (b = true → (1 ≤ l.length ∧ l.length ≤ 3) ∧ (∀ a ∈ l, dieB a = true) ∧ (1 ≤ g.1 ∧ g.1 ≤ 5) ∧ 0 ≤ r ∧ r ≤ 2) := by
  obtain ⟨c, c1, c2, c3⟩ := goal_eq 200000000 g
  unfold spec_l6Good.f impl_isAgain.f
  rw [pool_spec 200000000 (by omega) l h, pool_impl 200000000 (by omega) l h, some_bind, some_bind, some_bind]
  cases hp : poolB l with
  | false => exact ⟨false, rfl, rfl, rfl, by simp⟩
  | true =>
    obtain ⟨⟨g1, g2⟩, g3⟩ := pool_good l hp
    simp only [if_true]
    by_cases h3 : (l.length : Int) ≤ 3
    · simp only [if_pos h3, c1, c2, some_bind]
      cases c with
      | false => exact ⟨false, rfl, rfl, rfl, by simp⟩
      | true =>
        simp only [if_true, in_within, in_eq, some_bind]
        refine ⟨decide (0 ≤ r ∧ r ≤ 2), rfl, rfl, ?_, fun hb => ⟨⟨g1, by omega⟩, g3, c3 rfl, of_decide_eq_true hb⟩⟩
        congr 1
        rw [Bool.eq_iff_iff]
        simp only [Bool.and_eq_true, decide_eq_true_eq]
        omega
    · simp only [if_neg h3]
      exact ⟨false, rfl, rfl, rfl, by simp⟩
theorem range_map_get {α : Type} (z : α) (g : Nat → α) (N j : Nat) (hj : j < N) : ((List.range N).map g).getD j z = g j := by
  rw [getD_nat _ _ _ (by simpa using hj)]; simp
theorem scores_same (p : List (Ar 6)) (n : Nat) (hp : p.length = n) (hn : 1 ≤ n ∧ n ≤ 3) (hd : ∀ a ∈ p, dieB a = true) (g : Int × Int) (hg : 1 ≤ g.1 ∧ g.1 ≤ 5) : ∃ L, okL n 90 L ∧ spec_l6Values.l0 200000000 p g 200000000 0 [] = some L ∧ impl_againOf.l0 200000000 p g ((6 ^ n : Nat) : Int) 200000000 0 [] = some L := by
  have hN := pow6_few n hn.2
  have key : ∀ (k x : Nat) (s : List Int), x ≤ 6 ^ n → 6 ^ n - x < k → s.length = x → (∀ j, j < x → 0 ≤ s.getD j 0 ∧ s.getD j 0 ≤ 90) → ∃ L, okL n 90 L ∧ spec_l6Values.l0 200000000 p g k (x : Int) s = some L ∧ impl_againOf.l0 200000000 p g ((6 ^ n : Nat) : Int) k (x : Int) s = some L := by
    intro k
    induction k with
    | zero => intro x s h1 h2; omega
    | succ k ih =>
      intro x s h1 h2 h3 h4
      rw [spec_l6Values.l0, impl_againOf.l0, all_power, hp, power_eq 200000000 (by omega) n (by omega), ← powN, some_bind]
      by_cases hx : x < 6 ^ n
      · obtain ⟨o, o1, o2⟩ := roll_some6 p (by omega) (x : Int) (by omega) (by omega)
        have of := roll_faces 200000000 p hd _ o o1
        obtain ⟨s1, v, s2⟩ := score_same 200000000 (by omega) g hg o (by omega) (by omega) of
        have s3 := score_range 200000000 (by omega) g hg o (by omega) (by omega) of v s2
        rw [if_pos (by omega), if_pos (by omega), roll_roll, o1, some_bind, some_bind, s1, s2, some_bind, some_bind, if_pos (by simp; omega), if_pos (by simp; omega), w1' x (by omega)]
        refine ih (x + 1) _ (by omega) (by omega) (by simp [h3]) fun j hj => ?_
        rw [List.getD_eq_getElem?_getD]
        by_cases hjx : j < x
        · rw [List.getElem?_append_left (by omega), ← List.getD_eq_getElem?_getD]
          exact h4 j hjx
        · rw [List.getElem?_append_right (by omega), show j - s.length = 0 by omega]
          exact s3
      · rw [if_neg (by omega), if_neg (by omega)]
        have : x = 6 ^ n := by omega
        subst this
        exact ⟨s, ⟨h3, h4⟩, rfl, rfl⟩
  exact key 200000000 0 [] (by omega) (by omega) rfl (fun j hj => by omega)
theorem vals_same (p : List (Ar 6)) (n : Nat) (hp : p.length = n) (hn : 1 ≤ n ∧ n ≤ 3) (hd : ∀ a ∈ p, dieB a = true) (g : Int × Int) (hg : 1 ≤ g.1 ∧ g.1 ≤ 5) : ∃ L, okL n 90 L ∧ ∀ r : Nat, r ≤ 2 → spec_l6Values.f 200000000 p g (r : Int) = some (VL n L r) ∧ impl_againOf.f 200000000 p g (r : Int) = some ((List.range (r + 1)).map (VL n L)) := by
  have hN := pow6_few n hn.2
  obtain ⟨L, hL, e1, e2⟩ := scores_same p n hp hn hd g hg
  refine ⟨L, hL, fun r hr => ⟨?_, ?_⟩⟩
  · unfold spec_l6Values.f
    rw [e1, some_bind]
    have a1 := loop_fold0 (fun k x (s : List Int) => spec_l6Values.l9 200000000 p (r : Int) k x s) r (fun x s => s = VL n L x) (fun _ s => nextL n s) some (by
      intro k x s hx hs
      refine ⟨?_, by rw [hs]; rfl⟩
      obtain ⟨S0, t1, t2⟩ := next_spec p n hp hn 4199040 (by omega) s (by rw [hs]; exact VL_ok n hn L hL x (by omega))
      rw [spec_l6Values.l9, if_pos (by omega), hp, t1, some_bind, t2, some_bind, w1' x (by omega)]) (by
      intro k s hs
      rw [spec_l6Values.l9, if_neg (by omega)]) 200000000 L (by omega) rfl
    rw [show spec_l6Values.l9 200000000 p (r : Int) 200000000 0 L = _ from a1.1, a1.2]
    rfl
  · unfold impl_againOf.f
    rw [outs_eq p _ n hp hn.2, some_bind, e2, some_bind]
    have hc : ([] : List (List Int)).length + [L].length ≤ 1073741824 := by simp
    rw [if_pos hc]
    have a1 := loop_fold (fun k x (s : List (List Int)) => impl_againOf.l11 200000000 p (r : Int) k x s) (r + 1) (fun x s => 1 ≤ x ∧ s = (List.range x).map (VL n L)) (fun x s => s ++ [nextL n (s.getD (x - 1) [])]) some (by
      intro k x s hx hs
      obtain ⟨hx1, hs⟩ := hs
      have hg : s.getD (x - 1) [] = VL n L (x - 1) := by rw [hs]; exact range_map_get _ _ _ _ (by omega)
      have hsl : s.length = x := by rw [hs]; simp
      refine ⟨?_, by omega, ?_⟩
      · rw [impl_againOf.l11, if_pos (by omega), outs_eq p _ n hp hn.2, some_bind, next_impl p s n x hp hn 4199040 (by omega) ⟨hx1, by omega, by omega⟩ (by rw [hg]; exact VL_ok n hn L hL _ (by omega)), some_bind, if_pos (by simp; omega), w1' x (by omega)]
      · rw [hg, hs, List.range_succ, List.map_append]
        congr 2
        show nextL n (VL n L (x - 1)) = VL n L x
        obtain ⟨q, rfl⟩ : ∃ q, x = q + 1 := ⟨x - 1, by omega⟩
        rfl) (by
      intro k s hs
      rw [impl_againOf.l11, if_neg (by omega)]) r 1 200000000 [L] (by omega) (by omega) ⟨by omega, rfl⟩
    rw [show impl_againOf.l11 200000000 p (r : Int) 200000000 1 (([] : List (List Int)) ++ [L]) = _ from a1.1, a1.2.2]
    rfl
/-! the best sets -/
def fl (n : Nat) (L : List Int) (num x : Nat) : List Nat := (List.range x).filter fun s => decide (SV n L s num = MX n L num x)
theorem MX_le (n : Nat) (L : List Int) (num : Nat) : ∀ x s, s < x → SV n L s num ≤ MX n L num x
  | 0, s, h => by omega
  | x + 1, s, h => by
    rw [MX]
    rcases Nat.lt_or_ge s x with hs | hs
    · have := MX_le n L num x s hs
      unfold mx
      split <;> omega
    · have : s = x := by omega
      subst this
      unfold mx
      split <;> omega
theorem fl_step (n : Nat) (L : List Int) (num x : Nat) : fl n L num (x + 1) = if MX n L num x < SV n L x num then [x] else if SV n L x num = MX n L num x then fl n L num x ++ [x] else fl n L num x := by
  unfold fl
  rw [List.range_succ, List.filter_append]
  have hM : MX n L num (x + 1) = mx (MX n L num x) (SV n L x num) := rfl
  by_cases h : MX n L num x < SV n L x num
  · have e : MX n L num (x + 1) = SV n L x num := by rw [hM]; unfold mx; rw [if_pos h]
    rw [if_pos h, e]
    have h0 : (List.range x).filter (fun s => decide (SV n L s num = SV n L x num)) = [] := by
      rw [List.filter_eq_nil_iff]
      intro s hs
      have := MX_le n L num x s (List.mem_range.1 hs)
      simp only [decide_eq_true_eq]
      omega
    rw [h0]
    simp
  · have e : MX n L num (x + 1) = MX n L num x := by rw [hM]; unfold mx; rw [if_neg h]
    rw [if_neg h, e]
    by_cases h2 : SV n L x num = MX n L num x
    · rw [if_pos h2]; simp [h2]
    · rw [if_neg h2]; simp [h2]
theorem fl_ne (n : Nat) (hn : 1 ≤ n ∧ n ≤ 3) (B : Int) (hB : 0 ≤ B) (L : List Int) (hL : okL n B L) (num : Nat) (hnum : num < 6 ^ n) : ∀ x, 1 ≤ x → fl n L num x ≠ []
  | 0, h => by omega
  | x + 1, _ => by
    rw [fl_step]
    by_cases h : MX n L num x < SV n L x num
    · rw [if_pos h]; simp
    · rw [if_neg h]
      by_cases h2 : SV n L x num = MX n L num x
      · rw [if_pos h2]; simp
      · rw [if_neg h2]
        rcases Nat.eq_zero_or_pos x with rfl | hx
        · have := SV_range n hn B hB L hL 0 num hnum
          exfalso
          have e : MX n L num 0 = 0 := rfl
          omega
        · exact fl_ne n hn B hB L hL num hnum x hx
def natI (l : List Nat) : List Int := l.map fun x : Nat => (x : Int)
theorem best_impl (p : List (Ar 6)) (n : Nat) (hp : p.length = n) (hn : 1 ≤ n ∧ n ≤ 3) (L0 : List Int) (hL : okL n 90 L0) (r num : Nat) (hr : 1 ≤ r ∧ r ≤ 2) (hnum : num < 6 ^ n) :
    impl_again_bestSets__c.f 200000000 p ((List.range (r + 1)).map (VL n L0)) (num : Int) (r : Int) = some (natI (fl n (VL n L0 (r - 1)) num (2 ^ n))) := by
  have hN := pow6_few n hn.2
  have h2 := pow2_few n hn
  have hg1 : ((List.range (r + 1)).map (VL n L0)).getD (r - 1) [] = VL n L0 (r - 1) := range_map_get _ _ _ _ (by omega)
  have hg2 : ((List.range (r + 1)).map (VL n L0)).getD r [] = VL n L0 r := range_map_get _ _ _ _ (by omega)
  have hlen : ((List.range (r + 1)).map (VL n L0)).length = r + 1 := by simp
  have ok1 := VL_ok n hn L0 hL (r - 1) (by omega)
  have hVr : VL n L0 r = nextL n (VL n L0 (r - 1)) := by
    obtain ⟨q, rfl⟩ : ∃ q, r = q + 1 := ⟨r - 1, by omega⟩
    rfl
  have hvl : (VL n L0 r).getD num 0 = MX n (VL n L0 (r - 1)) num (2 ^ n) := by
    rw [hVr]; unfold nextL; exact range_getD _ _ _ hnum
  have hvlen : (VL n L0 r).length = 6 ^ n := (VL_ok n hn L0 hL r hr.2).1
  unfold impl_again_bestSets__c.f
  rw [sets_eq p _ n hp hn, some_bind]
  have a1 := loop_fold0 (fun k x (s : List Int) => impl_again_bestSets__c.l0 200000000 p ((List.range (r + 1)).map (VL n L0)) (num : Int) (r : Int) ((2 ^ n : Nat) : Int) k x s) (2 ^ n) (fun x s => s = natI ((List.range x).filter fun t => decide (SV n (VL n L0 (r - 1)) t num = MX n (VL n L0 (r - 1)) num (2 ^ n)))) (fun x s => if SV n (VL n L0 (r - 1)) x num = MX n (VL n L0 (r - 1)) num (2 ^ n) then s ++ [(x : Int)] else s) some (by
    intro k x s hx hs
    have hsl : s.length ≤ x := by
      rw [hs, natI, List.length_map]
      exact Nat.le_trans (List.length_filter_le _ _) (by simp)
    refine ⟨?_, ?_⟩
    · have hv := value_eq p ((List.range (r + 1)).map (VL n L0)) n x num r hp hn (by omega) hnum 4199040 (by omega) ⟨hr.1, by omega, by omega⟩ (by rw [hg1]; exact ok1)
      rw [hg1] at hv
      rw [impl_again_bestSets__c.l0, if_pos (by omega), hv, some_bind, if_pos (by omega), Int.toNat_natCast, Int.toNat_natCast, hg2, if_pos (by omega), hvl, w1' x (by omega)]
      by_cases hc : SV n (VL n L0 (r - 1)) x num = MX n (VL n L0 (r - 1)) num (2 ^ n)
      · rw [if_pos hc, if_pos hc, if_pos (by simp; omega)]
      · rw [if_neg hc, if_neg hc]
    · rw [hs, List.range_succ, List.filter_append]
      by_cases hc : SV n (VL n L0 (r - 1)) x num = MX n (VL n L0 (r - 1)) num (2 ^ n)
      · rw [if_pos hc]; simp [natI, hc]
      · rw [if_neg hc]; simp [natI, hc]) (by
    intro k s hs
    rw [impl_again_bestSets__c.l0, if_neg (by omega)]) 200000000 [] (by omega) rfl
  rw [show impl_again_bestSets__c.l0 200000000 p ((List.range (r + 1)).map (VL n L0)) (num : Int) (r : Int) ((2 ^ n : Nat) : Int) 200000000 0 [] = _ from a1.1, a1.2]
  rfl
def hd0 (l : List Nat) : Int := (l.headD 0 : Nat)
theorem plan_l3 (n : Nat) (hn : n ≤ 3) (set : Int) (T : List Int) (hT : T.length = 6 ^ n) (g h : Nat → Int) : spec_l6Plan.l3 200000000 set T 200000000 0 ((List.range (6 ^ n)).map g) ((List.range (6 ^ n)).map h) = some ((List.range (6 ^ n)).map (fun num => if g num < T.getD num 0 then T.getD num 0 else g num), (List.range (6 ^ n)).map (fun num => if g num < T.getD num 0 then set else h num)) := by
  have hN := pow6_few n hn
  have fin : ∀ (s : List Int) (f : Nat → Int), s.length = 6 ^ n → (∀ j, j < 6 ^ n → s.getD j 0 = f j) → s = (List.range (6 ^ n)).map f := by
    intro s f h1 h2
    apply List.ext_getElem?
    intro j
    by_cases hj : j < 6 ^ n
    · have := h2 j hj
      rw [getD_nat _ _ _ (by omega)] at this
      rw [List.getElem?_eq_getElem (by omega), this]
      simp [hj]
    · rw [List.getElem?_eq_none (by omega), List.getElem?_eq_none (by simp; omega)]
  have nxt : ∀ (s : List Int) (f f' : Nat → Int) (x : Nat) (v : Int), s.length = 6 ^ n → x < 6 ^ n → v = f x → (∀ j, j < 6 ^ n → s.getD j 0 = if j < x then f j else f' j) → ∀ j, j < 6 ^ n → (s.set x v).getD j 0 = if j < x + 1 then f j else f' j := by
    intro s f f' x v h1 hx hv h2 j hj
    rw [List.getD_eq_getElem?_getD, List.getElem?_set]
    by_cases hjn : x = j
    · subst hjn
      rw [if_pos rfl, if_pos (by omega), if_pos (by omega), hv]; rfl
    · rw [if_neg hjn, ← List.getD_eq_getElem?_getD, h2 j hj]
      by_cases hlt2 : j < x
      · rw [if_pos hlt2, if_pos (by omega)]
      · rw [if_neg hlt2, if_neg (by omega)]
  have nx2 : ∀ (s : List Int) (f f' : Nat → Int) (x : Nat), s.length = 6 ^ n → x < 6 ^ n → f x = f' x → (∀ j, j < 6 ^ n → s.getD j 0 = if j < x then f j else f' j) → ∀ j, j < 6 ^ n → s.getD j 0 = if j < x + 1 then f j else f' j := by
    intro s f f' x h1 hx hv h2 j hj
    rw [h2 j hj]
    by_cases hlt2 : j < x
    · rw [if_pos hlt2, if_pos (by omega)]
    · rw [if_neg hlt2]
      by_cases hjx : j = x
      · subst hjx
        rw [if_pos (by omega), hv]
      · rw [if_neg (by omega)]
  have key : ∀ (k x : Nat) (s t : List Int), x ≤ 6 ^ n → 6 ^ n - x < k → s.length = 6 ^ n → t.length = 6 ^ n → (∀ j, j < 6 ^ n → s.getD j 0 = if j < x then (if g j < T.getD j 0 then T.getD j 0 else g j) else g j) → (∀ j, j < 6 ^ n → t.getD j 0 = if j < x then (if g j < T.getD j 0 then set else h j) else h j) →
      spec_l6Plan.l3 200000000 set T k (x : Int) s t = some ((List.range (6 ^ n)).map (fun num => if g num < T.getD num 0 then T.getD num 0 else g num), (List.range (6 ^ n)).map (fun num => if g num < T.getD num 0 then set else h num)) := by
    intro k
    induction k with
    | zero => intro x s t h1 h2; omega
    | succ k ih =>
      intro x s t h1 h2 h3 h4 h5 h6
      rw [spec_l6Plan.l3]
      by_cases hx : x < 6 ^ n
      · have hsx := h5 x hx
        rw [if_neg (by omega)] at hsx
        rw [if_pos (by omega), if_pos (by omega), if_pos (by omega), Int.toNat_natCast, hsx, w1' x (by omega)]
        by_cases hc : g x < T.getD x 0
        · rw [if_pos hc, if_pos (by omega)]
          exact ih (x + 1) _ _ (by omega) (by omega) (by simpa using h3) (by simpa using h4) (nxt s (fun j => if g j < T.getD j 0 then T.getD j 0 else g j) g x _ h3 hx (by rw [if_pos hc]) h5) (nxt t (fun j => if g j < T.getD j 0 then set else h j) h x _ h4 hx (by rw [if_pos hc]) h6)
        · rw [if_neg hc]
          exact ih (x + 1) _ _ (by omega) (by omega) h3 h4 (nx2 s (fun j => if g j < T.getD j 0 then T.getD j 0 else g j) g x h3 hx (by rw [if_neg hc]) h5) (nx2 t (fun j => if g j < T.getD j 0 then set else h j) h x h4 hx (by rw [if_neg hc]) h6)
      · rw [if_neg (by omega)]
        rw [fin s _ h3 (fun j hj => by rw [h5 j hj, if_pos (by omega)]), fin t _ h4 (fun j hj => by rw [h6 j hj, if_pos (by omega)])]
  exact key 200000000 0 _ _ (by omega) (by omega) (by simp) (by simp) (fun j hj => by rw [if_neg (by omega), range_getD _ _ _ hj]) (fun j hj => by rw [if_neg (by omega), range_getD _ _ _ hj])
theorem hd_step (n : Nat) (hn : 1 ≤ n ∧ n ≤ 3) (L : List Int) (hL : okL n 4199040 L) (num x : Nat) (hnum : num < 6 ^ n) (hx : 1 ≤ x) : hd0 (fl n L num (x + 1)) = if MX n L num x < SV n L x num then (x : Int) else hd0 (fl n L num x) := by
  have hne := fl_ne n hn 4199040 (by omega) L hL num hnum x hx
  rw [fl_step]
  by_cases hc : MX n L num x < SV n L x num
  · rw [if_pos hc, if_pos hc]; rfl
  · rw [if_neg hc, if_neg hc]
    by_cases hc2 : SV n L x num = MX n L num x
    · rw [if_pos hc2]
      unfold hd0
      cases h : fl n L num x with
      | nil => exact absurd h hne
      | cons a l => rfl
    · rw [if_neg hc2]
theorem plan_eq (p : List (Ar 6)) (n : Nat) (hp : p.length = n) (hn : 1 ≤ n ∧ n ≤ 3) (g : Int × Int) (r : Nat) (hr : 1 ≤ r ∧ r ≤ 2) (L : List Int) (hL : okL n 4199040 L) (hv : spec_l6Values.f 200000000 p g ((r - 1 : Nat) : Int) = some L) :
    spec_l6Plan.f 200000000 p g (r : Int) = some ((List.range (6 ^ n)).map fun num => hd0 (fl n L num (2 ^ n))) := by
  have hN := pow6_few n hn.2
  have h2 := pow2_few n hn
  have e : wrap64 ((r : Int) - 1) = ((r - 1 : Nat) : Int) := by rw [w64 (by omega) (by omega)]; omega
  have s0 := sums_eq n 0 hn (by omega) L hL.1 4199040 (by omega) hL.2
  unfold spec_l6Plan.f
  rw [e, hv, some_bind, hp, show spec_l6Sums.f 200000000 (n : Int) L 0 = _ from s0, some_bind, hL.1, if_pos (by omega), Int.toNat_natCast]
  have a1 := loop_fold (fun k x (s : List Int × List Int) => spec_l6Plan.l2 200000000 p L k x s.1 s.2) (2 ^ n) (fun x s => 1 ≤ x ∧ s = ((List.range (6 ^ n)).map (fun num => MX n L num x), (List.range (6 ^ n)).map (fun num => hd0 (fl n L num x)))) (fun x _ => ((List.range (6 ^ n)).map (fun num => MX n L num (x + 1)), (List.range (6 ^ n)).map (fun num => hd0 (fl n L num (x + 1))))) (fun s => some s.2) (by
    intro k x s hx hs
    obtain ⟨hx1, rfl⟩ := hs
    refine ⟨?_, by omega, rfl⟩
    rw [spec_l6Plan.l2, hp, if_pos (by omega), shl_eq n hn, if_pos (by omega), sums_eq n x hn (by omega) L hL.1 4199040 (by omega) hL.2, some_bind]
    dsimp only
    rw [plan_l3 n hn.2 _ _ (by simp), some_bind, w1' x (by omega)]
    dsimp only
    congr 1
    · apply List.map_congr_left
      intro num hnum
      rw [range_getD _ _ _ (List.mem_range.1 hnum)]
      rfl
    · apply List.map_congr_left
      intro num hnum
      rw [range_getD _ _ _ (List.mem_range.1 hnum), hd_step n hn L hL num x (List.mem_range.1 hnum) hx1]
      rfl) (by
    intro k s hs
    rw [spec_l6Plan.l2, hp, if_pos (by omega), shl_eq n hn, if_neg (by omega)]) (2 ^ n - 1) 1 200000000 ((List.range (6 ^ n)).map (FS n 0 (fun j => L.getD j 0) n), List.replicate (6 ^ n) 0) (by omega) (by omega) ⟨by omega, by
      congr 1
      · apply List.map_congr_left
        intro num hnum
        have := SV_range n hn 4199040 (by omega) L hL 0 num (List.mem_range.1 hnum)
        show SV n L 0 num = mx 0 (SV n L 0 num)
        unfold mx
        split <;> omega
      · apply List.ext_getElem?
        intro j
        by_cases hj : j < 6 ^ n
        · have := SV_range n hn 4199040 (by omega) L hL 0 j hj
          have h1 : fl n L j 1 = [0] := by
            rw [fl_step]
            have h0 : MX n L j 0 = 0 := rfl
            rw [h0]
            by_cases hz : (0 : Int) < SV n L 0 j
            · rw [if_pos hz]
            · rw [if_neg hz, if_pos (by omega)]; rfl
          simp [hj, h1, hd0]
        · rw [List.getElem?_eq_none (by simp; omega), List.getElem?_eq_none (by simp; omega)]⟩
  rw [show spec_l6Plan.l2 200000000 p L 200000000 1 ((List.range (6 ^ n)).map (FS n 0 (fun j => L.getD j 0) n)) (List.replicate (6 ^ n) 0) = _ from a1.1, a1.2.2]
  rfl
theorem mean_same (p : List (Ar 6)) (y : List (List Int)) (n r : Nat) (hp : p.length = n) (hn : 1 ≤ n ∧ n ≤ 3) (hr : r ≤ 3) (v : Int) (hv : 0 ≤ v) : ∃ t q, spec_l6Parts.f 200000000 p (r : Int) = some t ∧ spec_l2Cut.f 200000000 v t = some q ∧ impl_again_mean__c.f 200000000 p y v (r : Int) = some q := by
  have hm : n * r ≤ 9 := by
    have : n * r ≤ 3 * 3 := Nat.mul_le_mul (by omega) hr
    omega
  have hpow : 6 ^ (n * r) ≤ 6 ^ 9 := Nat.pow_le_pow_right (by omega) hm
  have h9 : 6 ^ 9 = 10077696 := by decide
  have hpos : 1 ≤ 6 ^ (n * r) := Nat.one_le_pow _ _ (by omega)
  have e : wrap64 ((n : Int) * (r : Int)) = ((n * r : Nat) : Int) := by rw [← Int.natCast_mul]; exact w64 (by omega) (by omega)
  obtain ⟨q, q1, q2⟩ := cutz_eq 200000000 v ((6 ^ (n * r) : Nat) : Int) hv (by omega) (by omega) (by omega)
  refine ⟨((6 ^ (n * r) : Nat) : Int), q, ?_, q1, ?_⟩
  · unfold spec_l6Parts.f
    rw [hp, e, all_power, power_eq 200000000 (by omega) _ (by omega), ← powN]
    rfl
  · unfold impl_again_mean__c.f
    rw [hp, e, power_eq 200000000 (by omega) _ (by omega), ← powN, some_bind, q2]
    rfl
theorem nat_of (r : Int) (h : 0 ≤ r) : ∃ q : Nat, r = (q : Int) := ⟨r.toNat, by omega⟩
theorem natI_hd (l : List Nat) (h : l ≠ []) : (0 : Int) < ((natI l).length : Int) ∧ (natI l).getD 0 0 = hd0 l := by
  cases l with
  | nil => exact absurd rfl h
  | cons a l => exact ⟨by simp [natI], rfl⟩
def pc (s : Nat) : Nat := s % 2 + s / 2 % 2 + s / 4 % 2
set_option maxRecDepth 100000 in
theorem ones_fin : ∀ s : Fin 8, bits_OnesCount.f 200000000 (Go.IntKind.u64.wrap (s.val : Int)) = some ((pc s.val : Nat) : Int) := by decide +kernel
theorem bit_fin : ∀ (s : Fin 8) (i : Fin 3), Go.bits .and .i64 ((s.val : Int).fdiv (2 ^ (min (i.val : Int).toNat 64))) 1 = ((s.val / 2 ^ i.val % 2 : Nat) : Int) := by decide +kernel
def pcs (s : Nat) : Nat → Nat
  | 0 => 0
  | i + 1 => pcs s i + s / 2 ^ i % 2
theorem pcs_le (s : Nat) : ∀ i, pcs s i ≤ i
  | 0 => Nat.le_refl _
  | i + 1 => by
    have := pcs_le s i
    have h := Nat.mod_lt (s / 2 ^ i) (show 0 < 2 by omega)
    rw [pcs]; omega
theorem pcs_pc (s n : Nat) (hn : 1 ≤ n ∧ n ≤ 3) (hs : s < 2 ^ n) : pcs s n = pc s := by
  unfold pc
  rcases (show n = 1 ∨ n = 2 ∨ n = 3 by omega) with rfl | rfl | rfl <;> simp [pcs] at hs ⊢ <;> omega
theorem hd_lt (n : Nat) (hn : 1 ≤ n ∧ n ≤ 3) (L : List Int) (num : Nat) (h : fl n L num (2 ^ n) ≠ []) : ∃ s : Nat, hd0 (fl n L num (2 ^ n)) = (s : Int) ∧ s < 2 ^ n := by
  cases hf : fl n L num (2 ^ n) with
  | nil => exact absurd hf h
  | cons a l =>
    refine ⟨a, rfl, ?_⟩
    have : a ∈ fl n L num (2 ^ n) := by rw [hf]; simp
    exact List.mem_range.1 (List.mem_filter.1 this).1
theorem rolled_same (p : List (Ar 6)) (n : Nat) (hp : p.length = n) (hn : 1 ≤ n ∧ n ≤ 3) (L0 : List Int) (hL : okL n 90 L0) (r : Nat) (hr : 1 ≤ r ∧ r ≤ 2) : ∃ q, 0 ≤ q ∧ spec_MeanRolled.l2 200000000 p ((List.range (6 ^ n)).map fun num => hd0 (fl n (VL n L0 (r - 1)) num (2 ^ n))) 200000000 0 0 = some q ∧ impl_MeanRolled.l0 200000000 p (r : Int) ((List.range (r + 1)).map (VL n L0)) ((6 ^ n : Nat) : Int) 200000000 0 0 = some q := by
  have hN := pow6_few n hn.2
  have h2 := pow2_few n hn
  have hok := VL_ok n hn L0 hL (r - 1) (by omega)
  have hlen : ((List.range (6 ^ n)).map fun num => hd0 (fl n (VL n L0 (r - 1)) num (2 ^ n))).length = 6 ^ n := by rw [List.length_map, List.length_range]
  have inner : ∀ (x s : Nat) (acc : Int), x < 6 ^ n → hd0 (fl n (VL n L0 (r - 1)) x (2 ^ n)) = (s : Int) → s < 2 ^ n → 0 ≤ acc → acc ≤ 1000 → spec_MeanRolled.l3 200000000 p ((List.range (6 ^ n)).map fun num => hd0 (fl n (VL n L0 (r - 1)) num (2 ^ n))) (x : Int) 200000000 acc 0 = some (acc + (pc s : Nat)) := by
    intro x s acc hx hs hs2 ha0 ha1
    have hg := range_getD (6 ^ n) x (fun num => hd0 (fl n (VL n L0 (r - 1)) num (2 ^ n))) hx
    have a1 := loop_fold0 (fun k i (t : Int) => spec_MeanRolled.l3 200000000 p ((List.range (6 ^ n)).map fun num => hd0 (fl n (VL n L0 (r - 1)) num (2 ^ n))) (x : Int) k t i) n (fun i t => t = acc + (pcs s i : Nat)) (fun i t => t + ((s / 2 ^ i % 2 : Nat) : Int)) some (by
      intro k i t hi ht
      have hb := bit_fin ⟨s, by omega⟩ ⟨i, by omega⟩
      have hle := pcs_le s i
      have hm := Nat.mod_lt (s / 2 ^ i) (show 0 < 2 by omega)
      refine ⟨?_, by rw [ht, pcs]; omega⟩
      rw [spec_MeanRolled.l3, hp, hlen, if_pos (by omega), if_pos (by omega), if_pos (by omega), show ((x : Int)).toNat = x from Int.toNat_natCast x, hg, hs, hb, w1' i (by omega)]
      dsimp only
      rw [w64 (by omega) (by omega)]) (by
      intro k t ht
      rw [spec_MeanRolled.l3, hp, if_neg (by omega)]) 200000000 acc (by omega) (by simp [pcs])
    rw [show spec_MeanRolled.l3 200000000 p ((List.range (6 ^ n)).map fun num => hd0 (fl n (VL n L0 (r - 1)) num (2 ^ n))) (x : Int) 200000000 acc 0 = _ from a1.1, a1.2, pcs_pc s n hn hs2]
  have hpc : ∀ s, pc s ≤ 3 := by intro s; unfold pc; omega
  have a1 := loop_fold0 (fun k x (s : Int) => spec_MeanRolled.l2 200000000 p ((List.range (6 ^ n)).map fun num => hd0 (fl n (VL n L0 (r - 1)) num (2 ^ n))) k s x) (6 ^ n) (fun x s => 0 ≤ s ∧ s ≤ 3 * x) (fun x s => s + ((pc (hd0 (fl n (VL n L0 (r - 1)) x (2 ^ n))).toNat : Nat) : Int)) some (by
    intro k x s hx hs
    obtain ⟨q, hq, hq2⟩ := hd_lt n hn (VL n L0 (r - 1)) x (fl_ne n hn 4199040 (by omega) _ hok x hx (2 ^ n) (by omega))
    have := hpc q
    rw [hq, Int.toNat_natCast]
    refine ⟨?_, by omega, by omega⟩
    rw [spec_MeanRolled.l2, hlen, if_pos (by omega), inner x q s hx hq hq2 hs.1 (by omega), some_bind, w1' x (by omega)]) (by
    intro k s hs
    rw [spec_MeanRolled.l2, hlen, if_neg (by omega)]) 200000000 0 (by omega) (by omega)
  have a2 := loop_fold0 (fun k x (s : Int) => impl_MeanRolled.l0 200000000 p (r : Int) ((List.range (r + 1)).map (VL n L0)) ((6 ^ n : Nat) : Int) k s x) (6 ^ n) (fun x s => 0 ≤ s ∧ s ≤ 3 * x) (fun x s => s + ((pc (hd0 (fl n (VL n L0 (r - 1)) x (2 ^ n))).toNat : Nat) : Int)) some (by
    intro k x s hx hs
    have hne := fl_ne n hn 4199040 (by omega) _ hok x hx (2 ^ n) (by omega)
    obtain ⟨n1, n2⟩ := natI_hd _ hne
    obtain ⟨q, hq, hq2⟩ := hd_lt n hn (VL n L0 (r - 1)) x hne
    have := hpc q
    rw [hq, Int.toNat_natCast]
    refine ⟨?_, by omega, by omega⟩
    rw [impl_MeanRolled.l0, if_pos (by omega), best_impl p n hp hn L0 hL r x hr hx, some_bind, if_pos ⟨Int.le_refl _, n1⟩, show (Int.toNat 0) = 0 from rfl, n2, hq, show bits_OnesCount.f 200000000 (Go.IntKind.u64.wrap (q : Int)) = some ((pc q : Nat) : Int) from ones_fin ⟨q, by omega⟩, some_bind, w1' x (by omega), w64 (by omega) (by omega)]) (by
    intro k s hs
    rw [impl_MeanRolled.l0, if_neg (by omega)]) 200000000 0 (by omega) (by omega)
  exact ⟨_, a1.2.1, a1.1, a2.1⟩
theorem MeanRolled_same (l : List (Ar 6)) (g : Int × Int) (r : Int) (h : l.length ≤ 1048576) : ∃ q, spec_MeanRolled.f 200000000 l g r = some q ∧ impl_MeanRolled.f 200000000 l g r = some q := by
  obtain ⟨b, b1, b2, b3, b4⟩ := good_same l g r h
  unfold spec_MeanRolled.f impl_MeanRolled.f
  rw [b1, b3, some_bind, some_bind]
  cases b with
  | false => exact ⟨_, rfl, rfl⟩
  | true =>
    obtain ⟨hn, hd, hg, hr⟩ := b4 rfl
    rw [if_pos rfl]
    by_cases hr1 : r < 1
    · rw [if_pos hr1, decide_eq_false (show ¬ 1 ≤ r by omega)]
      exact ⟨_, rfl, rfl⟩
    · obtain ⟨L, hL, hV⟩ := vals_same l l.length rfl hn hd g hg
      obtain ⟨x, rfl⟩ := nat_of r hr.1
      have hok := VL_ok l.length hn L hL (x - 1) (by omega)
      have hpl := plan_eq l l.length rfl hn g x ⟨by omega, by omega⟩ _ hok (hV (x - 1) (by omega)).1
      obtain ⟨q, q0, q1, q2⟩ := rolled_same l l.length rfl hn L hL x ⟨by omega, by omega⟩
      obtain ⟨t, u, t1, t2, t3⟩ := mean_same l ((List.range (x + 1)).map (VL l.length L)) l.length 1 rfl hn (by omega) q q0
      have ht : t = ((6 ^ l.length : Nat) : Int) := by
        unfold spec_l6Parts.f at t1
        have e : wrap64 ((l.length : Int) * ((1 : Nat) : Int)) = (l.length : Int) := by rw [w64 (by omega) (by omega)]; omega
        rw [e, all_power, power_eq 200000000 (by omega) _ (by omega), ← powN, some_bind] at t1
        exact (some_some t1).symm
      rw [if_neg hr1, decide_eq_true (show 1 ≤ (x : Int) by omega), Bool.and_self, if_pos rfl, hpl, some_bind, q1, some_bind, List.length_map, List.length_range, ← ht, t2, (hV x (by omega)).2, some_bind, some_bind, outs_eq l _ l.length rfl hn.2, some_bind, q2, some_bind, show impl_again_mean__c.f 200000000 l ((List.range (x + 1)).map (VL l.length L)) q 1 = some u from t3]
      exact ⟨_, rfl, rfl⟩
theorem MeanRolled_pure (l0 : List (Ar 6)) (a1 : Int × Int) (a2 : Int) (m : l0.length ≤ maxLen) (_w : ∀ z ∈ l0, ∀ y ∈ z.l, (Lit.int .i64 y).wf = true) (_w1 : (Lit.int .i64 a1.1).wf = true ∧ (Lit.int .i64 a1.2).wf = true) (_w2 : (Lit.int .i64 a2).wf = true) : ∃ K, laws_FnExactMeanRolled.f K l0 a1 a2 = some true := by
  refine ⟨200000000, ?_⟩
  unfold laws_FnExactMeanRolled.f
  rcases sizeA6S 200000000 l0 m with ⟨h, _⟩ | ⟨z, hz, h, h'⟩
  · rw [h]; rfl
  · rw [h]
    obtain ⟨q, h1, h2⟩ := MeanRolled_same l0 a1 a2 h'
    have t1 := toA6S 200000000 l0 h' (by omega)
    have q1 := eqA6S 200000000 l0 h' (by omega)
    have q2 := fun a => eqA2 200000000 (by omega) a
    simp only [t1, laws_toGoal.f, h1, h2, q1, q2, some_bind, if_true, beq_self_eq_true, show ¬ z < 0 by omega, if_false]
end Go.Proofs.Ytlbedonjfihldaa.WMeanRolled

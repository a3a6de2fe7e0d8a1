/- The plain law: what the walk shows to be computed answers true. Conditions: the numbers are 64-bit. -/
import Derived.Test.YtgmalhohckcogaaWBestRunner
import Derived.KernelRfl
namespace Go.Proofs.Ytgmalhohckcogaa.WBestRunner
open Go.K Go.RowKit
set_option linter.unusedVariables false
set_option linter.unusedSimpArgs false

theorem in_eq (K : Nat) (a lo hi : Int) : impl_within.f K a lo hi = some (decide (lo ≤ a ∧ a ≤ hi)) := by
  unfold impl_within.f
  by_cases h : lo ≤ a <;> simp [h]
theorem in_within : spec_l1In.f = impl_within.f := by kernel_rfl
def faceB (a : Int) : Bool := decide (0 ≤ a ∧ a ≤ 30)
theorem isFace_eq (K : Nat) (_hK : 2000000 ≤ K) (a : Int) : impl_isFace.f K a = some (faceB a) := by
  unfold impl_isFace.f
  rw [in_eq]; rfl
theorem w1 (n : Nat) (h : n ≤ 4000000000000000000) : wrap64 ((n : Int) + 1) = ((n + 1 : Nat) : Int) := by rw [w64 (by omega) (by omega)]; omega
theorem allFace_l0 (K : Nat) (hK : 2000000 ≤ K) (l : List Int) (h : l.length ≤ 1073741824) : ∀ (k n : Nat), n ≤ l.length → l.length - n < k →
    (slices_IndexFunc_int_int__areAll_int_1_isFace.l0 K l k (n : Int) = some (Sum.inl ()) ∧ (l.drop n).all faceB = true) ∨ (∃ i : Int, 0 ≤ i ∧ slices_IndexFunc_int_int__areAll_int_1_isFace.l0 K l k (n : Int) = some (Sum.inr i) ∧ (l.drop n).all faceB = false) := by
  intro k
  induction k with
  | zero => intro n h1 h2; omega
  | succ k ih =>
    intro n h1 h2
    rw [slices_IndexFunc_int_int__areAll_int_1_isFace.l0]
    by_cases hn : (n : Int) < (l.length : Int)
    · have hn' : n < l.length := by omega
      have hnn : ((n : Int)).toNat = n := by omega
      have hd : l.drop n = l[n] :: l.drop (n + 1) := List.drop_eq_getElem_cons hn'
      have hg : l.getD n (0 : Int) = l[n] := by rw [List.getD_eq_getElem?_getD, List.getElem?_eq_getElem hn']; rfl
      rw [if_pos hn, if_pos (by omega), w1 n (by omega), hnn, hg, impl_areAll_int_1__isFace.f, isFace_eq K hK, hd]
      simp only [some_bind, List.all_cons]
      rcases Bool.eq_false_or_eq_true (faceB l[n]) with e | e
      · rw [e]
        simp only [Bool.not_true, Bool.false_eq_true, if_false, Bool.true_and]
        exact ih (n + 1) (by omega) (by omega)
      · rw [e]
        simp only [Bool.not_false, if_true, Bool.false_and]
        exact .inr ⟨_, by omega, rfl, trivial⟩
    · rw [if_neg hn]
      have : n = l.length := by omega
      subst this
      exact .inl ⟨rfl, by simp⟩
theorem allFace_eq (K : Nat) (hK : 2000000 ≤ K) (l : List Int) (h : l.length ≤ 1048576) : impl_areAll_int__isFace.f K l = some (l.all faceB) := by
  unfold impl_areAll_int__isFace.f slices_ContainsFunc_int_int__areAll_int_1_isFace.f slices_IndexFunc_int_int__areAll_int_1_isFace.f
  rcases allFace_l0 K hK l (by omega) K 0 (by omega) (by omega) with ⟨h1, h2⟩ | ⟨i, hi, h1, h2⟩
  · rw [show (0 : Int) = ((0 : Nat) : Int) from rfl, h1]
    simp only [some_bind, List.drop_zero] at h2 ⊢
    rw [h2]; rfl
  · rw [show (0 : Int) = ((0 : Nat) : Int) from rfl, h1]
    simp only [some_bind, List.drop_zero] at h2 ⊢
    rw [h2]
    have : decide (((0 : Nat) : Int) ≤ i) = true := decide_eq_true (by simpa using hi)
    rw [this]; rfl
def dieP (a : Ar 6) : Prop := ((0 ≤ a.get 0 ∧ a.get 0 ≤ 30) ∧ (0 ≤ a.get 1 ∧ a.get 1 ≤ 30) ∧ (0 ≤ a.get 2 ∧ a.get 2 ≤ 30) ∧ (0 ≤ a.get 3 ∧ a.get 3 ≤ 30) ∧ (0 ≤ a.get 4 ∧ a.get 4 ≤ 30) ∧ (0 ≤ a.get 5 ∧ a.get 5 ≤ 30)) ∧ (a.get 0 ≤ a.get 1 ∧ a.get 1 ≤ a.get 2 ∧ a.get 2 ≤ a.get 3 ∧ a.get 3 ≤ a.get 4 ∧ a.get 4 ≤ a.get 5)
instance (a : Ar 6) : Decidable (dieP a) := by unfold dieP; infer_instance
def dieB (a : Ar 6) : Bool := decide (dieP a)
theorem die_get (x y z u v w : Int) : (Ar.get (⟨[x, y, z, u, v, w], rfl⟩ : Ar 6) 0 = x ∧ Ar.get (⟨[x, y, z, u, v, w], rfl⟩ : Ar 6) 1 = y ∧ Ar.get (⟨[x, y, z, u, v, w], rfl⟩ : Ar 6) 2 = z) ∧ (Ar.get (⟨[x, y, z, u, v, w], rfl⟩ : Ar 6) 3 = u ∧ Ar.get (⟨[x, y, z, u, v, w], rfl⟩ : Ar 6) 4 = v ∧ Ar.get (⟨[x, y, z, u, v, w], rfl⟩ : Ar 6) 5 = w) := ⟨⟨rfl, rfl, rfl⟩, rfl, rfl, rfl⟩
set_option maxHeartbeats 4000000 in
theorem die_spec (K : Nat) (hK : 2000000 ≤ K) (a : Ar 6) : spec_l2Die.f K a = some (dieB a) := by
  obtain ⟨k, rfl⟩ := Nat.exists_eq_add_of_le (show 8 ≤ K by omega)
  obtain ⟨x, y, z, u, v, w, rfl⟩ := Ar.cases6 a
  have e : 8 + k = k + 1 + 1 + 1 + 1 + 1 + 1 + 1 + 1 := by omega
  unfold spec_l2Die.f dieB dieP
  obtain ⟨⟨g0, g1, g2⟩, g3, g4, g5⟩ := die_get x y z u v w
  rw [e]
  simp only [spec_l2Die.l0, in_within, in_eq, some_bind, show (0 : Int) < 6 by decide, show wrap64 (0 + 1) = 1 by decide +kernel, show wrap64 (1 + 1) = 2 by decide +kernel, show wrap64 (2 + 1) = 3 by decide +kernel, show wrap64 (3 + 1) = 4 by decide +kernel, show wrap64 (4 + 1) = 5 by decide +kernel, show wrap64 (5 + 1) = 6 by decide +kernel, show wrap64 (1 - 1) = 0 by decide +kernel, show wrap64 (2 - 1) = 1 by decide +kernel, show wrap64 (3 - 1) = 2 by decide +kernel, show wrap64 (4 - 1) = 3 by decide +kernel, show wrap64 (5 - 1) = 4 by decide +kernel, g0, g1, g2, g3, g4, g5, decide_eq_true_eq]
  simp
  repeat' split
  all_goals simp_all
  all_goals omega
set_option maxHeartbeats 4000000 in
theorem die_impl (K : Nat) (hK : 2000000 ≤ K) (a : Ar 6) : impl_IsDie.f K a = some (dieB a) := by
  obtain ⟨x, y, z, u, v, w, rfl⟩ := Ar.cases6 a
  unfold impl_IsDie.f dieB dieP
  rw [allFace_eq K hK _ (by simp)]
  obtain ⟨k, rfl⟩ := Nat.exists_eq_add_of_le (show 8 ≤ K by omega)
  have e : 8 + k = k + 1 + 1 + 1 + 1 + 1 + 1 + 1 + 1 := by omega
  obtain ⟨⟨g0, g1, g2⟩, g3, g4, g5⟩ := die_get x y z u v w
  unfold slices_IsSorted_int_int.f
  rw [e]
  simp [slices_IsSorted_int_int.l0, cmp_Less_int.f, cmp_isNaN_int.f, some_bind, show wrap64 (6 - 1) = 5 by decide +kernel, show wrap64 5 = 5 by decide +kernel, show wrap64 (5 - 1) = 4 by decide +kernel, show wrap64 (4 - 1) = 3 by decide +kernel, show wrap64 (3 - 1) = 2 by decide +kernel, show wrap64 (2 - 1) = 1 by decide +kernel, show wrap64 (1 - 1) = 0 by decide +kernel, show wrap64 4 = 4 by decide +kernel, show wrap64 3 = 3 by decide +kernel, show wrap64 2 = 2 by decide +kernel, show wrap64 1 = 1 by decide +kernel, show wrap64 0 = 0 by decide +kernel, g0, g1, g2, g3, g4, g5, faceB]
  repeat' split
  all_goals simp_all
  all_goals omega
theorem runner_eq (K : Nat) (hK : 2000000 ≤ K) (a : Ar 6) : spec_l7Die.f K a = some (dieB a && decide (0 < a.get 0)) ∧ impl_isRunner.f K a = some (dieB a && decide (0 < a.get 0)) := by
  unfold spec_l7Die.f impl_isRunner.f
  rw [die_spec K hK, die_impl K hK]
  simp only [some_bind]
  cases dieB a <;> simp
theorem goal_goal : spec_l7Goal.f = impl_isGoal.f := by kernel_rfl
theorem goal_some (K : Nat) (a : Int) : impl_isGoal.f K a = some (decide (1 ≤ a ∧ a ≤ 8)) := by
  unfold impl_isGoal.f
  rw [in_eq]; rfl
def runB (a : Ar 6) : Bool := dieB a && decide (0 < a.get 0)
theorem isRunner_eq (K : Nat) (hK : 2000000 ≤ K) (a : Ar 6) : impl_isRunner.f K a = some (runB a) := (runner_eq K hK a).2
theorem l7Die_eq (K : Nat) (hK : 2000000 ≤ K) (a : Ar 6) : spec_l7Die.f K a = some (runB a) := (runner_eq K hK a).1
theorem runB_ok (a : Ar 6) (h : runB a = true) : dieB a = true ∧ 0 < a.get 0 := by
  unfold runB at h
  simpa using h
theorem allRunner_l0 (K : Nat) (hK : 2000000 ≤ K) (l : List (Ar 6)) (h : l.length ≤ 1073741824) : ∀ (k n : Nat), n ≤ l.length → l.length - n < k →
    (slices_IndexFunc_6_int_6_int__areAll_6_int_1_isRunner.l0 K l k (n : Int) = some (Sum.inl ()) ∧ (l.drop n).all runB = true) ∨ (∃ i : Int, 0 ≤ i ∧ slices_IndexFunc_6_int_6_int__areAll_6_int_1_isRunner.l0 K l k (n : Int) = some (Sum.inr i) ∧ (l.drop n).all runB = false) := by
  intro k
  induction k with
  | zero => intro n h1 h2; omega
  | succ k ih =>
    intro n h1 h2
    rw [slices_IndexFunc_6_int_6_int__areAll_6_int_1_isRunner.l0]
    by_cases hn : (n : Int) < (l.length : Int)
    · have hn' : n < l.length := by omega
      have hnn : ((n : Int)).toNat = n := by omega
      have hd : l.drop n = l[n] :: l.drop (n + 1) := List.drop_eq_getElem_cons hn'
      have hg : l.getD n (Ar.zero 6) = l[n] := by rw [List.getD_eq_getElem?_getD, List.getElem?_eq_getElem hn']; rfl
      rw [if_pos hn, if_pos (by omega), w1 n (by omega), hnn, hg, impl_areAll_6_int_1__isRunner.f, isRunner_eq K hK, hd]
      simp only [some_bind, List.all_cons]
      rcases Bool.eq_false_or_eq_true (runB l[n]) with e | e
      · rw [e]
        simp only [Bool.not_true, Bool.false_eq_true, if_false, Bool.true_and]
        exact ih (n + 1) (by omega) (by omega)
      · rw [e]
        simp only [Bool.not_false, if_true, Bool.false_and]
        exact .inr ⟨_, by omega, rfl, trivial⟩
    · rw [if_neg hn]
      have : n = l.length := by omega
      subst this
      exact .inl ⟨rfl, by simp⟩
theorem allRunner_eq (K : Nat) (hK : 2000000 ≤ K) (l : List (Ar 6)) (h : l.length ≤ 1048576) : impl_areAll_6_int__isRunner.f K l = some (l.all runB) := by
  unfold impl_areAll_6_int__isRunner.f slices_ContainsFunc_6_int_6_int__areAll_6_int_1_isRunner.f slices_IndexFunc_6_int_6_int__areAll_6_int_1_isRunner.f
  rcases allRunner_l0 K hK l (by omega) K 0 (by omega) (by omega) with ⟨h1, h2⟩ | ⟨i, hi, h1, h2⟩
  · rw [show (0 : Int) = ((0 : Nat) : Int) from rfl, h1]
    simp only [some_bind, List.drop_zero] at h2 ⊢
    rw [h2]; rfl
  · rw [show (0 : Int) = ((0 : Nat) : Int) from rfl, h1]
    simp only [some_bind, List.drop_zero] at h2 ⊢
    rw [h2]
    have : decide (((0 : Nat) : Int) ≤ i) = true := decide_eq_true (by simpa using hi)
    rw [this]; rfl
theorem IsDie_eq (K : Nat) (hK : 2000000 ≤ K) (a : Ar 6) : impl_IsDie.f K a = some (dieB a) := die_impl K hK a
theorem capRow_l0 (K : Nat) (hK : 2000000 ≤ K) (l : List (Ar 6)) (h : l.length ≤ 1073741824) : ∀ (k n : Nat), n ≤ l.length → l.length - n < k →
    (spec_l3Row.l0 K l k (n : Int) = some (Sum.inl ()) ∧ ((l.length : Int) ≤ 6 → (l.drop n).all dieB = true)) ∨ (spec_l3Row.l0 K l k (n : Int) = some (Sum.inr false) ∧ (l.drop n).all dieB = false) := by
  intro k
  induction k with
  | zero => intro n h1 h2; omega
  | succ k ih =>
    intro n h1 h2
    rw [spec_l3Row.l0]
    by_cases hn : (n : Int) < (l.length : Int)
    · rw [if_pos hn]
      by_cases hc : (n : Int) ≤ 6
      · have hn' : n < l.length := by omega
        have hnn : ((n : Int)).toNat = n := by omega
        have hd : l.drop n = l[n] :: l.drop (n + 1) := List.drop_eq_getElem_cons hn'
        have hg : l.getD n (Ar.zero 6) = l[n] := by rw [List.getD_eq_getElem?_getD, List.getElem?_eq_getElem hn']; rfl
        rw [if_pos hc, if_pos (by omega), w1 n (by omega), hnn, hg, die_spec K hK, hd]
        simp only [some_bind, List.all_cons]
        rcases Bool.eq_false_or_eq_true (dieB l[n]) with e | e
        · rw [e]
          simp only [if_true, Bool.true_and]
          exact ih (n + 1) (by omega) (by omega)
        · rw [e]
          simp only [Bool.false_eq_true, if_false, Bool.false_and]
          exact .inr ⟨trivial, trivial⟩
      · rw [if_neg hc]
        exact .inl ⟨rfl, fun h => by omega⟩
    · rw [if_neg hn]
      have : n = l.length := by omega
      subst this
      exact .inl ⟨rfl, by simp⟩
theorem allDie_l0 (K : Nat) (hK : 2000000 ≤ K) (l : List (Ar 6)) (h : l.length ≤ 1073741824) : ∀ (k n : Nat), n ≤ l.length → l.length - n < k →
    (slices_IndexFunc_6_int_6_int__areAll_6_int_1_IsDie.l0 K l k (n : Int) = some (Sum.inl ()) ∧ (l.drop n).all dieB = true) ∨ (∃ i : Int, 0 ≤ i ∧ slices_IndexFunc_6_int_6_int__areAll_6_int_1_IsDie.l0 K l k (n : Int) = some (Sum.inr i) ∧ (l.drop n).all dieB = false) := by
  intro k
  induction k with
  | zero => intro n h1 h2; omega
  | succ k ih =>
    intro n h1 h2
    rw [slices_IndexFunc_6_int_6_int__areAll_6_int_1_IsDie.l0]
    by_cases hn : (n : Int) < (l.length : Int)
    · have hn' : n < l.length := by omega
      have hnn : ((n : Int)).toNat = n := by omega
      have hd : l.drop n = l[n] :: l.drop (n + 1) := List.drop_eq_getElem_cons hn'
      have hg : l.getD n (Ar.zero 6) = l[n] := by rw [List.getD_eq_getElem?_getD, List.getElem?_eq_getElem hn']; rfl
      rw [if_pos hn, if_pos (by omega), w1 n (by omega), hnn, hg, impl_areAll_6_int_1__IsDie.f, IsDie_eq K hK, hd]
      simp only [some_bind, List.all_cons]
      rcases Bool.eq_false_or_eq_true (dieB l[n]) with e | e
      · rw [e]
        simp only [Bool.not_true, Bool.false_eq_true, if_false, Bool.true_and]
        exact ih (n + 1) (by omega) (by omega)
      · rw [e]
        simp only [Bool.not_false, if_true, Bool.false_and]
        exact .inr ⟨_, by omega, rfl, trivial⟩
    · rw [if_neg hn]
      have : n = l.length := by omega
      subst this
      exact .inl ⟨rfl, by simp⟩
theorem allDie_eq (K : Nat) (hK : 2000000 ≤ K) (l : List (Ar 6)) (h : l.length ≤ 1048576) : impl_areAll_6_int__IsDie.f K l = some (l.all dieB) := by
  unfold impl_areAll_6_int__IsDie.f slices_ContainsFunc_6_int_6_int__areAll_6_int_1_IsDie.f slices_IndexFunc_6_int_6_int__areAll_6_int_1_IsDie.f
  rcases allDie_l0 K hK l (by omega) K 0 (by omega) (by omega) with ⟨h1, h2⟩ | ⟨i, hi, h1, h2⟩
  · rw [show (0 : Int) = ((0 : Nat) : Int) from rfl, h1]
    simp only [some_bind, List.drop_zero] at h2 ⊢
    rw [h2]; rfl
  · rw [show (0 : Int) = ((0 : Nat) : Int) from rfl, h1]
    simp only [some_bind, List.drop_zero] at h2 ⊢
    rw [h2]
    have : decide (((0 : Nat) : Int) ≤ i) = true := decide_eq_true (by simpa using hi)
    rw [this]; rfl
def nn (l : List Int) : Prop := ∀ x ∈ l, 0 ≤ x
theorem nn_sum : ∀ l : List Int, nn l → 0 ≤ l.sum
  | [], _ => by simp
  | x :: l, h => by
    have h1 := h x List.mem_cons_self
    have h2 := nn_sum l (fun y hy => h y (List.mem_cons_of_mem _ hy))
    simp only [List.sum_cons]
    omega
theorem nn_get (l : List Int) (h : nn l) (i : Nat) (hi : i < l.length) : 0 ≤ l.getD i 0 := by
  rw [List.getD_eq_getElem?_getD, List.getElem?_eq_getElem hi]
  exact h _ (List.getElem_mem hi)
theorem nn_le : ∀ (l : List Int) (i : Nat), nn l → i < l.length → l.getD i 0 ≤ l.sum
  | [], i, _, hi => by simp at hi
  | x :: l, 0, h, _ => by
    have h2 := nn_sum l (fun y hy => h y (List.mem_cons_of_mem _ hy))
    simp only [List.getD_cons_zero, List.sum_cons]
    omega
  | x :: l, i + 1, h, hi => by
    have h1 := h x List.mem_cons_self
    have h2 := nn_le l i (fun y hy => h y (List.mem_cons_of_mem _ hy)) (by simpa using hi)
    simp only [List.getD_cons_succ, List.sum_cons]
    omega
theorem sum_set : ∀ (l : List Int) (i : Nat) (v : Int), i < l.length → (l.set i (l.getD i 0 + v)).sum = l.sum + v
  | [], i, v, hi => by simp at hi
  | x :: l, 0, v, _ => by simp only [List.set_cons_zero, List.getD_cons_zero, List.sum_cons]; omega
  | x :: l, i + 1, v, hi => by
    have h2 := sum_set l i v (by simpa using hi)
    simp only [List.set_cons_succ, List.getD_cons_succ, List.sum_cons, h2]
    omega
theorem nn_set (l : List Int) (i : Nat) (v : Int) (h : nn l) (hv : 0 ≤ v) : nn (l.set i v) := by
  intro x hx
  rcases List.mem_or_eq_of_mem_set hx with h1 | h1
  · exact h x h1
  · omega
theorem nn_rep (n : Nat) : nn (List.replicate n 0) := by
  intro x hx
  rw [(List.mem_replicate.1 hx).2]
  omega
theorem sum_rep (n : Nat) : (List.replicate n (0 : Int)).sum = 0 := by
  induction n with
  | zero => rfl
  | succ n ih => rw [List.replicate_succ, List.sum_cons, ih]; rfl
theorem all_power : spec_l2All.f = impl_power.f := by kernel_rfl
theorem pow_lt (n : Nat) (h : n ≤ 22) : (6 : Int) ^ n ≤ 131621703842267136 := by
  have : (6 : Nat) ^ n ≤ 6 ^ 22 := Nat.pow_le_pow_right (by omega) h
  have h2 : ((6 ^ n : Nat) : Int) ≤ ((6 ^ 22 : Nat) : Int) := by exact_mod_cast this
  simpa using h2
theorem pow_pos (n : Nat) : (1 : Int) ≤ 6 ^ n := by
  have : 1 ≤ (6 : Nat) ^ n := Nat.one_le_pow _ _ (by omega)
  have h2 : ((1 : Nat) : Int) ≤ ((6 ^ n : Nat) : Int) := by exact_mod_cast this
  simpa using h2
theorem power_l0 (K : Nat) (n : Nat) (hn : n ≤ 22) : ∀ (k i : Nat), i ≤ n → n - i < k → impl_power.l0 K (n : Int) k ((6 : Int) ^ i) (i : Int) = some ((6 : Int) ^ n) := by
  intro k
  induction k with
  | zero => intro i h1 h2; omega
  | succ k ih =>
    intro i h1 h2
    rw [impl_power.l0]
    by_cases h : (i : Int) < (n : Int)
    · have hp := pow_lt (i + 1) (by omega)
      have hq := pow_pos (i + 1)
      have e : (6 : Int) ^ i * 6 = 6 ^ (i + 1) := (Int.pow_succ 6 i).symm
      rw [if_pos h, e, w64 (n := (6 : Int) ^ (i + 1)) (by omega) (by omega), w64 (n := (i : Int) + 1) (by omega) (by omega), show (i : Int) + 1 = ((i + 1 : Nat) : Int) by omega]
      exact ih (i + 1) (by omega) (by omega)
    · rw [if_neg h, show i = n by omega]
theorem power_eq (K : Nat) (hK : 30 ≤ K) (n : Nat) (hn : n ≤ 22) : impl_power.f K (n : Int) = some ((6 : Int) ^ n) := by
  unfold impl_power.f
  rw [show impl_power.l0 K (n : Int) K 1 0 = some ((6 : Int) ^ n) from power_l0 K n hn K 0 (by omega) (by omega)]
  rfl
theorem runner_faces (a : Ar 6) (h : (dieB a = true ∧ 0 < a.get 0)) : ∀ i : Int, 0 ≤ i → i < 6 → 1 ≤ a.get i ∧ a.get i ≤ 30 := by
  obtain ⟨h1, h2⟩ := h
  have h3 := of_decide_eq_true h1
  unfold dieP at h3
  intro i h0 h6
  rcases (show i = 0 ∨ i = 1 ∨ i = 2 ∨ i = 3 ∨ i = 4 ∨ i = 5 by omega) with rfl | rfl | rfl | rfl | rfl | rfl <;> omega
theorem getD_append_last (S : List Int) (v : Int) : (S ++ [v]).getD S.length 0 = v := by
  rw [List.getD_eq_getElem?_getD, List.getElem?_append_right (Nat.le_refl _), Nat.sub_self]
  rfl
theorem getD_append_left (S : List Int) (v : Int) (i : Nat) (h : i < S.length) : (S ++ [v]).getD i 0 = S.getD i 0 := by
  rw [List.getD_eq_getElem?_getD, List.getD_eq_getElem?_getD, List.getElem?_append_left h]
theorem runs_l12 (K : Nat) (a : Ar 6) (ha : ∀ i : Int, 0 ≤ i → i < 6 → 1 ≤ a.get i ∧ a.get i ≤ 30) (g : Nat) (hg : g ≤ 8) (cur : List Int) (hcur : nn cur) (hlen : cur.length = g) (s : Nat) (hs : s < g) :
    ∀ (k n : Nat) (win : Int) (N : List Int), n ≤ 6 → 6 - n < k → 0 ≤ win → nn N → N.length = g → win + N.sum + (6 - n) * cur.getD s 0 ≤ 10000000 →
    ∃ win' N', spec_l7Run.l12 K a (g : Int) cur (s : Int) k win (n : Int) N = some (win', N') ∧ impl_runs.l16 K a (g : Int) cur (s : Int) k win (n : Int) N = some (win', N') ∧ 0 ≤ win' ∧ nn N' ∧ N'.length = g ∧ win' + N'.sum = win + N.sum + (6 - n) * cur.getD s 0 := by
  intro k
  induction k with
  | zero => intro n win N h1 h2; omega
  | succ k ih =>
    intro n win N h1 h2 h3 h4 h5 h6
    rw [spec_l7Run.l12, impl_runs.l16]
    by_cases hn : (n : Int) < 6
    · have c1 : (0 : Int) ≤ (n : Int) ∧ (n : Int) < 6 := by omega
      have c2 : (0 : Int) ≤ (s : Int) ∧ (s : Int) < (cur.length : Int) := by omega
      have hf := ha (n : Int) (by omega) (by omega)
      have hss : ((s : Int)).toNat = s := by omega
      have hc0 : 0 ≤ cur.getD s 0 := nn_get cur hcur s (by omega)
      have hN0 := nn_sum N h4
      have hst : (6 - (n : Int)) * cur.getD s 0 = cur.getD s 0 + (6 - ((n + 1 : Nat) : Int)) * cur.getD s 0 := by
        rw [show (6 : Int) - (n : Int) = 1 + (6 - ((n + 1 : Nat) : Int)) by omega, Int.add_mul, Int.one_mul]
      have hrest : 0 ≤ (6 - ((n + 1 : Nat) : Int)) * cur.getD s 0 := Int.mul_nonneg (by omega) (by omega)
      have e1 : wrap64 ((s : Int) + a.get (n : Int)) = (s : Int) + a.get (n : Int) := w64 (by omega) (by omega)
      obtain ⟨i, hi⟩ : ∃ i : Nat, (s : Int) + a.get (n : Int) = i := ⟨((s : Int) + a.get (n : Int)).toNat, by omega⟩
      have e1' : wrap64 (i : Int) = (i : Int) := w64 (by omega) (by omega)
      simp only [if_pos hn, if_pos c1, if_pos c2, hss, w1 n (by omega), hi, e1', Int.toNat_natCast]
      clear e1 e1' hi hf c1 c2 hss ha
      have q0 : win + cur.getD s 0 + N.sum + (6 - ((n + 1 : Nat) : Int)) * cur.getD s 0 ≤ 10000000 := by clear ih; omega
      have q1 : wrap64 (win + cur.getD s 0) = win + cur.getD s 0 := w64 (by clear ih; omega) (by clear ih; omega)
      by_cases hge : (g : Int) ≤ (i : Int)
      · have hlt : ¬ (i : Int) < (g : Int) := Int.not_lt.2 hge
        simp only [if_neg hlt, if_pos hge, q1]
        obtain ⟨w', N', r1, r2, r3, r4, r5, r6⟩ := ih (n + 1) (win + cur.getD s 0) N (by clear ih; omega) (by clear ih; omega) (by clear ih; omega) h4 h5 q0
        refine ⟨w', N', r1, r2, r3, r4, r5, ?_⟩
        rw [r6, hst, ← Int.add_assoc, Int.add_right_comm win]
      · have hlt : (i : Int) < (g : Int) := Int.not_le.1 hge
        have hi2 : i < N.length := by rw [h5]; exact Int.ofNat_lt.1 hlt
        have c3 : (0 : Int) ≤ (i : Int) ∧ (i : Int) < (N.length : Int) := ⟨Int.natCast_nonneg _, Int.ofNat_lt.2 hi2⟩
        have g1 := nn_get N h4 i hi2
        have g2 := nn_le N i h4 hi2
        have hsum := sum_set N i (cur.getD s 0) hi2
        have q2 : wrap64 (N.getD i 0 + cur.getD s 0) = N.getD i 0 + cur.getD s 0 := w64 (by clear ih hsum; omega) (by clear ih hsum; omega)
        simp only [if_pos hlt, if_neg hge, if_pos c3, q2]
        obtain ⟨w', N', r1, r2, r3, r4, r5, r6⟩ := ih (n + 1) win (N.set i (N.getD i 0 + cur.getD s 0)) (by clear ih; omega) (by clear ih; omega) h3 (nn_set N i _ h4 (by clear ih hsum; omega)) (by rw [List.length_set]; exact h5) (by rw [hsum]; clear ih hsum; omega)
        refine ⟨w', N', r1, r2, r3, r4, r5, ?_⟩
        rw [r6, hsum, hst, ← Int.add_assoc, ← Int.add_assoc]
    · have : n = 6 := by omega
      subst this
      rw [if_neg hn, if_neg hn]
      exact ⟨win, N, rfl, rfl, h3, h4, h5, by simp⟩
theorem runs_l11 (K : Nat) (hK : 1000 ≤ K) (a : Ar 6) (ha : ∀ i : Int, 0 ≤ i → i < 6 → 1 ≤ a.get i ∧ a.get i ≤ 30) (g : Nat) (hg : g ≤ 8) (cur : List Int) (hcur : nn cur) (hlen : cur.length = g) (T : Int) (hT : T ≤ 10000000) :
    ∀ (k s : Nat) (win : Int) (N : List Int), s ≤ g → g - s < k → 0 ≤ win → nn N → N.length = g → win + N.sum + 6 * (cur.drop s).sum = T →
    ∃ win' N', spec_l7Run.l11 K a (g : Int) cur k win (s : Int) N = some (win', N') ∧ impl_runs.l15 K a (g : Int) cur k win (s : Int) N = some (win', N') ∧ 0 ≤ win' ∧ nn N' ∧ N'.length = g ∧ win' + N'.sum = T := by
  intro k
  induction k with
  | zero => intro s win N h1 h2; omega
  | succ k ih =>
    intro s win N h1 h2 h3 h4 h5 h6
    rw [spec_l7Run.l11, impl_runs.l15]
    by_cases hs : (s : Int) < (g : Int)
    · have hs' : s < cur.length := by omega
      have c1 : (s : Int) < (cur.length : Int) := by omega
      have c2 : (0 : Int) ≤ (s : Int) ∧ (s : Int) < (cur.length : Int) := by omega
      have hd : cur.drop s = cur.getD s 0 :: cur.drop (s + 1) := by
        rw [List.drop_eq_getElem_cons hs', List.getD_eq_getElem?_getD, List.getElem?_eq_getElem hs']; rfl
      have hr : 0 ≤ (cur.drop (s + 1)).sum := nn_sum _ (fun y hy => hcur y (List.mem_of_mem_drop hy))
      have e0 : 6 * (cur.drop s).sum = 6 * cur.getD s 0 + 6 * (cur.drop (s + 1)).sum := by
        rw [hd, List.sum_cons, Int.mul_add]
      obtain ⟨w', N', r1, r2, r3, r4, r5, r6⟩ := runs_l12 K a ha g hg cur hcur hlen s (by omega) K 0 win N (by omega) (by omega) h3 h4 h5 (by rw [show ((0 : Nat) : Int) = 0 from rfl, Int.sub_zero]; omega)
      rw [show ((0 : Nat) : Int) = 0 from rfl] at r1 r2 r6
      rw [Int.sub_zero] at r6
      simp only [if_pos hs, if_pos c1, if_pos c2, r1, r2, some_bind, w1 s (by omega)]
      exact ih (s + 1) w' N' (by omega) (by omega) r3 r4 r5 (by omega)
    · have : s = g := by omega
      subst this
      rw [if_neg hs, if_neg (by omega)]
      have hz : cur.drop s = [] := List.drop_of_length_le (by omega)
      rw [hz] at h6
      exact ⟨win, N, rfl, rfl, h3, h4, h5, by simpa using h6⟩
def RunR (g : Nat) (x : Nat) (t r : List Int) : Prop := t.length = x ∧ r.length + 1 = x ∧ ∀ i : Nat, i < r.length → r.getD i 0 = t.getD (i + 1) 0 * 6 ^ (g - 1 - i) ∧ 0 ≤ t.getD (i + 1) 0 ∧ t.getD (i + 1) 0 ≤ 6 ^ (i + 1)
theorem pow8 (n : Nat) (h : n ≤ 8) : (6 : Int) ^ n ≤ 1679616 := by
  rcases (show n = 0 ∨ n = 1 ∨ n = 2 ∨ n = 3 ∨ n = 4 ∨ n = 5 ∨ n = 6 ∨ n = 7 ∨ n = 8 by omega) with rfl | rfl | rfl | rfl | rfl | rfl | rfl | rfl | rfl <;> decide
theorem runs_l8 (K : Nat) (hK : 1000 ≤ K) (a : Ar 6) (ha : ∀ i : Int, 0 ≤ i → i < 6 → 1 ≤ a.get i ∧ a.get i ≤ 30) (g : Nat) (hg : 1 ≤ g ∧ g ≤ 8) :
    ∀ (k x : Nat) (cur t r : List Int), 1 ≤ x → x ≤ g + 1 → g + 1 - x < k → nn cur → cur.length = g → cur.sum ≤ 6 ^ (x - 1) → RunR g x t r →
    ∃ t' r', spec_l7Run.l8 K a (g : Int) k (x : Int) cur t = some t' ∧ impl_runs.l12 K a (g : Int) k (x : Int) cur r = some r' ∧ RunR g (g + 1) t' r' := by
  intro k
  induction k with
  | zero => intro x cur t r h0 h1 h2; omega
  | succ k ih =>
    intro x cur t r h0 h1 h2 h3 h4 h5 h6
    rw [spec_l7Run.l8, impl_runs.l12]
    by_cases hx : (x : Int) ≤ (g : Int)
    · have e6 : (6 : Int) ^ x = 6 * 6 ^ (x - 1) := by
        conv => lhs; rw [show x = (x - 1) + 1 by omega]
        rw [Int.pow_succ, Int.mul_comm]
      have hp8 := pow8 x (by omega)
      have hc0 := nn_sum cur h3
      obtain ⟨w', N', r1, r2, r3, r4, r5, r6⟩ := runs_l11 K hK a ha g (by omega) cur h3 h4 (6 * cur.sum) (by omega) K 0 0 (List.replicate g 0) (by omega) (by omega) (by omega) (nn_rep g) (by simp) (by rw [sum_rep, List.drop_zero]; omega)
      rw [show ((0 : Nat) : Int) = 0 from rfl] at r1 r2
      have hN0 := nn_sum N' r4
      have hq := pow_pos (g - x)
      have hq8 := pow8 (g - x) (by omega)
      have hpw : impl_power.f K (wrap64 ((g : Int) - (x : Int))) = some ((6 : Int) ^ (g - x)) := by
        rw [w64 (by omega) (by omega), show (g : Int) - (x : Int) = ((g - x : Nat) : Int) by omega, power_eq K (by omega) (g - x) (by omega)]
      have hm0 : 0 ≤ w' * 6 ^ (g - x) := Int.mul_nonneg r3 (by omega)
      have hm1 : w' * 6 ^ (g - x) ≤ 6 ^ x * 6 ^ (g - x) := Int.mul_le_mul_of_nonneg_right (by omega) (by omega)
      have hm2 : (6 : Int) ^ x * 6 ^ (g - x) ≤ 1679616 := by
        rw [← Int.pow_add]; exact pow8 _ (by omega)
      obtain ⟨k1, k2, k3⟩ := h6
      have c1 : t.length + [w'].length ≤ 1073741824 := by simp; omega
      have c2 : r.length + [w' * 6 ^ (g - x)].length ≤ 1073741824 := by simp; omega
      simp only [if_pos hx, Int.toNat_natCast, r1, r2, some_bind, hpw, w1 x (by omega), w64 (n := w' * 6 ^ (g - x)) (by omega) (by omega), if_pos c1, if_pos c2]
      refine ih (x + 1) N' _ _ (by omega) (by omega) (by omega) r4 r5 (by rw [show x + 1 - 1 = x by omega]; omega) ⟨by simp [k1], by simp; omega, ?_⟩
      intro i hi
      simp only [List.length_append, List.length_singleton] at hi
      by_cases hix : i = r.length
      · subst hix
        rw [getD_append_last, show r.length + 1 = t.length by omega, getD_append_last, show g - 1 - r.length = g - x by omega]
        exact ⟨rfl, r3, by rw [k1]; omega⟩
      · rw [getD_append_left r _ i (by omega), getD_append_left t _ (i + 1) (by omega)]
        exact k3 i (by omega)
    · have : x = g + 1 := by omega
      subst this
      rw [if_neg hx, if_neg hx]
      exact ⟨t, r, rfl, rfl, h6⟩
theorem runs_eq (K : Nat) (hK : 1000 ≤ K) (a : Ar 6) (ha : dieB a = true ∧ 0 < a.get 0) (g : Nat) (hg : 1 ≤ g ∧ g ≤ 8) : ∃ t r, spec_l7Run.f K a (g : Int) = some t ∧ impl_runs.f K a (g : Int) = some r ∧ RunR g (g + 1) t r := by
  have c2 : (0 : Int) ≤ (g : Int) ∧ (g : Int) ≤ 1073741824 := by omega
  have c3 : (0 : Int) ≤ 0 ∧ (0 : Int) < ((List.replicate g (0 : Int)).length : Int) := by rw [List.length_replicate]; omega
  have hs : ((List.replicate g (0 : Int)).set 0 1).sum = 1 := by
    have := sum_set (List.replicate g 0) 0 1 (by rw [List.length_replicate]; omega)
    rw [sum_rep] at this
    have q : (List.replicate g (0 : Int)).getD 0 0 + 1 = 1 := by
      rw [List.getD_eq_getElem?_getD, List.getElem?_replicate]
      split <;> rfl
    rw [q] at this
    exact this
  obtain ⟨t, r, r1, r2, r3⟩ := runs_l8 K hK a (runner_faces a ha) g hg K 1 ((List.replicate g 0).set 0 1) [0] [] (by omega) (by omega) (by omega) (nn_set _ _ _ (nn_rep _) (by omega)) (by simp) (by rw [hs]; decide) ⟨rfl, rfl, fun i hi => by simp at hi⟩
  have r1' : spec_l7Run.l8 K a (g : Int) K 1 ((List.replicate g 0).set 0 1) [0] = some t := r1
  have r2' : impl_runs.l12 K a (g : Int) K 1 ((List.replicate g 0).set 0 1) [] = some r := r2
  unfold spec_l7Run.f impl_runs.f
  simp only [if_pos c2, Int.toNat_natCast, if_pos c3, show ((0 : Int)).toNat = 0 from rfl, r1', r2', some_bind]
  exact ⟨t, r, rfl, rfl, r3⟩
theorem toA6 (K : Nat) (hK : 8 ≤ K) (a : Ar 6) : laws_toIntA6.f K a = some a := by
  obtain ⟨k, rfl⟩ := Nat.exists_eq_add_of_le hK
  obtain ⟨x, y, z, u, v, w, rfl⟩ := Ar.cases6 a
  have e : 8 + k = k + 1 + 1 + 1 + 1 + 1 + 1 + 1 + 1 := by omega
  unfold laws_toIntA6.f
  rw [e]
  simp only [laws_toIntA6.l0, show (0 : Int) < 6 by decide, show wrap64 (0 + 1) = 1 by decide +kernel, show wrap64 (1 + 1) = 2 by decide +kernel, show wrap64 (2 + 1) = 3 by decide +kernel, show wrap64 (3 + 1) = 4 by decide +kernel, show wrap64 (4 + 1) = 5 by decide +kernel, show wrap64 (5 + 1) = 6 by decide +kernel, if_true, show (0 : Int) ≤ 0 ∧ True by decide]
  rfl
theorem eqA2 (K : Nat) (hK : 3 ≤ K) (a : Ar 2) : laws_eqIntA2.f K a a = some true := by
  obtain ⟨k, rfl⟩ := Nat.exists_eq_add_of_le hK
  rw [show 3 + k = k + 1 + 1 + 1 by omega]
  simp [laws_eqIntA2.f, laws_eqIntA2.l0, wrap64]

theorem term_ok (i x p y acc : Int) (h0 : 1 ≤ i) (h8 : i ≤ 8) (hx0 : 0 ≤ x) (hx : x ≤ 1679616) (hy : y = x * p) (hy0 : 0 ≤ y) (hyM : y ≤ 1679616) (ha0 : 0 ≤ acc) (haM : acc ≤ 200000000) : wrap64 (i * x) = i * x ∧ i * x * p = i * y ∧ wrap64 (i * y) = i * y ∧ wrap64 (acc + i * y) = acc + i * y ∧ 0 ≤ i * y ∧ i * y ≤ 20000000 := by
  have e : i * x * p = i * y := by rw [Int.mul_assoc, ← hy]
  have x0 : 0 ≤ i * x := Int.mul_nonneg (by omega) hx0
  have x1 : i * x ≤ 8 * x := Int.mul_le_mul_of_nonneg_right h8 hx0
  have y0 : 0 ≤ i * y := Int.mul_nonneg (by omega) hy0
  have y1 : i * y ≤ 8 * y := Int.mul_le_mul_of_nonneg_right h8 hy0
  clear hy
  refine ⟨?_, e, ?_, ?_, y0, ?_⟩
  · clear e y0 y1; exact w64 (by omega) (by omega)
  · clear e x0 x1; exact w64 (by omega) (by omega)
  · clear e x0 x1; exact w64 (by omega) (by omega)
  · clear e x0 x1; omega
theorem RunR_ok (g : Nat) (hg : 1 ≤ g ∧ g ≤ 8) (t r : List Int) (hr : RunR g (g + 1) t r) (i : Nat) (hi : i < g) : (t.length = g + 1 ∧ r.length = g) ∧ r.getD i 0 = t.getD (i + 1) 0 * 6 ^ (g - 1 - i) ∧ (0 ≤ t.getD (i + 1) 0 ∧ t.getD (i + 1) 0 ≤ 1679616) ∧ 0 ≤ r.getD i 0 ∧ r.getD i 0 ≤ 1679616 := by
  obtain ⟨k1, k2, k3⟩ := hr
  have hl : r.length = g := by omega
  obtain ⟨e1, e2, e3⟩ := k3 i (by omega)
  have hq := pow_pos (g - 1 - i)
  have hm : (6 : Int) ^ (i + 1) * 6 ^ (g - 1 - i) ≤ 1679616 := by
    rw [← Int.pow_add]; exact pow8 _ (by omega)
  have hq0 : (0 : Int) ≤ 6 ^ (g - 1 - i) := Int.le_trans (by decide) hq
  have hm1 : t.getD (i + 1) 0 * 6 ^ (g - 1 - i) ≤ 6 ^ (i + 1) * 6 ^ (g - 1 - i) := Int.mul_le_mul_of_nonneg_right e3 hq0
  have hm0 : 0 ≤ t.getD (i + 1) 0 * 6 ^ (g - 1 - i) := Int.mul_nonneg e2 hq0
  have h8 := pow8 (i + 1) (by omega)
  refine ⟨⟨k1, hl⟩, e1, ⟨e2, Int.le_trans e3 h8⟩, ?_, ?_⟩
  · rw [e1]; exact hm0
  · rw [e1]; exact Int.le_trans hm1 hm
theorem meanrun_l0 (K : Nat) (hK : 1000 ≤ K) (g : Nat) (hg : 1 ≤ g ∧ g ≤ 8) (t r : List Int) (hr : RunR g (g + 1) t r) : ∀ (k k2 i : Nat) (acc : Int), i ≤ g → g - i < k → g - i < k2 → 0 ≤ acc → acc ≤ i * 20000000 → ∃ v, spec_l7Mean.l0 K (g : Int) t k acc ((i + 1 : Nat) : Int) = some v ∧ impl_meanRun.l0 K r k2 acc (i : Int) = some v ∧ 0 ≤ v := by
  intro k
  induction k with
  | zero => intro k2 i acc h1 h2; omega
  | succ k ih =>
    intro k2 i acc h1 h2 h3 h4 h5
    match k2, h3 with
    | k2 + 1, h3 =>
      rw [spec_l7Mean.l0, impl_meanRun.l0]
      by_cases hi : i < g
      · have f1 : g - (i + 1) < k := by omega
        have f2 : g - (i + 1) < k2 := by omega
        have f3 : acc ≤ 200000000 := by omega
        have f4 : ((i + 1 : Nat) : Int) * 20000000 = (i : Int) * 20000000 + 20000000 := by omega
        obtain ⟨⟨lt, lr⟩, e1, ⟨e2, e3⟩, e4, e5⟩ := RunR_ok g hg t r hr i hi
        have c1 : ((i + 1 : Nat) : Int) ≤ (g : Int) := by omega
        have c2 : (0 : Int) ≤ ((i + 1 : Nat) : Int) ∧ ((i + 1 : Nat) : Int) < (t.length : Int) := by rw [lt]; omega
        have c3 : (i : Int) < (r.length : Int) := by rw [lr]; omega
        have c4 : (0 : Int) ≤ (i : Int) ∧ (i : Int) < (r.length : Int) := by rw [lr]; omega
        have hp : impl_power.f K (wrap64 ((g : Int) - ((i + 1 : Nat) : Int))) = some ((6 : Int) ^ (g - 1 - i)) := by
          rw [w64 (by omega) (by omega), show (g : Int) - ((i + 1 : Nat) : Int) = ((g - 1 - i : Nat) : Int) by omega, power_eq K (by omega) (g - 1 - i) (by omega)]
        have b1 : i ≤ 4000000000000000000 := by omega
        have b2 : i + 1 ≤ 4000000000000000000 := by omega
        obtain ⟨q1, ea, q2, q3, q4, q5⟩ := term_ok ((i + 1 : Nat) : Int) (t.getD (i + 1) 0) (6 ^ (g - 1 - i)) (r.getD i 0) acc (by omega) (by omega) e2 e3 e1 e4 e5 h4 f3
        simp only [if_pos c1, if_pos c2, if_pos c3, if_pos c4, Int.toNat_natCast, all_power, hp, some_bind, w1 i b1, w1 (i + 1) b2, q1, ea, q2, q3]
        have f5 := Int.add_le_add h5 q5
        rw [← f4] at f5
        exact ih k2 (i + 1) _ hi f1 f2 (Int.add_nonneg h4 q4) f5
      · have : i = g := by omega
        subst this
        have hl := hr.2.1
        rw [if_neg (by omega), if_neg (by omega)]
        exact ⟨acc, rfl, rfl, h4⟩
theorem powN (n : Nat) : ((6 ^ n : Nat) : Int) = (6 : Int) ^ n := by simp
def frac (a b : Nat) : Ar 2 := ⟨[((a / Nat.gcd a b : Nat) : Int), ((b / Nat.gcd a b : Nat) : Int)], rfl⟩
theorem gcd_l0 (K : Nat) : ∀ (k a b : Nat), b < k → spec_l2Cut.l0 K k (a : Int) (b : Int) = some ((Nat.gcd a b : Nat) : Int) ∧ impl_fraction.l0 K k (a : Int) (b : Int) = some ((Nat.gcd a b : Nat) : Int) := by
  intro k
  induction k with
  | zero => intro a b h; omega
  | succ k ih =>
    intro a b h
    rw [spec_l2Cut.l0, impl_fraction.l0]
    by_cases hb : b = 0
    · subst hb
      simp
    · have h1 : (0 : Int) < (b : Int) := by omega
      have h2 : ¬ (b : Int) = 0 := by omega
      have h3 : (b : Int) ≠ 0 := h2
      have h4 : ((a : Int)).tmod (b : Int) = ((a % b : Nat) : Int) := by
        rw [Int.tmod_eq_emod_of_nonneg (by omega)]; rfl
      have h5 : a % b < b := Nat.mod_lt _ (by omega)
      rw [if_pos h1, if_neg h2, if_pos h3, if_pos h3, h4]
      obtain ⟨i1, i2⟩ := ih b (a % b) (by omega)
      rw [i1, i2]
      have : Nat.gcd b (a % b) = Nat.gcd a b := by
        rw [Nat.gcd_comm b, ← Nat.gcd_rec, Nat.gcd_comm]
      rw [this]
      exact ⟨rfl, rfl⟩
theorem frac_eq (K : Nat) (a b : Nat) (h : 0 < a ∨ 0 < b) (hK : b < K) (ha : a ≤ 4000000000000000000) (hb : b ≤ 4000000000000000000) : spec_l2Cut.f K (a : Int) (b : Int) = some (frac a b) ∧ impl_fraction.f K (a : Int) (b : Int) = some (frac a b) := by
  obtain ⟨h1, h2⟩ := gcd_l0 K K a b hK
  have hg : 0 < Nat.gcd a b := by
    rcases h with h | h
    · exact Nat.gcd_pos_of_pos_left _ h
    · exact Nat.gcd_pos_of_pos_right _ h
  unfold spec_l2Cut.f impl_fraction.f
  rw [h1, h2]
  simp only [some_bind]
  have h3 : spec_l1Most.f K ((Nat.gcd a b : Nat) : Int) 1 = some ((Nat.gcd a b : Nat) : Int) := by
    unfold spec_l1Most.f
    by_cases h : (1 : Int) < ((Nat.gcd a b : Nat) : Int)
    · rw [if_pos h]
    · rw [if_neg h, show ((Nat.gcd a b : Nat) : Int) = 1 by omega]
  have h4 : ((Nat.gcd a b : Nat) : Int) ≠ 0 := by omega
  have d1 : ∀ m : Nat, m ≤ 4000000000000000000 → wrap64 ((m : Int).tdiv ((Nat.gcd a b : Nat) : Int)) = ((m / Nat.gcd a b : Nat) : Int) := by
    intro m hm
    have e : (m : Int).tdiv ((Nat.gcd a b : Nat) : Int) = ((m / Nat.gcd a b : Nat) : Int) := by
      rw [Int.tdiv_eq_ediv_of_nonneg (by omega)]; rfl
    have := Nat.div_le_self m (Nat.gcd a b)
    rw [e]
    generalize m / Nat.gcd a b = q at *
    exact w64 (by omega) (by omega)
  rw [h3]
  simp only [some_bind, if_pos h4, d1 a ha, d1 b hb]
  exact ⟨rfl, rfl⟩
theorem frac_get (a b : Nat) : (frac a b).get 0 = ((a / Nat.gcd a b : Nat) : Int) ∧ (frac a b).get 1 = ((b / Nat.gcd a b : Nat) : Int) := ⟨rfl, rfl⟩
theorem frac_less (K : Nat) (a c D : Nat) (hD : 0 < D) (ha : a ≤ 10000000000) (hc : c ≤ 10000000000) (hDD : D ≤ 100000000) : spec_l2Less.f K (frac a D) (frac c D) = some (decide (a < c)) := by
  have g1 : 0 < Nat.gcd a D := Nat.gcd_pos_of_pos_right _ hD
  have g2 : 0 < Nat.gcd c D := Nat.gcd_pos_of_pos_right _ hD
  unfold spec_l2Less.f
  rw [(frac_get a D).1, (frac_get a D).2, (frac_get c D).1, (frac_get c D).2]
  have p1 := Nat.div_le_self a (Nat.gcd a D)
  have p2 := Nat.div_le_self D (Nat.gcd a D)
  have p3 := Nat.div_le_self c (Nat.gcd c D)
  have p4 := Nat.div_le_self D (Nat.gcd c D)
  obtain ⟨x, hx⟩ := Nat.gcd_dvd_left a D
  obtain ⟨y, hy⟩ := Nat.gcd_dvd_right a D
  obtain ⟨z, hz⟩ := Nat.gcd_dvd_left c D
  obtain ⟨w, hw⟩ := Nat.gcd_dvd_right c D
  have e1 : a / Nat.gcd a D = x := Nat.div_eq_of_eq_mul_right g1 hx
  have e2 : D / Nat.gcd a D = y := Nat.div_eq_of_eq_mul_right g1 hy
  have e3 : c / Nat.gcd c D = z := Nat.div_eq_of_eq_mul_right g2 hz
  have e4 : D / Nat.gcd c D = w := Nat.div_eq_of_eq_mul_right g2 hw
  rw [e1, e2, e3, e4]
  rw [e1] at p1
  rw [e2] at p2
  rw [e3] at p3
  rw [e4] at p4
  have q1 : x * w ≤ 10000000000 * 100000000 := Nat.mul_le_mul (by omega) (by omega)
  have q2 : z * y ≤ 10000000000 * 100000000 := Nat.mul_le_mul (by omega) (by omega)
  have f1 : wrap64 ((x : Int) * (w : Int)) = ((x * w : Nat) : Int) := by
    rw [← Int.natCast_mul]
    generalize x * w = m at *
    exact w64 (by omega) (by omega)
  have f2 : wrap64 ((z : Int) * (y : Int)) = ((z * y : Nat) : Int) := by
    rw [← Int.natCast_mul]
    generalize z * y = m at *
    exact w64 (by omega) (by omega)
  rw [f1, f2]
  congr 1
  rw [decide_eq_decide, Int.ofNat_lt]
  generalize Nat.gcd a D = g at *
  generalize Nat.gcd c D = h at *
  have k1 : (a * D) = (g * h) * (x * w) := by
    rw [hx]; conv => lhs; rhs; rw [hw]
    rw [Nat.mul_mul_mul_comm]
  have k2 : (c * D) = (g * h) * (z * y) := by
    rw [hz]; conv => lhs; rhs; rw [hy]
    rw [Nat.mul_mul_mul_comm, Nat.mul_comm h g]
  have hgh : 0 < g * h := Nat.mul_pos g1 g2
  constructor
  · intro hlt
    have : (g * h) * (x * w) < (g * h) * (z * y) := Nat.mul_lt_mul_of_pos_left hlt hgh
    rw [← k1, ← k2] at this
    exact Nat.lt_of_mul_lt_mul_right this
  · intro hlt
    have : a * D < c * D := Nat.mul_lt_mul_of_pos_right hlt hD
    rw [k1, k2] at this
    exact Nat.lt_of_mul_lt_mul_left this
theorem toA6S_l0 (K : Nat) (hK : 8 ≤ K) (l : List (Ar 6)) (h : l.length ≤ 1073741824) : ∀ (k n : Nat) (out : List (Ar 6)), out.length = l.length → out.take n = l.take n → n ≤ l.length → l.length - n < k → laws_toIntA6S.l0 K l k (n : Int) out = some l := by
  intro k
  induction k with
  | zero => intro n out h1 h2 h3 h4; omega
  | succ k ih =>
    intro n out h1 h2 h3 h4
    rw [laws_toIntA6S.l0]
    by_cases hn : (n : Int) < (l.length : Int)
    · have hn' : n < l.length := by omega
      rw [if_pos hn, if_pos (by omega), toA6 K hK, some_bind, if_pos (by omega), w1 n (by omega)]
      refine ih (n + 1) _ (by simp [h1]) ?_ (by omega) (by omega)
      have hnn : ((n : Int)).toNat = n := by omega
      rw [hnn, List.take_add_one, List.take_add_one, List.take_set_of_le (Nat.le_refl n), h2]
      rw [List.getElem?_set_self (by omega)]
      congr 1
      rw [List.getD_eq_getElem?_getD, List.getElem?_eq_getElem hn']
      rfl
    · rw [if_neg hn]
      have : n = l.length := by omega
      subst this
      rw [← h1, List.take_length, h1, List.take_length] at h2
      rw [h2]
theorem toA6S (K : Nat) (l : List (Ar 6)) (h : l.length ≤ 1048576) (hK : 2000000 ≤ K) : laws_toIntA6S.f K l = some l := by
  unfold laws_toIntA6S.f
  rw [if_pos (by omega), show (0 : Int) = ((0 : Nat) : Int) from rfl, toA6S_l0 K (by omega) l (by omega) K 0 _ (by simp) (by simp) (by omega) (by omega)]
  rfl
theorem sizeA6S (K : Nat) (l : List (Ar 6)) (h : l.length ≤ maxLen) : (laws_szIntA6S.f K l 1048576 = some (-1) ∧ 1048576 < l.length) ∨ (∃ r : Int, 0 ≤ r ∧ laws_szIntA6S.f K l 1048576 = some r ∧ l.length ≤ 1048576) := by
  have hm : l.length ≤ 2 ^ 63 - 1 := h
  unfold laws_szIntA6S.f
  have e : wrap64 (1048576 - (l.length : Int)) = 1048576 - (l.length : Int) := w64 (by omega) (by omega)
  rw [e]
  by_cases hc : (1048576 : Int) - (l.length : Int) < 0
  · rw [if_pos hc]; exact .inl ⟨rfl, by omega⟩
  · rw [if_neg hc]; exact .inr ⟨_, by omega, rfl, by omega⟩
theorem eqA6 (K : Nat) (hK : 8 ≤ K) (a : Ar 6) : laws_eqIntA6.f K a a = some true := by
  obtain ⟨k, rfl⟩ := Nat.exists_eq_add_of_le hK
  rw [show 8 + k = k + 1 + 1 + 1 + 1 + 1 + 1 + 1 + 1 by omega]
  simp [laws_eqIntA6.f, laws_eqIntA6.l0, wrap64]
theorem eqA6S_l0 (K : Nat) (hK : 8 ≤ K) (l : List (Ar 6)) (h : l.length ≤ 1073741824) : ∀ (k n : Nat), n ≤ l.length → l.length - n < k → laws_eqIntA6S.l0 K l l k (n : Int) = some (Sum.inl ()) := by
  intro k
  induction k with
  | zero => intro n h1 h2; omega
  | succ k ih =>
    intro n h1 h2
    rw [laws_eqIntA6S.l0]
    by_cases hn : (n : Int) < (l.length : Int)
    · rw [if_pos hn, if_pos (by omega), if_pos (by omega), eqA6 K hK, some_bind, if_pos rfl, w1 n (by omega)]
      exact ih (n + 1) (by omega) (by omega)
    · rw [if_neg hn]
theorem eqA6S (K : Nat) (l : List (Ar 6)) (h : l.length ≤ 1048576) (hK : 2000000 ≤ K) : laws_eqIntA6S.f K l l = some true := by
  unfold laws_eqIntA6S.f
  rw [if_pos rfl, show (0 : Int) = ((0 : Nat) : Int) from rfl, eqA6S_l0 K (by omega) l (by omega) K 0 (by omega) (by omega)]
  rfl
def rowB (l : List (Ar 6)) : Bool := decide ((1 : Int) ≤ l.length ∧ (l.length : Int) ≤ 6) && l.all dieB
theorem row_spec (K : Nat) (hK : 2000000 ≤ K) (l : List (Ar 6)) (h : l.length ≤ 1048576) : spec_l3Row.f K l = some (rowB l) := by
  unfold spec_l3Row.f rowB
  rcases capRow_l0 K hK l (by omega) K 0 (by omega) (by omega) with ⟨h1, h2⟩ | ⟨h1, h2⟩
  · rw [show (0 : Int) = ((0 : Nat) : Int) from rfl, h1, in_within]
    simp only [some_bind, List.drop_zero, in_eq] at h2 ⊢
    by_cases hc : (l.length : Int) ≤ 6
    · rw [h2 hc]; simp [hc]
    · simp [hc]
  · rw [show (0 : Int) = ((0 : Nat) : Int) from rfl, h1]
    simp only [some_bind, List.drop_zero] at h2 ⊢
    rw [h2]; simp
theorem row_impl (K : Nat) (hK : 2000000 ≤ K) (l : List (Ar 6)) (h : l.length ≤ 1048576) : impl_isRow.f K l = some (rowB l) := by
  unfold impl_isRow.f rowB
  rw [in_eq, allDie_eq K hK l h]
  simp only [some_bind]
  by_cases hc : (1 : Int) ≤ l.length ∧ (l.length : Int) ≤ 6 <;> simp [hc]
theorem meanrun_le (K : Nat) (g : Nat) (hg : 1 ≤ g ∧ g ≤ 8) (t r : List Int) (hr : RunR g (g + 1) t r) : ∀ (k i : Nat) (acc v : Int), i ≤ g → 0 ≤ acc → acc ≤ i * 20000000 → impl_meanRun.l0 K r k acc (i : Int) = some v → v ≤ 200000000 := by
  intro k
  induction k with
  | zero => intro i acc v _ _ _ h; simp [impl_meanRun.l0] at h
  | succ k ih =>
    intro i acc v h1 h4 h5 h
    rw [impl_meanRun.l0] at h
    by_cases hi : i < g
    · have f3 : acc ≤ 200000000 := by omega
      have f4 : ((i + 1 : Nat) : Int) * 20000000 = (i : Int) * 20000000 + 20000000 := by omega
      have f6 : i + 1 ≤ g := hi
      obtain ⟨⟨lt, lr⟩, e1, ⟨e2, e3⟩, e4, e5⟩ := RunR_ok g hg t r hr i hi
      have c3 : (i : Int) < (r.length : Int) := by rw [lr]; omega
      have c4 : (0 : Int) ≤ (i : Int) ∧ (i : Int) < (r.length : Int) := by rw [lr]; omega
      have b1 : i ≤ 4000000000000000000 := by omega
      obtain ⟨q1, ea, q2, q3, q4, q5⟩ := term_ok ((i + 1 : Nat) : Int) (t.getD (i + 1) 0) (6 ^ (g - 1 - i)) (r.getD i 0) acc (by omega) (by omega) e2 e3 e1 e4 e5 h4 f3
      simp only [if_pos c3, if_pos c4, Int.toNat_natCast, w1 i b1, q2, q3] at h
      have f5 := Int.add_le_add h5 q5
      rw [← f4] at f5
      exact ih (i + 1) _ v f6 (Int.add_nonneg h4 q4) f5 h
    · have : i = g := by omega
      subst this
      have hl := hr.2.1
      rw [if_neg (by omega)] at h
      cases h
      omega
theorem mean_run (K : Nat) (hK : 200000000 ≤ K) (a : Ar 6) (ha : runB a = true) (g : Nat) (hg : 1 ≤ g ∧ g ≤ 8) : ∃ V : Nat, V ≤ 200000000 ∧ impl_meanRun.f K a (g : Int) = some (V : Int) ∧ spec_l7Mean.f K a (g : Int) = some (frac V (6 ^ g)) := by
  obtain ⟨t, r, r1, r2, r3⟩ := runs_eq K (by omega) a (runB_ok a ha) g hg
  obtain ⟨v, v1, v2, v3⟩ := meanrun_l0 K (by omega) g hg t r r3 K K 0 0 (by omega) (by omega) (by omega) (by omega) (by omega)
  have v4 := meanrun_le K g hg t r r3 K 0 0 v (by omega) (by omega) (by omega) v2
  obtain ⟨V, hV⟩ : ∃ V : Nat, v = V := ⟨v.toNat, by omega⟩
  subst hV
  have hb : (6 : Nat) ^ g ≤ 1679616 := by
    have := pow8 g (by omega)
    rw [← powN g] at this
    exact Int.ofNat_le.1 this
  have hq : 0 < 6 ^ g := Nat.one_le_pow _ _ (by omega)
  have f := frac_eq K V (6 ^ g) (.inr hq) (by omega) (by omega) (by omega)
  rw [powN] at f
  refine ⟨V, by omega, ?_, ?_⟩
  · unfold impl_meanRun.f
    rw [r2, some_bind, show impl_meanRun.l0 K r K 0 0 = some (V : Int) from v2]
    rfl
  · unfold spec_l7Mean.f
    rw [r1, some_bind, show spec_l7Mean.l0 K (g : Int) t K 0 1 = some (V : Int) from v1, some_bind, all_power, power_eq K (by omega) g (by omega), some_bind, f.1]
    rfl
theorem br_l0 (K : Nat) (hK : 200000000 ≤ K) (l : List (Ar 6)) (hl : l.length ≤ 6) (hall : ∀ a ∈ l, runB a = true) (g : Nat) (hg : 1 ≤ g ∧ g ≤ 8) : ∀ (k n b : Nat) (B : Nat), 1 ≤ n → n ≤ l.length → l.length - n < k → b < l.length → B ≤ 200000000 → impl_meanRun.f K (l.getD b (Ar.zero 6)) (g : Int) = some (B : Int) →
    ∃ c C : Nat, c < l.length ∧ C ≤ 200000000 ∧ impl_meanRun.f K (l.getD c (Ar.zero 6)) (g : Int) = some (C : Int) ∧ spec_BestRunner.l0 K l (g : Int) k (b : Int) (n : Int) (frac B (6 ^ g)) = some (Sum.inl ((c : Int), frac C (6 ^ g))) ∧ impl_BestRunner.l0 K l (g : Int) k (b : Int) (n : Int) = some (c : Int) := by
  intro k
  induction k with
  | zero => intro n b B h0 h1 h2; omega
  | succ k ih =>
    intro n b B h0 h1 h2 h3 h4 h5
    rw [spec_BestRunner.l0, impl_BestRunner.l0]
    by_cases hn : n < l.length
    · have f1 : l.length - (n + 1) < k := by omega
      have f2 : 1 ≤ n + 1 := by omega
      have c1 : (n : Int) < (l.length : Int) := by omega
      have c2 : (0 : Int) ≤ (n : Int) ∧ (n : Int) < (l.length : Int) := by omega
      have c3 : (0 : Int) ≤ (b : Int) ∧ (b : Int) < (l.length : Int) := by omega
      have c4 : ¬ (n : Int) = 0 := by omega
      have b1 : n ≤ 4000000000000000000 := by omega
      have hd : runB (l.getD n (Ar.zero 6)) = true := by
        rw [List.getD_eq_getElem?_getD, List.getElem?_eq_getElem hn]
        exact hall _ (List.getElem_mem hn)
      obtain ⟨V, v1, v2, v3⟩ := mean_run K hK _ hd g hg
      have hb : (6 : Nat) ^ g ≤ 1679616 := by
        have := pow8 g (by omega)
        rw [← powN g] at this
        exact Int.ofNat_le.1 this
      have hq : 0 < 6 ^ g := Nat.one_le_pow _ _ (by omega)
      have hless := frac_less K V B (6 ^ g) hq (by omega) (by omega) (by omega)
      have hd2 : spec_l7Die.f K (l.getD n (Ar.zero 6)) = some true := by rw [l7Die_eq K (by omega), hd]
      rw [if_pos c1, if_pos c1, if_pos c2, if_pos c2]
      rw [show ((n : Int)).toNat = n from rfl, show ((b : Int)).toNat = b from rfl, hd2, some_bind, if_pos rfl, v3, some_bind, if_neg c4, hless, some_bind, v2, some_bind, if_pos c3, h5, some_bind, w1 n b1]
      by_cases hlt : V < B
      · rw [if_pos (decide_eq_true hlt), if_pos (Int.ofNat_lt.2 hlt)]
        exact ih (n + 1) n V f2 hn f1 hn v1 v2
      · rw [if_neg (fun h => hlt (of_decide_eq_true h)), if_neg (fun h => hlt (Int.ofNat_lt.1 h))]
        exact ih (n + 1) b B f2 hn f1 h3 h4 h5
    · have hn2 : ¬ (n : Int) < (l.length : Int) := by omega
      rw [if_neg hn2, if_neg hn2]
      exact ⟨b, B, h3, h4, h5, rfl, rfl⟩
theorem br_bad (K : Nat) (hK : 200000000 ≤ K) (l : List (Ar 6)) (hl : l.length ≤ 6) (g : Nat) (hg : 1 ≤ g ∧ g ≤ 8) : ∀ (k n : Nat) (b : Int) (B : Nat), n ≤ l.length → l.length - n < k → (l.drop n).all runB = false → (n ≠ 0 → B ≤ 200000000) → ∀ F : Ar 2, (n ≠ 0 → F = frac B (6 ^ g)) → spec_BestRunner.l0 K l (g : Int) k b (n : Int) F = some (Sum.inr (0, ⟨[0, 0], rfl⟩, false)) := by
  intro k
  induction k with
  | zero => intro n b B h1 h2; omega
  | succ k ih =>
    intro n b B h1 h2 h3 h4 F hF
    rw [spec_BestRunner.l0]
    by_cases hn : n < l.length
    · have f1 : l.length - (n + 1) < k := by omega
      have f2 : n + 1 ≤ l.length := by omega
      have f3 : n + 1 ≠ 0 := by omega
      have c1 : (n : Int) < (l.length : Int) := by omega
      have c2 : (0 : Int) ≤ (n : Int) ∧ (n : Int) < (l.length : Int) := by omega
      have b1 : n ≤ 4000000000000000000 := by omega
      have hdd : l.drop n = l[n] :: l.drop (n + 1) := List.drop_eq_getElem_cons hn
      have hge : l.getD n (Ar.zero 6) = l[n] := by rw [List.getD_eq_getElem?_getD, List.getElem?_eq_getElem hn]; rfl
      rw [hdd, List.all_cons] at h3
      rw [if_pos c1, if_pos c2, show ((n : Int)).toNat = n from rfl, hge, l7Die_eq K (by omega), some_bind]
      by_cases hd : runB l[n] = true
      · rw [hd, Bool.true_and] at h3
        obtain ⟨V, v1, v2, v3⟩ := mean_run K hK _ hd g hg
        rw [if_pos hd, v3, some_bind, w1 n b1]
        by_cases hz : (n : Int) = 0
        · rw [if_pos hz]
          exact ih (n + 1) _ V f2 f1 h3 (fun _ => v1) _ (fun _ => rfl)
        · have hz' : n ≠ 0 := by omega
          have hb : (6 : Nat) ^ g ≤ 1679616 := by
            have := pow8 g (by omega)
            rw [← powN g] at this
            exact Int.ofNat_le.1 this
          have hq : 0 < 6 ^ g := Nat.one_le_pow _ _ (by omega)
          have hB := h4 hz'
          rw [if_neg hz, hF hz', frac_less K V B (6 ^ g) hq (by omega) (by omega) (by omega), some_bind]
          by_cases hlt : decide (V < B) = true
          · rw [if_pos hlt]
            exact ih (n + 1) _ V f2 f1 h3 (fun _ => v1) _ (fun _ => rfl)
          · rw [if_neg hlt]
            exact ih (n + 1) _ B f2 f1 h3 (fun _ => hB) _ (fun _ => rfl)
      · rw [if_neg hd]
    · have : l.drop n = [] := List.drop_of_length_le (by omega)
      rw [this] at h3
      cases h3
theorem BestRunner_same (K : Nat) (hK : 200000000 ≤ K) (l : List (Ar 6)) (a : Int) (h : l.length ≤ 1048576) : ∃ r, spec_BestRunner.f K l a = some r ∧ impl_BestRunner.f K l a = some r := by
  have hK0 : 2000000 ≤ K := by omega
  unfold spec_BestRunner.f impl_BestRunner.f
  rw [row_spec K hK0 l h, row_impl K hK0 l h, allRunner_eq K hK0 l h, goal_goal, goal_some, some_bind, some_bind, some_bind, some_bind]
  cases hr : rowB l with
  | false =>
    rw [if_neg (by simp), if_neg (by simp)]
    exact ⟨_, rfl, rfl⟩
  | true =>
    have hr' : (1 ≤ l.length ∧ l.length ≤ 6) ∧ l.all dieB = true := by
      unfold rowB at hr
      simp only [Bool.and_eq_true, decide_eq_true_eq] at hr
      exact ⟨by omega, hr.2⟩
    rw [if_pos rfl, if_pos rfl]
    by_cases ha : 1 ≤ a ∧ a ≤ 8
    · obtain ⟨g, hg⟩ : ∃ g : Nat, a = g := ⟨a.toNat, by omega⟩
      subst hg
      have hg' : 1 ≤ g ∧ g ≤ 8 := by omega
      have da : decide (1 ≤ (g : Int) ∧ (g : Int) ≤ 8) = true := decide_eq_true ha
      rw [da, if_pos rfl, some_bind, if_pos rfl]
      cases hall : l.all runB with
      | false =>
        have hb := br_bad K hK l hr'.1.2 g hg' K 0 0 0 (by omega) (by omega) (by rw [List.drop_zero]; exact hall) (by simp) ⟨[0, 0], rfl⟩ (by simp)
        rw [show spec_BestRunner.l0 K l (g : Int) K 0 0 (⟨[0, 0], rfl⟩ : Ar 2) = _ from hb, if_neg (by simp)]
        exact ⟨_, rfl, rfl⟩
      | true =>
        have hall' : ∀ z ∈ l, runB z = true := List.all_eq_true.1 hall
        have h0 : 0 < l.length := hr'.1.1
        have hd : runB (l.getD 0 (Ar.zero 6)) = true := by
          rw [List.getD_eq_getElem?_getD, List.getElem?_eq_getElem h0]
          exact hall' _ (List.getElem_mem h0)
        obtain ⟨k, hk⟩ : ∃ k, K = k + 1 := ⟨K - 1, by omega⟩
        have k1 : l.length - 1 < k := by omega
        have c1 : (0 : Int) < (l.length : Int) := by omega
        have c2 : (0 : Int) ≤ 0 ∧ (0 : Int) < (l.length : Int) := ⟨by decide, c1⟩
        have hb : (6 : Nat) ^ g ≤ 1679616 := by
          have := pow8 g (by omega)
          rw [← powN g] at this
          exact Int.ofNat_le.1 this
        have hq : 0 < 6 ^ g := Nat.one_le_pow _ _ (by omega)
        have b3 : 6 ^ g < K := by omega
        have b4 : (6 : Nat) ^ g ≤ 4000000000000000000 := by omega
        obtain ⟨V, v1, v2, v3⟩ := mean_run K hK _ hd g hg'
        obtain ⟨c, C, i1, i2, i3, i4, i5⟩ := br_l0 K hK l hr'.1.2 hall' g hg' k 1 0 V (by decide) h0 k1 h0 v1 v2
        have hd2 : spec_l7Die.f K (l.getD 0 (Ar.zero 6)) = some true := by rw [l7Die_eq K hK0, hd]
        have s1 : spec_BestRunner.l0 K l (g : Int) K 0 0 (⟨[0, 0], rfl⟩ : Ar 2) = some (Sum.inl ((c : Int), frac C (6 ^ g))) := by
          have : spec_BestRunner.l0 K l (g : Int) (k + 1) 0 0 (⟨[0, 0], rfl⟩ : Ar 2) = some (Sum.inl ((c : Int), frac C (6 ^ g))) := by
            rw [spec_BestRunner.l0, if_pos c1, if_pos c2, show ((0 : Int)).toNat = 0 from rfl, hd2, some_bind, if_pos rfl, v3, some_bind, if_pos rfl, show wrap64 (0 + 1) = 1 by decide +kernel]
            exact i4
          rw [← hk] at this
          exact this
        have s2 : impl_BestRunner.l0 K l (g : Int) K 0 0 = some (c : Int) := by
          have : impl_BestRunner.l0 K l (g : Int) (k + 1) 0 0 = some (c : Int) := by
            rw [impl_BestRunner.l0, if_pos c1, if_pos c2, show ((0 : Int)).toNat = 0 from rfl, v2, some_bind, if_pos c2, some_bind, if_neg (Int.lt_irrefl _), show wrap64 (0 + 1) = 1 by decide +kernel]
            exact i5
          rw [← hk] at this
          exact this
        have c3 : (0 : Int) ≤ (c : Int) ∧ (c : Int) < (l.length : Int) := ⟨Int.natCast_nonneg _, Int.ofNat_lt.2 i1⟩
        have f := (frac_eq K C (6 ^ g) (.inr hq) b3 (Nat.le_trans i2 (by decide)) b4).2
        rw [powN] at f
        rw [s1, some_bind, s2, some_bind, if_pos c3, show ((c : Int)).toNat = c from rfl, i3, some_bind, power_eq K (by omega) g (by omega), some_bind, f, some_bind]
        exact ⟨_, rfl, rfl⟩
    · have da : decide (1 ≤ a ∧ a ≤ 8) = false := decide_eq_false ha
      rw [da, some_bind]
      rw [if_neg (by simp)]
      cases l.all runB with
      | false => exact ⟨_, rfl, rfl⟩
      | true => exact ⟨_, rfl, rfl⟩
theorem BestRunner_pure (l0 : List (Ar 6)) (a1 : Int) (m : l0.length ≤ maxLen) (_w : ∀ z ∈ l0, ∀ y ∈ z.l, (Lit.int .i64 y).wf = true) (_w1 : (Lit.int .i64 a1).wf = true) : ∃ K, laws_FnExactBestRunner.f K l0 a1 = some true := by
  refine ⟨200000000, ?_⟩
  unfold laws_FnExactBestRunner.f
  rcases sizeA6S 200000000 l0 m with ⟨h, _⟩ | ⟨z, hz, h, h'⟩
  · rw [h]; rfl
  · rw [h]
    obtain ⟨q, h1, h2⟩ := BestRunner_same 200000000 (by omega) l0 a1 h'
    have t1 := toA6S 200000000 l0 h' (by omega)
    have q1 := eqA6S 200000000 l0 h' (by omega)
    have q2 := fun a => eqA2 200000000 (by omega) a
    simp only [t1, h1, h2, q1, q2, some_bind, if_true, beq_self_eq_true, show ¬ z < 0 by omega, if_false]
end Go.Proofs.Ytgmalhohckcogaa.WBestRunner

/- The plain law: what the walk shows to be computed answers true. Conditions: the numbers are 64-bit. -/
import Derived.Test.YtgmalhohckcogaaWRunTable
import Derived.KernelRfl
namespace Go.Proofs.Ytgmalhohckcogaa.WRunTable
open Go.K Go.RowKit
set_option linter.unusedVariables false
set_option linter.unusedSimpArgs false

theorem w1 (n : Nat) (h : n ≤ 4000000000000000000) : wrap64 ((n : Int) + 1) = ((n + 1 : Nat) : Int) := by rw [w64 (by omega) (by omega)]; omega
theorem ar_get_set {n : Nat} (a : Ar n) (i j v : Int) (h0 : 0 ≤ i) (h1 : i < n) (h2 : 0 ≤ j) : (a.set i v).get j = if j = i then v else a.get j := by
  unfold Ar.get Ar.set
  simp only [List.getD_eq_getElem?_getD]
  by_cases h : j = i
  · subst h
    rw [if_pos rfl, List.getElem?_set_self (by rw [a.h]; omega)]
    rfl
  · rw [if_neg h, List.getElem?_set_ne (by omega)]
def nn (l : List Int) : Prop := ∀ x ∈ l, 0 ≤ x
theorem nn_sum : ∀ l : List Int, nn l → 0 ≤ l.sum
  | [], _ => by simp
  | x :: l, h => by
    have h1 := h x List.mem_cons_self
    have h2 := nn_sum l (fun y hy => h y (List.mem_cons_of_mem _ hy))
    simp only [List.sum_cons]
    omega
theorem nn_get (l : List Int) (h : nn l) (i : Nat) (hi : i < l.length) : 0 ≤ l.getD i 0 := by
  rw [List.getD_eq_getElem?_getD, List.getElem?_eq_getElem hi]
  exact h _ (List.getElem_mem hi)
theorem nn_le : ∀ (l : List Int) (i : Nat), nn l → i < l.length → l.getD i 0 ≤ l.sum
  | [], i, _, hi => by simp at hi
  | x :: l, 0, h, _ => by
    have h2 := nn_sum l (fun y hy => h y (List.mem_cons_of_mem _ hy))
    simp only [List.getD_cons_zero, List.sum_cons]
    omega
  | x :: l, i + 1, h, hi => by
    have h1 := h x List.mem_cons_self
    have h2 := nn_le l i (fun y hy => h y (List.mem_cons_of_mem _ hy)) (by simpa using hi)
    simp only [List.getD_cons_succ, List.sum_cons]
    omega
theorem sum_set : ∀ (l : List Int) (i : Nat) (v : Int), i < l.length → (l.set i (l.getD i 0 + v)).sum = l.sum + v
  | [], i, v, hi => by simp at hi
  | x :: l, 0, v, _ => by simp only [List.set_cons_zero, List.getD_cons_zero, List.sum_cons]; omega
  | x :: l, i + 1, v, hi => by
    have h2 := sum_set l i v (by simpa using hi)
    simp only [List.set_cons_succ, List.getD_cons_succ, List.sum_cons, h2]
    omega
theorem nn_set (l : List Int) (i : Nat) (v : Int) (h : nn l) (hv : 0 ≤ v) : nn (l.set i v) := by
  intro x hx
  rcases List.mem_or_eq_of_mem_set hx with h1 | h1
  · exact h x h1
  · omega
theorem nn_rep (n : Nat) : nn (List.replicate n 0) := by
  intro x hx
  rw [(List.mem_replicate.1 hx).2]
  omega
theorem sum_rep (n : Nat) : (List.replicate n (0 : Int)).sum = 0 := by
  induction n with
  | zero => rfl
  | succ n ih => rw [List.replicate_succ, List.sum_cons, ih]; rfl
theorem in_eq (K : Nat) (a lo hi : Int) : impl_within.f K a lo hi = some (decide (lo ≤ a ∧ a ≤ hi)) := by
  unfold impl_within.f
  by_cases h : lo ≤ a <;> simp [h]
theorem in_within : spec_l1In.f = impl_within.f := by kernel_rfl
def faceB (a : Int) : Bool := decide (0 ≤ a ∧ a ≤ 30)
theorem isFace_eq (K : Nat) (_hK : 2000000 ≤ K) (a : Int) : impl_isFace.f K a = some (faceB a) := by
  unfold impl_isFace.f
  rw [in_eq]; rfl
theorem allFace_l0 (K : Nat) (hK : 2000000 ≤ K) (l : List Int) (h : l.length ≤ 1073741824) : ∀ (k n : Nat), n ≤ l.length → l.length - n < k →
    (slices_IndexFunc_int_int__areAll_int_1_isFace.l0 K l k (n : Int) = some (Sum.inl ()) ∧ (l.drop n).all faceB = true) ∨ (∃ i : Int, 0 ≤ i ∧ slices_IndexFunc_int_int__areAll_int_1_isFace.l0 K l k (n : Int) = some (Sum.inr i) ∧ (l.drop n).all faceB = false) := by
  intro k
  induction k with
  | zero => intro n h1 h2; omega
  | succ k ih =>
    intro n h1 h2
    rw [slices_IndexFunc_int_int__areAll_int_1_isFace.l0]
    by_cases hn : (n : Int) < (l.length : Int)
    · have hn' : n < l.length := by omega
      have hnn : ((n : Int)).toNat = n := by omega
      have hd : l.drop n = l[n] :: l.drop (n + 1) := List.drop_eq_getElem_cons hn'
      have hg : l.getD n (0 : Int) = l[n] := by rw [List.getD_eq_getElem?_getD, List.getElem?_eq_getElem hn']; rfl
      rw [if_pos hn, if_pos (by omega), w1 n (by omega), hnn, hg, impl_areAll_int_1__isFace.f, isFace_eq K hK, hd]
      simp only [some_bind, List.all_cons]
      rcases Bool.eq_false_or_eq_true (faceB l[n]) with e | e
      · rw [e]
        simp only [Bool.not_true, Bool.false_eq_true, if_false, Bool.true_and]
        exact ih (n + 1) (by omega) (by omega)
      · rw [e]
        simp only [Bool.not_false, if_true, Bool.false_and]
        exact .inr ⟨_, by omega, rfl, trivial⟩
    · rw [if_neg hn]
      have : n = l.length := by omega
      subst this
      exact .inl ⟨rfl, by simp⟩
theorem allFace_eq (K : Nat) (hK : 2000000 ≤ K) (l : List Int) (h : l.length ≤ 1048576) : impl_areAll_int__isFace.f K l = some (l.all faceB) := by
  unfold impl_areAll_int__isFace.f slices_ContainsFunc_int_int__areAll_int_1_isFace.f slices_IndexFunc_int_int__areAll_int_1_isFace.f
  rcases allFace_l0 K hK l (by omega) K 0 (by omega) (by omega) with ⟨h1, h2⟩ | ⟨i, hi, h1, h2⟩
  · rw [show (0 : Int) = ((0 : Nat) : Int) from rfl, h1]
    simp only [some_bind, List.drop_zero] at h2 ⊢
    rw [h2]; rfl
  · rw [show (0 : Int) = ((0 : Nat) : Int) from rfl, h1]
    simp only [some_bind, List.drop_zero] at h2 ⊢
    rw [h2]
    have : decide (((0 : Nat) : Int) ≤ i) = true := decide_eq_true (by simpa using hi)
    rw [this]; rfl
def dieP (a : Ar 6) : Prop := ((0 ≤ a.get 0 ∧ a.get 0 ≤ 30) ∧ (0 ≤ a.get 1 ∧ a.get 1 ≤ 30) ∧ (0 ≤ a.get 2 ∧ a.get 2 ≤ 30) ∧ (0 ≤ a.get 3 ∧ a.get 3 ≤ 30) ∧ (0 ≤ a.get 4 ∧ a.get 4 ≤ 30) ∧ (0 ≤ a.get 5 ∧ a.get 5 ≤ 30)) ∧ (a.get 0 ≤ a.get 1 ∧ a.get 1 ≤ a.get 2 ∧ a.get 2 ≤ a.get 3 ∧ a.get 3 ≤ a.get 4 ∧ a.get 4 ≤ a.get 5)
instance (a : Ar 6) : Decidable (dieP a) := by unfold dieP; infer_instance
def dieB (a : Ar 6) : Bool := decide (dieP a)
theorem die_get (x y z u v w : Int) : (Ar.get (⟨[x, y, z, u, v, w], rfl⟩ : Ar 6) 0 = x ∧ Ar.get (⟨[x, y, z, u, v, w], rfl⟩ : Ar 6) 1 = y ∧ Ar.get (⟨[x, y, z, u, v, w], rfl⟩ : Ar 6) 2 = z) ∧ (Ar.get (⟨[x, y, z, u, v, w], rfl⟩ : Ar 6) 3 = u ∧ Ar.get (⟨[x, y, z, u, v, w], rfl⟩ : Ar 6) 4 = v ∧ Ar.get (⟨[x, y, z, u, v, w], rfl⟩ : Ar 6) 5 = w) := ⟨⟨rfl, rfl, rfl⟩, rfl, rfl, rfl⟩
set_option maxHeartbeats 4000000 in
theorem die_spec (K : Nat) (hK : 2000000 ≤ K) (a : Ar 6) : spec_l2Die.f K a = some (dieB a) := by
  obtain ⟨k, rfl⟩ := Nat.exists_eq_add_of_le (show 8 ≤ K by omega)
  obtain ⟨x, y, z, u, v, w, rfl⟩ := Ar.cases6 a
  have e : 8 + k = k + 1 + 1 + 1 + 1 + 1 + 1 + 1 + 1 := by omega
  unfold spec_l2Die.f dieB dieP
  obtain ⟨⟨g0, g1, g2⟩, g3, g4, g5⟩ := die_get x y z u v w
  rw [e]
  simp only [spec_l2Die.l0, in_within, in_eq, some_bind, show (0 : Int) < 6 by decide, show wrap64 (0 + 1) = 1 by decide +kernel, show wrap64 (1 + 1) = 2 by decide +kernel, show wrap64 (2 + 1) = 3 by decide +kernel, show wrap64 (3 + 1) = 4 by decide +kernel, show wrap64 (4 + 1) = 5 by decide +kernel, show wrap64 (5 + 1) = 6 by decide +kernel, show wrap64 (1 - 1) = 0 by decide +kernel, show wrap64 (2 - 1) = 1 by decide +kernel, show wrap64 (3 - 1) = 2 by decide +kernel, show wrap64 (4 - 1) = 3 by decide +kernel, show wrap64 (5 - 1) = 4 by decide +kernel, g0, g1, g2, g3, g4, g5, decide_eq_true_eq]
  simp
  repeat' split
  all_goals simp_all
  all_goals omega
set_option maxHeartbeats 4000000 in
theorem die_impl (K : Nat) (hK : 2000000 ≤ K) (a : Ar 6) : impl_IsDie.f K a = some (dieB a) := by
  obtain ⟨x, y, z, u, v, w, rfl⟩ := Ar.cases6 a
  unfold impl_IsDie.f dieB dieP
  rw [allFace_eq K hK _ (by simp)]
  obtain ⟨k, rfl⟩ := Nat.exists_eq_add_of_le (show 8 ≤ K by omega)
  have e : 8 + k = k + 1 + 1 + 1 + 1 + 1 + 1 + 1 + 1 := by omega
  obtain ⟨⟨g0, g1, g2⟩, g3, g4, g5⟩ := die_get x y z u v w
  unfold slices_IsSorted_int_int.f
  rw [e]
  simp [slices_IsSorted_int_int.l0, cmp_Less_int.f, cmp_isNaN_int.f, some_bind, show wrap64 (6 - 1) = 5 by decide +kernel, show wrap64 5 = 5 by decide +kernel, show wrap64 (5 - 1) = 4 by decide +kernel, show wrap64 (4 - 1) = 3 by decide +kernel, show wrap64 (3 - 1) = 2 by decide +kernel, show wrap64 (2 - 1) = 1 by decide +kernel, show wrap64 (1 - 1) = 0 by decide +kernel, show wrap64 4 = 4 by decide +kernel, show wrap64 3 = 3 by decide +kernel, show wrap64 2 = 2 by decide +kernel, show wrap64 1 = 1 by decide +kernel, show wrap64 0 = 0 by decide +kernel, g0, g1, g2, g3, g4, g5, faceB]
  repeat' split
  all_goals simp_all
  all_goals omega
theorem runner_eq (K : Nat) (hK : 2000000 ≤ K) (a : Ar 6) : spec_l7Die.f K a = some (dieB a && decide (0 < a.get 0)) ∧ impl_isRunner.f K a = some (dieB a && decide (0 < a.get 0)) := by
  unfold spec_l7Die.f impl_isRunner.f
  rw [die_spec K hK, die_impl K hK]
  simp only [some_bind]
  cases dieB a <;> simp
theorem goal_goal : spec_l7Goal.f = impl_isGoal.f := by kernel_rfl
theorem goal_some (K : Nat) (a : Int) : impl_isGoal.f K a = some (decide (1 ≤ a ∧ a ≤ 8)) := by
  unfold impl_isGoal.f
  rw [in_eq]; rfl
theorem all_power : spec_l2All.f = impl_power.f := by kernel_rfl
theorem pow_lt (n : Nat) (h : n ≤ 22) : (6 : Int) ^ n ≤ 131621703842267136 := by
  have : (6 : Nat) ^ n ≤ 6 ^ 22 := Nat.pow_le_pow_right (by omega) h
  have h2 : ((6 ^ n : Nat) : Int) ≤ ((6 ^ 22 : Nat) : Int) := by exact_mod_cast this
  simpa using h2
theorem pow_pos (n : Nat) : (1 : Int) ≤ 6 ^ n := by
  have : 1 ≤ (6 : Nat) ^ n := Nat.one_le_pow _ _ (by omega)
  have h2 : ((1 : Nat) : Int) ≤ ((6 ^ n : Nat) : Int) := by exact_mod_cast this
  simpa using h2
theorem power_l0 (K : Nat) (n : Nat) (hn : n ≤ 22) : ∀ (k i : Nat), i ≤ n → n - i < k → impl_power.l0 K (n : Int) k ((6 : Int) ^ i) (i : Int) = some ((6 : Int) ^ n) := by
  intro k
  induction k with
  | zero => intro i h1 h2; omega
  | succ k ih =>
    intro i h1 h2
    rw [impl_power.l0]
    by_cases h : (i : Int) < (n : Int)
    · have hp := pow_lt (i + 1) (by omega)
      have hq := pow_pos (i + 1)
      have e : (6 : Int) ^ i * 6 = 6 ^ (i + 1) := (Int.pow_succ 6 i).symm
      rw [if_pos h, e, w64 (n := (6 : Int) ^ (i + 1)) (by omega) (by omega), w64 (n := (i : Int) + 1) (by omega) (by omega), show (i : Int) + 1 = ((i + 1 : Nat) : Int) by omega]
      exact ih (i + 1) (by omega) (by omega)
    · rw [if_neg h, show i = n by omega]
theorem power_eq (K : Nat) (hK : 30 ≤ K) (n : Nat) (hn : n ≤ 22) : impl_power.f K (n : Int) = some ((6 : Int) ^ n) := by
  unfold impl_power.f
  rw [show impl_power.l0 K (n : Int) K 1 0 = some ((6 : Int) ^ n) from power_l0 K n hn K 0 (by omega) (by omega)]
  rfl
theorem runner_faces (a : Ar 6) (h : (dieB a = true ∧ 0 < a.get 0)) : ∀ i : Int, 0 ≤ i → i < 6 → 1 ≤ a.get i ∧ a.get i ≤ 30 := by
  obtain ⟨h1, h2⟩ := h
  have h3 := of_decide_eq_true h1
  unfold dieP at h3
  intro i h0 h6
  rcases (show i = 0 ∨ i = 1 ∨ i = 2 ∨ i = 3 ∨ i = 4 ∨ i = 5 by omega) with rfl | rfl | rfl | rfl | rfl | rfl <;> omega
theorem getD_append_last (S : List Int) (v : Int) : (S ++ [v]).getD S.length 0 = v := by
  rw [List.getD_eq_getElem?_getD, List.getElem?_append_right (Nat.le_refl _), Nat.sub_self]
  rfl
theorem getD_append_left (S : List Int) (v : Int) (i : Nat) (h : i < S.length) : (S ++ [v]).getD i 0 = S.getD i 0 := by
  rw [List.getD_eq_getElem?_getD, List.getD_eq_getElem?_getD, List.getElem?_append_left h]
theorem runs_l12 (K : Nat) (a : Ar 6) (ha : ∀ i : Int, 0 ≤ i → i < 6 → 1 ≤ a.get i ∧ a.get i ≤ 30) (g : Nat) (hg : g ≤ 8) (cur : List Int) (hcur : nn cur) (hlen : cur.length = g) (s : Nat) (hs : s < g) :
    ∀ (k n : Nat) (win : Int) (N : List Int), n ≤ 6 → 6 - n < k → 0 ≤ win → nn N → N.length = g → win + N.sum + (6 - n) * cur.getD s 0 ≤ 10000000 →
    ∃ win' N', spec_l7Run.l12 K a (g : Int) cur (s : Int) k win (n : Int) N = some (win', N') ∧ impl_runs.l16 K a (g : Int) cur (s : Int) k win (n : Int) N = some (win', N') ∧ 0 ≤ win' ∧ nn N' ∧ N'.length = g ∧ win' + N'.sum = win + N.sum + (6 - n) * cur.getD s 0 := by
  intro k
  induction k with
  | zero => intro n win N h1 h2; omega
  | succ k ih =>
    intro n win N h1 h2 h3 h4 h5 h6
    rw [spec_l7Run.l12, impl_runs.l16]
    by_cases hn : (n : Int) < 6
    · have c1 : (0 : Int) ≤ (n : Int) ∧ (n : Int) < 6 := by omega
      have c2 : (0 : Int) ≤ (s : Int) ∧ (s : Int) < (cur.length : Int) := by omega
      have hf := ha (n : Int) (by omega) (by omega)
      have hss : ((s : Int)).toNat = s := by omega
      have hc0 : 0 ≤ cur.getD s 0 := nn_get cur hcur s (by omega)
      have hN0 := nn_sum N h4
      have hst : (6 - (n : Int)) * cur.getD s 0 = cur.getD s 0 + (6 - ((n + 1 : Nat) : Int)) * cur.getD s 0 := by
        rw [show (6 : Int) - (n : Int) = 1 + (6 - ((n + 1 : Nat) : Int)) by omega, Int.add_mul, Int.one_mul]
      have hrest : 0 ≤ (6 - ((n + 1 : Nat) : Int)) * cur.getD s 0 := Int.mul_nonneg (by omega) (by omega)
      have e1 : wrap64 ((s : Int) + a.get (n : Int)) = (s : Int) + a.get (n : Int) := w64 (by omega) (by omega)
      obtain ⟨i, hi⟩ : ∃ i : Nat, (s : Int) + a.get (n : Int) = i := ⟨((s : Int) + a.get (n : Int)).toNat, by omega⟩
      have e1' : wrap64 (i : Int) = (i : Int) := w64 (by omega) (by omega)
      simp only [if_pos hn, if_pos c1, if_pos c2, hss, w1 n (by omega), hi, e1', Int.toNat_natCast]
      clear e1 e1' hi hf c1 c2 hss ha
      have q0 : win + cur.getD s 0 + N.sum + (6 - ((n + 1 : Nat) : Int)) * cur.getD s 0 ≤ 10000000 := by clear ih; omega
      have q1 : wrap64 (win + cur.getD s 0) = win + cur.getD s 0 := w64 (by clear ih; omega) (by clear ih; omega)
      by_cases hge : (g : Int) ≤ (i : Int)
      · have hlt : ¬ (i : Int) < (g : Int) := Int.not_lt.2 hge
        simp only [if_neg hlt, if_pos hge, q1]
        obtain ⟨w', N', r1, r2, r3, r4, r5, r6⟩ := ih (n + 1) (win + cur.getD s 0) N (by clear ih; omega) (by clear ih; omega) (by clear ih; omega) h4 h5 q0
        refine ⟨w', N', r1, r2, r3, r4, r5, ?_⟩
        rw [r6, hst, ← Int.add_assoc, Int.add_right_comm win]
      · have hlt : (i : Int) < (g : Int) := Int.not_le.1 hge
        have hi2 : i < N.length := by rw [h5]; exact Int.ofNat_lt.1 hlt
        have c3 : (0 : Int) ≤ (i : Int) ∧ (i : Int) < (N.length : Int) := ⟨Int.natCast_nonneg _, Int.ofNat_lt.2 hi2⟩
        have g1 := nn_get N h4 i hi2
        have g2 := nn_le N i h4 hi2
        have hsum := sum_set N i (cur.getD s 0) hi2
        have q2 : wrap64 (N.getD i 0 + cur.getD s 0) = N.getD i 0 + cur.getD s 0 := w64 (by clear ih hsum; omega) (by clear ih hsum; omega)
        simp only [if_pos hlt, if_neg hge, if_pos c3, q2]
        obtain ⟨w', N', r1, r2, r3, r4, r5, r6⟩ := ih (n + 1) win (N.set i (N.getD i 0 + cur.getD s 0)) (by clear ih; omega) (by clear ih; omega) h3 (nn_set N i _ h4 (by clear ih hsum; omega)) (by rw [List.length_set]; exact h5) (by rw [hsum]; clear ih hsum; omega)
        refine ⟨w', N', r1, r2, r3, r4, r5, ?_⟩
        rw [r6, hsum, hst, ← Int.add_assoc, ← Int.add_assoc]
    · have : n = 6 := by omega
      subst this
      rw [if_neg hn, if_neg hn]
      exact ⟨win, N, rfl, rfl, h3, h4, h5, by simp⟩
theorem runs_l11 (K : Nat) (hK : 1000 ≤ K) (a : Ar 6) (ha : ∀ i : Int, 0 ≤ i → i < 6 → 1 ≤ a.get i ∧ a.get i ≤ 30) (g : Nat) (hg : g ≤ 8) (cur : List Int) (hcur : nn cur) (hlen : cur.length = g) (T : Int) (hT : T ≤ 10000000) :
    ∀ (k s : Nat) (win : Int) (N : List Int), s ≤ g → g - s < k → 0 ≤ win → nn N → N.length = g → win + N.sum + 6 * (cur.drop s).sum = T →
    ∃ win' N', spec_l7Run.l11 K a (g : Int) cur k win (s : Int) N = some (win', N') ∧ impl_runs.l15 K a (g : Int) cur k win (s : Int) N = some (win', N') ∧ 0 ≤ win' ∧ nn N' ∧ N'.length = g ∧ win' + N'.sum = T := by
  intro k
  induction k with
  | zero => intro s win N h1 h2; omega
  | succ k ih =>
    intro s win N h1 h2 h3 h4 h5 h6
    rw [spec_l7Run.l11, impl_runs.l15]
    by_cases hs : (s : Int) < (g : Int)
    · have hs' : s < cur.length := by omega
      have c1 : (s : Int) < (cur.length : Int) := by omega
      have c2 : (0 : Int) ≤ (s : Int) ∧ (s : Int) < (cur.length : Int) := by omega
      have hd : cur.drop s = cur.getD s 0 :: cur.drop (s + 1) := by
        rw [List.drop_eq_getElem_cons hs', List.getD_eq_getElem?_getD, List.getElem?_eq_getElem hs']; rfl
      have hr : 0 ≤ (cur.drop (s + 1)).sum := nn_sum _ (fun y hy => hcur y (List.mem_of_mem_drop hy))
      have e0 : 6 * (cur.drop s).sum = 6 * cur.getD s 0 + 6 * (cur.drop (s + 1)).sum := by
        rw [hd, List.sum_cons, Int.mul_add]
      obtain ⟨w', N', r1, r2, r3, r4, r5, r6⟩ := runs_l12 K a ha g hg cur hcur hlen s (by omega) K 0 win N (by omega) (by omega) h3 h4 h5 (by rw [show ((0 : Nat) : Int) = 0 from rfl, Int.sub_zero]; omega)
      rw [show ((0 : Nat) : Int) = 0 from rfl] at r1 r2 r6
      rw [Int.sub_zero] at r6
      simp only [if_pos hs, if_pos c1, if_pos c2, r1, r2, some_bind, w1 s (by omega)]
      exact ih (s + 1) w' N' (by omega) (by omega) r3 r4 r5 (by omega)
    · have : s = g := by omega
      subst this
      rw [if_neg hs, if_neg (by omega)]
      have hz : cur.drop s = [] := List.drop_of_length_le (by omega)
      rw [hz] at h6
      exact ⟨win, N, rfl, rfl, h3, h4, h5, by simpa using h6⟩
def RunR (g : Nat) (x : Nat) (t r : List Int) : Prop := t.length = x ∧ r.length + 1 = x ∧ ∀ i : Nat, i < r.length → r.getD i 0 = t.getD (i + 1) 0 * 6 ^ (g - 1 - i) ∧ 0 ≤ t.getD (i + 1) 0 ∧ t.getD (i + 1) 0 ≤ 6 ^ (i + 1)
theorem pow8 (n : Nat) (h : n ≤ 8) : (6 : Int) ^ n ≤ 1679616 := by
  rcases (show n = 0 ∨ n = 1 ∨ n = 2 ∨ n = 3 ∨ n = 4 ∨ n = 5 ∨ n = 6 ∨ n = 7 ∨ n = 8 by omega) with rfl | rfl | rfl | rfl | rfl | rfl | rfl | rfl | rfl <;> decide
theorem runs_l8 (K : Nat) (hK : 1000 ≤ K) (a : Ar 6) (ha : ∀ i : Int, 0 ≤ i → i < 6 → 1 ≤ a.get i ∧ a.get i ≤ 30) (g : Nat) (hg : 1 ≤ g ∧ g ≤ 8) :
    ∀ (k x : Nat) (cur t r : List Int), 1 ≤ x → x ≤ g + 1 → g + 1 - x < k → nn cur → cur.length = g → cur.sum ≤ 6 ^ (x - 1) → RunR g x t r →
    ∃ t' r', spec_l7Run.l8 K a (g : Int) k (x : Int) cur t = some t' ∧ impl_runs.l12 K a (g : Int) k (x : Int) cur r = some r' ∧ RunR g (g + 1) t' r' := by
  intro k
  induction k with
  | zero => intro x cur t r h0 h1 h2; omega
  | succ k ih =>
    intro x cur t r h0 h1 h2 h3 h4 h5 h6
    rw [spec_l7Run.l8, impl_runs.l12]
    by_cases hx : (x : Int) ≤ (g : Int)
    · have e6 : (6 : Int) ^ x = 6 * 6 ^ (x - 1) := by
        conv => lhs; rw [show x = (x - 1) + 1 by omega]
        rw [Int.pow_succ, Int.mul_comm]
      have hp8 := pow8 x (by omega)
      have hc0 := nn_sum cur h3
      obtain ⟨w', N', r1, r2, r3, r4, r5, r6⟩ := runs_l11 K hK a ha g (by omega) cur h3 h4 (6 * cur.sum) (by omega) K 0 0 (List.replicate g 0) (by omega) (by omega) (by omega) (nn_rep g) (by simp) (by rw [sum_rep, List.drop_zero]; omega)
      rw [show ((0 : Nat) : Int) = 0 from rfl] at r1 r2
      have hN0 := nn_sum N' r4
      have hq := pow_pos (g - x)
      have hq8 := pow8 (g - x) (by omega)
      have hpw : impl_power.f K (wrap64 ((g : Int) - (x : Int))) = some ((6 : Int) ^ (g - x)) := by
        rw [w64 (by omega) (by omega), show (g : Int) - (x : Int) = ((g - x : Nat) : Int) by omega, power_eq K (by omega) (g - x) (by omega)]
      have hm0 : 0 ≤ w' * 6 ^ (g - x) := Int.mul_nonneg r3 (by omega)
      have hm1 : w' * 6 ^ (g - x) ≤ 6 ^ x * 6 ^ (g - x) := Int.mul_le_mul_of_nonneg_right (by omega) (by omega)
      have hm2 : (6 : Int) ^ x * 6 ^ (g - x) ≤ 1679616 := by
        rw [← Int.pow_add]; exact pow8 _ (by omega)
      obtain ⟨k1, k2, k3⟩ := h6
      have c1 : t.length + [w'].length ≤ 1073741824 := by simp; omega
      have c2 : r.length + [w' * 6 ^ (g - x)].length ≤ 1073741824 := by simp; omega
      simp only [if_pos hx, Int.toNat_natCast, r1, r2, some_bind, hpw, w1 x (by omega), w64 (n := w' * 6 ^ (g - x)) (by omega) (by omega), if_pos c1, if_pos c2]
      refine ih (x + 1) N' _ _ (by omega) (by omega) (by omega) r4 r5 (by rw [show x + 1 - 1 = x by omega]; omega) ⟨by simp [k1], by simp; omega, ?_⟩
      intro i hi
      simp only [List.length_append, List.length_singleton] at hi
      by_cases hix : i = r.length
      · subst hix
        rw [getD_append_last, show r.length + 1 = t.length by omega, getD_append_last, show g - 1 - r.length = g - x by omega]
        exact ⟨rfl, r3, by rw [k1]; omega⟩
      · rw [getD_append_left r _ i (by omega), getD_append_left t _ (i + 1) (by omega)]
        exact k3 i (by omega)
    · have : x = g + 1 := by omega
      subst this
      rw [if_neg hx, if_neg hx]
      exact ⟨t, r, rfl, rfl, h6⟩
theorem runs_eq (K : Nat) (hK : 1000 ≤ K) (a : Ar 6) (ha : dieB a = true ∧ 0 < a.get 0) (g : Nat) (hg : 1 ≤ g ∧ g ≤ 8) : ∃ t r, spec_l7Run.f K a (g : Int) = some t ∧ impl_runs.f K a (g : Int) = some r ∧ RunR g (g + 1) t r := by
  have c2 : (0 : Int) ≤ (g : Int) ∧ (g : Int) ≤ 1073741824 := by omega
  have c3 : (0 : Int) ≤ 0 ∧ (0 : Int) < ((List.replicate g (0 : Int)).length : Int) := by rw [List.length_replicate]; omega
  have hs : ((List.replicate g (0 : Int)).set 0 1).sum = 1 := by
    have := sum_set (List.replicate g 0) 0 1 (by rw [List.length_replicate]; omega)
    rw [sum_rep] at this
    have q : (List.replicate g (0 : Int)).getD 0 0 + 1 = 1 := by
      rw [List.getD_eq_getElem?_getD, List.getElem?_replicate]
      split <;> rfl
    rw [q] at this
    exact this
  obtain ⟨t, r, r1, r2, r3⟩ := runs_l8 K hK a (runner_faces a ha) g hg K 1 ((List.replicate g 0).set 0 1) [0] [] (by omega) (by omega) (by omega) (nn_set _ _ _ (nn_rep _) (by omega)) (by simp) (by rw [hs]; decide) ⟨rfl, rfl, fun i hi => by simp at hi⟩
  have r1' : spec_l7Run.l8 K a (g : Int) K 1 ((List.replicate g 0).set 0 1) [0] = some t := r1
  have r2' : impl_runs.l12 K a (g : Int) K 1 ((List.replicate g 0).set 0 1) [] = some r := r2
  unfold spec_l7Run.f impl_runs.f
  simp only [if_pos c2, Int.toNat_natCast, if_pos c3, show ((0 : Int)).toNat = 0 from rfl, r1', r2', some_bind]
  exact ⟨t, r, rfl, rfl, r3⟩
theorem toA6 (K : Nat) (hK : 8 ≤ K) (a : Ar 6) : laws_toIntA6.f K a = some a := by
  obtain ⟨k, rfl⟩ := Nat.exists_eq_add_of_le hK
  obtain ⟨x, y, z, u, v, w, rfl⟩ := Ar.cases6 a
  have e : 8 + k = k + 1 + 1 + 1 + 1 + 1 + 1 + 1 + 1 := by omega
  unfold laws_toIntA6.f
  rw [e]
  simp only [laws_toIntA6.l0, show (0 : Int) < 6 by decide, show wrap64 (0 + 1) = 1 by decide +kernel, show wrap64 (1 + 1) = 2 by decide +kernel, show wrap64 (2 + 1) = 3 by decide +kernel, show wrap64 (3 + 1) = 4 by decide +kernel, show wrap64 (4 + 1) = 5 by decide +kernel, show wrap64 (5 + 1) = 6 by decide +kernel, if_true, show (0 : Int) ≤ 0 ∧ True by decide]
  rfl
theorem RunR_ok (g : Nat) (hg : 1 ≤ g ∧ g ≤ 8) (t r : List Int) (hr : RunR g (g + 1) t r) (i : Nat) (hi : i < g) : (t.length = g + 1 ∧ r.length = g) ∧ r.getD i 0 = t.getD (i + 1) 0 * 6 ^ (g - 1 - i) ∧ (0 ≤ t.getD (i + 1) 0 ∧ t.getD (i + 1) 0 ≤ 1679616) ∧ 0 ≤ r.getD i 0 ∧ r.getD i 0 ≤ 1679616 := by
  obtain ⟨k1, k2, k3⟩ := hr
  have hl : r.length = g := by omega
  obtain ⟨e1, e2, e3⟩ := k3 i (by omega)
  have hq := pow_pos (g - 1 - i)
  have hm : (6 : Int) ^ (i + 1) * 6 ^ (g - 1 - i) ≤ 1679616 := by
    rw [← Int.pow_add]; exact pow8 _ (by omega)
  have hq0 : (0 : Int) ≤ 6 ^ (g - 1 - i) := Int.le_trans (by decide) hq
  have hm1 : t.getD (i + 1) 0 * 6 ^ (g - 1 - i) ≤ 6 ^ (i + 1) * 6 ^ (g - 1 - i) := Int.mul_le_mul_of_nonneg_right e3 hq0
  have hm0 : 0 ≤ t.getD (i + 1) 0 * 6 ^ (g - 1 - i) := Int.mul_nonneg e2 hq0
  have h8 := pow8 (i + 1) (by omega)
  refine ⟨⟨k1, hl⟩, e1, ⟨e2, Int.le_trans e3 h8⟩, ?_, ?_⟩
  · rw [e1]; exact hm0
  · rw [e1]; exact Int.le_trans hm1 hm
theorem powN (n : Nat) : ((6 ^ n : Nat) : Int) = (6 : Int) ^ n := by simp
def frac (a b : Nat) : Ar 2 := ⟨[((a / Nat.gcd a b : Nat) : Int), ((b / Nat.gcd a b : Nat) : Int)], rfl⟩
theorem gcd_l0 (K : Nat) : ∀ (k a b : Nat), b < k → spec_l2Cut.l0 K k (a : Int) (b : Int) = some ((Nat.gcd a b : Nat) : Int) ∧ impl_fraction.l0 K k (a : Int) (b : Int) = some ((Nat.gcd a b : Nat) : Int) := by
  intro k
  induction k with
  | zero => intro a b h; omega
  | succ k ih =>
    intro a b h
    rw [spec_l2Cut.l0, impl_fraction.l0]
    by_cases hb : b = 0
    · subst hb
      simp
    · have h1 : (0 : Int) < (b : Int) := by omega
      have h2 : ¬ (b : Int) = 0 := by omega
      have h3 : (b : Int) ≠ 0 := h2
      have h4 : ((a : Int)).tmod (b : Int) = ((a % b : Nat) : Int) := by
        rw [Int.tmod_eq_emod_of_nonneg (by omega)]; rfl
      have h5 : a % b < b := Nat.mod_lt _ (by omega)
      rw [if_pos h1, if_neg h2, if_pos h3, if_pos h3, h4]
      obtain ⟨i1, i2⟩ := ih b (a % b) (by omega)
      rw [i1, i2]
      have : Nat.gcd b (a % b) = Nat.gcd a b := by
        rw [Nat.gcd_comm b, ← Nat.gcd_rec, Nat.gcd_comm]
      rw [this]
      exact ⟨rfl, rfl⟩
theorem frac_eq (K : Nat) (a b : Nat) (h : 0 < a ∨ 0 < b) (hK : b < K) (ha : a ≤ 4000000000000000000) (hb : b ≤ 4000000000000000000) : spec_l2Cut.f K (a : Int) (b : Int) = some (frac a b) ∧ impl_fraction.f K (a : Int) (b : Int) = some (frac a b) := by
  obtain ⟨h1, h2⟩ := gcd_l0 K K a b hK
  have hg : 0 < Nat.gcd a b := by
    rcases h with h | h
    · exact Nat.gcd_pos_of_pos_left _ h
    · exact Nat.gcd_pos_of_pos_right _ h
  unfold spec_l2Cut.f impl_fraction.f
  rw [h1, h2]
  simp only [some_bind]
  have h3 : spec_l1Most.f K ((Nat.gcd a b : Nat) : Int) 1 = some ((Nat.gcd a b : Nat) : Int) := by
    unfold spec_l1Most.f
    by_cases h : (1 : Int) < ((Nat.gcd a b : Nat) : Int)
    · rw [if_pos h]
    · rw [if_neg h, show ((Nat.gcd a b : Nat) : Int) = 1 by omega]
  have h4 : ((Nat.gcd a b : Nat) : Int) ≠ 0 := by omega
  have d1 : ∀ m : Nat, m ≤ 4000000000000000000 → wrap64 ((m : Int).tdiv ((Nat.gcd a b : Nat) : Int)) = ((m / Nat.gcd a b : Nat) : Int) := by
    intro m hm
    have e : (m : Int).tdiv ((Nat.gcd a b : Nat) : Int) = ((m / Nat.gcd a b : Nat) : Int) := by
      rw [Int.tdiv_eq_ediv_of_nonneg (by omega)]; rfl
    have := Nat.div_le_self m (Nat.gcd a b)
    rw [e]
    generalize m / Nat.gcd a b = q at *
    exact w64 (by omega) (by omega)
  rw [h3]
  simp only [some_bind, if_pos h4, d1 a ha, d1 b hb]
  exact ⟨rfl, rfl⟩
theorem frac_scale (c a b : Nat) (hc : 0 < c) : frac (c * a) (c * b) = frac a b := by
  unfold frac
  apply Ar.ext
  simp only [Nat.gcd_mul_left, Nat.mul_div_mul_left _ _ hc]
theorem eqA2x (K : Nat) (hK : 8 ≤ K) (a : Ar 2) : laws_eqIntA2.f K a a = some true := by
  obtain ⟨k, rfl⟩ := Nat.exists_eq_add_of_le hK
  rw [show 8 + k = k + 1 + 1 + 1 + 1 + 1 + 1 + 1 + 1 by omega]
  simp [laws_eqIntA2.f, laws_eqIntA2.l0, wrap64]
theorem eqA2S_l0 (K : Nat) (hK : 8 ≤ K) (l : List (Ar 2)) (h : l.length ≤ 1073741824) : ∀ (k n : Nat), n ≤ l.length → l.length - n < k → laws_eqIntA2S.l0 K l l k (n : Int) = some (Sum.inl ()) := by
  intro k
  induction k with
  | zero => intro n h1 h2; omega
  | succ k ih =>
    intro n h1 h2
    rw [laws_eqIntA2S.l0]
    by_cases hn : (n : Int) < (l.length : Int)
    · rw [if_pos hn, if_pos (by omega), if_pos (by omega), eqA2x K hK, some_bind, if_pos rfl, w1 n (by omega)]
      exact ih (n + 1) (by omega) (by omega)
    · rw [if_neg hn]
theorem eqA2Sx (K : Nat) (l : List (Ar 2)) (h : l.length ≤ 1048576) (hK : 2000000 ≤ K) : laws_eqIntA2S.f K l l = some true := by
  unfold laws_eqIntA2S.f
  rw [if_pos rfl, show (0 : Int) = ((0 : Nat) : Int) from rfl, eqA2S_l0 K (by omega) l (by omega) K 0 (by omega) (by omega)]
  rfl
theorem getD_set2 (l : List (Ar 2)) (d j : Nat) (x : Ar 2) (h : d < l.length) : (l.set d x).getD j (Ar.zero 2) = if j = d then x else l.getD j (Ar.zero 2) := by
  rw [List.getD_eq_getElem?_getD, List.getD_eq_getElem?_getD]
  by_cases hj : j = d
  · subst hj
    rw [if_pos rfl, List.getElem?_set_self h]; rfl
  · rw [if_neg hj, List.getElem?_set_ne (fun e => hj e.symm)]
def MkA2 (a : Int) (d : Nat) (l : List (Ar 2)) : Prop := ∀ j i : Nat, j < d → i < 2 → (l.getD j (Ar.zero 2)).get (i : Int) = a + 2 * j + i
theorem markA2x_l3 (K : Nat) (a : Int) (h0 : 0 ≤ a) (ha : a ≤ 1000000) (d : Nat) (hd : d ≤ 1048576) : ∀ (k n : Nat) (out : List (Ar 2)), n ≤ 2 → 2 - n < k → d < out.length → MkA2 a d out → (∀ i : Nat, i < n → (out.getD d (Ar.zero 2)).get (i : Int) = a + 2 * d + i) → ∃ out', laws_markIntA2S.l3 K (d : Int) k (a + 2 * d + n) (n : Int) out = some (a + 2 * (d + 1 : Nat), out') ∧ out'.length = out.length ∧ MkA2 a (d + 1) out' := by
  intro k
  induction k with
  | zero => intro n out h1 h2; omega
  | succ k ih =>
    intro n out h1 h2 h3 h4 h5
    rw [laws_markIntA2S.l3]
    by_cases hn : (n : Int) < 2
    · have c1 : (0 : Int) ≤ (d : Int) ∧ (d : Int) < (out.length : Int) := by omega
      have c2 : (0 : Int) ≤ (n : Int) ∧ (n : Int) < 2 := by omega
      have f1 : n + 1 ≤ 2 := by omega
      have f2 : 2 - (n + 1) < k := by omega
      have f3 : n ≤ 4000000000000000000 := by omega
      have e1 : wrap64 (a + 2 * (d : Int) + (n : Int) + 1) = a + 2 * (d : Int) + ((n + 1 : Nat) : Int) := by rw [w64 (by omega) (by omega)]; omega
      rw [if_pos hn, if_pos c1, if_pos c2, e1, w1 n f3, show ((d : Int)).toNat = d from rfl]
      obtain ⟨o, i1, i2, i3⟩ := ih (n + 1) (out.set d ((out.getD d (Ar.zero 2)).set (n : Int) (a + 2 * (d : Int) + (n : Int)))) f1 f2 (by rw [List.length_set]; exact h3) (by
        intro j i hj hi
        rw [getD_set2 _ _ _ _ h3, if_neg (by omega)]
        exact h4 j i hj hi) (by
        intro i hi
        rw [getD_set2 _ _ _ _ h3, if_pos rfl, ar_get_set _ _ _ _ c2.1 c2.2 (by omega)]
        by_cases hin : i = n
        · rw [hin, if_pos rfl]
        · rw [if_neg (by omega)]
          exact h5 i (by omega))
      exact ⟨o, i1, by rw [i2, List.length_set], i3⟩
    · have hnc : n = 2 := by omega
      subst hnc
      rw [if_neg hn]
      refine ⟨out, ?_, rfl, ?_⟩
      · congr 2
        omega
      · intro j i hj hi
        by_cases hjd : j = d
        · subst hjd; exact h5 i hi
        · exact h4 j i (by omega) hi
theorem markA2x_l2 (K : Nat) (hK : 10 ≤ K) (a : Int) (h0 : 0 ≤ a) (ha : a ≤ 1000000) (N : Nat) (hN : N ≤ 1048576) : ∀ (k d : Nat) (out : List (Ar 2)), d ≤ N → N - d < k → out.length = N → MkA2 a d out → ∃ out', laws_markIntA2S.l2 K k (a + 2 * d) (d : Int) out = some (a + 2 * N, out') ∧ out'.length = N ∧ MkA2 a N out' := by
  intro k
  induction k with
  | zero => intro d out h1 h2; omega
  | succ k ih =>
    intro d out h1 h2 h3 h4
    rw [laws_markIntA2S.l2]
    by_cases hn : (d : Int) < (out.length : Int)
    · have f1 : d + 1 ≤ N := by omega
      have f2 : N - (d + 1) < k := by omega
      have f3 : d ≤ 4000000000000000000 := by omega
      obtain ⟨o, i1, i2, i3⟩ := markA2x_l3 K a h0 ha d (by omega) K 0 out (by omega) (by omega) (by omega) h4 (fun i hi => by omega)
      have i1' : laws_markIntA2S.l3 K (d : Int) K (a + 2 * (d : Int)) 0 out = some (a + 2 * ((d + 1 : Nat) : Int), o) := by
        rw [show ((0 : Nat) : Int) = 0 from rfl, Int.add_zero] at i1; exact i1
      rw [if_pos hn, i1', some_bind, w1 d f3]
      exact ih (d + 1) o f1 f2 (by omega) i3
    · have : d = N := by omega
      subst this
      rw [if_neg hn]
      exact ⟨out, rfl, h3, h4⟩
theorem heldA2x_l3 (K : Nat) (a : Int) (h0 : 0 ≤ a) (ha : a ≤ 1000000) (d : Nat) (hd : d ≤ 1048576) (l : List (Ar 2)) (hl : d < l.length) (hm : MkA2 a l.length l) : ∀ (k n : Nat), n ≤ 2 → 2 - n < k → laws_heldIntA2S.l3 K l (d : Int) k (a + 2 * d + n) (n : Int) = some (Sum.inl (a + 2 * (d + 1 : Nat))) := by
  intro k
  induction k with
  | zero => intro n h1 h2; omega
  | succ k ih =>
    intro n h1 h2
    rw [laws_heldIntA2S.l3]
    by_cases hn : (n : Int) < 2
    · have c1 : (0 : Int) ≤ (d : Int) ∧ (d : Int) < (l.length : Int) := by omega
      have c2 : (0 : Int) ≤ (n : Int) ∧ (n : Int) < 2 := by omega
      have f1 : n + 1 ≤ 2 := by omega
      have f2 : 2 - (n + 1) < k := by omega
      have f3 : n ≤ 4000000000000000000 := by omega
      have e1 : wrap64 (a + 2 * (d : Int) + (n : Int) + 1) = a + 2 * (d : Int) + ((n + 1 : Nat) : Int) := by rw [w64 (by omega) (by omega)]; omega
      rw [if_pos hn, if_pos c1, if_pos c2, e1, w1 n f3, show ((d : Int)).toNat = d from rfl, if_pos (hm d n hl (by omega))]
      exact ih (n + 1) f1 f2
    · have hnc : n = 2 := by omega
      subst hnc
      rw [if_neg hn]
      congr 2
      omega
theorem heldA2x_l2 (K : Nat) (hK : 10 ≤ K) (a : Int) (h0 : 0 ≤ a) (ha : a ≤ 1000000) (l : List (Ar 2)) (hN : l.length ≤ 1048576) (hm : MkA2 a l.length l) : ∀ (k d : Nat), d ≤ l.length → l.length - d < k → laws_heldIntA2S.l2 K l k (a + 2 * d) (d : Int) = some (Sum.inl (a + 2 * l.length)) := by
  intro k
  induction k with
  | zero => intro d h1 h2; omega
  | succ k ih =>
    intro d h1 h2
    rw [laws_heldIntA2S.l2]
    by_cases hn : (d : Int) < (l.length : Int)
    · have f1 : d + 1 ≤ l.length := by omega
      have f2 : l.length - (d + 1) < k := by omega
      have f3 : d ≤ 4000000000000000000 := by omega
      have i1 := heldA2x_l3 K a h0 ha d (by omega) l (by omega) hm K 0 (by omega) (by omega)
      rw [show ((0 : Nat) : Int) = 0 from rfl, Int.add_zero] at i1
      rw [if_pos hn, i1, some_bind, w1 d f3]
      exact ih (d + 1) f1 f2
    · have : d = l.length := by omega
      rw [if_neg hn, this]
theorem marksA2x (K : Nat) (hK : 2000000 ≤ K) (l : List (Ar 2)) (h : l.length ≤ 1048576) : ∃ m o, laws_markIntA2S.f K l 1 = some (m, o) ∧ laws_heldIntA2S.f K o 1 = some m ∧ 0 ≤ m := by
  obtain ⟨o, h1, h2, h3⟩ := markA2x_l2 K (by omega) 1 (by omega) (by omega) l.length h K 0 l (by omega) (by omega) rfl (fun j i hj => by omega)
  have h4 := heldA2x_l2 K (by omega) 1 (by omega) (by omega) o (by omega) (by rw [h2]; exact h3) K 0 (by omega) (by omega)
  rw [show ((0 : Nat) : Int) = 0 from rfl, Int.mul_zero, Int.add_zero] at h1 h4
  rw [h2] at h4
  refine ⟨1 + 2 * (l.length : Int), o, ?_, ?_, by omega⟩
  · unfold laws_markIntA2S.f
    rw [h1]; rfl
  · unfold laws_heldIntA2S.f
    rw [h4]; rfl
theorem table_step (K : Nat) (hK : 2000000 ≤ K) (g : Nat) (hg : 1 ≤ g ∧ g ≤ 8) (t r : List Int) (hr : RunR g (g + 1) t r) (i : Nat) (hi : i < g) : ∃ f : Ar 2, spec_l2Cut.f K (t.getD (i + 1) 0) ((6 : Int) ^ (i + 1)) = some f ∧ impl_fraction.f K (r.getD i 0) ((6 : Int) ^ g) = some f := by
  obtain ⟨⟨lt, lr⟩, e1, ⟨e2, e3⟩, e4, e5⟩ := RunR_ok g hg t r hr i hi
  obtain ⟨T, hT⟩ : ∃ T : Nat, t.getD (i + 1) 0 = T := ⟨(t.getD (i + 1) 0).toNat, by omega⟩
  rw [hT] at e1 e2 e3 ⊢
  have hp : 0 < 6 ^ (g - 1 - i) := Nat.one_le_pow _ _ (by omega)
  have hq : 0 < 6 ^ (i + 1) := Nat.one_le_pow _ _ (by omega)
  have hg6 : (6 : Nat) ^ g = 6 ^ (g - 1 - i) * 6 ^ (i + 1) := by
    rw [← Nat.pow_add]; congr 1; omega
  have hb : ∀ n : Nat, n ≤ 8 → (6 : Nat) ^ n ≤ 1679616 := by
    intro n hn
    have := pow8 n hn
    rw [← powN n] at this
    exact Int.ofNat_le.1 this
  have b1 := hb (i + 1) (by omega)
  have b2 := hb g (by omega)
  have hr2 : r.getD i 0 = ((6 ^ (g - 1 - i) * T : Nat) : Int) := by
    rw [e1, ← powN, Int.mul_comm, ← Int.natCast_mul]
  have b3 : 6 ^ (g - 1 - i) * T ≤ 1679616 := by
    rw [hr2] at e5; exact Int.ofNat_le.1 e5
  have b4 : T ≤ 1679616 := Int.ofNat_le.1 e3
  have k1 : 6 ^ (i + 1) < K := by omega
  have k2 : 6 ^ g < K := by omega
  have f1 := (frac_eq K T (6 ^ (i + 1)) (.inr hq) k1 (by omega) (by omega)).1
  have f2 := (frac_eq K (6 ^ (g - 1 - i) * T) (6 ^ g) (.inr (by rw [hg6]; exact Nat.mul_pos hp hq)) k2 (by omega) (by omega)).2
  rw [powN] at f1 f2
  refine ⟨frac T (6 ^ (i + 1)), f1, ?_⟩
  rw [hr2, f2, hg6, frac_scale _ _ _ hp]
theorem RunTable_l0 (K : Nat) (hK : 2000000 ≤ K) (g : Nat) (hg : 1 ≤ g ∧ g ≤ 8) (t r : List Int) (hr : RunR g (g + 1) t r) : ∀ (k k2 i : Nat) (out : List (Ar 2)), i ≤ g → g - i < k → g - i < k2 → out.length ≤ i → ∃ o, spec_RunTable.l0 K (g : Int) t k ((i + 1 : Nat) : Int) out = some o ∧ impl_RunTable.l0 K (g : Int) r k2 (i : Int) out = some o ∧ o.length ≤ g := by
  intro k
  induction k with
  | zero => intro k2 i out h1 h2; omega
  | succ k ih =>
    intro k2 i out h1 h2 h3 h4
    match k2, h3 with
    | k2 + 1, h3 =>
      rw [spec_RunTable.l0, impl_RunTable.l0]
      by_cases hi : i < g
      · obtain ⟨⟨lt, lr⟩, _⟩ := RunR_ok g hg t r hr i hi
        obtain ⟨f, g1, g2⟩ := table_step K hK g hg t r hr i hi
        have f1 : g - (i + 1) < k := by omega
        have f2 : g - (i + 1) < k2 := by omega
        have c1 : ((i + 1 : Nat) : Int) ≤ (g : Int) := by omega
        have c2 : (0 : Int) ≤ ((i + 1 : Nat) : Int) ∧ ((i + 1 : Nat) : Int) < (t.length : Int) := by rw [lt]; omega
        have c3 : (i : Int) < (r.length : Int) := by rw [lr]; omega
        have c4 : (0 : Int) ≤ (i : Int) ∧ (i : Int) < (r.length : Int) := by rw [lr]; omega
        have c5 : out.length + [f].length ≤ 1073741824 := by rw [List.length_singleton]; omega
        have c6 : (out ++ [f]).length ≤ i + 1 := by rw [List.length_append, List.length_singleton]; omega
        have b1 : i ≤ 4000000000000000000 := by omega
        have b2 : i + 1 ≤ 4000000000000000000 := by omega
        have p1 := power_eq K (by omega) (i + 1) (by omega)
        have p2 := power_eq K (by omega) g (by omega)
        simp only [if_pos c1, if_pos c2, if_pos c3, if_pos c4, Int.toNat_natCast, all_power, p1, p2, some_bind, g1, g2, if_pos c5, w1 i b1, w1 (i + 1) b2]
        exact ih k2 (i + 1) _ hi f1 f2 c6
      · have : i = g := by omega
        subst this
        have hl := hr.2.1
        rw [if_neg (by omega), if_neg (by omega)]
        exact ⟨out, rfl, rfl, h4⟩
theorem RunTable_same (K : Nat) (hK : 2000000 ≤ K) (a : Ar 6) (b : Int) : ∃ o c, spec_RunTable.f K a b = some (o, c) ∧ impl_RunTable.f K a b = some (o, c) ∧ o.length ≤ 1000 := by
  unfold spec_RunTable.f impl_RunTable.f
  rw [(runner_eq K hK a).1, (runner_eq K hK a).2, goal_goal, goal_some]
  simp only [some_bind]
  by_cases hr : (dieB a && decide (0 < a.get 0)) = true
  · have hr' : dieB a = true ∧ 0 < a.get 0 := by simpa using hr
    by_cases ha : 1 ≤ b ∧ b ≤ 8
    · obtain ⟨g, hg⟩ : ∃ g : Nat, b = g := ⟨b.toNat, by omega⟩
      subst hg
      obtain ⟨t, r, r1, r2, r3⟩ := runs_eq K (by omega) a hr' g (by omega)
      obtain ⟨o, v1, v2, v3⟩ := RunTable_l0 K hK g (by omega) t r r3 K K 0 [] (by omega) (by omega) (by omega) (by simp)
      have v1' : spec_RunTable.l0 K (g : Int) t K 1 [] = some o := v1
      have v2' : impl_RunTable.l0 K (g : Int) r K 0 [] = some o := v2
      refine ⟨o, true, ?_, ?_, by omega⟩
      · simp only [hr, if_true, ha, and_self, decide_true, r1, some_bind, v1']
      · simp only [hr, if_true, ha, and_self, decide_true, r2, some_bind, v2']
    · refine ⟨[], false, ?_, ?_, by simp⟩ <;> simp [hr, ha]
  · refine ⟨[], false, ?_, ?_, by simp⟩ <;> simp [hr]
theorem RunTable_pure (a0 : Ar 6) (a1 : Int) (_w0 : ∀ z ∈ a0.l, (Lit.int .i64 z).wf = true) (_w1 : (Lit.int .i64 a1).wf = true) : ∃ K, laws_FnExactRunTable.f K a0 a1 = some true := by
  refine ⟨200000000, ?_⟩
  unfold laws_FnExactRunTable.f
  obtain ⟨o, c, h1, h2, h3⟩ := RunTable_same 200000000 (by omega) a0 a1
  have t2 := fun a => toA6 200000000 (by omega) a
  have q2 := eqA2Sx 200000000 o (by omega) (by omega)
  obtain ⟨m, s, m1, m2, m3⟩ := marksA2x 200000000 (by omega) o (by omega)
  have i1 : ¬ m < 0 := by omega
  simp only [t2, h1, h2, q2, m1, m2, some_bind, i1, if_true, if_false, beq_self_eq_true]
end Go.Proofs.Ytgmalhohckcogaa.WRunTable

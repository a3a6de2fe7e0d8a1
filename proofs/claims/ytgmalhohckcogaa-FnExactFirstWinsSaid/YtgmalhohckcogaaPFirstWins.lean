/- The plain law: what the walk shows to be computed answers true. Conditions: the numbers are 64-bit. -/
import Derived.Test.YtgmalhohckcogaaWFirstWins
import Derived.KernelRfl
namespace Go.Proofs.Ytgmalhohckcogaa.WFirstWins
open Go.K Go.RowKit
set_option linter.unusedVariables false
set_option linter.unusedSimpArgs false

theorem w1 (n : Nat) (h : n ≤ 4000000000000000000) : wrap64 ((n : Int) + 1) = ((n + 1 : Nat) : Int) := by rw [w64 (by omega) (by omega)]; omega
def nn (l : List Int) : Prop := ∀ x ∈ l, 0 ≤ x
theorem nn_sum : ∀ l : List Int, nn l → 0 ≤ l.sum
  | [], _ => by simp
  | x :: l, h => by
    have h1 := h x List.mem_cons_self
    have h2 := nn_sum l (fun y hy => h y (List.mem_cons_of_mem _ hy))
    simp only [List.sum_cons]
    omega
theorem nn_get (l : List Int) (h : nn l) (i : Nat) (hi : i < l.length) : 0 ≤ l.getD i 0 := by
  rw [List.getD_eq_getElem?_getD, List.getElem?_eq_getElem hi]
  exact h _ (List.getElem_mem hi)
theorem nn_le : ∀ (l : List Int) (i : Nat), nn l → i < l.length → l.getD i 0 ≤ l.sum
  | [], i, _, hi => by simp at hi
  | x :: l, 0, h, _ => by
    have h2 := nn_sum l (fun y hy => h y (List.mem_cons_of_mem _ hy))
    simp only [List.getD_cons_zero, List.sum_cons]
    omega
  | x :: l, i + 1, h, hi => by
    have h1 := h x List.mem_cons_self
    have h2 := nn_le l i (fun y hy => h y (List.mem_cons_of_mem _ hy)) (by simpa using hi)
    simp only [List.getD_cons_succ, List.sum_cons]
    omega
theorem sum_set : ∀ (l : List Int) (i : Nat) (v : Int), i < l.length → (l.set i (l.getD i 0 + v)).sum = l.sum + v
  | [], i, v, hi => by simp at hi
  | x :: l, 0, v, _ => by simp only [List.set_cons_zero, List.getD_cons_zero, List.sum_cons]; omega
  | x :: l, i + 1, v, hi => by
    have h2 := sum_set l i v (by simpa using hi)
    simp only [List.set_cons_succ, List.getD_cons_succ, List.sum_cons, h2]
    omega
theorem nn_set (l : List Int) (i : Nat) (v : Int) (h : nn l) (hv : 0 ≤ v) : nn (l.set i v) := by
  intro x hx
  rcases List.mem_or_eq_of_mem_set hx with h1 | h1
  · exact h x h1
  · omega
theorem nn_rep (n : Nat) : nn (List.replicate n 0) := by
  intro x hx
  rw [(List.mem_replicate.1 hx).2]
  omega
theorem sum_rep (n : Nat) : (List.replicate n (0 : Int)).sum = 0 := by
  induction n with
  | zero => rfl
  | succ n ih => rw [List.replicate_succ, List.sum_cons, ih]; rfl
theorem in_eq (K : Nat) (a lo hi : Int) : impl_within.f K a lo hi = some (decide (lo ≤ a ∧ a ≤ hi)) := by
  unfold impl_within.f
  by_cases h : lo ≤ a <;> simp [h]
theorem in_within : spec_l1In.f = impl_within.f := by kernel_rfl
def faceB (a : Int) : Bool := decide (0 ≤ a ∧ a ≤ 30)
theorem isFace_eq (K : Nat) (_hK : 2000000 ≤ K) (a : Int) : impl_isFace.f K a = some (faceB a) := by
  unfold impl_isFace.f
  rw [in_eq]; rfl
theorem allFace_l0 (K : Nat) (hK : 2000000 ≤ K) (l : List Int) (h : l.length ≤ 1073741824) : ∀ (k n : Nat), n ≤ l.length → l.length - n < k →
    (slices_IndexFunc_int_int__areAll_int_1_isFace.l0 K l k (n : Int) = some (Sum.inl ()) ∧ (l.drop n).all faceB = true) ∨ (∃ i : Int, 0 ≤ i ∧ slices_IndexFunc_int_int__areAll_int_1_isFace.l0 K l k (n : Int) = some (Sum.inr i) ∧ (l.drop n).all faceB = false) := by
  intro k
  induction k with
  | zero => intro n h1 h2; omega
  | succ k ih =>
    intro n h1 h2
    rw [slices_IndexFunc_int_int__areAll_int_1_isFace.l0]
    by_cases hn : (n : Int) < (l.length : Int)
    · have hn' : n < l.length := by omega
      have hnn : ((n : Int)).toNat = n := by omega
      have hd : l.drop n = l[n] :: l.drop (n + 1) := List.drop_eq_getElem_cons hn'
      have hg : l.getD n (0 : Int) = l[n] := by rw [List.getD_eq_getElem?_getD, List.getElem?_eq_getElem hn']; rfl
      rw [if_pos hn, if_pos (by omega), w1 n (by omega), hnn, hg, impl_areAll_int_1__isFace.f, isFace_eq K hK, hd]
      simp only [some_bind, List.all_cons]
      rcases Bool.eq_false_or_eq_true (faceB l[n]) with e | e
      · rw [e]
        simp only [Bool.not_true, Bool.false_eq_true, if_false, Bool.true_and]
        exact ih (n + 1) (by omega) (by omega)
      · rw [e]
        simp only [Bool.not_false, if_true, Bool.false_and]
        exact .inr ⟨_, by omega, rfl, trivial⟩
    · rw [if_neg hn]
      have : n = l.length := by omega
      subst this
      exact .inl ⟨rfl, by simp⟩
theorem allFace_eq (K : Nat) (hK : 2000000 ≤ K) (l : List Int) (h : l.length ≤ 1048576) : impl_areAll_int__isFace.f K l = some (l.all faceB) := by
  unfold impl_areAll_int__isFace.f slices_ContainsFunc_int_int__areAll_int_1_isFace.f slices_IndexFunc_int_int__areAll_int_1_isFace.f
  rcases allFace_l0 K hK l (by omega) K 0 (by omega) (by omega) with ⟨h1, h2⟩ | ⟨i, hi, h1, h2⟩
  · rw [show (0 : Int) = ((0 : Nat) : Int) from rfl, h1]
    simp only [some_bind, List.drop_zero] at h2 ⊢
    rw [h2]; rfl
  · rw [show (0 : Int) = ((0 : Nat) : Int) from rfl, h1]
    simp only [some_bind, List.drop_zero] at h2 ⊢
    rw [h2]
    have : decide (((0 : Nat) : Int) ≤ i) = true := decide_eq_true (by simpa using hi)
    rw [this]; rfl
def dieP (a : Ar 6) : Prop := ((0 ≤ a.get 0 ∧ a.get 0 ≤ 30) ∧ (0 ≤ a.get 1 ∧ a.get 1 ≤ 30) ∧ (0 ≤ a.get 2 ∧ a.get 2 ≤ 30) ∧ (0 ≤ a.get 3 ∧ a.get 3 ≤ 30) ∧ (0 ≤ a.get 4 ∧ a.get 4 ≤ 30) ∧ (0 ≤ a.get 5 ∧ a.get 5 ≤ 30)) ∧ (a.get 0 ≤ a.get 1 ∧ a.get 1 ≤ a.get 2 ∧ a.get 2 ≤ a.get 3 ∧ a.get 3 ≤ a.get 4 ∧ a.get 4 ≤ a.get 5)
instance (a : Ar 6) : Decidable (dieP a) := by unfold dieP; infer_instance
def dieB (a : Ar 6) : Bool := decide (dieP a)
theorem die_get (x y z u v w : Int) : (Ar.get (⟨[x, y, z, u, v, w], rfl⟩ : Ar 6) 0 = x ∧ Ar.get (⟨[x, y, z, u, v, w], rfl⟩ : Ar 6) 1 = y ∧ Ar.get (⟨[x, y, z, u, v, w], rfl⟩ : Ar 6) 2 = z) ∧ (Ar.get (⟨[x, y, z, u, v, w], rfl⟩ : Ar 6) 3 = u ∧ Ar.get (⟨[x, y, z, u, v, w], rfl⟩ : Ar 6) 4 = v ∧ Ar.get (⟨[x, y, z, u, v, w], rfl⟩ : Ar 6) 5 = w) := ⟨⟨rfl, rfl, rfl⟩, rfl, rfl, rfl⟩
set_option maxHeartbeats 4000000 in
theorem die_spec (K : Nat) (hK : 2000000 ≤ K) (a : Ar 6) : spec_l2Die.f K a = some (dieB a) := by
  obtain ⟨k, rfl⟩ := Nat.exists_eq_add_of_le (show 8 ≤ K by omega)
  obtain ⟨x, y, z, u, v, w, rfl⟩ := Ar.cases6 a
  have e : 8 + k = k + 1 + 1 + 1 + 1 + 1 + 1 + 1 + 1 := by omega
  unfold spec_l2Die.f dieB dieP
  obtain ⟨⟨g0, g1, g2⟩, g3, g4, g5⟩ := die_get x y z u v w
  rw [e]
  simp only [spec_l2Die.l0, in_within, in_eq, some_bind, show (0 : Int) < 6 by decide, show wrap64 (0 + 1) = 1 by decide +kernel, show wrap64 (1 + 1) = 2 by decide +kernel, show wrap64 (2 + 1) = 3 by decide +kernel, show wrap64 (3 + 1) = 4 by decide +kernel, show wrap64 (4 + 1) = 5 by decide +kernel, show wrap64 (5 + 1) = 6 by decide +kernel, show wrap64 (1 - 1) = 0 by decide +kernel, show wrap64 (2 - 1) = 1 by decide +kernel, show wrap64 (3 - 1) = 2 by decide +kernel, show wrap64 (4 - 1) = 3 by decide +kernel, show wrap64 (5 - 1) = 4 by decide +kernel, g0, g1, g2, g3, g4, g5, decide_eq_true_eq]
  simp
  repeat' split
  all_goals simp_all
  all_goals omega
set_option maxHeartbeats 4000000 in
theorem die_impl (K : Nat) (hK : 2000000 ≤ K) (a : Ar 6) : impl_IsDie.f K a = some (dieB a) := by
  obtain ⟨x, y, z, u, v, w, rfl⟩ := Ar.cases6 a
  unfold impl_IsDie.f dieB dieP
  rw [allFace_eq K hK _ (by simp)]
  obtain ⟨k, rfl⟩ := Nat.exists_eq_add_of_le (show 8 ≤ K by omega)
  have e : 8 + k = k + 1 + 1 + 1 + 1 + 1 + 1 + 1 + 1 := by omega
  obtain ⟨⟨g0, g1, g2⟩, g3, g4, g5⟩ := die_get x y z u v w
  unfold slices_IsSorted_int_int.f
  rw [e]
  simp [slices_IsSorted_int_int.l0, cmp_Less_int.f, cmp_isNaN_int.f, some_bind, show wrap64 (6 - 1) = 5 by decide +kernel, show wrap64 5 = 5 by decide +kernel, show wrap64 (5 - 1) = 4 by decide +kernel, show wrap64 (4 - 1) = 3 by decide +kernel, show wrap64 (3 - 1) = 2 by decide +kernel, show wrap64 (2 - 1) = 1 by decide +kernel, show wrap64 (1 - 1) = 0 by decide +kernel, show wrap64 4 = 4 by decide +kernel, show wrap64 3 = 3 by decide +kernel, show wrap64 2 = 2 by decide +kernel, show wrap64 1 = 1 by decide +kernel, show wrap64 0 = 0 by decide +kernel, g0, g1, g2, g3, g4, g5, faceB]
  repeat' split
  all_goals simp_all
  all_goals omega
theorem runner_eq (K : Nat) (hK : 2000000 ≤ K) (a : Ar 6) : spec_l7Die.f K a = some (dieB a && decide (0 < a.get 0)) ∧ impl_isRunner.f K a = some (dieB a && decide (0 < a.get 0)) := by
  unfold spec_l7Die.f impl_isRunner.f
  rw [die_spec K hK, die_impl K hK]
  simp only [some_bind]
  cases dieB a <;> simp
theorem goal_goal : spec_l7Goal.f = impl_isGoal.f := by kernel_rfl
theorem goal_some (K : Nat) (a : Int) : impl_isGoal.f K a = some (decide (1 ≤ a ∧ a ≤ 8)) := by
  unfold impl_isGoal.f
  rw [in_eq]; rfl
theorem all_power : spec_l2All.f = impl_power.f := by kernel_rfl
theorem pow_lt (n : Nat) (h : n ≤ 22) : (6 : Int) ^ n ≤ 131621703842267136 := by
  have : (6 : Nat) ^ n ≤ 6 ^ 22 := Nat.pow_le_pow_right (by omega) h
  have h2 : ((6 ^ n : Nat) : Int) ≤ ((6 ^ 22 : Nat) : Int) := by exact_mod_cast this
  simpa using h2
theorem pow_pos (n : Nat) : (1 : Int) ≤ 6 ^ n := by
  have : 1 ≤ (6 : Nat) ^ n := Nat.one_le_pow _ _ (by omega)
  have h2 : ((1 : Nat) : Int) ≤ ((6 ^ n : Nat) : Int) := by exact_mod_cast this
  simpa using h2
theorem power_l0 (K : Nat) (n : Nat) (hn : n ≤ 22) : ∀ (k i : Nat), i ≤ n → n - i < k → impl_power.l0 K (n : Int) k ((6 : Int) ^ i) (i : Int) = some ((6 : Int) ^ n) := by
  intro k
  induction k with
  | zero => intro i h1 h2; omega
  | succ k ih =>
    intro i h1 h2
    rw [impl_power.l0]
    by_cases h : (i : Int) < (n : Int)
    · have hp := pow_lt (i + 1) (by omega)
      have hq := pow_pos (i + 1)
      have e : (6 : Int) ^ i * 6 = 6 ^ (i + 1) := (Int.pow_succ 6 i).symm
      rw [if_pos h, e, w64 (n := (6 : Int) ^ (i + 1)) (by omega) (by omega), w64 (n := (i : Int) + 1) (by omega) (by omega), show (i : Int) + 1 = ((i + 1 : Nat) : Int) by omega]
      exact ih (i + 1) (by omega) (by omega)
    · rw [if_neg h, show i = n by omega]
theorem power_eq (K : Nat) (hK : 30 ≤ K) (n : Nat) (hn : n ≤ 22) : impl_power.f K (n : Int) = some ((6 : Int) ^ n) := by
  unfold impl_power.f
  rw [show impl_power.l0 K (n : Int) K 1 0 = some ((6 : Int) ^ n) from power_l0 K n hn K 0 (by omega) (by omega)]
  rfl
theorem runner_faces (a : Ar 6) (h : (dieB a = true ∧ 0 < a.get 0)) : ∀ i : Int, 0 ≤ i → i < 6 → 1 ≤ a.get i ∧ a.get i ≤ 30 := by
  obtain ⟨h1, h2⟩ := h
  have h3 := of_decide_eq_true h1
  unfold dieP at h3
  intro i h0 h6
  rcases (show i = 0 ∨ i = 1 ∨ i = 2 ∨ i = 3 ∨ i = 4 ∨ i = 5 by omega) with rfl | rfl | rfl | rfl | rfl | rfl <;> omega
theorem getD_append_last (S : List Int) (v : Int) : (S ++ [v]).getD S.length 0 = v := by
  rw [List.getD_eq_getElem?_getD, List.getElem?_append_right (Nat.le_refl _), Nat.sub_self]
  rfl
theorem getD_append_left (S : List Int) (v : Int) (i : Nat) (h : i < S.length) : (S ++ [v]).getD i 0 = S.getD i 0 := by
  rw [List.getD_eq_getElem?_getD, List.getD_eq_getElem?_getD, List.getElem?_append_left h]
theorem runs_l12 (K : Nat) (a : Ar 6) (ha : ∀ i : Int, 0 ≤ i → i < 6 → 1 ≤ a.get i ∧ a.get i ≤ 30) (g : Nat) (hg : g ≤ 8) (cur : List Int) (hcur : nn cur) (hlen : cur.length = g) (s : Nat) (hs : s < g) :
    ∀ (k n : Nat) (win : Int) (N : List Int), n ≤ 6 → 6 - n < k → 0 ≤ win → nn N → N.length = g → win + N.sum + (6 - n) * cur.getD s 0 ≤ 10000000 →
    ∃ win' N', spec_l7Run.l12 K a (g : Int) cur (s : Int) k win (n : Int) N = some (win', N') ∧ impl_runs.l16 K a (g : Int) cur (s : Int) k win (n : Int) N = some (win', N') ∧ 0 ≤ win' ∧ nn N' ∧ N'.length = g ∧ win' + N'.sum = win + N.sum + (6 - n) * cur.getD s 0 := by
  intro k
  induction k with
  | zero => intro n win N h1 h2; omega
  | succ k ih =>
    intro n win N h1 h2 h3 h4 h5 h6
    rw [spec_l7Run.l12, impl_runs.l16]
    by_cases hn : (n : Int) < 6
    · have c1 : (0 : Int) ≤ (n : Int) ∧ (n : Int) < 6 := by omega
      have c2 : (0 : Int) ≤ (s : Int) ∧ (s : Int) < (cur.length : Int) := by omega
      have hf := ha (n : Int) (by omega) (by omega)
      have hss : ((s : Int)).toNat = s := by omega
      have hc0 : 0 ≤ cur.getD s 0 := nn_get cur hcur s (by omega)
      have hN0 := nn_sum N h4
      have hst : (6 - (n : Int)) * cur.getD s 0 = cur.getD s 0 + (6 - ((n + 1 : Nat) : Int)) * cur.getD s 0 := by
        rw [show (6 : Int) - (n : Int) = 1 + (6 - ((n + 1 : Nat) : Int)) by omega, Int.add_mul, Int.one_mul]
      have hrest : 0 ≤ (6 - ((n + 1 : Nat) : Int)) * cur.getD s 0 := Int.mul_nonneg (by omega) (by omega)
      have e1 : wrap64 ((s : Int) + a.get (n : Int)) = (s : Int) + a.get (n : Int) := w64 (by omega) (by omega)
      obtain ⟨i, hi⟩ : ∃ i : Nat, (s : Int) + a.get (n : Int) = i := ⟨((s : Int) + a.get (n : Int)).toNat, by omega⟩
      have e1' : wrap64 (i : Int) = (i : Int) := w64 (by omega) (by omega)
      simp only [if_pos hn, if_pos c1, if_pos c2, hss, w1 n (by omega), hi, e1', Int.toNat_natCast]
      clear e1 e1' hi hf c1 c2 hss ha
      have q0 : win + cur.getD s 0 + N.sum + (6 - ((n + 1 : Nat) : Int)) * cur.getD s 0 ≤ 10000000 := by clear ih; omega
      have q1 : wrap64 (win + cur.getD s 0) = win + cur.getD s 0 := w64 (by clear ih; omega) (by clear ih; omega)
      by_cases hge : (g : Int) ≤ (i : Int)
      · have hlt : ¬ (i : Int) < (g : Int) := Int.not_lt.2 hge
        simp only [if_neg hlt, if_pos hge, q1]
        obtain ⟨w', N', r1, r2, r3, r4, r5, r6⟩ := ih (n + 1) (win + cur.getD s 0) N (by clear ih; omega) (by clear ih; omega) (by clear ih; omega) h4 h5 q0
        refine ⟨w', N', r1, r2, r3, r4, r5, ?_⟩
        rw [r6, hst, ← Int.add_assoc, Int.add_right_comm win]
      · have hlt : (i : Int) < (g : Int) := Int.not_le.1 hge
        have hi2 : i < N.length := by rw [h5]; exact Int.ofNat_lt.1 hlt
        have c3 : (0 : Int) ≤ (i : Int) ∧ (i : Int) < (N.length : Int) := ⟨Int.natCast_nonneg _, Int.ofNat_lt.2 hi2⟩
        have g1 := nn_get N h4 i hi2
        have g2 := nn_le N i h4 hi2
        have hsum := sum_set N i (cur.getD s 0) hi2
        have q2 : wrap64 (N.getD i 0 + cur.getD s 0) = N.getD i 0 + cur.getD s 0 := w64 (by clear ih hsum; omega) (by clear ih hsum; omega)
        simp only [if_pos hlt, if_neg hge, if_pos c3, q2]
        obtain ⟨w', N', r1, r2, r3, r4, r5, r6⟩ := ih (n + 1) win (N.set i (N.getD i 0 + cur.getD s 0)) (by clear ih; omega) (by clear ih; omega) h3 (nn_set N i _ h4 (by clear ih hsum; omega)) (by rw [List.length_set]; exact h5) (by rw [hsum]; clear ih hsum; omega)
        refine ⟨w', N', r1, r2, r3, r4, r5, ?_⟩
        rw [r6, hsum, hst, ← Int.add_assoc, ← Int.add_assoc]
    · have : n = 6 := by omega
      subst this
      rw [if_neg hn, if_neg hn]
      exact ⟨win, N, rfl, rfl, h3, h4, h5, by simp⟩
theorem runs_l11 (K : Nat) (hK : 1000 ≤ K) (a : Ar 6) (ha : ∀ i : Int, 0 ≤ i → i < 6 → 1 ≤ a.get i ∧ a.get i ≤ 30) (g : Nat) (hg : g ≤ 8) (cur : List Int) (hcur : nn cur) (hlen : cur.length = g) (T : Int) (hT : T ≤ 10000000) :
    ∀ (k s : Nat) (win : Int) (N : List Int), s ≤ g → g - s < k → 0 ≤ win → nn N → N.length = g → win + N.sum + 6 * (cur.drop s).sum = T →
    ∃ win' N', spec_l7Run.l11 K a (g : Int) cur k win (s : Int) N = some (win', N') ∧ impl_runs.l15 K a (g : Int) cur k win (s : Int) N = some (win', N') ∧ 0 ≤ win' ∧ nn N' ∧ N'.length = g ∧ win' + N'.sum = T := by
  intro k
  induction k with
  | zero => intro s win N h1 h2; omega
  | succ k ih =>
    intro s win N h1 h2 h3 h4 h5 h6
    rw [spec_l7Run.l11, impl_runs.l15]
    by_cases hs : (s : Int) < (g : Int)
    · have hs' : s < cur.length := by omega
      have c1 : (s : Int) < (cur.length : Int) := by omega
      have c2 : (0 : Int) ≤ (s : Int) ∧ (s : Int) < (cur.length : Int) := by omega
      have hd : cur.drop s = cur.getD s 0 :: cur.drop (s + 1) := by
        rw [List.drop_eq_getElem_cons hs', List.getD_eq_getElem?_getD, List.getElem?_eq_getElem hs']; rfl
      have hr : 0 ≤ (cur.drop (s + 1)).sum := nn_sum _ (fun y hy => hcur y (List.mem_of_mem_drop hy))
      have e0 : 6 * (cur.drop s).sum = 6 * cur.getD s 0 + 6 * (cur.drop (s + 1)).sum := by
        rw [hd, List.sum_cons, Int.mul_add]
      obtain ⟨w', N', r1, r2, r3, r4, r5, r6⟩ := runs_l12 K a ha g hg cur hcur hlen s (by omega) K 0 win N (by omega) (by omega) h3 h4 h5 (by rw [show ((0 : Nat) : Int) = 0 from rfl, Int.sub_zero]; omega)
      rw [show ((0 : Nat) : Int) = 0 from rfl] at r1 r2 r6
      rw [Int.sub_zero] at r6
      simp only [if_pos hs, if_pos c1, if_pos c2, r1, r2, some_bind, w1 s (by omega)]
      exact ih (s + 1) w' N' (by omega) (by omega) r3 r4 r5 (by omega)
    · have : s = g := by omega
      subst this
      rw [if_neg hs, if_neg (by omega)]
      have hz : cur.drop s = [] := List.drop_of_length_le (by omega)
      rw [hz] at h6
      exact ⟨win, N, rfl, rfl, h3, h4, h5, by simpa using h6⟩
def RunR (g : Nat) (x : Nat) (t r : List Int) : Prop := t.length = x ∧ r.length + 1 = x ∧ ∀ i : Nat, i < r.length → r.getD i 0 = t.getD (i + 1) 0 * 6 ^ (g - 1 - i) ∧ 0 ≤ t.getD (i + 1) 0 ∧ t.getD (i + 1) 0 ≤ 6 ^ (i + 1)
theorem pow8 (n : Nat) (h : n ≤ 8) : (6 : Int) ^ n ≤ 1679616 := by
  rcases (show n = 0 ∨ n = 1 ∨ n = 2 ∨ n = 3 ∨ n = 4 ∨ n = 5 ∨ n = 6 ∨ n = 7 ∨ n = 8 by omega) with rfl | rfl | rfl | rfl | rfl | rfl | rfl | rfl | rfl <;> decide
theorem runs_l8 (K : Nat) (hK : 1000 ≤ K) (a : Ar 6) (ha : ∀ i : Int, 0 ≤ i → i < 6 → 1 ≤ a.get i ∧ a.get i ≤ 30) (g : Nat) (hg : 1 ≤ g ∧ g ≤ 8) :
    ∀ (k x : Nat) (cur t r : List Int), 1 ≤ x → x ≤ g + 1 → g + 1 - x < k → nn cur → cur.length = g → cur.sum ≤ 6 ^ (x - 1) → RunR g x t r →
    ∃ t' r', spec_l7Run.l8 K a (g : Int) k (x : Int) cur t = some t' ∧ impl_runs.l12 K a (g : Int) k (x : Int) cur r = some r' ∧ RunR g (g + 1) t' r' := by
  intro k
  induction k with
  | zero => intro x cur t r h0 h1 h2; omega
  | succ k ih =>
    intro x cur t r h0 h1 h2 h3 h4 h5 h6
    rw [spec_l7Run.l8, impl_runs.l12]
    by_cases hx : (x : Int) ≤ (g : Int)
    · have e6 : (6 : Int) ^ x = 6 * 6 ^ (x - 1) := by
        conv => lhs; rw [show x = (x - 1) + 1 by omega]
        rw [Int.pow_succ, Int.mul_comm]
      have hp8 := pow8 x (by omega)
      have hc0 := nn_sum cur h3
      obtain ⟨w', N', r1, r2, r3, r4, r5, r6⟩ := runs_l11 K hK a ha g (by omega) cur h3 h4 (6 * cur.sum) (by omega) K 0 0 (List.replicate g 0) (by omega) (by omega) (by omega) (nn_rep g) (by simp) (by rw [sum_rep, List.drop_zero]; omega)
      rw [show ((0 : Nat) : Int) = 0 from rfl] at r1 r2
      have hN0 := nn_sum N' r4
      have hq := pow_pos (g - x)
      have hq8 := pow8 (g - x) (by omega)
      have hpw : impl_power.f K (wrap64 ((g : Int) - (x : Int))) = some ((6 : Int) ^ (g - x)) := by
        rw [w64 (by omega) (by omega), show (g : Int) - (x : Int) = ((g - x : Nat) : Int) by omega, power_eq K (by omega) (g - x) (by omega)]
      have hm0 : 0 ≤ w' * 6 ^ (g - x) := Int.mul_nonneg r3 (by omega)
      have hm1 : w' * 6 ^ (g - x) ≤ 6 ^ x * 6 ^ (g - x) := Int.mul_le_mul_of_nonneg_right (by omega) (by omega)
      have hm2 : (6 : Int) ^ x * 6 ^ (g - x) ≤ 1679616 := by
        rw [← Int.pow_add]; exact pow8 _ (by omega)
      obtain ⟨k1, k2, k3⟩ := h6
      have c1 : t.length + [w'].length ≤ 1073741824 := by simp; omega
      have c2 : r.length + [w' * 6 ^ (g - x)].length ≤ 1073741824 := by simp; omega
      simp only [if_pos hx, Int.toNat_natCast, r1, r2, some_bind, hpw, w1 x (by omega), w64 (n := w' * 6 ^ (g - x)) (by omega) (by omega), if_pos c1, if_pos c2]
      refine ih (x + 1) N' _ _ (by omega) (by omega) (by omega) r4 r5 (by rw [show x + 1 - 1 = x by omega]; omega) ⟨by simp [k1], by simp; omega, ?_⟩
      intro i hi
      simp only [List.length_append, List.length_singleton] at hi
      by_cases hix : i = r.length
      · subst hix
        rw [getD_append_last, show r.length + 1 = t.length by omega, getD_append_last, show g - 1 - r.length = g - x by omega]
        exact ⟨rfl, r3, by rw [k1]; omega⟩
      · rw [getD_append_left r _ i (by omega), getD_append_left t _ (i + 1) (by omega)]
        exact k3 i (by omega)
    · have : x = g + 1 := by omega
      subst this
      rw [if_neg hx, if_neg hx]
      exact ⟨t, r, rfl, rfl, h6⟩
theorem runs_eq (K : Nat) (hK : 1000 ≤ K) (a : Ar 6) (ha : dieB a = true ∧ 0 < a.get 0) (g : Nat) (hg : 1 ≤ g ∧ g ≤ 8) : ∃ t r, spec_l7Run.f K a (g : Int) = some t ∧ impl_runs.f K a (g : Int) = some r ∧ RunR g (g + 1) t r := by
  have c2 : (0 : Int) ≤ (g : Int) ∧ (g : Int) ≤ 1073741824 := by omega
  have c3 : (0 : Int) ≤ 0 ∧ (0 : Int) < ((List.replicate g (0 : Int)).length : Int) := by rw [List.length_replicate]; omega
  have hs : ((List.replicate g (0 : Int)).set 0 1).sum = 1 := by
    have := sum_set (List.replicate g 0) 0 1 (by rw [List.length_replicate]; omega)
    rw [sum_rep] at this
    have q : (List.replicate g (0 : Int)).getD 0 0 + 1 = 1 := by
      rw [List.getD_eq_getElem?_getD, List.getElem?_replicate]
      split <;> rfl
    rw [q] at this
    exact this
  obtain ⟨t, r, r1, r2, r3⟩ := runs_l8 K hK a (runner_faces a ha) g hg K 1 ((List.replicate g 0).set 0 1) [0] [] (by omega) (by omega) (by omega) (nn_set _ _ _ (nn_rep _) (by omega)) (by simp) (by rw [hs]; decide) ⟨rfl, rfl, fun i hi => by simp at hi⟩
  have r1' : spec_l7Run.l8 K a (g : Int) K 1 ((List.replicate g 0).set 0 1) [0] = some t := r1
  have r2' : impl_runs.l12 K a (g : Int) K 1 ((List.replicate g 0).set 0 1) [] = some r := r2
  unfold spec_l7Run.f impl_runs.f
  simp only [if_pos c2, Int.toNat_natCast, if_pos c3, show ((0 : Int)).toNat = 0 from rfl, r1', r2', some_bind]
  exact ⟨t, r, rfl, rfl, r3⟩
theorem toA6 (K : Nat) (hK : 8 ≤ K) (a : Ar 6) : laws_toIntA6.f K a = some a := by
  obtain ⟨k, rfl⟩ := Nat.exists_eq_add_of_le hK
  obtain ⟨x, y, z, u, v, w, rfl⟩ := Ar.cases6 a
  have e : 8 + k = k + 1 + 1 + 1 + 1 + 1 + 1 + 1 + 1 := by omega
  unfold laws_toIntA6.f
  rw [e]
  simp only [laws_toIntA6.l0, show (0 : Int) < 6 by decide, show wrap64 (0 + 1) = 1 by decide +kernel, show wrap64 (1 + 1) = 2 by decide +kernel, show wrap64 (2 + 1) = 3 by decide +kernel, show wrap64 (3 + 1) = 4 by decide +kernel, show wrap64 (4 + 1) = 5 by decide +kernel, show wrap64 (5 + 1) = 6 by decide +kernel, if_true, show (0 : Int) ≤ 0 ∧ True by decide]
  rfl
theorem eqA2 (K : Nat) (hK : 3 ≤ K) (a : Ar 2) : laws_eqIntA2.f K a a = some true := by
  obtain ⟨k, rfl⟩ := Nat.exists_eq_add_of_le hK
  rw [show 3 + k = k + 1 + 1 + 1 by omega]
  simp [laws_eqIntA2.f, laws_eqIntA2.l0, wrap64]

theorem cut_l0 (K : Nat) : ∀ (k : Nat) (a b : Int), 0 < a → 0 ≤ b → b < k → ∃ g, 0 < g ∧ spec_l2Cut.l0 K k a b = some g ∧ impl_fraction.l0 K k a b = some g := by
  intro k
  induction k with
  | zero => intro a b h0 h1 h2; omega
  | succ k ih =>
    intro a b h0 h1 h2
    rw [spec_l2Cut.l0, impl_fraction.l0]
    by_cases h : b = 0
    · subst h; exact ⟨a, h0, by simp, by simp⟩
    · rw [if_pos (show 0 < b by omega), if_neg h, if_pos h, if_pos h]
      have hb : 0 ≤ a.tmod b := Int.tmod_nonneg _ (by omega)
      have hc : a.tmod b < b := Int.tmod_lt_of_pos _ (by omega)
      obtain ⟨g, h3, h4, h5⟩ := ih b (a.tmod b) (by omega) hb (by omega)
      rw [h4, h5]
      exact ⟨g, h3, rfl, rfl⟩
theorem cutz_l0 (K : Nat) (k : Nat) (a b : Int) (ha : 0 ≤ a) (hb : 0 ≤ b) (h : 0 < a ∨ 0 < b) (hk : b + 1 < k) : ∃ g, 0 < g ∧ spec_l2Cut.l0 K k a b = some g ∧ impl_fraction.l0 K k a b = some g := by
  rcases Int.lt_or_eq_of_le ha with h0 | h0
  · exact cut_l0 K k a b h0 hb (by omega)
  · have hb' : 0 < b := by omega
    match k, hk with
    | 0, hk => omega
    | k + 1, hk =>
      rw [spec_l2Cut.l0, impl_fraction.l0]
      have hne : b ≠ 0 := by omega
      have h1 : (0 : Int).tmod b = 0 := Int.zero_tmod b
      subst h0
      rw [if_pos hb', if_neg hne, if_pos hne, if_pos hne, h1]
      exact cut_l0 K k b 0 hb' (by omega) (by omega)
theorem cutz_eq (K : Nat) (a b : Int) (ha : 0 ≤ a) (hb : 0 ≤ b) (h : 0 < a ∨ 0 < b) (hK : b + 1 < K) : ∃ r, spec_l2Cut.f K a b = some r ∧ impl_fraction.f K a b = some r := by
  obtain ⟨g, h1, h2, h3⟩ := cutz_l0 K K a b ha hb h hK
  unfold spec_l2Cut.f impl_fraction.f
  rw [h2, h3]
  simp only [some_bind]
  have : spec_l1Most.f K g 1 = some g := by
    unfold spec_l1Most.f
    by_cases h : 1 < g
    · rw [if_pos h]
    · rw [if_neg h, show g = 1 by omega]
  rw [this]
  simp only [some_bind]
  have hg : g ≠ 0 := by omega
  rw [if_pos hg, if_pos hg]
  exact ⟨_, rfl, rfl⟩
theorem RunR_ok (g : Nat) (hg : 1 ≤ g ∧ g ≤ 8) (t r : List Int) (hr : RunR g (g + 1) t r) (i : Nat) (hi : i < g) : (t.length = g + 1 ∧ r.length = g) ∧ r.getD i 0 = t.getD (i + 1) 0 * 6 ^ (g - 1 - i) ∧ (0 ≤ t.getD (i + 1) 0 ∧ t.getD (i + 1) 0 ≤ 1679616) ∧ 0 ≤ r.getD i 0 ∧ r.getD i 0 ≤ 1679616 := by
  obtain ⟨k1, k2, k3⟩ := hr
  have hl : r.length = g := by omega
  obtain ⟨e1, e2, e3⟩ := k3 i (by omega)
  have hq := pow_pos (g - 1 - i)
  have hm : (6 : Int) ^ (i + 1) * 6 ^ (g - 1 - i) ≤ 1679616 := by
    rw [← Int.pow_add]; exact pow8 _ (by omega)
  have hq0 : (0 : Int) ≤ 6 ^ (g - 1 - i) := Int.le_trans (by decide) hq
  have hm1 : t.getD (i + 1) 0 * 6 ^ (g - 1 - i) ≤ 6 ^ (i + 1) * 6 ^ (g - 1 - i) := Int.mul_le_mul_of_nonneg_right e3 hq0
  have hm0 : 0 ≤ t.getD (i + 1) 0 * 6 ^ (g - 1 - i) := Int.mul_nonneg e2 hq0
  have h8 := pow8 (i + 1) (by omega)
  refine ⟨⟨k1, hl⟩, e1, ⟨e2, Int.le_trans e3 h8⟩, ?_, ?_⟩
  · rw [e1]; exact hm0
  · rw [e1]; exact Int.le_trans hm1 hm
theorem two_ok (x p y u q v acc : Int) (hx0 : 0 ≤ x) (hx : x ≤ 1679616) (hy : y = x * p) (hy0 : 0 ≤ y) (hyM : y ≤ 1679616) (hu0 : 0 ≤ u) (hu : u ≤ 1679616) (hv : v = u * q) (hv0 : 0 ≤ v) (hvM : v ≤ 1679616) (ha0 : 0 ≤ acc) (haM : acc ≤ 1000000000000000) : wrap64 (x * p) = y ∧ wrap64 (y * u) = y * u ∧ wrap64 (y * u * q) = y * v ∧ wrap64 (y * v) = y * v ∧ wrap64 (acc + y * v) = acc + y * v ∧ 0 ≤ y * v ∧ y * v ≤ 3000000000000 := by
  have e : y * u * q = y * v := by rw [Int.mul_assoc, ← hv]
  have y0 : 0 ≤ y * v := Int.mul_nonneg hy0 hv0
  have y1 : y * v ≤ 1679616 * v := Int.mul_le_mul_of_nonneg_right hyM hv0
  have z0 : 0 ≤ y * u := Int.mul_nonneg hy0 hu0
  have z1 : y * u ≤ 1679616 * u := Int.mul_le_mul_of_nonneg_right hyM hu0
  rw [e, ← hy]
  clear e hy hv
  generalize y * v = a at *
  generalize y * u = b at *
  refine ⟨w64 (by omega) (by omega), w64 (by omega) (by omega), w64 (by omega) (by omega), w64 (by omega) (by omega), w64 (by omega) (by omega), y0, by omega⟩
theorem sum_bound (M : Int) (hM : 0 ≤ M) : ∀ l : List Int, (∀ z ∈ l, 0 ≤ z ∧ z ≤ M) → 0 ≤ l.sum ∧ l.sum ≤ l.length * M
  | [], _ => by simp
  | x :: l, h => by
    have h1 := h x List.mem_cons_self
    have h2 := sum_bound M hM l (fun y hy => h y (List.mem_cons_of_mem _ hy))
    simp only [List.sum_cons, List.length_cons]
    have e : ((l.length + 1 : Nat) : Int) * M = (l.length : Int) * M + M := by
      rw [show ((l.length + 1 : Nat) : Int) = (l.length : Int) + 1 by omega, Int.add_mul, Int.one_mul]
    omega
theorem RunR_all (g : Nat) (hg : 1 ≤ g ∧ g ≤ 8) (t r : List Int) (hr : RunR g (g + 1) t r) : ∀ z ∈ r, 0 ≤ z ∧ z ≤ 1679616 := by
  intro z hz
  obtain ⟨i, hi, rfl⟩ := List.getElem_of_mem hz
  have hl := hr.2.1
  obtain ⟨_, _, _, e4, e5⟩ := RunR_ok g hg t r hr i (by omega)
  have e : r.getD i 0 = r[i] := by rw [List.getD_eq_getElem?_getD, List.getElem?_eq_getElem hi]; rfl
  rw [e] at e4 e5
  exact ⟨e4, e5⟩
theorem total_l0 (K : Nat) (l : List Int) (hl : l.length ≤ 8) (h : ∀ z ∈ l, 0 ≤ z ∧ z ≤ 1679616) : ∀ (k n : Nat) (x : Int), n ≤ l.length → l.length - n < k → 0 ≤ x → x ≤ 1679616 * n → impl_total.l0 K l k x (n : Int) = some (x + (l.drop n).sum) := by
  intro k
  induction k with
  | zero => intro n x h1 h2; omega
  | succ k ih =>
    intro n x h1 h2 h3 h4
    rw [impl_total.l0]
    by_cases hn : (n : Int) < (l.length : Int)
    · have hn' : n < l.length := by omega
      have hnn : ((n : Int)).toNat = n := by omega
      have hg : l.getD n 0 = l[n] := by rw [List.getD_eq_getElem?_getD, List.getElem?_eq_getElem hn']; rfl
      have hz := h l[n] (List.getElem_mem hn')
      have hd : l.drop n = l[n] :: l.drop (n + 1) := List.drop_eq_getElem_cons hn'
      have c : (0 : Int) ≤ (n : Int) ∧ (n : Int) < (l.length : Int) := by omega
      have f3 : n ≤ 4000000000000000000 := by omega
      rw [if_pos hn, if_pos c, hnn, hg, w64 (n := x + l[n]) (by omega) (by omega), w1 n f3, hd, List.sum_cons, ← Int.add_assoc]
      exact ih (n + 1) _ (by omega) (by omega) (by omega) (by omega)
    · rw [if_neg hn]
      have : n = l.length := by omega
      rw [this, List.drop_length]
      simp
theorem total_f (K : Nat) (hK : 1000 ≤ K) (l : List Int) (hl : l.length ≤ 8) (h : ∀ z ∈ l, 0 ≤ z ∧ z ≤ 1679616) : impl_total.f K l = some l.sum := by
  have := total_l0 K l hl h K 0 0 (by omega) (by omega) (by omega) (by omega)
  rw [show ((0 : Nat) : Int) = 0 from rfl, Int.zero_add, List.drop_zero] at this
  unfold impl_total.f
  rw [this]; rfl
theorem first_l3 (K : Nat) (hK : 1000 ≤ K) (g : Nat) (hg : 1 ≤ g ∧ g ≤ 8) (t r u q : List Int) (hr : RunR g (g + 1) t r) (hq : RunR g (g + 1) u q) (x : Nat) (hx : x < g) : ∀ (k y : Nat) (A B : Int), x < y → y ≤ g → g - y < k → 0 ≤ A → A + r.getD x 0 * (q.drop y).sum ≤ 1000000000000000 → spec_l7Race.l3 K (g : Int) t u ((x + 1 : Nat) : Int) k A B ((y + 1 : Nat) : Int) = some (A + r.getD x 0 * (q.drop y).sum, B) := by
  intro k
  induction k with
  | zero => intro y A B h0 h1 h2; omega
  | succ k ih =>
    intro y A B h0 h1 h2 h3 h4
    rw [spec_l7Race.l3]
    by_cases hy : y < g
    · have f1 : g - (y + 1) < k := by omega
      have f2 : x < y + 1 := by omega
      obtain ⟨⟨lt, _⟩, e1, ⟨e2, e3⟩, e4, e5⟩ := RunR_ok g hg t r hr x hx
      obtain ⟨⟨lu, lq⟩, d1, ⟨d2, d3⟩, d4, d5⟩ := RunR_ok g hg u q hq y hy
      have c1 : ((y + 1 : Nat) : Int) ≤ (g : Int) := by omega
      have c2 : (0 : Int) ≤ ((x + 1 : Nat) : Int) ∧ ((x + 1 : Nat) : Int) < (t.length : Int) := by rw [lt]; omega
      have c3 : (0 : Int) ≤ ((y + 1 : Nat) : Int) ∧ ((y + 1 : Nat) : Int) < (u.length : Int) := by rw [lu]; omega
      have c4 : ¬ ((x + 1 : Nat) : Int) = ((y + 1 : Nat) : Int) := by omega
      have b1 : y + 1 ≤ 4000000000000000000 := by omega
      have hd : q.drop y = q.getD y 0 :: q.drop (y + 1) := by
        rw [List.drop_eq_getElem_cons (by omega), List.getD_eq_getElem?_getD, List.getElem?_eq_getElem (by omega)]; rfl
      have hs0 : 0 ≤ (q.drop (y + 1)).sum := (sum_bound 1679616 (by decide) _ (fun z hz => RunR_all g hg u q hq z (List.mem_of_mem_drop hz))).1
      have hs1 : 0 ≤ r.getD x 0 * (q.drop (y + 1)).sum := Int.mul_nonneg e4 hs0
      have hsum : r.getD x 0 * (q.drop y).sum = r.getD x 0 * q.getD y 0 + r.getD x 0 * (q.drop (y + 1)).sum := by rw [hd, List.sum_cons, Int.mul_add]
      have hs2 : 0 ≤ r.getD x 0 * q.getD y 0 := Int.mul_nonneg e4 d4
      have hA : A ≤ 1000000000000000 := by clear ih e1 d1; omega
      have h5 : A + r.getD x 0 * q.getD y 0 + r.getD x 0 * (q.drop (y + 1)).sum ≤ 1000000000000000 := by clear ih e1 d1; omega
      have hp1 : impl_power.f K (wrap64 ((g : Int) - ((x + 1 : Nat) : Int))) = some ((6 : Int) ^ (g - 1 - x)) := by
        rw [w64 (by omega) (by omega), show (g : Int) - ((x + 1 : Nat) : Int) = ((g - 1 - x : Nat) : Int) by omega, power_eq K (by omega) (g - 1 - x) (by omega)]
      have hp2 : impl_power.f K (wrap64 ((g : Int) - ((y + 1 : Nat) : Int))) = some ((6 : Int) ^ (g - 1 - y)) := by
        clear hp1
        rw [w64 (by omega) (by omega), show (g : Int) - ((y + 1 : Nat) : Int) = ((g - 1 - y : Nat) : Int) by omega, power_eq K (by omega) (g - 1 - y) (by omega)]
      obtain ⟨q1, q2, q3, q4, q5, q6, q7⟩ := two_ok (t.getD (x + 1) 0) (6 ^ (g - 1 - x)) (r.getD x 0) (u.getD (y + 1) 0) (6 ^ (g - 1 - y)) (q.getD y 0) A e2 e3 e1 e4 e5 d2 d3 d1 d4 d5 h3 hA
      simp only [if_pos c1, if_pos c2, if_pos c3, if_neg c4, Int.toNat_natCast, all_power, hp1, hp2, some_bind, w1 (y + 1) b1, q1, q2, q3, q5]
      rw [ih (y + 1) _ B f2 hy f1 (Int.add_nonneg h3 q6) h5, hsum, Int.add_assoc]
    · have : y = g := by omega
      subst this
      have hl := hq.2.1
      rw [if_neg (by omega), List.drop_of_length_le (by omega)]
      simp
theorem first_l2 (K : Nat) (hK : 1000 ≤ K) (g : Nat) (hg : 1 ≤ g ∧ g ≤ 8) (t r u q : List Int) (hr : RunR g (g + 1) t r) (hq : RunR g (g + 1) u q) : ∀ (k k2 x : Nat) (A B S : Int), x ≤ g → g - x < k → g - x < k2 → 0 ≤ A → 0 ≤ B → S = A + B → S ≤ x * 30000000000000 → ∃ A' B', spec_l7Race.l2 K (g : Int) t u k A B ((x + 1 : Nat) : Int) = some (A', B') ∧ impl_FirstWins.l0 K r q k2 S (x : Int) = some (A' + B') ∧ (0 ≤ A' ∧ 0 ≤ B' ∧ A' + B' ≤ 240000000000000) := by
  intro k
  induction k with
  | zero => intro k2 x A B S h1 h2; omega
  | succ k ih =>
    intro k2 x A B S h1 h2 h3 h4 h4b hS h5
    match k2, h3 with
    | k2 + 1, h3 =>
      rw [spec_l7Race.l2, impl_FirstWins.l0]
      by_cases hx : x < g
      · have f1 : g - (x + 1) < k := by omega
        have f2 : g - (x + 1) < k2 := by omega
        have f3 : B ≤ 1000000000000000 := by omega
        have f4 : ((x + 1 : Nat) : Int) * 30000000000000 = (x : Int) * 30000000000000 + 30000000000000 := by omega
        obtain ⟨⟨lt, lr⟩, e1, ⟨e2, e3⟩, e4, e5⟩ := RunR_ok g hg t r hr x hx
        obtain ⟨⟨lu, lq⟩, d1, ⟨d2, d3⟩, d4, d5⟩ := RunR_ok g hg u q hq x hx
        have c1 : ((x + 1 : Nat) : Int) ≤ (g : Int) := by omega
        have c2 : (0 : Int) ≤ ((x + 1 : Nat) : Int) ∧ ((x + 1 : Nat) : Int) < (t.length : Int) := by rw [lt]; omega
        have c3 : (0 : Int) ≤ ((x + 1 : Nat) : Int) ∧ ((x + 1 : Nat) : Int) < (u.length : Int) := by rw [lu]; omega
        have c4 : (x : Int) < (r.length : Int) := by rw [lr]; omega
        have c5 : (0 : Int) ≤ (x : Int) ∧ (x : Int) < (r.length : Int) := by rw [lr]; omega
        have c6 : (0 : Int) ≤ (x : Int) ∧ (x : Int) ≤ (q.length : Int) ∧ (q.length : Int) ≤ (q.length : Int) := by rw [lq]; omega
        have b1 : x ≤ 4000000000000000000 := by omega
        have b2 : x + 1 ≤ 4000000000000000000 := by omega
        have g1 : x < x + 1 := by omega
        obtain ⟨kk, hkk⟩ : ∃ kk, K = kk + 1 := ⟨K - 1, by omega⟩
        have g2 : g - (x + 1) < kk := by omega
        have hd : q.drop x = q.getD x 0 :: q.drop (x + 1) := by
          rw [List.drop_eq_getElem_cons (by omega), List.getD_eq_getElem?_getD, List.getElem?_eq_getElem (by omega)]; rfl
        have hall := RunR_all g hg u q hq
        have hs := sum_bound 1679616 (by decide) (q.drop (x + 1)) (fun z hz => hall z (List.mem_of_mem_drop hz))
        have hss := sum_bound 1679616 (by decide) (q.drop x) (fun z hz => hall z (List.mem_of_mem_drop hz))
        have hsl : (q.drop x).sum ≤ 13436928 := by
          have : (q.drop x).length ≤ 8 := by rw [List.length_drop]; omega
          omega
        have hsum : r.getD x 0 * (q.drop x).sum = r.getD x 0 * q.getD x 0 + r.getD x 0 * (q.drop (x + 1)).sum := by rw [hd, List.sum_cons, Int.mul_add]
        have hs1 : 0 ≤ r.getD x 0 * (q.drop (x + 1)).sum := Int.mul_nonneg e4 hs.1
        have hs2 : 0 ≤ r.getD x 0 * q.getD x 0 := Int.mul_nonneg e4 d4
        have hs3 : r.getD x 0 * (q.drop x).sum ≤ 1679616 * (q.drop x).sum := Int.mul_le_mul_of_nonneg_right e5 hss.1
        have hs4 : r.getD x 0 * (q.drop x).sum ≤ 30000000000000 := by clear ih e1 d1 hsum; omega
        have h6 : A + r.getD x 0 * (q.drop (x + 1)).sum ≤ 1000000000000000 := by clear ih e1 d1 hs3; omega
        have hp1 : impl_power.f K (wrap64 ((g : Int) - ((x + 1 : Nat) : Int))) = some ((6 : Int) ^ (g - 1 - x)) := by
          rw [w64 (by omega) (by omega), show (g : Int) - ((x + 1 : Nat) : Int) = ((g - 1 - x : Nat) : Int) by omega, power_eq K (by omega) (g - 1 - x) (by omega)]
        have ht : impl_total.f K (q.drop x) = some (q.drop x).sum := total_f K hK _ (by rw [List.length_drop]; omega) (fun z hz => hall z (List.mem_of_mem_drop hz))
        have hn0 : 0 ≤ r.getD x 0 * (q.drop x).sum := Int.mul_nonneg e4 hss.1
        have w1a : wrap64 (r.getD x 0 * (q.drop x).sum) = r.getD x 0 * (q.drop x).sum := by
          clear ih e1 d1 hsum hp1; exact w64 (by omega) (by omega)
        have w1b : wrap64 (S + r.getD x 0 * (q.drop x).sum) = S + r.getD x 0 * (q.drop x).sum := by
          clear ih e1 d1 hsum hp1 w1a; exact w64 (by omega) (by omega)
        have h7 : S + r.getD x 0 * (q.drop x).sum = A + r.getD x 0 * (q.drop (x + 1)).sum + (B + r.getD x 0 * q.getD x 0) := by
          clear ih e1 d1 hp1 w1a w1b hs3; omega
        have h8 : S + r.getD x 0 * (q.drop x).sum ≤ ((x + 1 : Nat) : Int) * 30000000000000 := by
          clear ih e1 d1 hp1 w1a w1b hs3 hsum h7; omega
        obtain ⟨q1, q2, q3, q4, q5, q6, q7⟩ := two_ok (t.getD (x + 1) 0) (6 ^ (g - 1 - x)) (r.getD x 0) (u.getD (x + 1) 0) (6 ^ (g - 1 - x)) (q.getD x 0) B e2 e3 e1 e4 e5 d2 d3 d1 d4 d5 h4b f3
        have hA := first_l3 K hK g hg t r u q hr hq x hx kk (x + 1) A (B + r.getD x 0 * q.getD x 0) g1 hx g2 h4 h6
        have h3l : spec_l7Race.l3 K (g : Int) t u ((x + 1 : Nat) : Int) K A B ((x + 1 : Nat) : Int) = some (A + r.getD x 0 * (q.drop (x + 1)).sum, B + r.getD x 0 * q.getD x 0) := by
          have : spec_l7Race.l3 K (g : Int) t u ((x + 1 : Nat) : Int) (kk + 1) A B ((x + 1 : Nat) : Int) = some (A + r.getD x 0 * (q.drop (x + 1)).sum, B + r.getD x 0 * q.getD x 0) := by
            rw [spec_l7Race.l3]
            simp only [if_pos c1, if_pos c2, if_pos c3, Int.toNat_natCast, all_power, hp1, some_bind, w1 (x + 1) b2, if_true, q1, q2, q3, q5]
            exact hA
          rw [← hkk] at this
          exact this
        simp only [if_pos c1, h3l, if_pos c4, if_pos c5, if_pos c6, some_bind, Int.toNat_natCast, List.take_length, ht, w1a, w1b, w1 x b1, w1 (x + 1) b2]
        exact ih k2 (x + 1) _ _ _ hx f1 f2 (Int.add_nonneg h4 hs1) (Int.add_nonneg h4b hs2) h7 h8
      · have : x = g := by omega
        subst this
        have hl := hr.2.1
        rw [if_neg (by omega), if_neg (by omega)]
        exact ⟨A, B, rfl, by rw [hS], h4, h4b, by omega⟩
theorem FirstWins_pure (a0 a1 : Ar 6) (a2 : Int) (_w0 : ∀ z ∈ a0.l, (Lit.int .i64 z).wf = true) (_w1 : ∀ z ∈ a1.l, (Lit.int .i64 z).wf = true) (_w2 : (Lit.int .i64 a2).wf = true) : ∃ K, laws_FnExactFirstWins.f K a0 a1 a2 = some true := by
  refine ⟨200000000000000, ?_⟩
  unfold laws_FnExactFirstWins.f
  generalize hK : (200000000000000 : Nat) = K
  have hK0 : 2000000 ≤ K := by omega
  have hs : ∃ r, spec_FirstWins.f K a0 a1 a2 = some r ∧ impl_FirstWins.f K a0 a1 a2 = some r := by
    unfold spec_FirstWins.f impl_FirstWins.f spec_l7Race.f
    rw [(runner_eq K hK0 a0).1, (runner_eq K hK0 a0).2, (runner_eq K hK0 a1).1, (runner_eq K hK0 a1).2, goal_goal, goal_some]
    simp only [some_bind]
    by_cases hr : (dieB a0 && decide (0 < a0.get 0)) = true
    · by_cases hr2 : (dieB a1 && decide (0 < a1.get 0)) = true
      · have hr' : dieB a0 = true ∧ 0 < a0.get 0 := by simpa using hr
        have hr2' : dieB a1 = true ∧ 0 < a1.get 0 := by simpa using hr2
        by_cases ha : 1 ≤ a2 ∧ a2 ≤ 8
        · obtain ⟨g, hg⟩ : ∃ g : Nat, a2 = g := ⟨a2.toNat, by omega⟩
          subst hg
          obtain ⟨t, r, r1, r2, r3⟩ := runs_eq K (by omega) a0 hr' g (by omega)
          obtain ⟨u, q, u1, u2, u3⟩ := runs_eq K (by omega) a1 hr2' g (by omega)
          obtain ⟨A, B, v1, v2, v3, v4, v5⟩ := first_l2 K (by omega) g (by omega) t r u q r3 u3 K K 0 0 0 0 (by omega) (by omega) (by omega) (by omega) (by omega) rfl (by omega)
          have v1' : spec_l7Race.l2 K (g : Int) t u K 0 0 1 = some (A, B) := v1
          have v2' : impl_FirstWins.l0 K r q K 0 0 = some (A + B) := v2
          have hAB : wrap64 (A + B) = A + B := by clear v1 v2 v1' v2'; exact w64 (by omega) (by omega)
          have hw : impl_power.f K (wrap64 (2 * (g : Int))) = some ((6 : Int) ^ (2 * g)) := by
            clear hAB v1 v2 v1' v2'
            rw [w64 (by omega) (by omega), show (2 : Int) * (g : Int) = ((2 * g : Nat) : Int) by omega, power_eq K (by omega) (2 * g) (by omega)]
          have hq := pow_pos (2 * g)
          have hq2 : (6 : Int) ^ (2 * g) ≤ 2821109907456 := by
            rcases (show g = 1 ∨ g = 2 ∨ g = 3 ∨ g = 4 ∨ g = 5 ∨ g = 6 ∨ g = 7 ∨ g = 8 by omega) with e | e | e | e | e | e | e | e <;> rw [e] <;> decide
          clear v1 v2
          obtain ⟨s, s1, s2⟩ := cutz_eq K (A + B) ((6 : Int) ^ (2 * g)) (by clear hw v1' v2' hAB; omega) (by clear hw v1' v2' hAB; omega) (by clear hw v1' v2' hAB; omega) (by clear hw v1' v2' hAB; omega)
          simp only [hr, hr2, if_true, ha, and_self, decide_true, r1, r2, u1, u2, some_bind, v1', v2', hAB, all_power, hw, s1, s2]
          exact ⟨_, rfl⟩
        · simp [hr, hr2, ha]
      · simp [hr, hr2]
    · simp [hr]
  obtain ⟨r, h1, h2⟩ := hs
  have t2 := fun a => toA6 K (by omega) a
  have q2 := fun a => eqA2 K (by omega) a
  simp only [t2, h1, h2, q2, some_bind, if_true, beq_self_eq_true]
end Go.Proofs.Ytgmalhohckcogaa.WFirstWins

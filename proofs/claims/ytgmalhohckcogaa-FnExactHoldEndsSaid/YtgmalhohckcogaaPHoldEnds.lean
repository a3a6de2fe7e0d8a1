/- The plain law: what the walk shows to be computed answers true. Conditions: the numbers are 64-bit. -/
import Derived.Test.YtgmalhohckcogaaWHoldEnds
import Derived.KernelRfl
namespace Go.Proofs.Ytgmalhohckcogaa.WHoldEnds
open Go.K Go.RowKit
set_option linter.unusedVariables false
set_option linter.unusedSimpArgs false

theorem w1 (n : Nat) (h : n ≤ 4000000000000000000) : wrap64 ((n : Int) + 1) = ((n + 1 : Nat) : Int) := by rw [w64 (by omega) (by omega)]; omega
theorem ar_get_set {n : Nat} (a : Ar n) (i j v : Int) (h0 : 0 ≤ i) (h1 : i < n) (h2 : 0 ≤ j) : (a.set i v).get j = if j = i then v else a.get j := by
  unfold Ar.get Ar.set
  simp only [List.getD_eq_getElem?_getD]
  by_cases h : j = i
  · subst h
    rw [if_pos rfl, List.getElem?_set_self (by rw [a.h]; omega)]
    rfl
  · rw [if_neg h, List.getElem?_set_ne (by omega)]
def nn (l : List Int) : Prop := ∀ x ∈ l, 0 ≤ x
theorem nn_sum : ∀ l : List Int, nn l → 0 ≤ l.sum
  | [], _ => by simp
  | x :: l, h => by
    have h1 := h x List.mem_cons_self
    have h2 := nn_sum l (fun y hy => h y (List.mem_cons_of_mem _ hy))
    simp only [List.sum_cons]
    omega
theorem nn_get (l : List Int) (h : nn l) (i : Nat) (hi : i < l.length) : 0 ≤ l.getD i 0 := by
  rw [List.getD_eq_getElem?_getD, List.getElem?_eq_getElem hi]
  exact h _ (List.getElem_mem hi)
theorem nn_le : ∀ (l : List Int) (i : Nat), nn l → i < l.length → l.getD i 0 ≤ l.sum
  | [], i, _, hi => by simp at hi
  | x :: l, 0, h, _ => by
    have h2 := nn_sum l (fun y hy => h y (List.mem_cons_of_mem _ hy))
    simp only [List.getD_cons_zero, List.sum_cons]
    omega
  | x :: l, i + 1, h, hi => by
    have h1 := h x List.mem_cons_self
    have h2 := nn_le l i (fun y hy => h y (List.mem_cons_of_mem _ hy)) (by simpa using hi)
    simp only [List.getD_cons_succ, List.sum_cons]
    omega
theorem sum_set : ∀ (l : List Int) (i : Nat) (v : Int), i < l.length → (l.set i (l.getD i 0 + v)).sum = l.sum + v
  | [], i, v, hi => by simp at hi
  | x :: l, 0, v, _ => by simp only [List.set_cons_zero, List.getD_cons_zero, List.sum_cons]; omega
  | x :: l, i + 1, v, hi => by
    have h2 := sum_set l i v (by simpa using hi)
    simp only [List.set_cons_succ, List.getD_cons_succ, List.sum_cons, h2]
    omega
theorem nn_set (l : List Int) (i : Nat) (v : Int) (h : nn l) (hv : 0 ≤ v) : nn (l.set i v) := by
  intro x hx
  rcases List.mem_or_eq_of_mem_set hx with h1 | h1
  · exact h x h1
  · omega
theorem nn_rep (n : Nat) : nn (List.replicate n 0) := by
  intro x hx
  rw [(List.mem_replicate.1 hx).2]
  omega
theorem sum_rep (n : Nat) : (List.replicate n (0 : Int)).sum = 0 := by
  induction n with
  | zero => rfl
  | succ n ih => rw [List.replicate_succ, List.sum_cons, ih]; rfl
theorem in_eq (K : Nat) (a lo hi : Int) : impl_within.f K a lo hi = some (decide (lo ≤ a ∧ a ≤ hi)) := by
  unfold impl_within.f
  by_cases h : lo ≤ a <;> simp [h]
theorem in_within : spec_l1In.f = impl_within.f := by kernel_rfl
def faceB (a : Int) : Bool := decide (0 ≤ a ∧ a ≤ 30)
theorem isFace_eq (K : Nat) (_hK : 2000000 ≤ K) (a : Int) : impl_isFace.f K a = some (faceB a) := by
  unfold impl_isFace.f
  rw [in_eq]; rfl
theorem allFace_l0 (K : Nat) (hK : 2000000 ≤ K) (l : List Int) (h : l.length ≤ 1073741824) : ∀ (k n : Nat), n ≤ l.length → l.length - n < k →
    (slices_IndexFunc_int_int__areAll_int_1_isFace.l0 K l k (n : Int) = some (Sum.inl ()) ∧ (l.drop n).all faceB = true) ∨ (∃ i : Int, 0 ≤ i ∧ slices_IndexFunc_int_int__areAll_int_1_isFace.l0 K l k (n : Int) = some (Sum.inr i) ∧ (l.drop n).all faceB = false) := by
  intro k
  induction k with
  | zero => intro n h1 h2; omega
  | succ k ih =>
    intro n h1 h2
    rw [slices_IndexFunc_int_int__areAll_int_1_isFace.l0]
    by_cases hn : (n : Int) < (l.length : Int)
    · have hn' : n < l.length := by omega
      have hnn : ((n : Int)).toNat = n := by omega
      have hd : l.drop n = l[n] :: l.drop (n + 1) := List.drop_eq_getElem_cons hn'
      have hg : l.getD n (0 : Int) = l[n] := by rw [List.getD_eq_getElem?_getD, List.getElem?_eq_getElem hn']; rfl
      rw [if_pos hn, if_pos (by omega), w1 n (by omega), hnn, hg, impl_areAll_int_1__isFace.f, isFace_eq K hK, hd]
      simp only [some_bind, List.all_cons]
      rcases Bool.eq_false_or_eq_true (faceB l[n]) with e | e
      · rw [e]
        simp only [Bool.not_true, Bool.false_eq_true, if_false, Bool.true_and]
        exact ih (n + 1) (by omega) (by omega)
      · rw [e]
        simp only [Bool.not_false, if_true, Bool.false_and]
        exact .inr ⟨_, by omega, rfl, trivial⟩
    · rw [if_neg hn]
      have : n = l.length := by omega
      subst this
      exact .inl ⟨rfl, by simp⟩
theorem allFace_eq (K : Nat) (hK : 2000000 ≤ K) (l : List Int) (h : l.length ≤ 1048576) : impl_areAll_int__isFace.f K l = some (l.all faceB) := by
  unfold impl_areAll_int__isFace.f slices_ContainsFunc_int_int__areAll_int_1_isFace.f slices_IndexFunc_int_int__areAll_int_1_isFace.f
  rcases allFace_l0 K hK l (by omega) K 0 (by omega) (by omega) with ⟨h1, h2⟩ | ⟨i, hi, h1, h2⟩
  · rw [show (0 : Int) = ((0 : Nat) : Int) from rfl, h1]
    simp only [some_bind, List.drop_zero] at h2 ⊢
    rw [h2]; rfl
  · rw [show (0 : Int) = ((0 : Nat) : Int) from rfl, h1]
    simp only [some_bind, List.drop_zero] at h2 ⊢
    rw [h2]
    have : decide (((0 : Nat) : Int) ≤ i) = true := decide_eq_true (by simpa using hi)
    rw [this]; rfl
def dieP (a : Ar 6) : Prop := ((0 ≤ a.get 0 ∧ a.get 0 ≤ 30) ∧ (0 ≤ a.get 1 ∧ a.get 1 ≤ 30) ∧ (0 ≤ a.get 2 ∧ a.get 2 ≤ 30) ∧ (0 ≤ a.get 3 ∧ a.get 3 ≤ 30) ∧ (0 ≤ a.get 4 ∧ a.get 4 ≤ 30) ∧ (0 ≤ a.get 5 ∧ a.get 5 ≤ 30)) ∧ (a.get 0 ≤ a.get 1 ∧ a.get 1 ≤ a.get 2 ∧ a.get 2 ≤ a.get 3 ∧ a.get 3 ≤ a.get 4 ∧ a.get 4 ≤ a.get 5)
instance (a : Ar 6) : Decidable (dieP a) := by unfold dieP; infer_instance
def dieB (a : Ar 6) : Bool := decide (dieP a)
theorem die_get (x y z u v w : Int) : (Ar.get (⟨[x, y, z, u, v, w], rfl⟩ : Ar 6) 0 = x ∧ Ar.get (⟨[x, y, z, u, v, w], rfl⟩ : Ar 6) 1 = y ∧ Ar.get (⟨[x, y, z, u, v, w], rfl⟩ : Ar 6) 2 = z) ∧ (Ar.get (⟨[x, y, z, u, v, w], rfl⟩ : Ar 6) 3 = u ∧ Ar.get (⟨[x, y, z, u, v, w], rfl⟩ : Ar 6) 4 = v ∧ Ar.get (⟨[x, y, z, u, v, w], rfl⟩ : Ar 6) 5 = w) := ⟨⟨rfl, rfl, rfl⟩, rfl, rfl, rfl⟩
set_option maxHeartbeats 4000000 in
theorem die_spec (K : Nat) (hK : 2000000 ≤ K) (a : Ar 6) : spec_l2Die.f K a = some (dieB a) := by
  obtain ⟨k, rfl⟩ := Nat.exists_eq_add_of_le (show 8 ≤ K by omega)
  obtain ⟨x, y, z, u, v, w, rfl⟩ := Ar.cases6 a
  have e : 8 + k = k + 1 + 1 + 1 + 1 + 1 + 1 + 1 + 1 := by omega
  unfold spec_l2Die.f dieB dieP
  obtain ⟨⟨g0, g1, g2⟩, g3, g4, g5⟩ := die_get x y z u v w
  rw [e]
  simp only [spec_l2Die.l0, in_within, in_eq, some_bind, show (0 : Int) < 6 by decide, show wrap64 (0 + 1) = 1 by decide +kernel, show wrap64 (1 + 1) = 2 by decide +kernel, show wrap64 (2 + 1) = 3 by decide +kernel, show wrap64 (3 + 1) = 4 by decide +kernel, show wrap64 (4 + 1) = 5 by decide +kernel, show wrap64 (5 + 1) = 6 by decide +kernel, show wrap64 (1 - 1) = 0 by decide +kernel, show wrap64 (2 - 1) = 1 by decide +kernel, show wrap64 (3 - 1) = 2 by decide +kernel, show wrap64 (4 - 1) = 3 by decide +kernel, show wrap64 (5 - 1) = 4 by decide +kernel, g0, g1, g2, g3, g4, g5, decide_eq_true_eq]
  simp
  repeat' split
  all_goals simp_all
  all_goals omega
set_option maxHeartbeats 4000000 in
theorem die_impl (K : Nat) (hK : 2000000 ≤ K) (a : Ar 6) : impl_IsDie.f K a = some (dieB a) := by
  obtain ⟨x, y, z, u, v, w, rfl⟩ := Ar.cases6 a
  unfold impl_IsDie.f dieB dieP
  rw [allFace_eq K hK _ (by simp)]
  obtain ⟨k, rfl⟩ := Nat.exists_eq_add_of_le (show 8 ≤ K by omega)
  have e : 8 + k = k + 1 + 1 + 1 + 1 + 1 + 1 + 1 + 1 := by omega
  obtain ⟨⟨g0, g1, g2⟩, g3, g4, g5⟩ := die_get x y z u v w
  unfold slices_IsSorted_int_int.f
  rw [e]
  simp [slices_IsSorted_int_int.l0, cmp_Less_int.f, cmp_isNaN_int.f, some_bind, show wrap64 (6 - 1) = 5 by decide +kernel, show wrap64 5 = 5 by decide +kernel, show wrap64 (5 - 1) = 4 by decide +kernel, show wrap64 (4 - 1) = 3 by decide +kernel, show wrap64 (3 - 1) = 2 by decide +kernel, show wrap64 (2 - 1) = 1 by decide +kernel, show wrap64 (1 - 1) = 0 by decide +kernel, show wrap64 4 = 4 by decide +kernel, show wrap64 3 = 3 by decide +kernel, show wrap64 2 = 2 by decide +kernel, show wrap64 1 = 1 by decide +kernel, show wrap64 0 = 0 by decide +kernel, g0, g1, g2, g3, g4, g5, faceB]
  repeat' split
  all_goals simp_all
  all_goals omega
theorem runner_eq (K : Nat) (hK : 2000000 ≤ K) (a : Ar 6) : spec_l7Die.f K a = some (dieB a && decide (0 < a.get 0)) ∧ impl_isRunner.f K a = some (dieB a && decide (0 < a.get 0)) := by
  unfold spec_l7Die.f impl_isRunner.f
  rw [die_spec K hK, die_impl K hK]
  simp only [some_bind]
  cases dieB a <;> simp
theorem turn_eq (K : Nat) (hK : 2000000 ≤ K) (a : Ar 6) (b c : Int) : ∃ r, spec_l7Turn.f K a b c = some r ∧ impl_isTurn.f K a b c = some r ∧ (r = true → (dieB a = true ∧ 0 < a.get 0) ∧ (1 ≤ b ∧ b ≤ 30) ∧ 1 ≤ c ∧ c ≤ 10) := by
  unfold spec_l7Turn.f impl_isTurn.f
  rw [(runner_eq K hK a).1, (runner_eq K hK a).2, in_within, in_eq]
  simp only [some_bind]
  by_cases h1 : (dieB a && decide (0 < a.get 0)) = true
  · by_cases h2 : 1 ≤ b ∧ b ≤ 30
    · refine ⟨decide (1 ≤ c ∧ c ≤ 10), ?_, ?_, ?_⟩
      · simp [h1, h2, in_eq]
      · simp [h1, h2, in_eq]
      · simp only [decide_eq_true_eq]
        intro h3
        simp only [Bool.and_eq_true, decide_eq_true_eq] at h1
        exact ⟨h1, h2, h3⟩
    · exact ⟨false, by simp [h1, h2], by simp [h1, h2], by simp⟩
  · exact ⟨false, by simp [h1], by simp [h1], by simp⟩
theorem all_power : spec_l2All.f = impl_power.f := by kernel_rfl
theorem pow_lt (n : Nat) (h : n ≤ 22) : (6 : Int) ^ n ≤ 131621703842267136 := by
  have : (6 : Nat) ^ n ≤ 6 ^ 22 := Nat.pow_le_pow_right (by omega) h
  have h2 : ((6 ^ n : Nat) : Int) ≤ ((6 ^ 22 : Nat) : Int) := by exact_mod_cast this
  simpa using h2
theorem pow_pos (n : Nat) : (1 : Int) ≤ 6 ^ n := by
  have : 1 ≤ (6 : Nat) ^ n := Nat.one_le_pow _ _ (by omega)
  have h2 : ((1 : Nat) : Int) ≤ ((6 ^ n : Nat) : Int) := by exact_mod_cast this
  simpa using h2
theorem power_l0 (K : Nat) (n : Nat) (hn : n ≤ 22) : ∀ (k i : Nat), i ≤ n → n - i < k → impl_power.l0 K (n : Int) k ((6 : Int) ^ i) (i : Int) = some ((6 : Int) ^ n) := by
  intro k
  induction k with
  | zero => intro i h1 h2; omega
  | succ k ih =>
    intro i h1 h2
    rw [impl_power.l0]
    by_cases h : (i : Int) < (n : Int)
    · have hp := pow_lt (i + 1) (by omega)
      have hq := pow_pos (i + 1)
      have e : (6 : Int) ^ i * 6 = 6 ^ (i + 1) := (Int.pow_succ 6 i).symm
      rw [if_pos h, e, w64 (n := (6 : Int) ^ (i + 1)) (by omega) (by omega), w64 (n := (i : Int) + 1) (by omega) (by omega), show (i : Int) + 1 = ((i + 1 : Nat) : Int) by omega]
      exact ih (i + 1) (by omega) (by omega)
    · rw [if_neg h, show i = n by omega]
theorem power_eq (K : Nat) (hK : 30 ≤ K) (n : Nat) (hn : n ≤ 22) : impl_power.f K (n : Int) = some ((6 : Int) ^ n) := by
  unfold impl_power.f
  rw [show impl_power.l0 K (n : Int) K 1 0 = some ((6 : Int) ^ n) from power_l0 K n hn K 0 (by omega) (by omega)]
  rfl
def endR (A : Nat) (O : Ar 41) (Q : List Int) : Prop := Q.length = A + 30 ∧ O.l = Q ++ List.replicate (11 - A) 0
theorem endR_get (A : Nat) (O : Ar 41) (Q : List Int) (h : endR A O Q) (i : Nat) (hi : i < A + 30) : O.get (i : Int) = Q.getD i 0 := by
  unfold Ar.get
  rw [h.2, show ((i : Int)).toNat = i by omega, List.getD_eq_getElem?_getD, List.getD_eq_getElem?_getD, List.getElem?_append_left (by rw [h.1]; exact hi)]
theorem endR_set (A : Nat) (O : Ar 41) (Q : List Int) (h : endR A O Q) (i : Nat) (hi : i < A + 30) (v : Int) : endR A (O.set (i : Int) v) (Q.set i v) := by
  refine ⟨by rw [List.length_set]; exact h.1, ?_⟩
  unfold Ar.set
  simp only
  rw [h.2, show ((i : Int)).toNat = i by omega, List.set_append_left _ _ (by rw [h.1]; exact hi)]
theorem ends_l12 (K : Nat) (hK : 1000 ≤ K) (a : Ar 6) (ha : ∀ i : Int, 0 ≤ i → i < 6 → 1 ≤ a.get i ∧ a.get i ≤ 30) (bad : Int) (A : Nat) (hA : 1 ≤ A ∧ A ≤ 10) (x : Nat) (hx : 1 ≤ x ∧ x ≤ A) (cur : List Int) (hcur : nn cur) (hlen : cur.length = A) (s : Nat) (hs : s < A) (P : Int) (hP : P = 6 ^ (A - x)) :
    ∀ (k n : Nat) (O : Ar 41) (Q N : List Int), n ≤ 6 → 6 - n < k → endR A O Q → nn Q → nn N → N.length = A → Q.sum + N.sum * P + (6 - n) * (cur.getD s 0 * P) ≤ 60466176 →
    ∃ O' Q' N', spec_l7Ends.l12 K a bad (A : Int) (x : Int) cur (s : Int) k (n : Int) O N = some (O', N') ∧ impl_ends.l12 K a bad (A : Int) (x : Int) cur (s : Int) k (n : Int) Q N = some (Q', N') ∧ endR A O' Q' ∧ nn Q' ∧ nn N' ∧ N'.length = A ∧ Q'.sum + N'.sum * P = Q.sum + N.sum * P + (6 - n) * (cur.getD s 0 * P) := by
  have hpow : impl_power.f K (wrap64 ((A : Int) - (x : Int))) = some P := by
    rw [w64 (by omega) (by omega), show (A : Int) - (x : Int) = ((A - x : Nat) : Int) by omega, power_eq K (by omega) (A - x) (by omega), hP]
  have hP1 : 1 ≤ P := by rw [hP]; exact pow_pos _
  intro k
  induction k with
  | zero => intro n O Q N h1 h2; omega
  | succ k ih =>
    intro n O Q N h1 h2 h3 h4 h5 h6 h7
    rw [spec_l7Ends.l12, impl_ends.l12]
    by_cases hn : (n : Int) < 6
    · have c1 : (0 : Int) ≤ (n : Int) ∧ (n : Int) < 6 := by omega
      have c2 : (0 : Int) ≤ (s : Int) ∧ (s : Int) < (cur.length : Int) := by omega
      have hf := ha (n : Int) (by omega) (by omega)
      have hss : ((s : Int)).toNat = s := by omega
      have hc0 : 0 ≤ cur.getD s 0 := nn_get cur hcur s (by omega)
      have hcP : cur.getD s 0 ≤ cur.getD s 0 * P := by
        have := Int.mul_le_mul_of_nonneg_left hP1 hc0
        omega
      have hQ0 := nn_sum Q h4
      have hN0 := nn_sum N h5
      have hNP : N.sum ≤ N.sum * P := by
        have := Int.mul_le_mul_of_nonneg_left hP1 hN0
        omega
      have hst : (6 - (n : Int)) * (cur.getD s 0 * P) = cur.getD s 0 * P + (6 - ((n + 1 : Nat) : Int)) * (cur.getD s 0 * P) := by
        rw [show (6 : Int) - (n : Int) = 1 + (6 - ((n + 1 : Nat) : Int)) by omega, Int.add_mul, Int.one_mul]
      have hrest : 0 ≤ (6 - ((n + 1 : Nat) : Int)) * (cur.getD s 0 * P) := Int.mul_nonneg (by omega) (by omega)
      have e1 : wrap64 ((s : Int) + a.get (n : Int)) = (s : Int) + a.get (n : Int) := w64 (by omega) (by omega)
      have e2 : wrap64 (cur.getD s 0 * P) = cur.getD s 0 * P := w64 (by omega) (by omega)
      simp only [if_pos hn, if_pos c1, if_pos c2, hss, e1, all_power, hpow, some_bind, e2, w1 n (by omega)]
      -- a place in the results
      have put : ∀ i : Nat, i < A + 30 → ∃ O' Q' N', spec_l7Ends.l12 K a bad (A : Int) (x : Int) cur (s : Int) k ((n + 1 : Nat) : Int) (O.set (i : Int) (wrap64 (O.get (i : Int) + cur.getD s 0 * P))) N = some (O', N') ∧ impl_ends.l12 K a bad (A : Int) (x : Int) cur (s : Int) k ((n + 1 : Nat) : Int) (Q.set i (wrap64 (Q.getD i 0 + cur.getD s 0 * P))) N = some (Q', N') ∧ endR A O' Q' ∧ nn Q' ∧ nn N' ∧ N'.length = A ∧ Q'.sum + N'.sum * P = Q.sum + N.sum * P + (6 - n) * (cur.getD s 0 * P) := by
        intro i hi
        have g1 := nn_get Q h4 i (by rw [h3.1]; exact hi)
        have g2 := nn_le Q i h4 (by rw [h3.1]; exact hi)
        have e3 : wrap64 (Q.getD i 0 + cur.getD s 0 * P) = Q.getD i 0 + cur.getD s 0 * P := w64 (by omega) (by omega)
        rw [endR_get A O Q h3 i hi, e3]
        have hsum := sum_set Q i (cur.getD s 0 * P) (by rw [h3.1]; exact hi)
        obtain ⟨O', Q', N', r1, r2, r3, r4, r5, r6, r7⟩ := ih (n + 1) (O.set (i : Int) (Q.getD i 0 + cur.getD s 0 * P)) (Q.set i (Q.getD i 0 + cur.getD s 0 * P)) N (by omega) (by omega) (endR_set A O Q h3 i hi _) (nn_set Q i _ h4 (by omega)) h5 h6 (by rw [hsum]; omega)
        exact ⟨O', Q', N', r1, r2, r3, r4, r5, r6, by rw [r7, hsum]; omega⟩
      by_cases hb : a.get (n : Int) = bad
      · have c3 : (0 : Int) ≤ 0 ∧ (0 : Int) < (Q.length : Int) := by rw [h3.1]; omega
        rw [if_pos hb, if_pos hb, if_pos c3, show ((0 : Int)).toNat = 0 from rfl]
        exact put 0 (by omega)
      · rw [if_neg hb, if_neg hb]
        obtain ⟨i, hi⟩ : ∃ i : Nat, (s : Int) + a.get (n : Int) = i := ⟨((s : Int) + a.get (n : Int)).toNat, by omega⟩
        rw [hi, show ((i : Int)).toNat = i by omega]
        by_cases hge : (A : Int) ≤ (i : Int)
        · have c3 : (0 : Int) ≤ (i : Int) ∧ (i : Int) < 41 := by omega
          have c4 : (0 : Int) ≤ (i : Int) ∧ (i : Int) < (Q.length : Int) := by rw [h3.1]; omega
          rw [if_pos hge, if_pos hge, if_pos c3, if_pos c4]
          exact put i (by omega)
        · have c3 : (0 : Int) ≤ (i : Int) ∧ (i : Int) < (N.length : Int) := by omega
          have g1 := nn_get N h5 i (by omega)
          have g2 := nn_le N i h5 (by omega)
          have e3 : wrap64 (N.getD i 0 + cur.getD s 0) = N.getD i 0 + cur.getD s 0 := w64 (by omega) (by omega)
          rw [if_neg hge, if_neg hge, if_pos c3, if_pos c3, e3]
          have hsum := sum_set N i (cur.getD s 0) (by omega)
          obtain ⟨O', Q', N', r1, r2, r3, r4, r5, r6, r7⟩ := ih (n + 1) O Q (N.set i (N.getD i 0 + cur.getD s 0)) (by omega) (by omega) h3 h4 (nn_set N i _ h5 (by omega)) (by rw [List.length_set]; exact h6) (by rw [hsum, Int.add_mul]; omega)
          exact ⟨O', Q', N', r1, r2, r3, r4, r5, r6, by rw [r7, hsum, Int.add_mul]; omega⟩
    · have : n = 6 := by omega
      subst this
      rw [if_neg hn, if_neg hn]
      exact ⟨O, Q, N, rfl, rfl, h3, h4, h5, h6, by simp⟩
theorem ends_l11 (K : Nat) (hK : 1000 ≤ K) (a : Ar 6) (ha : ∀ i : Int, 0 ≤ i → i < 6 → 1 ≤ a.get i ∧ a.get i ≤ 30) (bad : Int) (A : Nat) (hA : 1 ≤ A ∧ A ≤ 10) (x : Nat) (hx : 1 ≤ x ∧ x ≤ A) (cur : List Int) (hcur : nn cur) (hlen : cur.length = A) (P : Int) (hP : P = 6 ^ (A - x)) (T : Int) (hT : T ≤ 60466176) :
    ∀ (k s : Nat) (O : Ar 41) (Q N : List Int), s ≤ A → A - s < k → endR A O Q → nn Q → nn N → N.length = A → Q.sum + N.sum * P + 6 * P * (cur.drop s).sum = T →
    ∃ O' Q' N', spec_l7Ends.l11 K a bad (A : Int) (x : Int) cur k (s : Int) O N = some (O', N') ∧ impl_ends.l11 K a bad (A : Int) (x : Int) cur k (s : Int) Q N = some (Q', N') ∧ endR A O' Q' ∧ nn Q' ∧ nn N' ∧ N'.length = A ∧ Q'.sum + N'.sum * P = T := by
  have hP1 : 1 ≤ P := by rw [hP]; exact pow_pos _
  intro k
  induction k with
  | zero => intro s O Q N h1 h2; omega
  | succ k ih =>
    intro s O Q N h1 h2 h3 h4 h5 h6 h7
    rw [spec_l7Ends.l11, impl_ends.l11]
    by_cases hs : (s : Int) < (A : Int)
    · have hs' : s < cur.length := by omega
      have c1 : (s : Int) < (cur.length : Int) := by omega
      have c2 : (0 : Int) ≤ (s : Int) ∧ (s : Int) < (cur.length : Int) := by omega
      have hd : cur.drop s = cur.getD s 0 :: cur.drop (s + 1) := by
        rw [List.drop_eq_getElem_cons hs', List.getD_eq_getElem?_getD, List.getElem?_eq_getElem hs']; rfl
      have hr : 0 ≤ (cur.drop (s + 1)).sum := nn_sum _ (fun y hy => hcur y (List.mem_of_mem_drop hy))
      have hr2 : 0 ≤ 6 * P * (cur.drop (s + 1)).sum := Int.mul_nonneg (by omega) hr
      have e0 : 6 * P * (cur.drop s).sum = 6 * (cur.getD s 0 * P) + 6 * P * (cur.drop (s + 1)).sum := by
        rw [hd, List.sum_cons, Int.mul_add, Int.mul_assoc 6 P (cur.getD s 0), Int.mul_comm P (cur.getD s 0)]
      obtain ⟨O', Q', N', r1, r2, r3, r4, r5, r6, r7⟩ := ends_l12 K hK a ha bad A hA x hx cur hcur hlen s (by omega) P hP K 0 O Q N (by omega) (by omega) h3 h4 h5 h6 (by rw [show ((0 : Nat) : Int) = 0 from rfl, Int.sub_zero]; omega)
      have r1' : spec_l7Ends.l12 K a bad (A : Int) (x : Int) cur (s : Int) K 0 O N = some (O', N') := r1
      have r2' : impl_ends.l12 K a bad (A : Int) (x : Int) cur (s : Int) K 0 Q N = some (Q', N') := r2
      have r7' : Q'.sum + N'.sum * P = Q.sum + N.sum * P + 6 * (cur.getD s 0 * P) := by simpa using r7
      simp only [if_pos hs, if_pos c1, if_pos c2, r1', r2', some_bind, w1 s (by omega)]
      exact ih (s + 1) O' Q' N' (by omega) (by omega) r3 r4 r5 r6 (by omega)
    · have : s = A := by omega
      subst this
      rw [if_neg hs, if_neg (by omega)]
      have hz : cur.drop s = [] := List.drop_of_length_le (by omega)
      rw [hz] at h7
      exact ⟨O, Q, N, rfl, rfl, h3, h4, h5, h6, by simpa using h7⟩
theorem ends_l8 (K : Nat) (hK : 1000 ≤ K) (a : Ar 6) (ha : ∀ i : Int, 0 ≤ i → i < 6 → 1 ≤ a.get i ∧ a.get i ≤ 30) (bad : Int) (A : Nat) (hA : 1 ≤ A ∧ A ≤ 10) :
    ∀ (k x : Nat) (O : Ar 41) (Q cur : List Int), 1 ≤ x → x ≤ A + 1 → A + 1 - x < k → endR A O Q → nn Q → nn cur → cur.length = A → Q.sum + cur.sum * 6 ^ (A + 1 - x) = 6 ^ A →
    ∃ O' Q', spec_l7Ends.l8 K a bad (A : Int) k (x : Int) O cur = some O' ∧ impl_ends.l8 K a bad (A : Int) k (x : Int) Q cur = some Q' ∧ endR A O' Q' ∧ nn Q' ∧ Q'.sum ≤ 6 ^ A := by
  intro k
  induction k with
  | zero => intro x O Q cur h0 h1 h2; omega
  | succ k ih =>
    intro x O Q cur h0 h1 h2 h3 h4 h5 h6 h7
    rw [spec_l7Ends.l8, impl_ends.l8]
    have hTT : (6 : Int) ^ A ≤ 60466176 := by
      rcases (show A = 1 ∨ A = 2 ∨ A = 3 ∨ A = 4 ∨ A = 5 ∨ A = 6 ∨ A = 7 ∨ A = 8 ∨ A = 9 ∨ A = 10 by omega) with rfl | rfl | rfl | rfl | rfl | rfl | rfl | rfl | rfl | rfl <;> decide
    by_cases hx : (x : Int) ≤ (A : Int)
    · have e6 : (6 : Int) ^ (A + 1 - x) = 6 * 6 ^ (A - x) := by
        rw [show A + 1 - x = (A - x) + 1 by omega, Int.pow_succ, Int.mul_comm]
      obtain ⟨O', Q', N', r1, r2, r3, r4, r5, r6, r7⟩ := ends_l11 K hK a ha bad A hA x (by omega) cur h5 h6 (6 ^ (A - x)) rfl (6 ^ A) hTT K 0 O Q (List.replicate A 0) (by omega) (by omega) h3 h4 (nn_rep A) (by simp) (by
        rw [sum_rep, List.drop_zero, ← h7, e6, Int.mul_comm cur.sum]; simp)
      have r1' : spec_l7Ends.l11 K a bad (A : Int) (x : Int) cur K 0 O (List.replicate A 0) = some (O', N') := r1
      have r2' : impl_ends.l11 K a bad (A : Int) (x : Int) cur K 0 Q (List.replicate A 0) = some (Q', N') := r2
      simp only [if_pos hx, Int.toNat_natCast, r1', r2', some_bind, w1 x (by omega)]
      exact ih (x + 1) O' Q' N' (by omega) (by omega) (by omega) r3 r4 r5 r6 (by rw [show A + 1 - (x + 1) = A - x by omega]; exact r7)
    · rw [if_neg hx, if_neg hx]
      have hc : 0 ≤ cur.sum * 6 ^ (A + 1 - x) := Int.mul_nonneg (nn_sum cur h5) (by have := pow_pos (A + 1 - x); omega)
      exact ⟨O, Q, rfl, rfl, h3, h4, by omega⟩
theorem runner_faces (a : Ar 6) (h : (dieB a = true ∧ 0 < a.get 0)) : ∀ i : Int, 0 ≤ i → i < 6 → 1 ≤ a.get i ∧ a.get i ≤ 30 := by
  obtain ⟨h1, h2⟩ := h
  have h3 := of_decide_eq_true h1
  unfold dieP at h3
  intro i h0 h6
  rcases (show i = 0 ∨ i = 1 ∨ i = 2 ∨ i = 3 ∨ i = 4 ∨ i = 5 by omega) with rfl | rfl | rfl | rfl | rfl | rfl <;> omega
theorem ends_eq (K : Nat) (hK : 1000 ≤ K) (a : Ar 6) (ha : dieB a = true ∧ 0 < a.get 0) (bad : Int) (A : Nat) (hA : 1 ≤ A ∧ A ≤ 10) : ∃ O Q, spec_l7Ends.f K a bad (A : Int) = some O ∧ impl_ends.f K a bad (A : Int) = some Q ∧ endR A O Q ∧ nn Q ∧ Q.sum ≤ 6 ^ A := by
  have e1 : wrap64 ((A : Int) + 30) = ((A + 30 : Nat) : Int) := by rw [w64 (by omega) (by omega)]; omega
  have c1 : (0 : Int) ≤ ((A + 30 : Nat) : Int) ∧ ((A + 30 : Nat) : Int) ≤ 1073741824 := by omega
  have c2 : (0 : Int) ≤ (A : Int) ∧ (A : Int) ≤ 1073741824 := by omega
  have c3 : (0 : Int) ≤ 0 ∧ (0 : Int) < ((List.replicate A (0 : Int)).length : Int) := by simp; omega
  have hs : ((List.replicate A (0 : Int)).set 0 1).sum = 1 := by
    have := sum_set (List.replicate A 0) 0 1 (by simp; omega)
    rw [sum_rep] at this
    have g : (List.replicate A (0 : Int)).getD 0 0 + 1 = 1 := by
      rw [List.getD_eq_getElem?_getD, List.getElem?_replicate]
      split <;> rfl
    rw [g] at this
    exact this
  have hz : (Ar.zero 41).l = List.replicate (A + 30) 0 ++ List.replicate (11 - A) 0 := by
    rw [List.replicate_append_replicate, show A + 30 + (11 - A) = 41 by omega]
    rfl
  obtain ⟨O, Q, r1, r2, r3, r4, r5⟩ := ends_l8 K hK a (runner_faces a ha) bad A hA K 1 (Ar.zero 41) (List.replicate (A + 30) 0) ((List.replicate A 0).set 0 1) (by omega) (by omega) (by omega) ⟨by simp, hz⟩ (nn_rep _) (nn_set _ _ _ (nn_rep _) (by omega)) (by simp) (by rw [hs, sum_rep]; simp)
  have r1' : spec_l7Ends.l8 K a bad (A : Int) K 1 (Ar.zero 41) ((List.replicate A 0).set 0 1) = some O := r1
  have r2' : impl_ends.l8 K a bad (A : Int) K 1 (List.replicate (A + 30) 0) ((List.replicate A 0).set 0 1) = some Q := r2
  unfold spec_l7Ends.f impl_ends.f
  simp only [e1, if_pos c1, if_pos c2, Int.toNat_natCast, if_pos c3, show ((0 : Int)).toNat = 0 from rfl, r1', r2', some_bind]
  exact ⟨O, Q, rfl, rfl, r3, r4, r5⟩
theorem powN (n : Nat) : ((6 ^ n : Nat) : Int) = (6 : Int) ^ n := by simp
def frac (a b : Nat) : Ar 2 := ⟨[((a / Nat.gcd a b : Nat) : Int), ((b / Nat.gcd a b : Nat) : Int)], rfl⟩
theorem gcd_l0 (K : Nat) : ∀ (k a b : Nat), b < k → spec_l2Cut.l0 K k (a : Int) (b : Int) = some ((Nat.gcd a b : Nat) : Int) ∧ impl_fraction.l0 K k (a : Int) (b : Int) = some ((Nat.gcd a b : Nat) : Int) := by
  intro k
  induction k with
  | zero => intro a b h; omega
  | succ k ih =>
    intro a b h
    rw [spec_l2Cut.l0, impl_fraction.l0]
    by_cases hb : b = 0
    · subst hb
      simp
    · have h1 : (0 : Int) < (b : Int) := by omega
      have h2 : ¬ (b : Int) = 0 := by omega
      have h3 : (b : Int) ≠ 0 := h2
      have h4 : ((a : Int)).tmod (b : Int) = ((a % b : Nat) : Int) := by
        rw [Int.tmod_eq_emod_of_nonneg (by omega)]; rfl
      have h5 : a % b < b := Nat.mod_lt _ (by omega)
      rw [if_pos h1, if_neg h2, if_pos h3, if_pos h3, h4]
      obtain ⟨i1, i2⟩ := ih b (a % b) (by omega)
      rw [i1, i2]
      have : Nat.gcd b (a % b) = Nat.gcd a b := by
        rw [Nat.gcd_comm b, ← Nat.gcd_rec, Nat.gcd_comm]
      rw [this]
      exact ⟨rfl, rfl⟩
theorem frac_eq (K : Nat) (a b : Nat) (h : 0 < a ∨ 0 < b) (hK : b < K) (ha : a ≤ 4000000000000000000) (hb : b ≤ 4000000000000000000) : spec_l2Cut.f K (a : Int) (b : Int) = some (frac a b) ∧ impl_fraction.f K (a : Int) (b : Int) = some (frac a b) := by
  obtain ⟨h1, h2⟩ := gcd_l0 K K a b hK
  have hg : 0 < Nat.gcd a b := by
    rcases h with h | h
    · exact Nat.gcd_pos_of_pos_left _ h
    · exact Nat.gcd_pos_of_pos_right _ h
  unfold spec_l2Cut.f impl_fraction.f
  rw [h1, h2]
  simp only [some_bind]
  have h3 : spec_l1Most.f K ((Nat.gcd a b : Nat) : Int) 1 = some ((Nat.gcd a b : Nat) : Int) := by
    unfold spec_l1Most.f
    by_cases h : (1 : Int) < ((Nat.gcd a b : Nat) : Int)
    · rw [if_pos h]
    · rw [if_neg h, show ((Nat.gcd a b : Nat) : Int) = 1 by omega]
  have h4 : ((Nat.gcd a b : Nat) : Int) ≠ 0 := by omega
  have d1 : ∀ m : Nat, m ≤ 4000000000000000000 → wrap64 ((m : Int).tdiv ((Nat.gcd a b : Nat) : Int)) = ((m / Nat.gcd a b : Nat) : Int) := by
    intro m hm
    have e : (m : Int).tdiv ((Nat.gcd a b : Nat) : Int) = ((m / Nat.gcd a b : Nat) : Int) := by
      rw [Int.tdiv_eq_ediv_of_nonneg (by omega)]; rfl
    have := Nat.div_le_self m (Nat.gcd a b)
    rw [e]
    generalize m / Nat.gcd a b = q at *
    exact w64 (by omega) (by omega)
  rw [h3]
  simp only [some_bind, if_pos h4, d1 a ha, d1 b hb]
  exact ⟨rfl, rfl⟩
theorem pow10 (A : Nat) (h : A ≤ 10) : (6 : Int) ^ A ≤ 60466176 := by
  have : (6 : Nat) ^ A ≤ 6 ^ 10 := Nat.pow_le_pow_right (by omega) h
  have h2 : ((6 ^ A : Nat) : Int) ≤ ((6 ^ 10 : Nat) : Int) := by exact_mod_cast this
  simpa using h2
theorem toA6 (K : Nat) (hK : 8 ≤ K) (a : Ar 6) : laws_toIntA6.f K a = some a := by
  obtain ⟨k, rfl⟩ := Nat.exists_eq_add_of_le hK
  obtain ⟨x, y, z, u, v, w, rfl⟩ := Ar.cases6 a
  have e : 8 + k = k + 1 + 1 + 1 + 1 + 1 + 1 + 1 + 1 := by omega
  unfold laws_toIntA6.f
  rw [e]
  simp only [laws_toIntA6.l0, show (0 : Int) < 6 by decide, show wrap64 (0 + 1) = 1 by decide +kernel, show wrap64 (1 + 1) = 2 by decide +kernel, show wrap64 (2 + 1) = 3 by decide +kernel, show wrap64 (3 + 1) = 4 by decide +kernel, show wrap64 (4 + 1) = 5 by decide +kernel, show wrap64 (5 + 1) = 6 by decide +kernel, if_true, show (0 : Int) ≤ 0 ∧ True by decide]
  rfl
theorem eqA2 (K : Nat) (hK : 3 ≤ K) (a : Ar 2) : laws_eqIntA2.f K a a = some true := by
  obtain ⟨k, rfl⟩ := Nat.exists_eq_add_of_le hK
  rw [show 3 + k = k + 1 + 1 + 1 by omega]
  simp [laws_eqIntA2.f, laws_eqIntA2.l0, wrap64]

theorem getD_setE (l : List (Int × Ar 2)) (d j : Nat) (x : Int × Ar 2) (h : d < l.length) : (l.set d x).getD j (0, Ar.zero 2) = if j = d then x else l.getD j (0, Ar.zero 2) := by
  rw [List.getD_eq_getElem?_getD, List.getD_eq_getElem?_getD]
  by_cases hj : j = d
  · subst hj
    rw [if_pos rfl, List.getElem?_set_self h]; rfl
  · rw [if_neg hj, List.getElem?_set_ne (fun e => hj e.symm)]
theorem eqE (K : Nat) (hK : 8 ≤ K) (x : Int × Ar 2) : laws_eqEnding.f K x x = some true := by
  unfold laws_eqEnding.f
  rw [if_pos rfl, eqA2 K (by omega), some_bind, if_pos rfl]
theorem eqES_l0 (K : Nat) (hK : 8 ≤ K) (l : List (Int × Ar 2)) (h : l.length ≤ 1073741824) : ∀ (k n : Nat), n ≤ l.length → l.length - n < k → laws_eqEndingS.l0 K l l k (n : Int) = some (Sum.inl ()) := by
  intro k
  induction k with
  | zero => intro n h1 h2; omega
  | succ k ih =>
    intro n h1 h2
    rw [laws_eqEndingS.l0]
    by_cases hn : (n : Int) < (l.length : Int)
    · rw [if_pos hn, if_pos (by omega), if_pos (by omega), eqE K hK, some_bind, if_pos rfl, w1 n (by omega)]
      exact ih (n + 1) (by omega) (by omega)
    · rw [if_neg hn]
theorem eqES (K : Nat) (l : List (Int × Ar 2)) (h : l.length ≤ 1048576) (hK : 2000000 ≤ K) : laws_eqEndingS.f K l l = some true := by
  unfold laws_eqEndingS.f
  rw [if_pos rfl, show (0 : Int) = ((0 : Nat) : Int) from rfl, eqES_l0 K (by omega) l (by omega) K 0 (by omega) (by omega)]
  rfl
def MkE (a : Int) (d : Nat) (l : List (Int × Ar 2)) : Prop := ∀ j : Nat, j < d → (l.getD j (0, Ar.zero 2)).1 = a + 3 * j ∧ ∀ i : Nat, i < 2 → (l.getD j (0, Ar.zero 2)).2.get (i : Int) = a + 3 * j + 1 + i
theorem markE_l3 (K : Nat) (a : Int) (h0 : 0 ≤ a) (ha : a ≤ 1000000) (d : Nat) (hd : d ≤ 1048576) : ∀ (k n : Nat) (out : List (Int × Ar 2)), n ≤ 2 → 2 - n < k → d < out.length → MkE a d out → (out.getD d (0, Ar.zero 2)).1 = a + 3 * d → (∀ i : Nat, i < n → (out.getD d (0, Ar.zero 2)).2.get (i : Int) = a + 3 * d + 1 + i) → ∃ out', laws_markEndingS.l3 K (d : Int) k (a + 3 * d + 1 + n) (n : Int) out = some (a + 3 * (d + 1 : Nat), out') ∧ out'.length = out.length ∧ MkE a (d + 1) out' := by
  intro k
  induction k with
  | zero => intro n out h1 h2; omega
  | succ k ih =>
    intro n out h1 h2 h3 h4 h4b h5
    rw [laws_markEndingS.l3]
    by_cases hn : (n : Int) < 2
    · have c1 : (0 : Int) ≤ (d : Int) ∧ (d : Int) < (out.length : Int) := by omega
      have c2 : (0 : Int) ≤ (n : Int) ∧ (n : Int) < 2 := by omega
      have f1 : n + 1 ≤ 2 := by omega
      have f2 : 2 - (n + 1) < k := by omega
      have f3 : n ≤ 4000000000000000000 := by omega
      have e1 : wrap64 (a + 3 * (d : Int) + 1 + (n : Int) + 1) = a + 3 * (d : Int) + 1 + ((n + 1 : Nat) : Int) := by rw [w64 (by omega) (by omega)]; omega
      rw [if_pos hn, if_pos c1, if_pos c2, e1, w1 n f3, show ((d : Int)).toNat = d from rfl]
      obtain ⟨o, i1, i2, i3⟩ := ih (n + 1) (out.set d ((out.getD d (0, Ar.zero 2)).1, (out.getD d (0, Ar.zero 2)).2.set (n : Int) (a + 3 * (d : Int) + 1 + (n : Int)))) f1 f2 (by rw [List.length_set]; exact h3) (by
        intro j hj
        rw [getD_setE _ _ _ _ h3, if_neg (by omega)]
        exact h4 j hj) (by rw [getD_setE _ _ _ _ h3, if_pos rfl]; exact h4b) (by
        intro i hi
        rw [getD_setE _ _ _ _ h3, if_pos rfl, ar_get_set _ _ _ _ c2.1 c2.2 (by omega)]
        by_cases hin : i = n
        · rw [hin, if_pos rfl]
        · rw [if_neg (by omega)]
          exact h5 i (by omega))
      exact ⟨o, i1, by rw [i2, List.length_set], i3⟩
    · have hnc : n = 2 := by omega
      subst hnc
      rw [if_neg hn]
      refine ⟨out, ?_, rfl, ?_⟩
      · congr 2
        omega
      · intro j hj
        by_cases hjd : j = d
        · subst hjd; exact ⟨h4b, h5⟩
        · exact h4 j (by omega)
theorem markE_l2 (K : Nat) (hK : 10 ≤ K) (a : Int) (h0 : 0 ≤ a) (ha : a ≤ 1000000) (N : Nat) (hN : N ≤ 1048576) : ∀ (k d : Nat) (out : List (Int × Ar 2)), d ≤ N → N - d < k → out.length = N → MkE a d out → ∃ out', laws_markEndingS.l2 K k (a + 3 * d) (d : Int) out = some (a + 3 * N, out') ∧ out'.length = N ∧ MkE a N out' := by
  intro k
  induction k with
  | zero => intro d out h1 h2; omega
  | succ k ih =>
    intro d out h1 h2 h3 h4
    rw [laws_markEndingS.l2]
    by_cases hn : (d : Int) < (out.length : Int)
    · have f0 : d < out.length := by omega
      have f1 : d + 1 ≤ N := by omega
      have f2 : N - (d + 1) < k := by omega
      have f3 : d ≤ 4000000000000000000 := by omega
      have c1 : (0 : Int) ≤ (d : Int) ∧ (d : Int) < (out.length : Int) := by omega
      have f4 : d ≤ 1048576 := by omega
      obtain ⟨o, i1, i2, i3⟩ := markE_l3 K a h0 ha d f4 K 0 (out.set d (a + 3 * (d : Int), (out.getD d (0, Ar.zero 2)).2)) (by omega) (by omega) (by rw [List.length_set]; exact f0) (by
        intro j hj
        rw [getD_setE _ _ _ _ f0, if_neg (by omega)]
        exact h4 j hj) (by rw [getD_setE _ _ _ _ f0, if_pos rfl]) (fun i hi => by omega)
      rw [show ((0 : Nat) : Int) = 0 from rfl, Int.add_zero] at i1
      have e1 : wrap64 (a + 3 * (d : Int) + 1) = a + 3 * (d : Int) + 1 := w64 (by omega) (by omega)
      rw [if_pos hn, if_pos c1, show ((d : Int)).toNat = d from rfl, e1, i1, some_bind, w1 d f3]
      rw [List.length_set] at i2
      exact ih (d + 1) o f1 f2 (i2.trans h3) i3
    · have : d = N := by omega
      subst this
      rw [if_neg hn]
      exact ⟨out, rfl, h3, h4⟩
theorem heldE_l3 (K : Nat) (a : Int) (h0 : 0 ≤ a) (ha : a ≤ 1000000) (d : Nat) (hd : d ≤ 1048576) (l : List (Int × Ar 2)) (hl : d < l.length) (hm : MkE a l.length l) : ∀ (k n : Nat), n ≤ 2 → 2 - n < k → laws_heldEndingS.l3 K l (d : Int) k (a + 3 * d + 1 + n) (n : Int) = some (Sum.inl (a + 3 * (d + 1 : Nat))) := by
  intro k
  induction k with
  | zero => intro n h1 h2; omega
  | succ k ih =>
    intro n h1 h2
    rw [laws_heldEndingS.l3]
    by_cases hn : (n : Int) < 2
    · have c2 : (0 : Int) ≤ (n : Int) ∧ (n : Int) < 2 := by omega
      have f0 : n < 2 := by omega
      have f1 : n + 1 ≤ 2 := by omega
      have f2 : 2 - (n + 1) < k := by omega
      have f3 : n ≤ 4000000000000000000 := by omega
      have e1 : wrap64 (a + 3 * (d : Int) + 1 + (n : Int) + 1) = a + 3 * (d : Int) + 1 + ((n + 1 : Nat) : Int) := by rw [w64 (by omega) (by omega)]; omega
      rw [if_pos hn, if_pos c2, e1, w1 n f3, show ((d : Int)).toNat = d from rfl, if_pos ((hm d hl).2 n f0)]
      exact ih (n + 1) f1 f2
    · have hnc : n = 2 := by omega
      subst hnc
      rw [if_neg hn]
      congr 2
      omega
theorem heldE_l2 (K : Nat) (hK : 10 ≤ K) (a : Int) (h0 : 0 ≤ a) (ha : a ≤ 1000000) (l : List (Int × Ar 2)) (hN : l.length ≤ 1048576) (hm : MkE a l.length l) : ∀ (k d : Nat), d ≤ l.length → l.length - d < k → laws_heldEndingS.l2 K l k (a + 3 * d) (d : Int) = some (Sum.inl (a + 3 * l.length)) := by
  intro k
  induction k with
  | zero => intro d h1 h2; omega
  | succ k ih =>
    intro d h1 h2
    rw [laws_heldEndingS.l2]
    by_cases hn : (d : Int) < (l.length : Int)
    · have f0 : d < l.length := by omega
      have f1 : d + 1 ≤ l.length := by omega
      have f2 : l.length - (d + 1) < k := by omega
      have f3 : d ≤ 4000000000000000000 := by omega
      have c1 : (0 : Int) ≤ (d : Int) ∧ (d : Int) < (l.length : Int) := by omega
      have f4 : d ≤ 1048576 := by omega
      have i1 := heldE_l3 K a h0 ha d f4 l f0 hm K 0 (by omega) (by omega)
      rw [show ((0 : Nat) : Int) = 0 from rfl, Int.add_zero] at i1
      have e1 : wrap64 (a + 3 * (d : Int) + 1) = a + 3 * (d : Int) + 1 := w64 (by omega) (by omega)
      rw [if_pos hn, if_pos c1, show ((d : Int)).toNat = d from rfl, if_pos (hm d f0).1, e1, i1, some_bind, w1 d f3]
      exact ih (d + 1) f1 f2
    · have : d = l.length := by omega
      rw [if_neg hn, this]
theorem marksE (K : Nat) (hK : 2000000 ≤ K) (l : List (Int × Ar 2)) (h : l.length ≤ 1048576) : ∃ m o, laws_markEndingS.f K l 1 = some (m, o) ∧ laws_heldEndingS.f K o 1 = some m ∧ 0 ≤ m := by
  obtain ⟨o, h1, h2, h3⟩ := markE_l2 K (by omega) 1 (by omega) (by omega) l.length h K 0 l (by omega) (by omega) rfl (fun j hj => by omega)
  have h4 := heldE_l2 K (by omega) 1 (by omega) (by omega) o (by omega) (by rw [h2]; exact h3) K 0 (by omega) (by omega)
  rw [show ((0 : Nat) : Int) = 0 from rfl, Int.mul_zero, Int.add_zero] at h1 h4
  rw [h2] at h4
  refine ⟨1 + 3 * (l.length : Int), o, ?_, ?_, by omega⟩
  · unfold laws_markEndingS.f
    rw [h1]; rfl
  · unfold laws_heldEndingS.f
    rw [h4]; rfl
theorem he_item (K : Nat) (hK : 2000000000 ≤ K) (A : Nat) (hA : A ≤ 10) (v : Int) (h0 : 0 ≤ v) (h1 : v ≤ 60466176) : ∃ f : Ar 2, spec_l2Cut.f K v ((6 : Int) ^ A) = some f ∧ impl_fraction.f K v ((6 : Int) ^ A) = some f := by
  obtain ⟨V, hV⟩ : ∃ V : Nat, v = V := ⟨v.toNat, by omega⟩
  subst hV
  have hb : (6 : Nat) ^ A ≤ 60466176 := by
    have := pow10 A hA
    rw [← powN A] at this
    exact Int.ofNat_le.1 this
  have hq : 0 < 6 ^ A := Nat.one_le_pow _ _ (by omega)
  have f := frac_eq K V (6 ^ A) (.inr hq) (by omega) (by omega) (by omega)
  rw [powN] at f
  exact ⟨_, f.1, f.2⟩
theorem he_tail (K : Nat) (b : Int) (O : Ar 41) (m : Nat) (hz : ∀ i : Nat, m ≤ i → i < 41 → O.get (i : Int) = 0) (out : List (Int × Ar 2)) : ∀ (k n : Nat), m ≤ n → n ≤ 41 → 41 - n < k → spec_HoldEnds.l0 K b O k (n : Int) out = some out := by
  intro k
  induction k with
  | zero => intro n h1 h2; omega
  | succ k ih =>
    intro n h0 h1 h2
    rw [spec_HoldEnds.l0]
    by_cases hn : (n : Int) < 41
    · have f1 : n < 41 := by omega
      have f2 : m ≤ n + 1 := by omega
      have f3 : 41 - (n + 1) < k := by omega
      have f4 : n ≤ 4000000000000000000 := by omega
      have c : (0 : Int) ≤ (n : Int) ∧ (n : Int) < 41 := by omega
      rw [if_pos hn, if_pos c, hz n h0 f1, if_neg (by decide), w1 n f4]
      exact ih (n + 1) f2 f1 f3
    · rw [if_neg hn]
theorem he_l0 (K : Nat) (hK : 2000000000 ≤ K) (A : Nat) (hA : A ≤ 10) (O : Ar 41) (Q : List Int) (hR : endR A O Q) (hQ : nn Q) (hs : Q.sum ≤ 60466176) : ∀ (k k2 n : Nat) (out : List (Int × Ar 2)), n ≤ A + 30 → 41 - n < k → A + 30 - n < k2 → out.length ≤ n → ∃ o, spec_HoldEnds.l0 K (A : Int) O k (n : Int) out = some o ∧ impl_HoldEnds.l0 K (A : Int) Q k2 (n : Int) out = some o ∧ o.length ≤ 1000 := by
  have hz : ∀ i : Nat, A + 30 ≤ i → i < 41 → O.get (i : Int) = 0 := by
    intro i h1 h2
    unfold Ar.get
    rw [hR.2, show ((i : Int)).toNat = i by omega, List.getD_eq_getElem?_getD, List.getElem?_append_right (by rw [hR.1]; exact h1), List.getElem?_replicate]
    split <;> rfl
  intro k k2
  induction k2 generalizing k with
  | zero => intro n out h1 h2 h3; omega
  | succ k2 ih =>
    intro n out h1 h2 h3 h4
    by_cases hn : n < A + 30
    · match k, h2 with
      | k + 1, h2 =>
        have hl := hR.1
        have f0 : n < Q.length := by omega
        have f1 : n + 1 ≤ A + 30 := hn
        have f2 : 41 - (n + 1) < k := by omega
        have f3 : A + 30 - (n + 1) < k2 := by omega
        have f4 : n ≤ 4000000000000000000 := by omega
        have c1 : (n : Int) < 41 := by omega
        have c2 : (0 : Int) ≤ (n : Int) ∧ (n : Int) < 41 := by omega
        have c3 : (n : Int) < (Q.length : Int) := by omega
        have c4 : (0 : Int) ≤ (n : Int) ∧ (n : Int) < (Q.length : Int) := by omega
        have g0 := nn_get Q hQ n f0
        have g1 := Int.le_trans (nn_le Q n hQ f0) hs
        obtain ⟨f, i1, i2⟩ := he_item K hK A hA (Q.getD n 0) g0 g1
        have c5 : out.length + [((n : Int), f)].length ≤ 1073741824 := by rw [List.length_singleton]; omega
        have c6 : (out ++ [((n : Int), f)]).length ≤ n + 1 := by rw [List.length_append, List.length_singleton]; omega
        have c7 : out.length ≤ n + 1 := by omega
        have hp := power_eq K (by omega) A (by omega)
        rw [spec_HoldEnds.l0, impl_HoldEnds.l0, if_pos c1, if_pos c2, if_pos c3, if_pos c4, endR_get A O Q hR n hn, show ((n : Int)).toNat = n from rfl]
        by_cases hv : 0 < Q.getD n 0
        · rw [if_pos hv, if_pos hv, all_power, hp, some_bind, some_bind, i1, i2, some_bind, some_bind, if_pos c5, if_pos c5, w1 n f4]
          exact ih k (n + 1) _ f1 f2 f3 c6
        · rw [if_neg hv, if_neg hv, w1 n f4]
          exact ih k (n + 1) _ f1 f2 f3 c7
    · have : n = A + 30 := by omega
      subst this
      have hl := hR.1
      rw [impl_HoldEnds.l0, if_neg (by omega)]
      exact ⟨out, he_tail K (A : Int) O (A + 30) hz out k (A + 30) (Nat.le_refl _) (by omega) h2, rfl, by omega⟩
theorem HoldEnds_same (K : Nat) (hK : 2000000000 ≤ K) (a : Ar 6) (b c : Int) : ∃ o d, spec_HoldEnds.f K a b c = some (o, d) ∧ impl_HoldEnds.f K a b c = some (o, d) ∧ o.length ≤ 1000 := by
  unfold spec_HoldEnds.f impl_HoldEnds.f
  obtain ⟨e, e1, e2, e3⟩ := turn_eq K (by omega) a b c
  rw [e1, e2, some_bind, some_bind]
  cases e with
  | false => exact ⟨[], false, rfl, rfl, by simp⟩
  | true =>
    obtain ⟨g1, g2, g3⟩ := e3 rfl
    obtain ⟨A, hA⟩ : ∃ A : Nat, c = A := ⟨c.toNat, by omega⟩
    subst hA
    obtain ⟨O, Q, r1, r2, r3, r4, r5⟩ := ends_eq K (by omega) a g1 b A (by omega)
    have hs := Int.le_trans r5 (pow10 A (by omega))
    obtain ⟨o, s1, s2, s3⟩ := he_l0 K hK A (by omega) O Q r3 r4 hs K K 0 [] (by omega) (by omega) (by omega) (by simp)
    refine ⟨o, true, ?_, ?_, s3⟩
    · rw [if_pos rfl, r1, some_bind, show spec_HoldEnds.l0 K (A : Int) O K 0 [] = some o from s1]; rfl
    · rw [if_pos rfl, r2, some_bind, show impl_HoldEnds.l0 K (A : Int) Q K 0 [] = some o from s2]; rfl
theorem HoldEnds_pure (a0 : Ar 6) (a1 a2 : Int) (_w0 : ∀ z ∈ a0.l, (Lit.int .i64 z).wf = true) (_w1 : (Lit.int .i64 a1).wf = true) (_w2 : (Lit.int .i64 a2).wf = true) : ∃ K, laws_FnExactHoldEnds.f K a0 a1 a2 = some true := by
  refine ⟨2000000000, ?_⟩
  unfold laws_FnExactHoldEnds.f
  obtain ⟨o, c, h1, h2, h3⟩ := HoldEnds_same 2000000000 (by omega) a0 a1 a2
  have t2 := fun a => toA6 2000000000 (by omega) a
  have q2 := eqES 2000000000 o (by omega) (by omega)
  obtain ⟨m, s, m1, m2, m3⟩ := marksE 2000000000 (by omega) o (by omega)
  have i1 : ¬ m < 0 := by omega
  simp only [t2, h1, h2, q2, m1, m2, some_bind, i1, if_true, if_false, beq_self_eq_true]
end Go.Proofs.Ytgmalhohckcogaa.WHoldEnds

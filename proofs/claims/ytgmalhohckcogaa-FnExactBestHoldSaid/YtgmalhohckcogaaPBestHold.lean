/- The plain law: what the walk shows to be computed answers true. Conditions: the numbers are 64-bit. -/
import Derived.Test.YtgmalhohckcogaaWBestHold
import Derived.KernelRfl
namespace Go.Proofs.Ytgmalhohckcogaa.WBestHold
open Go.K Go.RowKit
set_option linter.unusedVariables false
set_option linter.unusedSimpArgs false

theorem w1 (n : Nat) (h : n ≤ 4000000000000000000) : wrap64 ((n : Int) + 1) = ((n + 1 : Nat) : Int) := by rw [w64 (by omega) (by omega)]; omega
def nn (l : List Int) : Prop := ∀ x ∈ l, 0 ≤ x
theorem nn_sum : ∀ l : List Int, nn l → 0 ≤ l.sum
  | [], _ => by simp
  | x :: l, h => by
    have h1 := h x List.mem_cons_self
    have h2 := nn_sum l (fun y hy => h y (List.mem_cons_of_mem _ hy))
    simp only [List.sum_cons]
    omega
theorem nn_get (l : List Int) (h : nn l) (i : Nat) (hi : i < l.length) : 0 ≤ l.getD i 0 := by
  rw [List.getD_eq_getElem?_getD, List.getElem?_eq_getElem hi]
  exact h _ (List.getElem_mem hi)
theorem nn_le : ∀ (l : List Int) (i : Nat), nn l → i < l.length → l.getD i 0 ≤ l.sum
  | [], i, _, hi => by simp at hi
  | x :: l, 0, h, _ => by
    have h2 := nn_sum l (fun y hy => h y (List.mem_cons_of_mem _ hy))
    simp only [List.getD_cons_zero, List.sum_cons]
    omega
  | x :: l, i + 1, h, hi => by
    have h1 := h x List.mem_cons_self
    have h2 := nn_le l i (fun y hy => h y (List.mem_cons_of_mem _ hy)) (by simpa using hi)
    simp only [List.getD_cons_succ, List.sum_cons]
    omega
theorem sum_set : ∀ (l : List Int) (i : Nat) (v : Int), i < l.length → (l.set i (l.getD i 0 + v)).sum = l.sum + v
  | [], i, v, hi => by simp at hi
  | x :: l, 0, v, _ => by simp only [List.set_cons_zero, List.getD_cons_zero, List.sum_cons]; omega
  | x :: l, i + 1, v, hi => by
    have h2 := sum_set l i v (by simpa using hi)
    simp only [List.set_cons_succ, List.getD_cons_succ, List.sum_cons, h2]
    omega
theorem nn_set (l : List Int) (i : Nat) (v : Int) (h : nn l) (hv : 0 ≤ v) : nn (l.set i v) := by
  intro x hx
  rcases List.mem_or_eq_of_mem_set hx with h1 | h1
  · exact h x h1
  · omega
theorem nn_rep (n : Nat) : nn (List.replicate n 0) := by
  intro x hx
  rw [(List.mem_replicate.1 hx).2]
  omega
theorem sum_rep (n : Nat) : (List.replicate n (0 : Int)).sum = 0 := by
  induction n with
  | zero => rfl
  | succ n ih => rw [List.replicate_succ, List.sum_cons, ih]; rfl
theorem sum_take (l : List Int) (n : Nat) (h : n < l.length) : (l.take (n + 1)).sum = (l.take n).sum + l.getD n 0 := by
  rw [List.take_add_one, List.getD_eq_getElem?_getD, List.getElem?_eq_getElem h, List.sum_append]
  simp only [Option.toList_some, List.sum_cons, List.sum_nil, Int.add_zero, Option.getD_some]
theorem in_eq (K : Nat) (a lo hi : Int) : impl_within.f K a lo hi = some (decide (lo ≤ a ∧ a ≤ hi)) := by
  unfold impl_within.f
  by_cases h : lo ≤ a <;> simp [h]
theorem in_within : spec_l1In.f = impl_within.f := by kernel_rfl
def faceB (a : Int) : Bool := decide (0 ≤ a ∧ a ≤ 30)
theorem isFace_eq (K : Nat) (_hK : 2000000 ≤ K) (a : Int) : impl_isFace.f K a = some (faceB a) := by
  unfold impl_isFace.f
  rw [in_eq]; rfl
theorem allFace_l0 (K : Nat) (hK : 2000000 ≤ K) (l : List Int) (h : l.length ≤ 1073741824) : ∀ (k n : Nat), n ≤ l.length → l.length - n < k →
    (slices_IndexFunc_int_int__areAll_int_1_isFace.l0 K l k (n : Int) = some (Sum.inl ()) ∧ (l.drop n).all faceB = true) ∨ (∃ i : Int, 0 ≤ i ∧ slices_IndexFunc_int_int__areAll_int_1_isFace.l0 K l k (n : Int) = some (Sum.inr i) ∧ (l.drop n).all faceB = false) := by
  intro k
  induction k with
  | zero => intro n h1 h2; omega
  | succ k ih =>
    intro n h1 h2
    rw [slices_IndexFunc_int_int__areAll_int_1_isFace.l0]
    by_cases hn : (n : Int) < (l.length : Int)
    · have hn' : n < l.length := by omega
      have hnn : ((n : Int)).toNat = n := by omega
      have hd : l.drop n = l[n] :: l.drop (n + 1) := List.drop_eq_getElem_cons hn'
      have hg : l.getD n (0 : Int) = l[n] := by rw [List.getD_eq_getElem?_getD, List.getElem?_eq_getElem hn']; rfl
      rw [if_pos hn, if_pos (by omega), w1 n (by omega), hnn, hg, impl_areAll_int_1__isFace.f, isFace_eq K hK, hd]
      simp only [some_bind, List.all_cons]
      rcases Bool.eq_false_or_eq_true (faceB l[n]) with e | e
      · rw [e]
        simp only [Bool.not_true, Bool.false_eq_true, if_false, Bool.true_and]
        exact ih (n + 1) (by omega) (by omega)
      · rw [e]
        simp only [Bool.not_false, if_true, Bool.false_and]
        exact .inr ⟨_, by omega, rfl, trivial⟩
    · rw [if_neg hn]
      have : n = l.length := by omega
      subst this
      exact .inl ⟨rfl, by simp⟩
theorem allFace_eq (K : Nat) (hK : 2000000 ≤ K) (l : List Int) (h : l.length ≤ 1048576) : impl_areAll_int__isFace.f K l = some (l.all faceB) := by
  unfold impl_areAll_int__isFace.f slices_ContainsFunc_int_int__areAll_int_1_isFace.f slices_IndexFunc_int_int__areAll_int_1_isFace.f
  rcases allFace_l0 K hK l (by omega) K 0 (by omega) (by omega) with ⟨h1, h2⟩ | ⟨i, hi, h1, h2⟩
  · rw [show (0 : Int) = ((0 : Nat) : Int) from rfl, h1]
    simp only [some_bind, List.drop_zero] at h2 ⊢
    rw [h2]; rfl
  · rw [show (0 : Int) = ((0 : Nat) : Int) from rfl, h1]
    simp only [some_bind, List.drop_zero] at h2 ⊢
    rw [h2]
    have : decide (((0 : Nat) : Int) ≤ i) = true := decide_eq_true (by simpa using hi)
    rw [this]; rfl
def dieP (a : Ar 6) : Prop := ((0 ≤ a.get 0 ∧ a.get 0 ≤ 30) ∧ (0 ≤ a.get 1 ∧ a.get 1 ≤ 30) ∧ (0 ≤ a.get 2 ∧ a.get 2 ≤ 30) ∧ (0 ≤ a.get 3 ∧ a.get 3 ≤ 30) ∧ (0 ≤ a.get 4 ∧ a.get 4 ≤ 30) ∧ (0 ≤ a.get 5 ∧ a.get 5 ≤ 30)) ∧ (a.get 0 ≤ a.get 1 ∧ a.get 1 ≤ a.get 2 ∧ a.get 2 ≤ a.get 3 ∧ a.get 3 ≤ a.get 4 ∧ a.get 4 ≤ a.get 5)
instance (a : Ar 6) : Decidable (dieP a) := by unfold dieP; infer_instance
def dieB (a : Ar 6) : Bool := decide (dieP a)
theorem die_get (x y z u v w : Int) : (Ar.get (⟨[x, y, z, u, v, w], rfl⟩ : Ar 6) 0 = x ∧ Ar.get (⟨[x, y, z, u, v, w], rfl⟩ : Ar 6) 1 = y ∧ Ar.get (⟨[x, y, z, u, v, w], rfl⟩ : Ar 6) 2 = z) ∧ (Ar.get (⟨[x, y, z, u, v, w], rfl⟩ : Ar 6) 3 = u ∧ Ar.get (⟨[x, y, z, u, v, w], rfl⟩ : Ar 6) 4 = v ∧ Ar.get (⟨[x, y, z, u, v, w], rfl⟩ : Ar 6) 5 = w) := ⟨⟨rfl, rfl, rfl⟩, rfl, rfl, rfl⟩
set_option maxHeartbeats 4000000 in
theorem die_spec (K : Nat) (hK : 2000000 ≤ K) (a : Ar 6) : spec_l2Die.f K a = some (dieB a) := by
  obtain ⟨k, rfl⟩ := Nat.exists_eq_add_of_le (show 8 ≤ K by omega)
  obtain ⟨x, y, z, u, v, w, rfl⟩ := Ar.cases6 a
  have e : 8 + k = k + 1 + 1 + 1 + 1 + 1 + 1 + 1 + 1 := by omega
  unfold spec_l2Die.f dieB dieP
  obtain ⟨⟨g0, g1, g2⟩, g3, g4, g5⟩ := die_get x y z u v w
  rw [e]
  simp only [spec_l2Die.l0, in_within, in_eq, some_bind, show (0 : Int) < 6 by decide, show wrap64 (0 + 1) = 1 by decide +kernel, show wrap64 (1 + 1) = 2 by decide +kernel, show wrap64 (2 + 1) = 3 by decide +kernel, show wrap64 (3 + 1) = 4 by decide +kernel, show wrap64 (4 + 1) = 5 by decide +kernel, show wrap64 (5 + 1) = 6 by decide +kernel, show wrap64 (1 - 1) = 0 by decide +kernel, show wrap64 (2 - 1) = 1 by decide +kernel, show wrap64 (3 - 1) = 2 by decide +kernel, show wrap64 (4 - 1) = 3 by decide +kernel, show wrap64 (5 - 1) = 4 by decide +kernel, g0, g1, g2, g3, g4, g5, decide_eq_true_eq]
  simp
  repeat' split
  all_goals simp_all
  all_goals omega
set_option maxHeartbeats 4000000 in
theorem die_impl (K : Nat) (hK : 2000000 ≤ K) (a : Ar 6) : impl_IsDie.f K a = some (dieB a) := by
  obtain ⟨x, y, z, u, v, w, rfl⟩ := Ar.cases6 a
  unfold impl_IsDie.f dieB dieP
  rw [allFace_eq K hK _ (by simp)]
  obtain ⟨k, rfl⟩ := Nat.exists_eq_add_of_le (show 8 ≤ K by omega)
  have e : 8 + k = k + 1 + 1 + 1 + 1 + 1 + 1 + 1 + 1 := by omega
  obtain ⟨⟨g0, g1, g2⟩, g3, g4, g5⟩ := die_get x y z u v w
  unfold slices_IsSorted_int_int.f
  rw [e]
  simp [slices_IsSorted_int_int.l0, cmp_Less_int.f, cmp_isNaN_int.f, some_bind, show wrap64 (6 - 1) = 5 by decide +kernel, show wrap64 5 = 5 by decide +kernel, show wrap64 (5 - 1) = 4 by decide +kernel, show wrap64 (4 - 1) = 3 by decide +kernel, show wrap64 (3 - 1) = 2 by decide +kernel, show wrap64 (2 - 1) = 1 by decide +kernel, show wrap64 (1 - 1) = 0 by decide +kernel, show wrap64 4 = 4 by decide +kernel, show wrap64 3 = 3 by decide +kernel, show wrap64 2 = 2 by decide +kernel, show wrap64 1 = 1 by decide +kernel, show wrap64 0 = 0 by decide +kernel, g0, g1, g2, g3, g4, g5, faceB]
  repeat' split
  all_goals simp_all
  all_goals omega
theorem runner_eq (K : Nat) (hK : 2000000 ≤ K) (a : Ar 6) : spec_l7Die.f K a = some (dieB a && decide (0 < a.get 0)) ∧ impl_isRunner.f K a = some (dieB a && decide (0 < a.get 0)) := by
  unfold spec_l7Die.f impl_isRunner.f
  rw [die_spec K hK, die_impl K hK]
  simp only [some_bind]
  cases dieB a <;> simp
theorem turn_eq (K : Nat) (hK : 2000000 ≤ K) (a : Ar 6) (b c : Int) : ∃ r, spec_l7Turn.f K a b c = some r ∧ impl_isTurn.f K a b c = some r ∧ (r = true → (dieB a = true ∧ 0 < a.get 0) ∧ (1 ≤ b ∧ b ≤ 30) ∧ 1 ≤ c ∧ c ≤ 10) := by
  unfold spec_l7Turn.f impl_isTurn.f
  rw [(runner_eq K hK a).1, (runner_eq K hK a).2, in_within, in_eq]
  simp only [some_bind]
  by_cases h1 : (dieB a && decide (0 < a.get 0)) = true
  · by_cases h2 : 1 ≤ b ∧ b ≤ 30
    · refine ⟨decide (1 ≤ c ∧ c ≤ 10), ?_, ?_, ?_⟩
      · simp [h1, h2, in_eq]
      · simp [h1, h2, in_eq]
      · simp only [decide_eq_true_eq]
        intro h3
        simp only [Bool.and_eq_true, decide_eq_true_eq] at h1
        exact ⟨h1, h2, h3⟩
    · exact ⟨false, by simp [h1, h2], by simp [h1, h2], by simp⟩
  · exact ⟨false, by simp [h1], by simp [h1], by simp⟩
theorem all_power : spec_l2All.f = impl_power.f := by kernel_rfl
theorem pow_lt (n : Nat) (h : n ≤ 22) : (6 : Int) ^ n ≤ 131621703842267136 := by
  have : (6 : Nat) ^ n ≤ 6 ^ 22 := Nat.pow_le_pow_right (by omega) h
  have h2 : ((6 ^ n : Nat) : Int) ≤ ((6 ^ 22 : Nat) : Int) := by exact_mod_cast this
  simpa using h2
theorem pow_pos (n : Nat) : (1 : Int) ≤ 6 ^ n := by
  have : 1 ≤ (6 : Nat) ^ n := Nat.one_le_pow _ _ (by omega)
  have h2 : ((1 : Nat) : Int) ≤ ((6 ^ n : Nat) : Int) := by exact_mod_cast this
  simpa using h2
theorem power_l0 (K : Nat) (n : Nat) (hn : n ≤ 22) : ∀ (k i : Nat), i ≤ n → n - i < k → impl_power.l0 K (n : Int) k ((6 : Int) ^ i) (i : Int) = some ((6 : Int) ^ n) := by
  intro k
  induction k with
  | zero => intro i h1 h2; omega
  | succ k ih =>
    intro i h1 h2
    rw [impl_power.l0]
    by_cases h : (i : Int) < (n : Int)
    · have hp := pow_lt (i + 1) (by omega)
      have hq := pow_pos (i + 1)
      have e : (6 : Int) ^ i * 6 = 6 ^ (i + 1) := (Int.pow_succ 6 i).symm
      rw [if_pos h, e, w64 (n := (6 : Int) ^ (i + 1)) (by omega) (by omega), w64 (n := (i : Int) + 1) (by omega) (by omega), show (i : Int) + 1 = ((i + 1 : Nat) : Int) by omega]
      exact ih (i + 1) (by omega) (by omega)
    · rw [if_neg h, show i = n by omega]
theorem power_eq (K : Nat) (hK : 30 ≤ K) (n : Nat) (hn : n ≤ 22) : impl_power.f K (n : Int) = some ((6 : Int) ^ n) := by
  unfold impl_power.f
  rw [show impl_power.l0 K (n : Int) K 1 0 = some ((6 : Int) ^ n) from power_l0 K n hn K 0 (by omega) (by omega)]
  rfl
def endR (A : Nat) (O : Ar 41) (Q : List Int) : Prop := Q.length = A + 30 ∧ O.l = Q ++ List.replicate (11 - A) 0
theorem endR_get (A : Nat) (O : Ar 41) (Q : List Int) (h : endR A O Q) (i : Nat) (hi : i < A + 30) : O.get (i : Int) = Q.getD i 0 := by
  unfold Ar.get
  rw [h.2, show ((i : Int)).toNat = i by omega, List.getD_eq_getElem?_getD, List.getD_eq_getElem?_getD, List.getElem?_append_left (by rw [h.1]; exact hi)]
theorem endR_set (A : Nat) (O : Ar 41) (Q : List Int) (h : endR A O Q) (i : Nat) (hi : i < A + 30) (v : Int) : endR A (O.set (i : Int) v) (Q.set i v) := by
  refine ⟨by rw [List.length_set]; exact h.1, ?_⟩
  unfold Ar.set
  simp only
  rw [h.2, show ((i : Int)).toNat = i by omega, List.set_append_left _ _ (by rw [h.1]; exact hi)]
theorem ends_l12 (K : Nat) (hK : 1000 ≤ K) (a : Ar 6) (ha : ∀ i : Int, 0 ≤ i → i < 6 → 1 ≤ a.get i ∧ a.get i ≤ 30) (bad : Int) (A : Nat) (hA : 1 ≤ A ∧ A ≤ 10) (x : Nat) (hx : 1 ≤ x ∧ x ≤ A) (cur : List Int) (hcur : nn cur) (hlen : cur.length = A) (s : Nat) (hs : s < A) (P : Int) (hP : P = 6 ^ (A - x)) :
    ∀ (k n : Nat) (O : Ar 41) (Q N : List Int), n ≤ 6 → 6 - n < k → endR A O Q → nn Q → nn N → N.length = A → Q.sum + N.sum * P + (6 - n) * (cur.getD s 0 * P) ≤ 60466176 →
    ∃ O' Q' N', spec_l7Ends.l12 K a bad (A : Int) (x : Int) cur (s : Int) k (n : Int) O N = some (O', N') ∧ impl_ends.l12 K a bad (A : Int) (x : Int) cur (s : Int) k (n : Int) Q N = some (Q', N') ∧ endR A O' Q' ∧ nn Q' ∧ nn N' ∧ N'.length = A ∧ Q'.sum + N'.sum * P = Q.sum + N.sum * P + (6 - n) * (cur.getD s 0 * P) := by
  have hpow : impl_power.f K (wrap64 ((A : Int) - (x : Int))) = some P := by
    rw [w64 (by omega) (by omega), show (A : Int) - (x : Int) = ((A - x : Nat) : Int) by omega, power_eq K (by omega) (A - x) (by omega), hP]
  have hP1 : 1 ≤ P := by rw [hP]; exact pow_pos _
  intro k
  induction k with
  | zero => intro n O Q N h1 h2; omega
  | succ k ih =>
    intro n O Q N h1 h2 h3 h4 h5 h6 h7
    rw [spec_l7Ends.l12, impl_ends.l12]
    by_cases hn : (n : Int) < 6
    · have c1 : (0 : Int) ≤ (n : Int) ∧ (n : Int) < 6 := by omega
      have c2 : (0 : Int) ≤ (s : Int) ∧ (s : Int) < (cur.length : Int) := by omega
      have hf := ha (n : Int) (by omega) (by omega)
      have hss : ((s : Int)).toNat = s := by omega
      have hc0 : 0 ≤ cur.getD s 0 := nn_get cur hcur s (by omega)
      have hcP : cur.getD s 0 ≤ cur.getD s 0 * P := by
        have := Int.mul_le_mul_of_nonneg_left hP1 hc0
        omega
      have hQ0 := nn_sum Q h4
      have hN0 := nn_sum N h5
      have hNP : N.sum ≤ N.sum * P := by
        have := Int.mul_le_mul_of_nonneg_left hP1 hN0
        omega
      have hst : (6 - (n : Int)) * (cur.getD s 0 * P) = cur.getD s 0 * P + (6 - ((n + 1 : Nat) : Int)) * (cur.getD s 0 * P) := by
        rw [show (6 : Int) - (n : Int) = 1 + (6 - ((n + 1 : Nat) : Int)) by omega, Int.add_mul, Int.one_mul]
      have hrest : 0 ≤ (6 - ((n + 1 : Nat) : Int)) * (cur.getD s 0 * P) := Int.mul_nonneg (by omega) (by omega)
      have e1 : wrap64 ((s : Int) + a.get (n : Int)) = (s : Int) + a.get (n : Int) := w64 (by omega) (by omega)
      have e2 : wrap64 (cur.getD s 0 * P) = cur.getD s 0 * P := w64 (by omega) (by omega)
      simp only [if_pos hn, if_pos c1, if_pos c2, hss, e1, all_power, hpow, some_bind, e2, w1 n (by omega)]
      -- a place in the results
      have put : ∀ i : Nat, i < A + 30 → ∃ O' Q' N', spec_l7Ends.l12 K a bad (A : Int) (x : Int) cur (s : Int) k ((n + 1 : Nat) : Int) (O.set (i : Int) (wrap64 (O.get (i : Int) + cur.getD s 0 * P))) N = some (O', N') ∧ impl_ends.l12 K a bad (A : Int) (x : Int) cur (s : Int) k ((n + 1 : Nat) : Int) (Q.set i (wrap64 (Q.getD i 0 + cur.getD s 0 * P))) N = some (Q', N') ∧ endR A O' Q' ∧ nn Q' ∧ nn N' ∧ N'.length = A ∧ Q'.sum + N'.sum * P = Q.sum + N.sum * P + (6 - n) * (cur.getD s 0 * P) := by
        intro i hi
        have g1 := nn_get Q h4 i (by rw [h3.1]; exact hi)
        have g2 := nn_le Q i h4 (by rw [h3.1]; exact hi)
        have e3 : wrap64 (Q.getD i 0 + cur.getD s 0 * P) = Q.getD i 0 + cur.getD s 0 * P := w64 (by omega) (by omega)
        rw [endR_get A O Q h3 i hi, e3]
        have hsum := sum_set Q i (cur.getD s 0 * P) (by rw [h3.1]; exact hi)
        obtain ⟨O', Q', N', r1, r2, r3, r4, r5, r6, r7⟩ := ih (n + 1) (O.set (i : Int) (Q.getD i 0 + cur.getD s 0 * P)) (Q.set i (Q.getD i 0 + cur.getD s 0 * P)) N (by omega) (by omega) (endR_set A O Q h3 i hi _) (nn_set Q i _ h4 (by omega)) h5 h6 (by rw [hsum]; omega)
        exact ⟨O', Q', N', r1, r2, r3, r4, r5, r6, by rw [r7, hsum]; omega⟩
      by_cases hb : a.get (n : Int) = bad
      · have c3 : (0 : Int) ≤ 0 ∧ (0 : Int) < (Q.length : Int) := by rw [h3.1]; omega
        rw [if_pos hb, if_pos hb, if_pos c3, show ((0 : Int)).toNat = 0 from rfl]
        exact put 0 (by omega)
      · rw [if_neg hb, if_neg hb]
        obtain ⟨i, hi⟩ : ∃ i : Nat, (s : Int) + a.get (n : Int) = i := ⟨((s : Int) + a.get (n : Int)).toNat, by omega⟩
        rw [hi, show ((i : Int)).toNat = i by omega]
        by_cases hge : (A : Int) ≤ (i : Int)
        · have c3 : (0 : Int) ≤ (i : Int) ∧ (i : Int) < 41 := by omega
          have c4 : (0 : Int) ≤ (i : Int) ∧ (i : Int) < (Q.length : Int) := by rw [h3.1]; omega
          rw [if_pos hge, if_pos hge, if_pos c3, if_pos c4]
          exact put i (by omega)
        · have c3 : (0 : Int) ≤ (i : Int) ∧ (i : Int) < (N.length : Int) := by omega
          have g1 := nn_get N h5 i (by omega)
          have g2 := nn_le N i h5 (by omega)
          have e3 : wrap64 (N.getD i 0 + cur.getD s 0) = N.getD i 0 + cur.getD s 0 := w64 (by omega) (by omega)
          rw [if_neg hge, if_neg hge, if_pos c3, if_pos c3, e3]
          have hsum := sum_set N i (cur.getD s 0) (by omega)
          obtain ⟨O', Q', N', r1, r2, r3, r4, r5, r6, r7⟩ := ih (n + 1) O Q (N.set i (N.getD i 0 + cur.getD s 0)) (by omega) (by omega) h3 h4 (nn_set N i _ h5 (by omega)) (by rw [List.length_set]; exact h6) (by rw [hsum, Int.add_mul]; omega)
          exact ⟨O', Q', N', r1, r2, r3, r4, r5, r6, by rw [r7, hsum, Int.add_mul]; omega⟩
    · have : n = 6 := by omega
      subst this
      rw [if_neg hn, if_neg hn]
      exact ⟨O, Q, N, rfl, rfl, h3, h4, h5, h6, by simp⟩
theorem ends_l11 (K : Nat) (hK : 1000 ≤ K) (a : Ar 6) (ha : ∀ i : Int, 0 ≤ i → i < 6 → 1 ≤ a.get i ∧ a.get i ≤ 30) (bad : Int) (A : Nat) (hA : 1 ≤ A ∧ A ≤ 10) (x : Nat) (hx : 1 ≤ x ∧ x ≤ A) (cur : List Int) (hcur : nn cur) (hlen : cur.length = A) (P : Int) (hP : P = 6 ^ (A - x)) (T : Int) (hT : T ≤ 60466176) :
    ∀ (k s : Nat) (O : Ar 41) (Q N : List Int), s ≤ A → A - s < k → endR A O Q → nn Q → nn N → N.length = A → Q.sum + N.sum * P + 6 * P * (cur.drop s).sum = T →
    ∃ O' Q' N', spec_l7Ends.l11 K a bad (A : Int) (x : Int) cur k (s : Int) O N = some (O', N') ∧ impl_ends.l11 K a bad (A : Int) (x : Int) cur k (s : Int) Q N = some (Q', N') ∧ endR A O' Q' ∧ nn Q' ∧ nn N' ∧ N'.length = A ∧ Q'.sum + N'.sum * P = T := by
  have hP1 : 1 ≤ P := by rw [hP]; exact pow_pos _
  intro k
  induction k with
  | zero => intro s O Q N h1 h2; omega
  | succ k ih =>
    intro s O Q N h1 h2 h3 h4 h5 h6 h7
    rw [spec_l7Ends.l11, impl_ends.l11]
    by_cases hs : (s : Int) < (A : Int)
    · have hs' : s < cur.length := by omega
      have c1 : (s : Int) < (cur.length : Int) := by omega
      have c2 : (0 : Int) ≤ (s : Int) ∧ (s : Int) < (cur.length : Int) := by omega
      have hd : cur.drop s = cur.getD s 0 :: cur.drop (s + 1) := by
        rw [List.drop_eq_getElem_cons hs', List.getD_eq_getElem?_getD, List.getElem?_eq_getElem hs']; rfl
      have hr : 0 ≤ (cur.drop (s + 1)).sum := nn_sum _ (fun y hy => hcur y (List.mem_of_mem_drop hy))
      have hr2 : 0 ≤ 6 * P * (cur.drop (s + 1)).sum := Int.mul_nonneg (by omega) hr
      have e0 : 6 * P * (cur.drop s).sum = 6 * (cur.getD s 0 * P) + 6 * P * (cur.drop (s + 1)).sum := by
        rw [hd, List.sum_cons, Int.mul_add, Int.mul_assoc 6 P (cur.getD s 0), Int.mul_comm P (cur.getD s 0)]
      obtain ⟨O', Q', N', r1, r2, r3, r4, r5, r6, r7⟩ := ends_l12 K hK a ha bad A hA x hx cur hcur hlen s (by omega) P hP K 0 O Q N (by omega) (by omega) h3 h4 h5 h6 (by rw [show ((0 : Nat) : Int) = 0 from rfl, Int.sub_zero]; omega)
      have r1' : spec_l7Ends.l12 K a bad (A : Int) (x : Int) cur (s : Int) K 0 O N = some (O', N') := r1
      have r2' : impl_ends.l12 K a bad (A : Int) (x : Int) cur (s : Int) K 0 Q N = some (Q', N') := r2
      have r7' : Q'.sum + N'.sum * P = Q.sum + N.sum * P + 6 * (cur.getD s 0 * P) := by simpa using r7
      simp only [if_pos hs, if_pos c1, if_pos c2, r1', r2', some_bind, w1 s (by omega)]
      exact ih (s + 1) O' Q' N' (by omega) (by omega) r3 r4 r5 r6 (by omega)
    · have : s = A := by omega
      subst this
      rw [if_neg hs, if_neg (by omega)]
      have hz : cur.drop s = [] := List.drop_of_length_le (by omega)
      rw [hz] at h7
      exact ⟨O, Q, N, rfl, rfl, h3, h4, h5, h6, by simpa using h7⟩
theorem ends_l8 (K : Nat) (hK : 1000 ≤ K) (a : Ar 6) (ha : ∀ i : Int, 0 ≤ i → i < 6 → 1 ≤ a.get i ∧ a.get i ≤ 30) (bad : Int) (A : Nat) (hA : 1 ≤ A ∧ A ≤ 10) :
    ∀ (k x : Nat) (O : Ar 41) (Q cur : List Int), 1 ≤ x → x ≤ A + 1 → A + 1 - x < k → endR A O Q → nn Q → nn cur → cur.length = A → Q.sum + cur.sum * 6 ^ (A + 1 - x) = 6 ^ A →
    ∃ O' Q', spec_l7Ends.l8 K a bad (A : Int) k (x : Int) O cur = some O' ∧ impl_ends.l8 K a bad (A : Int) k (x : Int) Q cur = some Q' ∧ endR A O' Q' ∧ nn Q' ∧ Q'.sum ≤ 6 ^ A := by
  intro k
  induction k with
  | zero => intro x O Q cur h0 h1 h2; omega
  | succ k ih =>
    intro x O Q cur h0 h1 h2 h3 h4 h5 h6 h7
    rw [spec_l7Ends.l8, impl_ends.l8]
    have hTT : (6 : Int) ^ A ≤ 60466176 := by
      rcases (show A = 1 ∨ A = 2 ∨ A = 3 ∨ A = 4 ∨ A = 5 ∨ A = 6 ∨ A = 7 ∨ A = 8 ∨ A = 9 ∨ A = 10 by omega) with rfl | rfl | rfl | rfl | rfl | rfl | rfl | rfl | rfl | rfl <;> decide
    by_cases hx : (x : Int) ≤ (A : Int)
    · have e6 : (6 : Int) ^ (A + 1 - x) = 6 * 6 ^ (A - x) := by
        rw [show A + 1 - x = (A - x) + 1 by omega, Int.pow_succ, Int.mul_comm]
      obtain ⟨O', Q', N', r1, r2, r3, r4, r5, r6, r7⟩ := ends_l11 K hK a ha bad A hA x (by omega) cur h5 h6 (6 ^ (A - x)) rfl (6 ^ A) hTT K 0 O Q (List.replicate A 0) (by omega) (by omega) h3 h4 (nn_rep A) (by simp) (by
        rw [sum_rep, List.drop_zero, ← h7, e6, Int.mul_comm cur.sum]; simp)
      have r1' : spec_l7Ends.l11 K a bad (A : Int) (x : Int) cur K 0 O (List.replicate A 0) = some (O', N') := r1
      have r2' : impl_ends.l11 K a bad (A : Int) (x : Int) cur K 0 Q (List.replicate A 0) = some (Q', N') := r2
      simp only [if_pos hx, Int.toNat_natCast, r1', r2', some_bind, w1 x (by omega)]
      exact ih (x + 1) O' Q' N' (by omega) (by omega) (by omega) r3 r4 r5 r6 (by rw [show A + 1 - (x + 1) = A - x by omega]; exact r7)
    · rw [if_neg hx, if_neg hx]
      have hc : 0 ≤ cur.sum * 6 ^ (A + 1 - x) := Int.mul_nonneg (nn_sum cur h5) (by have := pow_pos (A + 1 - x); omega)
      exact ⟨O, Q, rfl, rfl, h3, h4, by omega⟩
theorem runner_faces (a : Ar 6) (h : (dieB a = true ∧ 0 < a.get 0)) : ∀ i : Int, 0 ≤ i → i < 6 → 1 ≤ a.get i ∧ a.get i ≤ 30 := by
  obtain ⟨h1, h2⟩ := h
  have h3 := of_decide_eq_true h1
  unfold dieP at h3
  intro i h0 h6
  rcases (show i = 0 ∨ i = 1 ∨ i = 2 ∨ i = 3 ∨ i = 4 ∨ i = 5 by omega) with rfl | rfl | rfl | rfl | rfl | rfl <;> omega
theorem ends_eq (K : Nat) (hK : 1000 ≤ K) (a : Ar 6) (ha : dieB a = true ∧ 0 < a.get 0) (bad : Int) (A : Nat) (hA : 1 ≤ A ∧ A ≤ 10) : ∃ O Q, spec_l7Ends.f K a bad (A : Int) = some O ∧ impl_ends.f K a bad (A : Int) = some Q ∧ endR A O Q ∧ nn Q ∧ Q.sum ≤ 6 ^ A := by
  have e1 : wrap64 ((A : Int) + 30) = ((A + 30 : Nat) : Int) := by rw [w64 (by omega) (by omega)]; omega
  have c1 : (0 : Int) ≤ ((A + 30 : Nat) : Int) ∧ ((A + 30 : Nat) : Int) ≤ 1073741824 := by omega
  have c2 : (0 : Int) ≤ (A : Int) ∧ (A : Int) ≤ 1073741824 := by omega
  have c3 : (0 : Int) ≤ 0 ∧ (0 : Int) < ((List.replicate A (0 : Int)).length : Int) := by simp; omega
  have hs : ((List.replicate A (0 : Int)).set 0 1).sum = 1 := by
    have := sum_set (List.replicate A 0) 0 1 (by simp; omega)
    rw [sum_rep] at this
    have g : (List.replicate A (0 : Int)).getD 0 0 + 1 = 1 := by
      rw [List.getD_eq_getElem?_getD, List.getElem?_replicate]
      split <;> rfl
    rw [g] at this
    exact this
  have hz : (Ar.zero 41).l = List.replicate (A + 30) 0 ++ List.replicate (11 - A) 0 := by
    rw [List.replicate_append_replicate, show A + 30 + (11 - A) = 41 by omega]
    rfl
  obtain ⟨O, Q, r1, r2, r3, r4, r5⟩ := ends_l8 K hK a (runner_faces a ha) bad A hA K 1 (Ar.zero 41) (List.replicate (A + 30) 0) ((List.replicate A 0).set 0 1) (by omega) (by omega) (by omega) ⟨by simp, hz⟩ (nn_rep _) (nn_set _ _ _ (nn_rep _) (by omega)) (by simp) (by rw [hs, sum_rep]; simp)
  have r1' : spec_l7Ends.l8 K a bad (A : Int) K 1 (Ar.zero 41) ((List.replicate A 0).set 0 1) = some O := r1
  have r2' : impl_ends.l8 K a bad (A : Int) K 1 (List.replicate (A + 30) 0) ((List.replicate A 0).set 0 1) = some Q := r2
  unfold spec_l7Ends.f impl_ends.f
  simp only [e1, if_pos c1, if_pos c2, Int.toNat_natCast, if_pos c3, show ((0 : Int)).toNat = 0 from rfl, r1', r2', some_bind]
  exact ⟨O, Q, rfl, rfl, r3, r4, r5⟩
def frac (a b : Nat) : Ar 2 := ⟨[((a / Nat.gcd a b : Nat) : Int), ((b / Nat.gcd a b : Nat) : Int)], rfl⟩
theorem gcd_l0 (K : Nat) : ∀ (k a b : Nat), b < k → spec_l2Cut.l0 K k (a : Int) (b : Int) = some ((Nat.gcd a b : Nat) : Int) ∧ impl_fraction.l0 K k (a : Int) (b : Int) = some ((Nat.gcd a b : Nat) : Int) := by
  intro k
  induction k with
  | zero => intro a b h; omega
  | succ k ih =>
    intro a b h
    rw [spec_l2Cut.l0, impl_fraction.l0]
    by_cases hb : b = 0
    · subst hb
      simp
    · have h1 : (0 : Int) < (b : Int) := by omega
      have h2 : ¬ (b : Int) = 0 := by omega
      have h3 : (b : Int) ≠ 0 := h2
      have h4 : ((a : Int)).tmod (b : Int) = ((a % b : Nat) : Int) := by
        rw [Int.tmod_eq_emod_of_nonneg (by omega)]; rfl
      have h5 : a % b < b := Nat.mod_lt _ (by omega)
      rw [if_pos h1, if_neg h2, if_pos h3, if_pos h3, h4]
      obtain ⟨i1, i2⟩ := ih b (a % b) (by omega)
      rw [i1, i2]
      have : Nat.gcd b (a % b) = Nat.gcd a b := by
        rw [Nat.gcd_comm b, ← Nat.gcd_rec, Nat.gcd_comm]
      rw [this]
      exact ⟨rfl, rfl⟩
theorem frac_eq (K : Nat) (a b : Nat) (h : 0 < a ∨ 0 < b) (hK : b < K) (ha : a ≤ 4000000000000000000) (hb : b ≤ 4000000000000000000) : spec_l2Cut.f K (a : Int) (b : Int) = some (frac a b) ∧ impl_fraction.f K (a : Int) (b : Int) = some (frac a b) := by
  obtain ⟨h1, h2⟩ := gcd_l0 K K a b hK
  have hg : 0 < Nat.gcd a b := by
    rcases h with h | h
    · exact Nat.gcd_pos_of_pos_left _ h
    · exact Nat.gcd_pos_of_pos_right _ h
  unfold spec_l2Cut.f impl_fraction.f
  rw [h1, h2]
  simp only [some_bind]
  have h3 : spec_l1Most.f K ((Nat.gcd a b : Nat) : Int) 1 = some ((Nat.gcd a b : Nat) : Int) := by
    unfold spec_l1Most.f
    by_cases h : (1 : Int) < ((Nat.gcd a b : Nat) : Int)
    · rw [if_pos h]
    · rw [if_neg h, show ((Nat.gcd a b : Nat) : Int) = 1 by omega]
  have h4 : ((Nat.gcd a b : Nat) : Int) ≠ 0 := by omega
  have d1 : ∀ m : Nat, m ≤ 4000000000000000000 → wrap64 ((m : Int).tdiv ((Nat.gcd a b : Nat) : Int)) = ((m / Nat.gcd a b : Nat) : Int) := by
    intro m hm
    have e : (m : Int).tdiv ((Nat.gcd a b : Nat) : Int) = ((m / Nat.gcd a b : Nat) : Int) := by
      rw [Int.tdiv_eq_ediv_of_nonneg (by omega)]; rfl
    have := Nat.div_le_self m (Nat.gcd a b)
    rw [e]
    generalize m / Nat.gcd a b = q at *
    exact w64 (by omega) (by omega)
  rw [h3]
  simp only [some_bind, if_pos h4, d1 a ha, d1 b hb]
  exact ⟨rfl, rfl⟩
theorem frac_scale (c a b : Nat) (hc : 0 < c) : frac (c * a) (c * b) = frac a b := by
  unfold frac
  apply Ar.ext
  simp only [Nat.gcd_mul_left, Nat.mul_div_mul_left _ _ hc]
theorem frac_get (a b : Nat) : (frac a b).get 0 = ((a / Nat.gcd a b : Nat) : Int) ∧ (frac a b).get 1 = ((b / Nat.gcd a b : Nat) : Int) := ⟨rfl, rfl⟩
theorem frac_less (K : Nat) (a c D : Nat) (hD : 0 < D) (ha : a ≤ 10000000000) (hc : c ≤ 10000000000) (hDD : D ≤ 100000000) : spec_l2Less.f K (frac a D) (frac c D) = some (decide (a < c)) := by
  have g1 : 0 < Nat.gcd a D := Nat.gcd_pos_of_pos_right _ hD
  have g2 : 0 < Nat.gcd c D := Nat.gcd_pos_of_pos_right _ hD
  unfold spec_l2Less.f
  rw [(frac_get a D).1, (frac_get a D).2, (frac_get c D).1, (frac_get c D).2]
  have p1 := Nat.div_le_self a (Nat.gcd a D)
  have p2 := Nat.div_le_self D (Nat.gcd a D)
  have p3 := Nat.div_le_self c (Nat.gcd c D)
  have p4 := Nat.div_le_self D (Nat.gcd c D)
  obtain ⟨x, hx⟩ := Nat.gcd_dvd_left a D
  obtain ⟨y, hy⟩ := Nat.gcd_dvd_right a D
  obtain ⟨z, hz⟩ := Nat.gcd_dvd_left c D
  obtain ⟨w, hw⟩ := Nat.gcd_dvd_right c D
  have e1 : a / Nat.gcd a D = x := Nat.div_eq_of_eq_mul_right g1 hx
  have e2 : D / Nat.gcd a D = y := Nat.div_eq_of_eq_mul_right g1 hy
  have e3 : c / Nat.gcd c D = z := Nat.div_eq_of_eq_mul_right g2 hz
  have e4 : D / Nat.gcd c D = w := Nat.div_eq_of_eq_mul_right g2 hw
  rw [e1, e2, e3, e4]
  rw [e1] at p1
  rw [e2] at p2
  rw [e3] at p3
  rw [e4] at p4
  have q1 : x * w ≤ 10000000000 * 100000000 := Nat.mul_le_mul (by omega) (by omega)
  have q2 : z * y ≤ 10000000000 * 100000000 := Nat.mul_le_mul (by omega) (by omega)
  have f1 : wrap64 ((x : Int) * (w : Int)) = ((x * w : Nat) : Int) := by
    rw [← Int.natCast_mul]
    generalize x * w = m at *
    exact w64 (by omega) (by omega)
  have f2 : wrap64 ((z : Int) * (y : Int)) = ((z * y : Nat) : Int) := by
    rw [← Int.natCast_mul]
    generalize z * y = m at *
    exact w64 (by omega) (by omega)
  rw [f1, f2]
  congr 1
  rw [decide_eq_decide, Int.ofNat_lt]
  generalize Nat.gcd a D = g at *
  generalize Nat.gcd c D = h at *
  have k1 : (a * D) = (g * h) * (x * w) := by
    rw [hx]; conv => lhs; rhs; rw [hw]
    rw [Nat.mul_mul_mul_comm]
  have k2 : (c * D) = (g * h) * (z * y) := by
    rw [hz]; conv => lhs; rhs; rw [hy]
    rw [Nat.mul_mul_mul_comm, Nat.mul_comm h g]
  have hgh : 0 < g * h := Nat.mul_pos g1 g2
  constructor
  · intro hlt
    have : (g * h) * (x * w) < (g * h) * (z * y) := Nat.mul_lt_mul_of_pos_left hlt hgh
    rw [← k1, ← k2] at this
    exact Nat.lt_of_mul_lt_mul_right this
  · intro hlt
    have : a * D < c * D := Nat.mul_lt_mul_of_pos_right hlt hD
    rw [k1, k2] at this
    exact Nat.lt_of_mul_lt_mul_left this
theorem pow_nat (n : Nat) : ((6 ^ n : Nat) : Int) = (6 : Int) ^ n := by simp
theorem pow10 (A : Nat) (h : A ≤ 10) : (6 : Int) ^ A ≤ 60466176 := by
  have : (6 : Nat) ^ A ≤ 6 ^ 10 := Nat.pow_le_pow_right (by omega) h
  have h2 : ((6 ^ A : Nat) : Int) ≤ ((6 ^ 10 : Nat) : Int) := by exact_mod_cast this
  simpa using h2
theorem hold_impl (K : Nat) (Q : List Int) (hQ : nn Q) (hl : Q.length ≤ 40) (hs : Q.sum ≤ 60466176) : ∀ (k n : Nat) (x : Int), n ≤ Q.length → Q.length - n < k → 0 ≤ x → x ≤ 40 * (Q.take n).sum → ∃ r, impl_holdMean.l0 K Q k x (n : Int) = some r ∧ 0 ≤ r ∧ r ≤ 40 * Q.sum := by
  intro k
  induction k with
  | zero => intro n x h1 h2; omega
  | succ k ih =>
    intro n x h1 h2 h3 h4
    rw [impl_holdMean.l0]
    have ht : ∀ m, (Q.take m).sum ≤ Q.sum := by
      intro m
      have h5 : Q.sum = (Q.take m).sum + (Q.drop m).sum := by
        conv => lhs; rw [← List.take_append_drop m Q]
        rw [List.sum_append]
      have := nn_sum (Q.drop m) (fun y hy => hQ y (List.mem_of_mem_drop hy))
      omega
    by_cases hn : (n : Int) < (Q.length : Int)
    · have hn' : n < Q.length := by omega
      have hnn : ((n : Int)).toNat = n := by omega
      have g1 := nn_get Q hQ n hn'
      have g2 := nn_le Q n hQ hn'
      have e1 := sum_take Q n hn'
      have hm0 : 0 ≤ (n : Int) * Q.getD n 0 := Int.mul_nonneg (by omega) g1
      have hm1 : (n : Int) * Q.getD n 0 ≤ 40 * Q.getD n 0 := Int.mul_le_mul_of_nonneg_right (by omega) g1
      have := ht n
      have := ht (n + 1)
      rw [if_pos hn, if_pos (by omega), hnn, w1 n (by omega), w64 (n := (n : Int) * Q.getD n 0) (by omega) (by omega), w64 (n := x + (n : Int) * Q.getD n 0) (by omega) (by omega)]
      exact ih (n + 1) _ (by omega) (by omega) (by omega) (by omega)
    · rw [if_neg hn]
      have := ht n
      exact ⟨x, rfl, h3, by omega⟩
theorem hold_tail (K : Nat) (O : Ar 41) (m : Nat) (hz : ∀ i : Nat, m ≤ i → i < 41 → O.get (i : Int) = 0) (x : Int) (hx : 0 ≤ x) (hx2 : x ≤ 2418647040) : ∀ (k n : Nat), m ≤ n → n ≤ 41 → 41 - n < k → spec_l7HoldMean.l0 K O k x (n : Int) = some x := by
  intro k
  induction k with
  | zero => intro n h1 h2; omega
  | succ k ih =>
    intro n h0 h1 h2
    rw [spec_l7HoldMean.l0]
    by_cases hn : (n : Int) < 41
    · have e : wrap64 (x + wrap64 ((n : Int) * 0)) = x := by
        rw [Int.mul_zero, show wrap64 0 = 0 by decide +kernel, Int.add_zero]
        exact w64 (by omega) (by omega)
      rw [if_pos hn, if_pos (by omega), hz n h0 (by omega), e, w1 n (by omega)]
      exact ih (n + 1) (by omega) (by omega) (by omega)
    · rw [if_neg hn]
theorem hold_spec (K : Nat) (A : Nat) (hA : A ≤ 10) (O : Ar 41) (Q : List Int) (hR : endR A O Q) : ∀ (k k2 n : Nat) (x r : Int), n ≤ Q.length → 41 - n < k → impl_holdMean.l0 K Q k2 x (n : Int) = some r → 0 ≤ r → r ≤ 2418647040 → spec_l7HoldMean.l0 K O k x (n : Int) = some r := by
  have hz : ∀ i : Nat, A + 30 ≤ i → i < 41 → O.get (i : Int) = 0 := by
    intro i h1 h2
    unfold Ar.get
    rw [hR.2, show ((i : Int)).toNat = i by omega, List.getD_eq_getElem?_getD, List.getElem?_append_right (by rw [hR.1]; exact h1), List.getElem?_replicate]
    split <;> rfl
  intro k k2
  induction k2 generalizing k with
  | zero => intro n x r _ _ h; simp [impl_holdMean.l0] at h
  | succ k2 ih =>
    intro n x r h1 h2 h3 h4 h5
    rw [impl_holdMean.l0] at h3
    by_cases hn : (n : Int) < (Q.length : Int)
    · have hl := hR.1
      have hnn : ((n : Int)).toNat = n := by omega
      match k, h2 with
      | k + 1, h2 =>
        rw [if_pos hn, if_pos (by omega), hnn, w1 n (by omega)] at h3
        rw [spec_l7HoldMean.l0, if_pos (by omega), if_pos (by omega), endR_get A O Q hR n (by omega), w1 n (by omega)]
        exact ih k (n + 1) _ r (by omega) (by omega) h3 h4 h5
    · have hl := hR.1
      rw [if_neg hn] at h3
      cases h3
      have : n = A + 30 := by omega
      subst this
      exact hold_tail K O (A + 30) hz x h4 h5 k (A + 30) (Nat.le_refl _) (by omega) h2
theorem holdMean_eq (K : Nat) (hK : 200000000 ≤ K) (a : Ar 6) (ha : dieB a = true ∧ 0 < a.get 0) (bad : Int) (A : Nat) (hA : 1 ≤ A ∧ A ≤ 10) : ∃ h : Nat, (h ≤ 2418647040 ∧ h ≤ 40 * 6 ^ A) ∧ impl_holdMean.f K a bad (A : Int) = some (h : Int) ∧ spec_l7HoldMean.f K a bad (A : Int) = some (frac h (6 ^ A)) := by
  obtain ⟨O, Q, r1, r2, r3, r4, r5⟩ := ends_eq K (by omega) a ha bad A hA
  have hp := pow10 A (by omega)
  obtain ⟨r, i1, i2, i3⟩ := hold_impl K Q r4 (by rw [r3.1]; omega) (by omega) K 0 0 (by omega) (by rw [r3.1]; omega) (by omega) (by simp)
  have s1 := hold_spec K A (by omega) O Q r3 K K 0 0 r (by omega) (by omega) i1 i2 (by omega)
  obtain ⟨h, hh⟩ : ∃ h : Nat, r = h := ⟨r.toNat, by omega⟩
  subst hh
  have i1' : impl_holdMean.l0 K Q K 0 0 = some (h : Int) := i1
  have s1' : spec_l7HoldMean.l0 K O K 0 0 = some (h : Int) := s1
  have hq := Nat.one_le_pow A 6 (by omega)
  have hpn : (6 : Nat) ^ A ≤ 60466176 := by have := pow_nat A; omega
  have f := frac_eq K h (6 ^ A) (by omega) (by omega) (by omega) (by omega)
  rw [pow_nat] at f
  have h40 : h ≤ 40 * 6 ^ A := by have := pow_nat A; omega
  refine ⟨h, ⟨by omega, h40⟩, ?_, ?_⟩
  · unfold impl_holdMean.f
    simp only [r2, some_bind, i1']
  · unfold spec_l7HoldMean.f
    simp only [r1, some_bind, s1', all_power, power_eq K (by omega) A (by omega), f.1]
theorem toA6 (K : Nat) (hK : 8 ≤ K) (a : Ar 6) : laws_toIntA6.f K a = some a := by
  obtain ⟨k, rfl⟩ := Nat.exists_eq_add_of_le hK
  obtain ⟨x, y, z, u, v, w, rfl⟩ := Ar.cases6 a
  have e : 8 + k = k + 1 + 1 + 1 + 1 + 1 + 1 + 1 + 1 := by omega
  unfold laws_toIntA6.f
  rw [e]
  simp only [laws_toIntA6.l0, show (0 : Int) < 6 by decide, show wrap64 (0 + 1) = 1 by decide +kernel, show wrap64 (1 + 1) = 2 by decide +kernel, show wrap64 (2 + 1) = 3 by decide +kernel, show wrap64 (3 + 1) = 4 by decide +kernel, show wrap64 (4 + 1) = 5 by decide +kernel, show wrap64 (5 + 1) = 6 by decide +kernel, if_true, show (0 : Int) ≤ 0 ∧ True by decide]
  rfl
theorem eqA2 (K : Nat) (hK : 3 ≤ K) (a : Ar 2) : laws_eqIntA2.f K a a = some true := by
  obtain ⟨k, rfl⟩ := Nat.exists_eq_add_of_le hK
  rw [show 3 + k = k + 1 + 1 + 1 by omega]
  simp [laws_eqIntA2.f, laws_eqIntA2.l0, wrap64]

theorem pow_split (x : Nat) (h : x ≤ 10) : 6 ^ (10 - x) * 6 ^ x = 60466176 := by
  rcases (show x = 0 ∨ x = 1 ∨ x = 2 ∨ x = 3 ∨ x = 4 ∨ x = 5 ∨ x = 6 ∨ x = 7 ∨ x = 8 ∨ x = 9 ∨ x = 10 by omega) with rfl | rfl | rfl | rfl | rfl | rfl | rfl | rfl | rfl | rfl | rfl <;> decide +kernel
theorem best_up (K : Nat) (hK : 200000000 ≤ K) (a : Ar 6) (ha : dieB a = true ∧ 0 < a.get 0) (bad : Int) (x : Nat) (hx : 1 ≤ x ∧ x ≤ 10) (D : Nat) (hD : D = 60466176) : ∃ T : Nat, T ≤ 10000000000 ∧ spec_l7HoldMean.f K a bad (x : Int) = some (frac T D) ∧ ∃ t p : Int, impl_holdMean.f K a bad (x : Int) = some t ∧ impl_power.f K (wrap64 (10 - (x : Int))) = some p ∧ wrap64 (t * p) = (T : Int) := by
  obtain ⟨h, ⟨_, h0⟩, h1, h2⟩ := holdMean_eq K hK a ha bad x hx
  have e10 := pow_split x hx.2
  rw [← hD] at e10
  have hp : impl_power.f K (wrap64 (10 - (x : Int))) = some ((6 ^ (10 - x) : Nat) : Int) := by
    rw [w64 (by omega) (by omega), show (10 : Int) - (x : Int) = ((10 - x : Nat) : Int) by omega, power_eq K (by omega) (10 - x) (by omega), pow_nat]
  have hone : 0 < 6 ^ (10 - x) := Nat.one_le_pow _ _ (by omega)
  generalize 6 ^ (10 - x) = p at *
  generalize 6 ^ x = q at *
  have hT : p * h ≤ 10000000000 := by
    have h3 : p * h ≤ p * (40 * q) := Nat.mul_le_mul_left _ h0
    rw [Nat.mul_left_comm, e10] at h3
    omega
  refine ⟨p * h, hT, ?_, (h : Int), (p : Int), h1, hp, ?_⟩
  · rw [h2, ← e10, frac_scale _ _ _ hone]
  · rw [Int.mul_comm, ← Int.natCast_mul]
    generalize p * h = m at *
    exact w64 (by omega) (by omega)
theorem best_l0 (K : Nat) (hK : 200000000 ≤ K) (a : Ar 6) (ha : dieB a = true ∧ 0 < a.get 0) (bad : Int) (D : Nat) (hD : D = 60466176) : ∀ (j k k2 x : Nat) (hold : Int) (H : Nat), 2 ≤ x → x + j = 11 → j < k → j < k2 → H ≤ 10000000000 → ∃ (b : Int) (B : Nat), B ≤ 10000000000 ∧ spec_BestHold.l0 K a bad k hold (x : Int) (frac H D) = some (b, frac B D) ∧ impl_BestHold.l0 K a bad k2 hold (H : Int) (x : Int) = some (b, (B : Int)) := by
  intro j
  induction j with
  | zero =>
    intro k k2 x hold H h0 h1 h2 h2' h3
    match k, k2, h2, h2' with
    | k + 1, k2 + 1, _, _ =>
      have hx : ¬ (x : Int) ≤ 10 := by omega
      rw [spec_BestHold.l0, impl_BestHold.l0, if_neg hx, if_neg hx]
      exact ⟨hold, H, h3, rfl, rfl⟩
  | succ j ih =>
    intro k k2 x hold H h0 h1 h2 h2' h3
    match k, k2, h2, h2' with
    | k + 1, k2 + 1, h2, h2' =>
      have hx : (x : Int) ≤ 10 := by omega
      have hb : x ≤ 4000000000000000000 := by omega
      have hx1 : 2 ≤ x + 1 := by omega
      have hx2 : x + 1 + j = 11 := by omega
      obtain ⟨T, t1, t2, t, p, t3, t4, t5⟩ := best_up K hK a ha bad x (by omega) D hD
      have hl := frac_less K H T D (by rw [hD]; decide) h3 t1 (by rw [hD]; decide)
      rw [spec_BestHold.l0, impl_BestHold.l0]
      rw [if_pos hx, if_pos hx, t2, t3, some_bind, some_bind, hl, t4, some_bind, some_bind, t5, w1 x hb]
      by_cases hlt : H < T
      · rw [if_pos (decide_eq_true hlt), if_pos (Int.ofNat_lt.2 hlt)]
        exact ih k k2 (x + 1) _ T hx1 hx2 (Nat.lt_of_succ_lt_succ h2) (Nat.lt_of_succ_lt_succ h2') t1
      · rw [if_neg (fun h => hlt (of_decide_eq_true h)), if_neg (fun h => hlt (Int.ofNat_lt.1 h))]
        exact ih k k2 (x + 1) _ H hx1 hx2 (Nat.lt_of_succ_lt_succ h2) (Nat.lt_of_succ_lt_succ h2') h3
theorem BestHold_same (K : Nat) (hK : 200000000 ≤ K) (a : Ar 6) (bad : Int) : ∃ r, spec_BestHold.f K a bad = some r ∧ impl_BestHold.f K a bad = some r := by
  unfold spec_BestHold.f impl_BestHold.f
  obtain ⟨b, e1, e2, e3⟩ := turn_eq K (by omega) a bad 1
  rw [e1, e2]
  simp only [some_bind]
  cases b with
  | false => exact ⟨_, rfl, rfl⟩
  | true =>
    obtain ⟨ha, _, _⟩ := e3 rfl
    obtain ⟨D, hD⟩ : ∃ D : Nat, D = 60466176 := ⟨_, rfl⟩
    obtain ⟨k, hk⟩ : ∃ k, K = k + 1 := ⟨K - 1, by omega⟩
    have k9 : 9 < K := by omega
    have k9' : 9 < k := by omega
    have f2 : D < K := by omega
    obtain ⟨T, t1, t2, t, p, t3, t4, t5⟩ := best_up K hK a ha bad 1 (by decide) D hD
    obtain ⟨c, C, c1, c2, c3⟩ := best_l0 K hK a ha bad D hD 9 K k 2 1 T (by decide) (by decide) k9 k9' t1
    have hi : impl_BestHold.l0 K a bad K 1 (-1) 1 = some (c, (C : Int)) := by
      have h1 : impl_BestHold.l0 K a bad (k + 1) 1 (-1) 1 = some (c, (C : Int)) := by
        rw [impl_BestHold.l0]
        have t3' : impl_holdMean.f K a bad 1 = some t := t3
        have t4' : impl_power.f K (wrap64 (10 - 1)) = some p := t4
        have t5' : wrap64 (t * p) = (T : Int) := t5
        rw [if_pos (show (1 : Int) ≤ 10 by decide), t3', some_bind, t4', some_bind, t5', if_pos (show (-1 : Int) < (T : Int) from Int.lt_of_lt_of_le (by decide) (Int.natCast_nonneg T)), show wrap64 (1 + 1) = 2 by decide +kernel]
        exact c3
      rw [← hk] at h1
      exact h1
    have c2' : spec_BestHold.l0 K a bad K 1 2 (frac T D) = some (c, frac C D) := c2
    have p10 : impl_power.f K 10 = some (D : Int) := by
      have e : (D : Int) = (6 : Int) ^ 10 := by rw [hD]; decide +kernel
      have e2 := power_eq K (by omega) 10 (by omega)
      rw [e]
      exact e2
    have f := frac_eq K C D (.inr (by rw [hD]; decide)) f2 (Nat.le_trans c1 (by decide)) (by rw [hD]; decide)
    have t2' : spec_l7HoldMean.f K a bad 1 = some (frac T D) := t2
    rw [if_pos rfl, if_pos rfl, t2', some_bind, c2', hi, some_bind, some_bind]
    show ∃ r, some (c, frac C D, true) = some r ∧ ((impl_power.f K 10).bind fun t41 => (impl_fraction.f K (C : Int) t41).bind fun t43 => some (c, t43, true)) = some r
    rw [p10, some_bind, f.2, some_bind]
    exact ⟨_, rfl, rfl⟩
theorem BestHold_pure (a0 : Ar 6) (a1 : Int) (_w0 : ∀ z ∈ a0.l, (Lit.int .i64 z).wf = true) (_w1 : (Lit.int .i64 a1).wf = true) : ∃ K, laws_FnExactBestHold.f K a0 a1 = some true := by
  refine ⟨200000000, ?_⟩
  unfold laws_FnExactBestHold.f
  obtain ⟨r, h1, h2⟩ := BestHold_same 200000000 (by omega) a0 a1
  have t2 := fun a => toA6 200000000 (by omega) a
  have q2 := fun a => eqA2 200000000 (by omega) a
  simp only [t2, h1, h2, q2, some_bind, if_true, beq_self_eq_true]
end Go.Proofs.Ytgmalhohckcogaa.WBestHold

/- The plain law: what the walk shows to be computed answers true. Conditions: the numbers are 64-bit. -/
import Derived.Test.YtlbedonjfihldaaWScoreOf
import Derived.KernelRfl
namespace Go.Proofs.Ytlbedonjfihldaa.WScoreOf
open Go.K Go.RowKit
set_option linter.unusedVariables false
set_option linter.unusedSimpArgs false

theorem in_eq (K : Nat) (a lo hi : Int) : impl_within.f K a lo hi = some (decide (lo ≤ a ∧ a ≤ hi)) := by
  unfold impl_within.f
  by_cases h : lo ≤ a <;> simp [h]
theorem in_within : spec_l1In.f = impl_within.f := by kernel_rfl
def faceB (a : Int) : Bool := decide (0 ≤ a ∧ a ≤ 30)
theorem isFace_eq (K : Nat) (_hK : 2000000 ≤ K) (a : Int) : impl_isFace.f K a = some (faceB a) := by
  unfold impl_isFace.f
  rw [in_eq]; rfl
theorem w1 (n : Nat) (h : n ≤ 4000000000000000000) : wrap64 ((n : Int) + 1) = ((n + 1 : Nat) : Int) := by rw [w64 (by omega) (by omega)]; omega
theorem toS_l0 (K : Nat) (l : List Int) (h : l.length ≤ 1073741824) : ∀ (k n : Nat) (out : List Int), out.length = l.length → out.take n = l.take n → n ≤ l.length → l.length - n < k → laws_toIntS.l0 K l k (n : Int) out = some l := by
  intro k
  induction k with
  | zero => intro n out h1 h2 h3 h4; omega
  | succ k ih =>
    intro n out h1 h2 h3 h4
    rw [laws_toIntS.l0]
    by_cases hn : (n : Int) < (l.length : Int)
    · have hn' : n < l.length := by omega
      rw [if_pos hn, if_pos (by omega), if_pos (by omega), w1 n (by omega)]
      refine ih (n + 1) _ (by simp [h1]) ?_ (by omega) (by omega)
      have hnn : ((n : Int)).toNat = n := by omega
      rw [hnn, List.take_add_one, List.take_add_one, List.take_set_of_le (Nat.le_refl n), h2]
      rw [List.getElem?_set_self (by omega)]
      congr 1
      rw [List.getD_eq_getElem?_getD, List.getElem?_eq_getElem hn']
      rfl
    · rw [if_neg hn]
      have : n = l.length := by omega
      subst this
      rw [← h1, List.take_length, h1, List.take_length] at h2
      rw [h2]
theorem toS (K : Nat) (l : List Int) (h : l.length ≤ 1048576) (hK : 2000000 ≤ K) : laws_toIntS.f K l = some l := by
  unfold laws_toIntS.f
  rw [if_pos (by omega), show (0 : Int) = ((0 : Nat) : Int) from rfl, toS_l0 K l (by omega) K 0 _ (by simp) (by simp) (by omega) (by omega)]
  rfl
theorem allFace_l0 (K : Nat) (hK : 2000000 ≤ K) (l : List Int) (h : l.length ≤ 1073741824) : ∀ (k n : Nat), n ≤ l.length → l.length - n < k →
    (slices_IndexFunc_int_int__areAll_int_1_isFace.l0 K l k (n : Int) = some (Sum.inl ()) ∧ (l.drop n).all faceB = true) ∨ (∃ i : Int, 0 ≤ i ∧ slices_IndexFunc_int_int__areAll_int_1_isFace.l0 K l k (n : Int) = some (Sum.inr i) ∧ (l.drop n).all faceB = false) := by
  intro k
  induction k with
  | zero => intro n h1 h2; omega
  | succ k ih =>
    intro n h1 h2
    rw [slices_IndexFunc_int_int__areAll_int_1_isFace.l0]
    by_cases hn : (n : Int) < (l.length : Int)
    · have hn' : n < l.length := by omega
      have hnn : ((n : Int)).toNat = n := by omega
      have hd : l.drop n = l[n] :: l.drop (n + 1) := List.drop_eq_getElem_cons hn'
      have hg : l.getD n (0 : Int) = l[n] := by rw [List.getD_eq_getElem?_getD, List.getElem?_eq_getElem hn']; rfl
      rw [if_pos hn, if_pos (by omega), w1 n (by omega), hnn, hg, impl_areAll_int_1__isFace.f, isFace_eq K hK, hd]
      simp only [some_bind, List.all_cons]
      rcases Bool.eq_false_or_eq_true (faceB l[n]) with e | e
      · rw [e]
        simp only [Bool.not_true, Bool.false_eq_true, if_false, Bool.true_and]
        exact ih (n + 1) (by omega) (by omega)
      · rw [e]
        simp only [Bool.not_false, if_true, Bool.false_and]
        exact .inr ⟨_, by omega, rfl, trivial⟩
    · rw [if_neg hn]
      have : n = l.length := by omega
      subst this
      exact .inl ⟨rfl, by simp⟩
theorem allFace_eq (K : Nat) (hK : 2000000 ≤ K) (l : List Int) (h : l.length ≤ 1048576) : impl_areAll_int__isFace.f K l = some (l.all faceB) := by
  unfold impl_areAll_int__isFace.f slices_ContainsFunc_int_int__areAll_int_1_isFace.f slices_IndexFunc_int_int__areAll_int_1_isFace.f
  rcases allFace_l0 K hK l (by omega) K 0 (by omega) (by omega) with ⟨h1, h2⟩ | ⟨i, hi, h1, h2⟩
  · rw [show (0 : Int) = ((0 : Nat) : Int) from rfl, h1]
    simp only [some_bind, List.drop_zero] at h2 ⊢
    rw [h2]; rfl
  · rw [show (0 : Int) = ((0 : Nat) : Int) from rfl, h1]
    simp only [some_bind, List.drop_zero] at h2 ⊢
    rw [h2]
    have : decide (((0 : Nat) : Int) ≤ i) = true := decide_eq_true (by simpa using hi)
    rw [this]; rfl
theorem eqS_l0 (K : Nat) (l : List Int) (h : l.length ≤ 1073741824) : ∀ (k n : Nat), n ≤ l.length → l.length - n < k → laws_eqIntS.l0 K l l k (n : Int) = some (Sum.inl ()) := by
  intro k
  induction k with
  | zero => intro n h1 h2; omega
  | succ k ih =>
    intro n h1 h2
    rw [laws_eqIntS.l0]
    by_cases hn : (n : Int) < (l.length : Int)
    · rw [if_pos hn, if_pos (by omega), if_pos (by omega), if_pos rfl, w1 n (by omega)]
      exact ih (n + 1) (by omega) (by omega)
    · rw [if_neg hn]
theorem eqS (K : Nat) (l : List Int) (h : l.length ≤ 1048576) (hK : 2000000 ≤ K) : laws_eqIntS.f K l l = some true := by
  unfold laws_eqIntS.f
  rw [if_pos rfl, show (0 : Int) = ((0 : Nat) : Int) from rfl, eqS_l0 K l (by omega) K 0 (by omega) (by omega)]
  rfl
theorem most_eq (K : Nat) (a b : Int) : spec_l1Most.f K a b = some (if b < a then a else b) := by
  unfold spec_l1Most.f
  split <;> rfl
theorem one_eq (K : Nat) (b : Bool) : spec_l6One.f K b = some (if b = true then 1 else 0) := by
  unfold spec_l6One.f
  split <;> rfl
theorem truth_eq (K : Nat) (b : Bool) : impl_truth.f K b = some (if b = true then 1 else 0) := by
  unfold impl_truth.f
  split <;> rfl
theorem goal_eq (K : Nat) (g : Int × Int) : ∃ b, spec_l6Goal.f K g = some b ∧ impl_IsGoal.f K g = some b ∧ (b = true → 1 ≤ g.1 ∧ g.1 ≤ 5) := by
  unfold spec_l6Goal.f impl_IsGoal.f
  rw [in_within]
  simp only [in_eq, some_bind]
  by_cases h1 : g.1 = 2
  · exact ⟨_, by rw [if_pos h1], by rw [if_pos h1], fun _ => by omega⟩
  · by_cases h2 : g.1 = 3
    · exact ⟨_, by rw [if_neg h1, if_pos h2], by rw [if_neg h1, if_pos h2], fun _ => by omega⟩
    · by_cases h3 : 1 ≤ g.1 ∧ g.1 ≤ 5
      · exact ⟨_, by rw [if_neg h1, if_neg h2, if_pos (decide_eq_true h3)], by rw [if_neg h1, if_neg h2, if_pos (decide_eq_true h3)], fun _ => h3⟩
      · exact ⟨false, by rw [if_neg h1, if_neg h2]; simp [h3], by rw [if_neg h1, if_neg h2]; simp [h3], by simp⟩
set_option maxHeartbeats 4000000 in
theorem score_same (K : Nat) (hK : 10 ≤ K) (g : Int × Int) (hg : 1 ≤ g.1 ∧ g.1 ≤ 5) (l : List Int) (h0 : 1 ≤ l.length) (h3 : l.length ≤ 3) (hf : ∀ z ∈ l, 0 ≤ z ∧ z ≤ 30) : spec_l6Score.f K g l = impl_Goal_score.f K g l ∧ ∃ r, impl_Goal_score.f K g l = some r := by
  obtain ⟨k, rfl⟩ := Nat.exists_eq_add_of_le (show 5 ≤ K by omega)
  have e : 5 + k = k + 1 + 1 + 1 + 1 + 1 := by omega
  have e1 : wrap64 (0 + 1) = 1 := by decide +kernel
  have e2 : wrap64 (1 + 1) = 2 := by decide +kernel
  have e3 : wrap64 (2 + 1) = 3 := by decide +kernel
  have e4 : wrap64 1 = 1 := by decide +kernel
  have e5 : wrap64 2 = 2 := by decide +kernel
  have e6 : wrap64 3 = 3 := by decide +kernel
  unfold spec_l6Score.f impl_Goal_score.f impl_total.f slices_Max_int_int.f slices_Min_int_int.f
  rw [e]
  obtain ⟨t, b⟩ := g
  match l, h0, h3, hf with
  | [x], _, _, hf =>
    have hx := hf x (by simp)
    rcases (show t = 1 ∨ t = 2 ∨ t = 3 ∨ t = 4 ∨ t = 5 by simp at hg; omega) with rfl | rfl | rfl | rfl | rfl <;>
    · simp [spec_l6Score.l0, impl_total.l0, slices_Max_int_int.l0, slices_Min_int_int.l0, most_eq, one_eq, truth_eq, some_bind, e1, e2, e3, e4, e5, e6]
      try (repeat' split)
      all_goals (try omega)
  | [x, y], _, _, hf =>
    have hx := hf x (by simp)
    have hy := hf y (by simp)
    rcases (show t = 1 ∨ t = 2 ∨ t = 3 ∨ t = 4 ∨ t = 5 by simp at hg; omega) with rfl | rfl | rfl | rfl | rfl <;>
    · simp [spec_l6Score.l0, impl_total.l0, slices_Max_int_int.l0, slices_Min_int_int.l0, most_eq, one_eq, truth_eq, some_bind, e1, e2, e3, e4, e5, e6]
      try (repeat' split)
      all_goals (try omega)
  | [x, y, z], _, _, hf =>
    have hx := hf x (by simp)
    have hy := hf y (by simp)
    have hz := hf z (by simp)
    by_cases hyx : y = x <;>
    · rcases (show t = 1 ∨ t = 2 ∨ t = 3 ∨ t = 4 ∨ t = 5 by simp at hg; omega) with rfl | rfl | rfl | rfl | rfl <;>
      · simp [spec_l6Score.l0, impl_total.l0, slices_Max_int_int.l0, slices_Min_int_int.l0, most_eq, one_eq, truth_eq, some_bind, e1, e2, e3, e4, e5, e6, hyx]
        try (repeat' split)
        all_goals (try omega)
theorem face_all (l : List Int) : l.all faceB = true ↔ ∀ z ∈ l, 0 ≤ z ∧ z ≤ 30 := by
  simp [faceB]
theorem ScoreOf_l0 (K : Nat) (hK : 2000000 ≤ K) (l : List Int) (h : l.length ≤ 1073741824) : ∀ (k n : Nat), n ≤ l.length → l.length - n < k →
    spec_ScoreOf.l0 K l k (n : Int) = some (if (l.drop n).all faceB = true then Sum.inl () else Sum.inr (0, false)) := by
  intro k
  induction k with
  | zero => intro n h1 h2; omega
  | succ k ih =>
    intro n h1 h2
    rw [spec_ScoreOf.l0]
    by_cases hn : (n : Int) < (l.length : Int)
    · have hn' : n < l.length := by omega
      have hnn : ((n : Int)).toNat = n := by omega
      have hd : l.drop n = l[n] :: l.drop (n + 1) := List.drop_eq_getElem_cons hn'
      have hg : l.getD n 0 = l[n] := by rw [List.getD_eq_getElem?_getD, List.getElem?_eq_getElem hn']; rfl
      rw [if_pos hn, if_pos (by omega), w1 n (by omega), hnn, hg, in_within, in_eq, hd]
      by_cases e : 0 ≤ l[n] ∧ l[n] ≤ 30
      · have e' : faceB l[n] = true := decide_eq_true e
        simp only [some_bind, e, e', and_self, decide_true, if_true, List.all_cons, Bool.true_and]
        exact ih (n + 1) (by omega) (by omega)
      · have e' : faceB l[n] = false := decide_eq_false e
        simp only [some_bind, e, e', decide_false, Bool.false_eq_true, if_false, List.all_cons, Bool.false_and]
    · rw [if_neg hn]
      have : n = l.length := by omega
      subst this
      simp
theorem ScoreOf_same (K : Nat) (hK : 2000000 ≤ K) (g : Int × Int) (l : List Int) (h : l.length ≤ 1048576) : ∃ r, spec_ScoreOf.f K g l = some r ∧ impl_ScoreOf.f K g l = some r := by
  obtain ⟨b, g1, g2, g3⟩ := goal_eq K g
  unfold spec_ScoreOf.f impl_ScoreOf.f
  rw [g1, g2, in_within, in_eq, allFace_eq K hK l h, show spec_ScoreOf.l0 K l K 0 = _ from ScoreOf_l0 K hK l (by omega) K 0 (by omega) (by omega)]
  simp only [some_bind, List.drop_zero]
  cases b with
  | false => exact ⟨_, rfl, rfl⟩
  | true =>
    by_cases h1 : (1 : Int) ≤ l.length ∧ (l.length : Int) ≤ 3
    · by_cases h2 : l.all faceB = true
      · obtain ⟨e, r, hr⟩ := score_same K (by omega) g (g3 rfl) l (by omega) (by omega) ((face_all l).1 h2)
        simp only [h1, h2, if_true, and_self, decide_true, e, hr, some_bind]
        exact ⟨_, rfl⟩
      · simp [h1, h2]
    · simp [h1]
theorem ScoreOf_pure (a0 : Int × Int) (l1 : List Int) (_w0 : (Lit.int .i64 a0.1).wf = true ∧ (Lit.int .i64 a0.2).wf = true) (_m : l1.length ≤ maxLen) (_w : ∀ z ∈ l1, (Lit.int .i64 z).wf = true) : ∃ K, laws_FnExactScoreOf.f K a0 l1 = some true := by
  refine ⟨200000000, ?_⟩
  unfold laws_FnExactScoreOf.f
  by_cases h : (1048576 : Int) < l1.length
  · rw [if_pos h]
  · rw [if_neg h]
    have h' : l1.length ≤ 1048576 := by omega
    obtain ⟨r, h1, h2⟩ := ScoreOf_same 200000000 (by omega) a0 l1 h'
    have t1 := toS 200000000 l1 h' (by omega)
    have q1 := eqS 200000000 l1 h' (by omega)
    simp only [laws_toGoal.f, t1, h1, h2, q1, some_bind, if_true, beq_self_eq_true]
end Go.Proofs.Ytlbedonjfihldaa.WScoreOf

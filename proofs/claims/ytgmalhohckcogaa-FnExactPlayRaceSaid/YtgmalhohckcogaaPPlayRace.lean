/- The plain law: what the walk shows to be computed answers true. Conditions: the numbers are 64-bit. -/
import Derived.Test.YtgmalhohckcogaaWPlayRace
import Derived.KernelRfl
namespace Go.Proofs.Ytgmalhohckcogaa.WPlayRace
open Go.K Go.RowKit
set_option linter.unusedVariables false
set_option linter.unusedSimpArgs false

theorem in_eq (K : Nat) (a lo hi : Int) : impl_within.f K a lo hi = some (decide (lo ≤ a ∧ a ≤ hi)) := by
  unfold impl_within.f
  by_cases h : lo ≤ a <;> simp [h]
theorem in_within : spec_l1In.f = impl_within.f := by kernel_rfl
def faceB (a : Int) : Bool := decide (0 ≤ a ∧ a ≤ 30)
theorem isFace_eq (K : Nat) (_hK : 2000000 ≤ K) (a : Int) : impl_isFace.f K a = some (faceB a) := by
  unfold impl_isFace.f
  rw [in_eq]; rfl
theorem w1 (n : Nat) (h : n ≤ 4000000000000000000) : wrap64 ((n : Int) + 1) = ((n + 1 : Nat) : Int) := by rw [w64 (by omega) (by omega)]; omega
theorem toS_l0 (K : Nat) (l : List Int) (h : l.length ≤ 1073741824) : ∀ (k n : Nat) (out : List Int), out.length = l.length → out.take n = l.take n → n ≤ l.length → l.length - n < k → laws_toIntS.l0 K l k (n : Int) out = some l := by
  intro k
  induction k with
  | zero => intro n out h1 h2 h3 h4; omega
  | succ k ih =>
    intro n out h1 h2 h3 h4
    rw [laws_toIntS.l0]
    by_cases hn : (n : Int) < (l.length : Int)
    · have hn' : n < l.length := by omega
      rw [if_pos hn, if_pos (by omega), if_pos (by omega), w1 n (by omega)]
      refine ih (n + 1) _ (by simp [h1]) ?_ (by omega) (by omega)
      have hnn : ((n : Int)).toNat = n := by omega
      rw [hnn, List.take_add_one, List.take_add_one, List.take_set_of_le (Nat.le_refl n), h2]
      rw [List.getElem?_set_self (by omega)]
      congr 1
      rw [List.getD_eq_getElem?_getD, List.getElem?_eq_getElem hn']
      rfl
    · rw [if_neg hn]
      have : n = l.length := by omega
      subst this
      rw [← h1, List.take_length, h1, List.take_length] at h2
      rw [h2]
theorem toS (K : Nat) (l : List Int) (h : l.length ≤ 1048576) (hK : 2000000 ≤ K) : laws_toIntS.f K l = some l := by
  unfold laws_toIntS.f
  rw [if_pos (by omega), show (0 : Int) = ((0 : Nat) : Int) from rfl, toS_l0 K l (by omega) K 0 _ (by simp) (by simp) (by omega) (by omega)]
  rfl
theorem allFace_l0 (K : Nat) (hK : 2000000 ≤ K) (l : List Int) (h : l.length ≤ 1073741824) : ∀ (k n : Nat), n ≤ l.length → l.length - n < k →
    (slices_IndexFunc_int_int__areAll_int_1_isFace.l0 K l k (n : Int) = some (Sum.inl ()) ∧ (l.drop n).all faceB = true) ∨ (∃ i : Int, 0 ≤ i ∧ slices_IndexFunc_int_int__areAll_int_1_isFace.l0 K l k (n : Int) = some (Sum.inr i) ∧ (l.drop n).all faceB = false) := by
  intro k
  induction k with
  | zero => intro n h1 h2; omega
  | succ k ih =>
    intro n h1 h2
    rw [slices_IndexFunc_int_int__areAll_int_1_isFace.l0]
    by_cases hn : (n : Int) < (l.length : Int)
    · have hn' : n < l.length := by omega
      have hnn : ((n : Int)).toNat = n := by omega
      have hd : l.drop n = l[n] :: l.drop (n + 1) := List.drop_eq_getElem_cons hn'
      have hg : l.getD n (0 : Int) = l[n] := by rw [List.getD_eq_getElem?_getD, List.getElem?_eq_getElem hn']; rfl
      rw [if_pos hn, if_pos (by omega), w1 n (by omega), hnn, hg, impl_areAll_int_1__isFace.f, isFace_eq K hK, hd]
      simp only [some_bind, List.all_cons]
      rcases Bool.eq_false_or_eq_true (faceB l[n]) with e | e
      · rw [e]
        simp only [Bool.not_true, Bool.false_eq_true, if_false, Bool.true_and]
        exact ih (n + 1) (by omega) (by omega)
      · rw [e]
        simp only [Bool.not_false, if_true, Bool.false_and]
        exact .inr ⟨_, by omega, rfl, trivial⟩
    · rw [if_neg hn]
      have : n = l.length := by omega
      subst this
      exact .inl ⟨rfl, by simp⟩
theorem allFace_eq (K : Nat) (hK : 2000000 ≤ K) (l : List Int) (h : l.length ≤ 1048576) : impl_areAll_int__isFace.f K l = some (l.all faceB) := by
  unfold impl_areAll_int__isFace.f slices_ContainsFunc_int_int__areAll_int_1_isFace.f slices_IndexFunc_int_int__areAll_int_1_isFace.f
  rcases allFace_l0 K hK l (by omega) K 0 (by omega) (by omega) with ⟨h1, h2⟩ | ⟨i, hi, h1, h2⟩
  · rw [show (0 : Int) = ((0 : Nat) : Int) from rfl, h1]
    simp only [some_bind, List.drop_zero] at h2 ⊢
    rw [h2]; rfl
  · rw [show (0 : Int) = ((0 : Nat) : Int) from rfl, h1]
    simp only [some_bind, List.drop_zero] at h2 ⊢
    rw [h2]
    have : decide (((0 : Nat) : Int) ≤ i) = true := decide_eq_true (by simpa using hi)
    rw [this]; rfl
def dieP (a : Ar 6) : Prop := ((0 ≤ a.get 0 ∧ a.get 0 ≤ 30) ∧ (0 ≤ a.get 1 ∧ a.get 1 ≤ 30) ∧ (0 ≤ a.get 2 ∧ a.get 2 ≤ 30) ∧ (0 ≤ a.get 3 ∧ a.get 3 ≤ 30) ∧ (0 ≤ a.get 4 ∧ a.get 4 ≤ 30) ∧ (0 ≤ a.get 5 ∧ a.get 5 ≤ 30)) ∧ (a.get 0 ≤ a.get 1 ∧ a.get 1 ≤ a.get 2 ∧ a.get 2 ≤ a.get 3 ∧ a.get 3 ≤ a.get 4 ∧ a.get 4 ≤ a.get 5)
instance (a : Ar 6) : Decidable (dieP a) := by unfold dieP; infer_instance
def dieB (a : Ar 6) : Bool := decide (dieP a)
theorem die_get (x y z u v w : Int) : (Ar.get (⟨[x, y, z, u, v, w], rfl⟩ : Ar 6) 0 = x ∧ Ar.get (⟨[x, y, z, u, v, w], rfl⟩ : Ar 6) 1 = y ∧ Ar.get (⟨[x, y, z, u, v, w], rfl⟩ : Ar 6) 2 = z) ∧ (Ar.get (⟨[x, y, z, u, v, w], rfl⟩ : Ar 6) 3 = u ∧ Ar.get (⟨[x, y, z, u, v, w], rfl⟩ : Ar 6) 4 = v ∧ Ar.get (⟨[x, y, z, u, v, w], rfl⟩ : Ar 6) 5 = w) := ⟨⟨rfl, rfl, rfl⟩, rfl, rfl, rfl⟩
set_option maxHeartbeats 4000000 in
theorem die_spec (K : Nat) (hK : 2000000 ≤ K) (a : Ar 6) : spec_l2Die.f K a = some (dieB a) := by
  obtain ⟨k, rfl⟩ := Nat.exists_eq_add_of_le (show 8 ≤ K by omega)
  obtain ⟨x, y, z, u, v, w, rfl⟩ := Ar.cases6 a
  have e : 8 + k = k + 1 + 1 + 1 + 1 + 1 + 1 + 1 + 1 := by omega
  unfold spec_l2Die.f dieB dieP
  obtain ⟨⟨g0, g1, g2⟩, g3, g4, g5⟩ := die_get x y z u v w
  rw [e]
  simp only [spec_l2Die.l0, in_within, in_eq, some_bind, show (0 : Int) < 6 by decide, show wrap64 (0 + 1) = 1 by decide +kernel, show wrap64 (1 + 1) = 2 by decide +kernel, show wrap64 (2 + 1) = 3 by decide +kernel, show wrap64 (3 + 1) = 4 by decide +kernel, show wrap64 (4 + 1) = 5 by decide +kernel, show wrap64 (5 + 1) = 6 by decide +kernel, show wrap64 (1 - 1) = 0 by decide +kernel, show wrap64 (2 - 1) = 1 by decide +kernel, show wrap64 (3 - 1) = 2 by decide +kernel, show wrap64 (4 - 1) = 3 by decide +kernel, show wrap64 (5 - 1) = 4 by decide +kernel, g0, g1, g2, g3, g4, g5, decide_eq_true_eq]
  simp
  repeat' split
  all_goals simp_all
  all_goals omega
set_option maxHeartbeats 4000000 in
theorem die_impl (K : Nat) (hK : 2000000 ≤ K) (a : Ar 6) : impl_IsDie.f K a = some (dieB a) := by
  obtain ⟨x, y, z, u, v, w, rfl⟩ := Ar.cases6 a
  unfold impl_IsDie.f dieB dieP
  rw [allFace_eq K hK _ (by simp)]
  obtain ⟨k, rfl⟩ := Nat.exists_eq_add_of_le (show 8 ≤ K by omega)
  have e : 8 + k = k + 1 + 1 + 1 + 1 + 1 + 1 + 1 + 1 := by omega
  obtain ⟨⟨g0, g1, g2⟩, g3, g4, g5⟩ := die_get x y z u v w
  unfold slices_IsSorted_int_int.f
  rw [e]
  simp [slices_IsSorted_int_int.l0, cmp_Less_int.f, cmp_isNaN_int.f, some_bind, show wrap64 (6 - 1) = 5 by decide +kernel, show wrap64 5 = 5 by decide +kernel, show wrap64 (5 - 1) = 4 by decide +kernel, show wrap64 (4 - 1) = 3 by decide +kernel, show wrap64 (3 - 1) = 2 by decide +kernel, show wrap64 (2 - 1) = 1 by decide +kernel, show wrap64 (1 - 1) = 0 by decide +kernel, show wrap64 4 = 4 by decide +kernel, show wrap64 3 = 3 by decide +kernel, show wrap64 2 = 2 by decide +kernel, show wrap64 1 = 1 by decide +kernel, show wrap64 0 = 0 by decide +kernel, g0, g1, g2, g3, g4, g5, faceB]
  repeat' split
  all_goals simp_all
  all_goals omega
theorem toA6 (K : Nat) (hK : 8 ≤ K) (a : Ar 6) : laws_toIntA6.f K a = some a := by
  obtain ⟨k, rfl⟩ := Nat.exists_eq_add_of_le hK
  obtain ⟨x, y, z, u, v, w, rfl⟩ := Ar.cases6 a
  have e : 8 + k = k + 1 + 1 + 1 + 1 + 1 + 1 + 1 + 1 := by omega
  unfold laws_toIntA6.f
  rw [e]
  simp only [laws_toIntA6.l0, show (0 : Int) < 6 by decide, show wrap64 (0 + 1) = 1 by decide +kernel, show wrap64 (1 + 1) = 2 by decide +kernel, show wrap64 (2 + 1) = 3 by decide +kernel, show wrap64 (3 + 1) = 4 by decide +kernel, show wrap64 (4 + 1) = 5 by decide +kernel, show wrap64 (5 + 1) = 6 by decide +kernel, if_true, show (0 : Int) ≤ 0 ∧ True by decide]
  rfl
def sideB (a : Int) : Bool := decide (0 ≤ a ∧ a ≤ 5)
theorem isSide_eq (K : Nat) (_hK : 2000000 ≤ K) (a : Int) : impl_isSide.f K a = some (sideB a) := by
  unfold impl_isSide.f
  rw [in_eq]; rfl
theorem eqS_l0 (K : Nat) (l : List Int) (h : l.length ≤ 1073741824) : ∀ (k n : Nat), n ≤ l.length → l.length - n < k → laws_eqIntS.l0 K l l k (n : Int) = some (Sum.inl ()) := by
  intro k
  induction k with
  | zero => intro n h1 h2; omega
  | succ k ih =>
    intro n h1 h2
    rw [laws_eqIntS.l0]
    by_cases hn : (n : Int) < (l.length : Int)
    · rw [if_pos hn, if_pos (by omega), if_pos (by omega), if_pos rfl, w1 n (by omega)]
      exact ih (n + 1) (by omega) (by omega)
    · rw [if_neg hn]
theorem eqS (K : Nat) (l : List Int) (h : l.length ≤ 1048576) (hK : 2000000 ≤ K) : laws_eqIntS.f K l l = some true := by
  unfold laws_eqIntS.f
  rw [if_pos rfl, show (0 : Int) = ((0 : Nat) : Int) from rfl, eqS_l0 K l (by omega) K 0 (by omega) (by omega)]
  rfl
theorem runner_eq (K : Nat) (hK : 2000000 ≤ K) (a : Ar 6) : spec_l7Die.f K a = some (dieB a && decide (0 < a.get 0)) ∧ impl_isRunner.f K a = some (dieB a && decide (0 < a.get 0)) := by
  unfold spec_l7Die.f impl_isRunner.f
  rw [die_spec K hK, die_impl K hK]
  simp only [some_bind]
  cases dieB a <;> simp
theorem goal_goal : spec_l7Goal.f = impl_isGoal.f := by kernel_rfl
theorem goal_some (K : Nat) (a : Int) : impl_isGoal.f K a = some (decide (1 ≤ a ∧ a ≤ 8)) := by
  unfold impl_isGoal.f
  rw [in_eq]; rfl
theorem PlayRace_l0 (K : Nat) (hK : 2000000 ≤ K) (a b : Ar 6) (c : Int) (l : List Int) (h : l.length ≤ 1048576) : ∀ (k n : Nat) (z : Ar 2), n ≤ l.length → l.length - n < k → ∃ r, spec_PlayRace.l0 K a b c l k (n : Int) z = some r ∧ impl_PlayRace.l0 K a b c l k (n : Int) z = some r := by
  intro k
  induction k with
  | zero => intro n z h1 h2; omega
  | succ k ih =>
    intro n z h1 h2
    rw [spec_PlayRace.l0, impl_PlayRace.l0]
    by_cases hn : (n : Int) < (l.length : Int)
    · have ih' := fun z => ih (n + 1) z (by omega) (by omega)
      have c2 : (0 : Int) ≤ (n : Int) ∧ (n : Int) < (l.length : Int) := by omega
      simp only [if_pos hn, if_pos c2, isSide_eq K hK, in_within, in_eq, w1 n (by omega), some_bind, sideB, decide_eq_true_eq]
      generalize l.getD ((n : Int)).toNat 0 = q
      have hm : (0 : Int) ≤ (n : Int).tmod 2 ∧ (n : Int).tmod 2 < 2 := by
        have := Int.tmod_nonneg (a := (n : Int)) 2 (by omega)
        have := Int.tmod_lt_of_pos (n : Int) (b := 2) (by omega)
        omega
      by_cases hs : 0 ≤ q ∧ q ≤ 5
      · have hs' : (0 : Int) ≤ q ∧ q < 6 := by omega
        simp only [hs, hs', hm, and_self, if_true]
        split
        · split
          · exact ⟨_, rfl, rfl⟩
          · exact ih' _
        · split
          · exact ⟨_, rfl, rfl⟩
          · exact ih' _
      · simp only [hs, if_false]
        exact ⟨_, rfl, rfl⟩
    · rw [if_neg hn, if_neg hn]; exact ⟨_, rfl, rfl⟩
theorem PlayRace_same (K : Nat) (hK : 2000000 ≤ K) (a b : Ar 6) (c : Int) (l : List Int) (h : l.length ≤ 1048576) : ∃ r, spec_PlayRace.f K a b c l = some r ∧ impl_PlayRace.f K a b c l = some r := by
  unfold spec_PlayRace.f impl_PlayRace.f
  rw [(runner_eq K hK a).1, (runner_eq K hK a).2, (runner_eq K hK b).1, (runner_eq K hK b).2, goal_goal, goal_some]
  have hz : (⟨[0, 0], rfl⟩ : Ar 2) = Ar.zero 2 := rfl
  obtain ⟨r, h1, h2⟩ := PlayRace_l0 K hK a b c l h K 0 (Ar.zero 2) (by omega) (by omega)
  have h1' : spec_PlayRace.l0 K a b c l K 0 (Ar.zero 2) = some r := h1
  have h2' : impl_PlayRace.l0 K a b c l K 0 (Ar.zero 2) = some r := h2
  rw [hz, h1', h2']
  simp only [some_bind]
  rcases r with u | r
  all_goals
    split
    · split
      · split
        · exact ⟨_, rfl, rfl⟩
        · exact ⟨_, rfl, rfl⟩
      · exact ⟨_, rfl, rfl⟩
    · exact ⟨_, rfl, rfl⟩
theorem PlayRace_pure (a0 a1 : Ar 6) (a2 : Int) (l3 : List Int) (_w0 : ∀ z ∈ a0.l, (Lit.int .i64 z).wf = true) (_w1 : ∀ z ∈ a1.l, (Lit.int .i64 z).wf = true) (_w2 : (Lit.int .i64 a2).wf = true) (_m : l3.length ≤ maxLen) (_w3 : ∀ z ∈ l3, (Lit.int .i64 z).wf = true) : ∃ K, laws_FnExactPlayRace.f K a0 a1 a2 l3 = some true := by
  refine ⟨200000000, ?_⟩
  unfold laws_FnExactPlayRace.f
  by_cases h : (1048576 : Int) < l3.length
  · rw [if_pos h]
  · rw [if_neg h]
    have h' : l3.length ≤ 1048576 := by omega
    obtain ⟨r, h1, h2⟩ := PlayRace_same 200000000 (by omega) a0 a1 a2 l3 h'
    have t1 := toS 200000000 l3 h' (by omega)
    have q1 := eqS 200000000 l3 h' (by omega)
    have t2 := fun a => toA6 200000000 (by omega) a
    simp only [t1, t2, h1, h2, q1, some_bind, if_true, beq_self_eq_true]
end Go.Proofs.Ytgmalhohckcogaa.WPlayRace

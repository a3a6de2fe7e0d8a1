/- The plain law: what the walk shows to be computed answers true. Conditions: the numbers are 64-bit. -/
import Derived.Test.YtgmalhohckcogaaWPlayTurn
import Derived.KernelRfl
namespace Go.Proofs.Ytgmalhohckcogaa.WPlayTurn
open Go.K Go.RowKit
set_option linter.unusedVariables false
set_option linter.unusedSimpArgs false

theorem in_eq (K : Nat) (a lo hi : Int) : impl_within.f K a lo hi = some (decide (lo ≤ a ∧ a ≤ hi)) := by
  unfold impl_within.f
  by_cases h : lo ≤ a <;> simp [h]
theorem in_within : spec_l1In.f = impl_within.f := by kernel_rfl
def faceB (a : Int) : Bool := decide (0 ≤ a ∧ a ≤ 30)
theorem isFace_eq (K : Nat) (_hK : 2000000 ≤ K) (a : Int) : impl_isFace.f K a = some (faceB a) := by
  unfold impl_isFace.f
  rw [in_eq]; rfl
theorem w1 (n : Nat) (h : n ≤ 4000000000000000000) : wrap64 ((n : Int) + 1) = ((n + 1 : Nat) : Int) := by rw [w64 (by omega) (by omega)]; omega
theorem toS_l0 (K : Nat) (l : List Int) (h : l.length ≤ 1073741824) : ∀ (k n : Nat) (out : List Int), out.length = l.length → out.take n = l.take n → n ≤ l.length → l.length - n < k → laws_toIntS.l0 K l k (n : Int) out = some l := by
  intro k
  induction k with
  | zero => intro n out h1 h2 h3 h4; omega
  | succ k ih =>
    intro n out h1 h2 h3 h4
    rw [laws_toIntS.l0]
    by_cases hn : (n : Int) < (l.length : Int)
    · have hn' : n < l.length := by omega
      rw [if_pos hn, if_pos (by omega), if_pos (by omega), w1 n (by omega)]
      refine ih (n + 1) _ (by simp [h1]) ?_ (by omega) (by omega)
      have hnn : ((n : Int)).toNat = n := by omega
      rw [hnn, List.take_add_one, List.take_add_one, List.take_set_of_le (Nat.le_refl n), h2]
      rw [List.getElem?_set_self (by omega)]
      congr 1
      rw [List.getD_eq_getElem?_getD, List.getElem?_eq_getElem hn']
      rfl
    · rw [if_neg hn]
      have : n = l.length := by omega
      subst this
      rw [← h1, List.take_length, h1, List.take_length] at h2
      rw [h2]
theorem toS (K : Nat) (l : List Int) (h : l.length ≤ 1048576) (hK : 2000000 ≤ K) : laws_toIntS.f K l = some l := by
  unfold laws_toIntS.f
  rw [if_pos (by omega), show (0 : Int) = ((0 : Nat) : Int) from rfl, toS_l0 K l (by omega) K 0 _ (by simp) (by simp) (by omega) (by omega)]
  rfl
theorem allFace_l0 (K : Nat) (hK : 2000000 ≤ K) (l : List Int) (h : l.length ≤ 1073741824) : ∀ (k n : Nat), n ≤ l.length → l.length - n < k →
    (slices_IndexFunc_int_int__areAll_int_1_isFace.l0 K l k (n : Int) = some (Sum.inl ()) ∧ (l.drop n).all faceB = true) ∨ (∃ i : Int, 0 ≤ i ∧ slices_IndexFunc_int_int__areAll_int_1_isFace.l0 K l k (n : Int) = some (Sum.inr i) ∧ (l.drop n).all faceB = false) := by
  intro k
  induction k with
  | zero => intro n h1 h2; omega
  | succ k ih =>
    intro n h1 h2
    rw [slices_IndexFunc_int_int__areAll_int_1_isFace.l0]
    by_cases hn : (n : Int) < (l.length : Int)
    · have hn' : n < l.length := by omega
      have hnn : ((n : Int)).toNat = n := by omega
      have hd : l.drop n = l[n] :: l.drop (n + 1) := List.drop_eq_getElem_cons hn'
      have hg : l.getD n (0 : Int) = l[n] := by rw [List.getD_eq_getElem?_getD, List.getElem?_eq_getElem hn']; rfl
      rw [if_pos hn, if_pos (by omega), w1 n (by omega), hnn, hg, impl_areAll_int_1__isFace.f, isFace_eq K hK, hd]
      simp only [some_bind, List.all_cons]
      rcases Bool.eq_false_or_eq_true (faceB l[n]) with e | e
      · rw [e]
        simp only [Bool.not_true, Bool.false_eq_true, if_false, Bool.true_and]
        exact ih (n + 1) (by omega) (by omega)
      · rw [e]
        simp only [Bool.not_false, if_true, Bool.false_and]
        exact .inr ⟨_, by omega, rfl, trivial⟩
    · rw [if_neg hn]
      have : n = l.length := by omega
      subst this
      exact .inl ⟨rfl, by simp⟩
theorem allFace_eq (K : Nat) (hK : 2000000 ≤ K) (l : List Int) (h : l.length ≤ 1048576) : impl_areAll_int__isFace.f K l = some (l.all faceB) := by
  unfold impl_areAll_int__isFace.f slices_ContainsFunc_int_int__areAll_int_1_isFace.f slices_IndexFunc_int_int__areAll_int_1_isFace.f
  rcases allFace_l0 K hK l (by omega) K 0 (by omega) (by omega) with ⟨h1, h2⟩ | ⟨i, hi, h1, h2⟩
  · rw [show (0 : Int) = ((0 : Nat) : Int) from rfl, h1]
    simp only [some_bind, List.drop_zero] at h2 ⊢
    rw [h2]; rfl
  · rw [show (0 : Int) = ((0 : Nat) : Int) from rfl, h1]
    simp only [some_bind, List.drop_zero] at h2 ⊢
    rw [h2]
    have : decide (((0 : Nat) : Int) ≤ i) = true := decide_eq_true (by simpa using hi)
    rw [this]; rfl
def dieP (a : Ar 6) : Prop := ((0 ≤ a.get 0 ∧ a.get 0 ≤ 30) ∧ (0 ≤ a.get 1 ∧ a.get 1 ≤ 30) ∧ (0 ≤ a.get 2 ∧ a.get 2 ≤ 30) ∧ (0 ≤ a.get 3 ∧ a.get 3 ≤ 30) ∧ (0 ≤ a.get 4 ∧ a.get 4 ≤ 30) ∧ (0 ≤ a.get 5 ∧ a.get 5 ≤ 30)) ∧ (a.get 0 ≤ a.get 1 ∧ a.get 1 ≤ a.get 2 ∧ a.get 2 ≤ a.get 3 ∧ a.get 3 ≤ a.get 4 ∧ a.get 4 ≤ a.get 5)
instance (a : Ar 6) : Decidable (dieP a) := by unfold dieP; infer_instance
def dieB (a : Ar 6) : Bool := decide (dieP a)
theorem die_get (x y z u v w : Int) : (Ar.get (⟨[x, y, z, u, v, w], rfl⟩ : Ar 6) 0 = x ∧ Ar.get (⟨[x, y, z, u, v, w], rfl⟩ : Ar 6) 1 = y ∧ Ar.get (⟨[x, y, z, u, v, w], rfl⟩ : Ar 6) 2 = z) ∧ (Ar.get (⟨[x, y, z, u, v, w], rfl⟩ : Ar 6) 3 = u ∧ Ar.get (⟨[x, y, z, u, v, w], rfl⟩ : Ar 6) 4 = v ∧ Ar.get (⟨[x, y, z, u, v, w], rfl⟩ : Ar 6) 5 = w) := ⟨⟨rfl, rfl, rfl⟩, rfl, rfl, rfl⟩
set_option maxHeartbeats 4000000 in
theorem die_spec (K : Nat) (hK : 2000000 ≤ K) (a : Ar 6) : spec_l2Die.f K a = some (dieB a) := by
  obtain ⟨k, rfl⟩ := Nat.exists_eq_add_of_le (show 8 ≤ K by omega)
  obtain ⟨x, y, z, u, v, w, rfl⟩ := Ar.cases6 a
  have e : 8 + k = k + 1 + 1 + 1 + 1 + 1 + 1 + 1 + 1 := by omega
  unfold spec_l2Die.f dieB dieP
  obtain ⟨⟨g0, g1, g2⟩, g3, g4, g5⟩ := die_get x y z u v w
  rw [e]
  simp only [spec_l2Die.l0, in_within, in_eq, some_bind, show (0 : Int) < 6 by decide, show wrap64 (0 + 1) = 1 by decide +kernel, show wrap64 (1 + 1) = 2 by decide +kernel, show wrap64 (2 + 1) = 3 by decide +kernel, show wrap64 (3 + 1) = 4 by decide +kernel, show wrap64 (4 + 1) = 5 by decide +kernel, show wrap64 (5 + 1) = 6 by decide +kernel, show wrap64 (1 - 1) = 0 by decide +kernel, show wrap64 (2 - 1) = 1 by decide +kernel, show wrap64 (3 - 1) = 2 by decide +kernel, show wrap64 (4 - 1) = 3 by decide +kernel, show wrap64 (5 - 1) = 4 by decide +kernel, g0, g1, g2, g3, g4, g5, decide_eq_true_eq]
  simp
  repeat' split
  all_goals simp_all
  all_goals omega
set_option maxHeartbeats 4000000 in
theorem die_impl (K : Nat) (hK : 2000000 ≤ K) (a : Ar 6) : impl_IsDie.f K a = some (dieB a) := by
  obtain ⟨x, y, z, u, v, w, rfl⟩ := Ar.cases6 a
  unfold impl_IsDie.f dieB dieP
  rw [allFace_eq K hK _ (by simp)]
  obtain ⟨k, rfl⟩ := Nat.exists_eq_add_of_le (show 8 ≤ K by omega)
  have e : 8 + k = k + 1 + 1 + 1 + 1 + 1 + 1 + 1 + 1 := by omega
  obtain ⟨⟨g0, g1, g2⟩, g3, g4, g5⟩ := die_get x y z u v w
  unfold slices_IsSorted_int_int.f
  rw [e]
  simp [slices_IsSorted_int_int.l0, cmp_Less_int.f, cmp_isNaN_int.f, some_bind, show wrap64 (6 - 1) = 5 by decide +kernel, show wrap64 5 = 5 by decide +kernel, show wrap64 (5 - 1) = 4 by decide +kernel, show wrap64 (4 - 1) = 3 by decide +kernel, show wrap64 (3 - 1) = 2 by decide +kernel, show wrap64 (2 - 1) = 1 by decide +kernel, show wrap64 (1 - 1) = 0 by decide +kernel, show wrap64 4 = 4 by decide +kernel, show wrap64 3 = 3 by decide +kernel, show wrap64 2 = 2 by decide +kernel, show wrap64 1 = 1 by decide +kernel, show wrap64 0 = 0 by decide +kernel, g0, g1, g2, g3, g4, g5, faceB]
  repeat' split
  all_goals simp_all
  all_goals omega
theorem runner_eq (K : Nat) (hK : 2000000 ≤ K) (a : Ar 6) : spec_l7Die.f K a = some (dieB a && decide (0 < a.get 0)) ∧ impl_isRunner.f K a = some (dieB a && decide (0 < a.get 0)) := by
  unfold spec_l7Die.f impl_isRunner.f
  rw [die_spec K hK, die_impl K hK]
  simp only [some_bind]
  cases dieB a <;> simp
theorem turn_eq (K : Nat) (hK : 2000000 ≤ K) (a : Ar 6) (b c : Int) : ∃ r, spec_l7Turn.f K a b c = some r ∧ impl_isTurn.f K a b c = some r ∧ (r = true → (dieB a = true ∧ 0 < a.get 0) ∧ (1 ≤ b ∧ b ≤ 30) ∧ 1 ≤ c ∧ c ≤ 10) := by
  unfold spec_l7Turn.f impl_isTurn.f
  rw [(runner_eq K hK a).1, (runner_eq K hK a).2, in_within, in_eq]
  simp only [some_bind]
  by_cases h1 : (dieB a && decide (0 < a.get 0)) = true
  · by_cases h2 : 1 ≤ b ∧ b ≤ 30
    · refine ⟨decide (1 ≤ c ∧ c ≤ 10), ?_, ?_, ?_⟩
      · simp [h1, h2, in_eq]
      · simp [h1, h2, in_eq]
      · simp only [decide_eq_true_eq]
        intro h3
        simp only [Bool.and_eq_true, decide_eq_true_eq] at h1
        exact ⟨h1, h2, h3⟩
    · exact ⟨false, by simp [h1, h2], by simp [h1, h2], by simp⟩
  · exact ⟨false, by simp [h1], by simp [h1], by simp⟩
theorem toA6 (K : Nat) (hK : 8 ≤ K) (a : Ar 6) : laws_toIntA6.f K a = some a := by
  obtain ⟨k, rfl⟩ := Nat.exists_eq_add_of_le hK
  obtain ⟨x, y, z, u, v, w, rfl⟩ := Ar.cases6 a
  have e : 8 + k = k + 1 + 1 + 1 + 1 + 1 + 1 + 1 + 1 := by omega
  unfold laws_toIntA6.f
  rw [e]
  simp only [laws_toIntA6.l0, show (0 : Int) < 6 by decide, show wrap64 (0 + 1) = 1 by decide +kernel, show wrap64 (1 + 1) = 2 by decide +kernel, show wrap64 (2 + 1) = 3 by decide +kernel, show wrap64 (3 + 1) = 4 by decide +kernel, show wrap64 (4 + 1) = 5 by decide +kernel, show wrap64 (5 + 1) = 6 by decide +kernel, if_true, show (0 : Int) ≤ 0 ∧ True by decide]
  rfl
def sideB (a : Int) : Bool := decide (0 ≤ a ∧ a ≤ 5)
theorem isSide_eq (K : Nat) (_hK : 2000000 ≤ K) (a : Int) : impl_isSide.f K a = some (sideB a) := by
  unfold impl_isSide.f
  rw [in_eq]; rfl
theorem eqS_l0 (K : Nat) (l : List Int) (h : l.length ≤ 1073741824) : ∀ (k n : Nat), n ≤ l.length → l.length - n < k → laws_eqIntS.l0 K l l k (n : Int) = some (Sum.inl ()) := by
  intro k
  induction k with
  | zero => intro n h1 h2; omega
  | succ k ih =>
    intro n h1 h2
    rw [laws_eqIntS.l0]
    by_cases hn : (n : Int) < (l.length : Int)
    · rw [if_pos hn, if_pos (by omega), if_pos (by omega), if_pos rfl, w1 n (by omega)]
      exact ih (n + 1) (by omega) (by omega)
    · rw [if_neg hn]
theorem eqS (K : Nat) (l : List Int) (h : l.length ≤ 1048576) (hK : 2000000 ≤ K) : laws_eqIntS.f K l l = some true := by
  unfold laws_eqIntS.f
  rw [if_pos rfl, show (0 : Int) = ((0 : Nat) : Int) from rfl, eqS_l0 K l (by omega) K 0 (by omega) (by omega)]
  rfl
theorem PlayTurn_l0 (K : Nat) (hK : 2000000 ≤ K) (a : Ar 6) (b c : Int) (l : List Int) (h : l.length ≤ 1048576) : ∀ (k n : Nat) (z : Int), n ≤ l.length → l.length - n < k → ∃ r, spec_PlayTurn.l0 K a b c l k z (n : Int) = some r ∧ impl_PlayTurn.l0 K a b c l k z (n : Int) = some r := by
  intro k
  induction k with
  | zero => intro n z h1 h2; omega
  | succ k ih =>
    intro n z h1 h2
    rw [spec_PlayTurn.l0, impl_PlayTurn.l0]
    by_cases hn : (n : Int) < (l.length : Int)
    · have ih' := fun z => ih (n + 1) z (by omega) (by omega)
      have c2 : (0 : Int) ≤ (n : Int) ∧ (n : Int) < (l.length : Int) := by omega
      simp only [if_pos hn, if_pos c2, isSide_eq K hK, in_within, in_eq, w1 n (by omega), some_bind, sideB, decide_eq_true_eq]
      generalize l.getD ((n : Int)).toNat 0 = q
      by_cases hs : 0 ≤ q ∧ q ≤ 5
      · have hs' : (0 : Int) ≤ q ∧ q < 6 := by omega
        simp only [hs, hs', and_self, if_true]
        split
        · exact ⟨_, rfl, rfl⟩
        · split
          · exact ⟨_, rfl, rfl⟩
          · exact ih' _
      · simp only [hs, if_false]
        exact ⟨_, rfl, rfl⟩
    · rw [if_neg hn, if_neg hn]; exact ⟨_, rfl, rfl⟩
theorem PlayTurn_pure (a0 : Ar 6) (a1 a2 : Int) (l3 : List Int) (_w0 : ∀ z ∈ a0.l, (Lit.int .i64 z).wf = true) (_w1 : (Lit.int .i64 a1).wf = true) (_w2 : (Lit.int .i64 a2).wf = true) (_m : l3.length ≤ maxLen) (_w3 : ∀ z ∈ l3, (Lit.int .i64 z).wf = true) : ∃ K, laws_FnExactPlayTurn.f K a0 a1 a2 l3 = some true := by
  refine ⟨200000000, ?_⟩
  unfold laws_FnExactPlayTurn.f
  by_cases h : (1048576 : Int) < l3.length
  · rw [if_pos h]
  · rw [if_neg h]
    have h' : l3.length ≤ 1048576 := by omega
    have hs : ∃ r, spec_PlayTurn.f 200000000 a0 a1 a2 l3 = some r ∧ impl_PlayTurn.f 200000000 a0 a1 a2 l3 = some r := by
      unfold spec_PlayTurn.f impl_PlayTurn.f
      obtain ⟨b, e1, e2, _⟩ := turn_eq 200000000 (by omega) a0 a1 a2
      obtain ⟨r, h1, h2⟩ := PlayTurn_l0 200000000 (by omega) a0 a1 a2 l3 h' 200000000 0 0 (by omega) (by omega)
      rw [e1, e2, show spec_PlayTurn.l0 200000000 a0 a1 a2 l3 200000000 0 0 = some r from h1, show impl_PlayTurn.l0 200000000 a0 a1 a2 l3 200000000 0 0 = some r from h2]
      simp only [some_bind]
      rcases r with u | r <;>
      · split
        · exact ⟨_, rfl, rfl⟩
        · exact ⟨_, rfl, rfl⟩
    obtain ⟨r, h1, h2⟩ := hs
    have t1 := toS 200000000 l3 h' (by omega)
    have q1 := eqS 200000000 l3 h' (by omega)
    have t2 := fun a => toA6 200000000 (by omega) a
    simp only [t1, t2, h1, h2, q1, some_bind, if_true, beq_self_eq_true]
end Go.Proofs.Ytgmalhohckcogaa.WPlayTurn

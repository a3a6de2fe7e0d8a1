/- The plain law: what the walk shows to be computed answers true. Conditions: the numbers are 64-bit. -/
import Derived.Test.YtlbedonjfihldaaWPlaySets
import Derived.KernelRfl
namespace Go.Proofs.Ytlbedonjfihldaa.WPlaySets
open Go.K Go.RowKit
set_option linter.unusedVariables false
set_option linter.unusedSimpArgs false

theorem in_eq (K : Nat) (a lo hi : Int) : impl_within.f K a lo hi = some (decide (lo ≤ a ∧ a ≤ hi)) := by
  unfold impl_within.f
  by_cases h : lo ≤ a <;> simp [h]
theorem in_within : spec_l1In.f = impl_within.f := by kernel_rfl
def faceB (a : Int) : Bool := decide (0 ≤ a ∧ a ≤ 30)
theorem isFace_eq (K : Nat) (_hK : 2000000 ≤ K) (a : Int) : impl_isFace.f K a = some (faceB a) := by
  unfold impl_isFace.f
  rw [in_eq]; rfl
theorem w1 (n : Nat) (h : n ≤ 4000000000000000000) : wrap64 ((n : Int) + 1) = ((n + 1 : Nat) : Int) := by rw [w64 (by omega) (by omega)]; omega
theorem toS_l0 (K : Nat) (l : List Int) (h : l.length ≤ 1073741824) : ∀ (k n : Nat) (out : List Int), out.length = l.length → out.take n = l.take n → n ≤ l.length → l.length - n < k → laws_toIntS.l0 K l k (n : Int) out = some l := by
  intro k
  induction k with
  | zero => intro n out h1 h2 h3 h4; omega
  | succ k ih =>
    intro n out h1 h2 h3 h4
    rw [laws_toIntS.l0]
    by_cases hn : (n : Int) < (l.length : Int)
    · have hn' : n < l.length := by omega
      rw [if_pos hn, if_pos (by omega), if_pos (by omega), w1 n (by omega)]
      refine ih (n + 1) _ (by simp [h1]) ?_ (by omega) (by omega)
      have hnn : ((n : Int)).toNat = n := by omega
      rw [hnn, List.take_add_one, List.take_add_one, List.take_set_of_le (Nat.le_refl n), h2]
      rw [List.getElem?_set_self (by omega)]
      congr 1
      rw [List.getD_eq_getElem?_getD, List.getElem?_eq_getElem hn']
      rfl
    · rw [if_neg hn]
      have : n = l.length := by omega
      subst this
      rw [← h1, List.take_length, h1, List.take_length] at h2
      rw [h2]
theorem toS (K : Nat) (l : List Int) (h : l.length ≤ 1048576) (hK : 2000000 ≤ K) : laws_toIntS.f K l = some l := by
  unfold laws_toIntS.f
  rw [if_pos (by omega), show (0 : Int) = ((0 : Nat) : Int) from rfl, toS_l0 K l (by omega) K 0 _ (by simp) (by simp) (by omega) (by omega)]
  rfl
theorem allFace_l0 (K : Nat) (hK : 2000000 ≤ K) (l : List Int) (h : l.length ≤ 1073741824) : ∀ (k n : Nat), n ≤ l.length → l.length - n < k →
    (slices_IndexFunc_int_int__areAll_int_1_isFace.l0 K l k (n : Int) = some (Sum.inl ()) ∧ (l.drop n).all faceB = true) ∨ (∃ i : Int, 0 ≤ i ∧ slices_IndexFunc_int_int__areAll_int_1_isFace.l0 K l k (n : Int) = some (Sum.inr i) ∧ (l.drop n).all faceB = false) := by
  intro k
  induction k with
  | zero => intro n h1 h2; omega
  | succ k ih =>
    intro n h1 h2
    rw [slices_IndexFunc_int_int__areAll_int_1_isFace.l0]
    by_cases hn : (n : Int) < (l.length : Int)
    · have hn' : n < l.length := by omega
      have hnn : ((n : Int)).toNat = n := by omega
      have hd : l.drop n = l[n] :: l.drop (n + 1) := List.drop_eq_getElem_cons hn'
      have hg : l.getD n (0 : Int) = l[n] := by rw [List.getD_eq_getElem?_getD, List.getElem?_eq_getElem hn']; rfl
      rw [if_pos hn, if_pos (by omega), w1 n (by omega), hnn, hg, impl_areAll_int_1__isFace.f, isFace_eq K hK, hd]
      simp only [some_bind, List.all_cons]
      rcases Bool.eq_false_or_eq_true (faceB l[n]) with e | e
      · rw [e]
        simp only [Bool.not_true, Bool.false_eq_true, if_false, Bool.true_and]
        exact ih (n + 1) (by omega) (by omega)
      · rw [e]
        simp only [Bool.not_false, if_true, Bool.false_and]
        exact .inr ⟨_, by omega, rfl, trivial⟩
    · rw [if_neg hn]
      have : n = l.length := by omega
      subst this
      exact .inl ⟨rfl, by simp⟩
theorem allFace_eq (K : Nat) (hK : 2000000 ≤ K) (l : List Int) (h : l.length ≤ 1048576) : impl_areAll_int__isFace.f K l = some (l.all faceB) := by
  unfold impl_areAll_int__isFace.f slices_ContainsFunc_int_int__areAll_int_1_isFace.f slices_IndexFunc_int_int__areAll_int_1_isFace.f
  rcases allFace_l0 K hK l (by omega) K 0 (by omega) (by omega) with ⟨h1, h2⟩ | ⟨i, hi, h1, h2⟩
  · rw [show (0 : Int) = ((0 : Nat) : Int) from rfl, h1]
    simp only [some_bind, List.drop_zero] at h2 ⊢
    rw [h2]; rfl
  · rw [show (0 : Int) = ((0 : Nat) : Int) from rfl, h1]
    simp only [some_bind, List.drop_zero] at h2 ⊢
    rw [h2]
    have : decide (((0 : Nat) : Int) ≤ i) = true := decide_eq_true (by simpa using hi)
    rw [this]; rfl
theorem eqS_l0 (K : Nat) (l : List Int) (h : l.length ≤ 1073741824) : ∀ (k n : Nat), n ≤ l.length → l.length - n < k → laws_eqIntS.l0 K l l k (n : Int) = some (Sum.inl ()) := by
  intro k
  induction k with
  | zero => intro n h1 h2; omega
  | succ k ih =>
    intro n h1 h2
    rw [laws_eqIntS.l0]
    by_cases hn : (n : Int) < (l.length : Int)
    · rw [if_pos hn, if_pos (by omega), if_pos (by omega), if_pos rfl, w1 n (by omega)]
      exact ih (n + 1) (by omega) (by omega)
    · rw [if_neg hn]
theorem eqS (K : Nat) (l : List Int) (h : l.length ≤ 1048576) (hK : 2000000 ≤ K) : laws_eqIntS.f K l l = some true := by
  unfold laws_eqIntS.f
  rw [if_pos rfl, show (0 : Int) = ((0 : Nat) : Int) from rfl, eqS_l0 K l (by omega) K 0 (by omega) (by omega)]
  rfl
def dieP (a : Ar 6) : Prop := ((0 ≤ a.get 0 ∧ a.get 0 ≤ 30) ∧ (0 ≤ a.get 1 ∧ a.get 1 ≤ 30) ∧ (0 ≤ a.get 2 ∧ a.get 2 ≤ 30) ∧ (0 ≤ a.get 3 ∧ a.get 3 ≤ 30) ∧ (0 ≤ a.get 4 ∧ a.get 4 ≤ 30) ∧ (0 ≤ a.get 5 ∧ a.get 5 ≤ 30)) ∧ (a.get 0 ≤ a.get 1 ∧ a.get 1 ≤ a.get 2 ∧ a.get 2 ≤ a.get 3 ∧ a.get 3 ≤ a.get 4 ∧ a.get 4 ≤ a.get 5)
instance (a : Ar 6) : Decidable (dieP a) := by unfold dieP; infer_instance
def dieB (a : Ar 6) : Bool := decide (dieP a)
theorem die_get (x y z u v w : Int) : (Ar.get (⟨[x, y, z, u, v, w], rfl⟩ : Ar 6) 0 = x ∧ Ar.get (⟨[x, y, z, u, v, w], rfl⟩ : Ar 6) 1 = y ∧ Ar.get (⟨[x, y, z, u, v, w], rfl⟩ : Ar 6) 2 = z) ∧ (Ar.get (⟨[x, y, z, u, v, w], rfl⟩ : Ar 6) 3 = u ∧ Ar.get (⟨[x, y, z, u, v, w], rfl⟩ : Ar 6) 4 = v ∧ Ar.get (⟨[x, y, z, u, v, w], rfl⟩ : Ar 6) 5 = w) := ⟨⟨rfl, rfl, rfl⟩, rfl, rfl, rfl⟩
set_option maxHeartbeats 4000000 in
theorem die_spec (K : Nat) (hK : 2000000 ≤ K) (a : Ar 6) : spec_l2Die.f K a = some (dieB a) := by
  obtain ⟨k, rfl⟩ := Nat.exists_eq_add_of_le (show 8 ≤ K by omega)
  obtain ⟨x, y, z, u, v, w, rfl⟩ := Ar.cases6 a
  have e : 8 + k = k + 1 + 1 + 1 + 1 + 1 + 1 + 1 + 1 := by omega
  unfold spec_l2Die.f dieB dieP
  obtain ⟨⟨g0, g1, g2⟩, g3, g4, g5⟩ := die_get x y z u v w
  rw [e]
  simp only [spec_l2Die.l0, in_within, in_eq, some_bind, show (0 : Int) < 6 by decide, show wrap64 (0 + 1) = 1 by decide +kernel, show wrap64 (1 + 1) = 2 by decide +kernel, show wrap64 (2 + 1) = 3 by decide +kernel, show wrap64 (3 + 1) = 4 by decide +kernel, show wrap64 (4 + 1) = 5 by decide +kernel, show wrap64 (5 + 1) = 6 by decide +kernel, show wrap64 (1 - 1) = 0 by decide +kernel, show wrap64 (2 - 1) = 1 by decide +kernel, show wrap64 (3 - 1) = 2 by decide +kernel, show wrap64 (4 - 1) = 3 by decide +kernel, show wrap64 (5 - 1) = 4 by decide +kernel, g0, g1, g2, g3, g4, g5, decide_eq_true_eq]
  simp
  repeat' split
  all_goals simp_all
  all_goals omega
set_option maxHeartbeats 4000000 in
theorem die_impl (K : Nat) (hK : 2000000 ≤ K) (a : Ar 6) : impl_IsDie.f K a = some (dieB a) := by
  obtain ⟨x, y, z, u, v, w, rfl⟩ := Ar.cases6 a
  unfold impl_IsDie.f dieB dieP
  rw [allFace_eq K hK _ (by simp)]
  obtain ⟨k, rfl⟩ := Nat.exists_eq_add_of_le (show 8 ≤ K by omega)
  have e : 8 + k = k + 1 + 1 + 1 + 1 + 1 + 1 + 1 + 1 := by omega
  obtain ⟨⟨g0, g1, g2⟩, g3, g4, g5⟩ := die_get x y z u v w
  unfold slices_IsSorted_int_int.f
  rw [e]
  simp [slices_IsSorted_int_int.l0, cmp_Less_int.f, cmp_isNaN_int.f, some_bind, show wrap64 (6 - 1) = 5 by decide +kernel, show wrap64 5 = 5 by decide +kernel, show wrap64 (5 - 1) = 4 by decide +kernel, show wrap64 (4 - 1) = 3 by decide +kernel, show wrap64 (3 - 1) = 2 by decide +kernel, show wrap64 (2 - 1) = 1 by decide +kernel, show wrap64 (1 - 1) = 0 by decide +kernel, show wrap64 4 = 4 by decide +kernel, show wrap64 3 = 3 by decide +kernel, show wrap64 2 = 2 by decide +kernel, show wrap64 1 = 1 by decide +kernel, show wrap64 0 = 0 by decide +kernel, g0, g1, g2, g3, g4, g5, faceB]
  repeat' split
  all_goals simp_all
  all_goals omega
theorem IsDie_eq (K : Nat) (hK : 2000000 ≤ K) (a : Ar 6) : impl_IsDie.f K a = some (dieB a) := die_impl K hK a
theorem allDie_l0 (K : Nat) (hK : 2000000 ≤ K) (l : List (Ar 6)) (h : l.length ≤ 1073741824) : ∀ (k n : Nat), n ≤ l.length → l.length - n < k →
    (slices_IndexFunc_6_int_6_int__areAll_6_int_1_IsDie.l0 K l k (n : Int) = some (Sum.inl ()) ∧ (l.drop n).all dieB = true) ∨ (∃ i : Int, 0 ≤ i ∧ slices_IndexFunc_6_int_6_int__areAll_6_int_1_IsDie.l0 K l k (n : Int) = some (Sum.inr i) ∧ (l.drop n).all dieB = false) := by
  intro k
  induction k with
  | zero => intro n h1 h2; omega
  | succ k ih =>
    intro n h1 h2
    rw [slices_IndexFunc_6_int_6_int__areAll_6_int_1_IsDie.l0]
    by_cases hn : (n : Int) < (l.length : Int)
    · have hn' : n < l.length := by omega
      have hnn : ((n : Int)).toNat = n := by omega
      have hd : l.drop n = l[n] :: l.drop (n + 1) := List.drop_eq_getElem_cons hn'
      have hg : l.getD n (Ar.zero 6) = l[n] := by rw [List.getD_eq_getElem?_getD, List.getElem?_eq_getElem hn']; rfl
      rw [if_pos hn, if_pos (by omega), w1 n (by omega), hnn, hg, impl_areAll_6_int_1__IsDie.f, IsDie_eq K hK, hd]
      simp only [some_bind, List.all_cons]
      rcases Bool.eq_false_or_eq_true (dieB l[n]) with e | e
      · rw [e]
        simp only [Bool.not_true, Bool.false_eq_true, if_false, Bool.true_and]
        exact ih (n + 1) (by omega) (by omega)
      · rw [e]
        simp only [Bool.not_false, if_true, Bool.false_and]
        exact .inr ⟨_, by omega, rfl, trivial⟩
    · rw [if_neg hn]
      have : n = l.length := by omega
      subst this
      exact .inl ⟨rfl, by simp⟩
theorem allDie_eq (K : Nat) (hK : 2000000 ≤ K) (l : List (Ar 6)) (h : l.length ≤ 1048576) : impl_areAll_6_int__IsDie.f K l = some (l.all dieB) := by
  unfold impl_areAll_6_int__IsDie.f slices_ContainsFunc_6_int_6_int__areAll_6_int_1_IsDie.f slices_IndexFunc_6_int_6_int__areAll_6_int_1_IsDie.f
  rcases allDie_l0 K hK l (by omega) K 0 (by omega) (by omega) with ⟨h1, h2⟩ | ⟨i, hi, h1, h2⟩
  · rw [show (0 : Int) = ((0 : Nat) : Int) from rfl, h1]
    simp only [some_bind, List.drop_zero] at h2 ⊢
    rw [h2]; rfl
  · rw [show (0 : Int) = ((0 : Nat) : Int) from rfl, h1]
    simp only [some_bind, List.drop_zero] at h2 ⊢
    rw [h2]
    have : decide (((0 : Nat) : Int) ≤ i) = true := decide_eq_true (by simpa using hi)
    rw [this]; rfl
theorem capDie_l0 (K : Nat) (hK : 2000000 ≤ K) (l : List (Ar 6)) (h : l.length ≤ 1073741824) : ∀ (k n : Nat), n ≤ l.length → l.length - n < k →
    (spec_l2Pool.l0 K l k (n : Int) = some (Sum.inl ()) ∧ ((l.length : Int) ≤ 4 → (l.drop n).all dieB = true)) ∨ (spec_l2Pool.l0 K l k (n : Int) = some (Sum.inr false) ∧ (l.drop n).all dieB = false) := by
  intro k
  induction k with
  | zero => intro n h1 h2; omega
  | succ k ih =>
    intro n h1 h2
    rw [spec_l2Pool.l0]
    by_cases hn : (n : Int) < (l.length : Int)
    · rw [if_pos hn]
      by_cases hc : (n : Int) ≤ 4
      · have hn' : n < l.length := by omega
        have hnn : ((n : Int)).toNat = n := by omega
        have hd : l.drop n = l[n] :: l.drop (n + 1) := List.drop_eq_getElem_cons hn'
        have hg : l.getD n (Ar.zero 6) = l[n] := by rw [List.getD_eq_getElem?_getD, List.getElem?_eq_getElem hn']; rfl
        rw [if_pos hc, if_pos (by omega), w1 n (by omega), hnn, hg, die_spec K hK, hd]
        simp only [some_bind, List.all_cons]
        rcases Bool.eq_false_or_eq_true (dieB l[n]) with e | e
        · rw [e]
          simp only [if_true, Bool.true_and]
          exact ih (n + 1) (by omega) (by omega)
        · rw [e]
          simp only [Bool.false_eq_true, if_false, Bool.false_and]
          exact .inr ⟨trivial, trivial⟩
      · rw [if_neg hc]
        exact .inl ⟨rfl, fun h => by omega⟩
    · rw [if_neg hn]
      have : n = l.length := by omega
      subst this
      exact .inl ⟨rfl, by simp⟩
def poolB (l : List (Ar 6)) : Bool := decide ((1 : Int) ≤ l.length ∧ (l.length : Int) ≤ 4) && l.all dieB
theorem pool_spec (K : Nat) (hK : 2000000 ≤ K) (l : List (Ar 6)) (h : l.length ≤ 1048576) : spec_l2Pool.f K l = some (poolB l) := by
  unfold spec_l2Pool.f poolB
  rcases capDie_l0 K hK l (by omega) K 0 (by omega) (by omega) with ⟨h1, h2⟩ | ⟨h1, h2⟩
  · rw [show (0 : Int) = ((0 : Nat) : Int) from rfl, h1, in_within]
    simp only [some_bind, List.drop_zero, in_eq] at h2 ⊢
    by_cases hc : (l.length : Int) ≤ 4
    · rw [h2 hc]; simp [hc]
    · simp [hc]
  · rw [show (0 : Int) = ((0 : Nat) : Int) from rfl, h1]
    simp only [some_bind, List.drop_zero] at h2 ⊢
    rw [h2]; simp
theorem pool_impl (K : Nat) (hK : 2000000 ≤ K) (l : List (Ar 6)) (h : l.length ≤ 1048576) : impl_IsPool.f K l = some (poolB l) := by
  unfold impl_IsPool.f poolB
  rw [in_eq, allDie_eq K hK l h]
  simp only [some_bind]
  by_cases hc : (1 : Int) ≤ l.length ∧ (l.length : Int) ≤ 4 <;> simp [hc]
theorem pool_good (l : List (Ar 6)) (h : poolB l = true) : (1 ≤ l.length ∧ l.length ≤ 4) ∧ ∀ a ∈ l, dieB a = true := by
  unfold poolB at h
  simp only [Bool.and_eq_true, decide_eq_true_eq, List.all_eq_true] at h
  exact ⟨by omega, h.2⟩
theorem all_power : spec_l2All.f = impl_power.f := by kernel_rfl
theorem pow_lt (n : Nat) (h : n ≤ 22) : (6 : Int) ^ n ≤ 131621703842267136 := by
  have : (6 : Nat) ^ n ≤ 6 ^ 22 := Nat.pow_le_pow_right (by omega) h
  have h2 : ((6 ^ n : Nat) : Int) ≤ ((6 ^ 22 : Nat) : Int) := by exact_mod_cast this
  simpa using h2
theorem pow_pos (n : Nat) : (1 : Int) ≤ 6 ^ n := by
  have : 1 ≤ (6 : Nat) ^ n := Nat.one_le_pow _ _ (by omega)
  have h2 : ((1 : Nat) : Int) ≤ ((6 ^ n : Nat) : Int) := by exact_mod_cast this
  simpa using h2
theorem power_l0 (K : Nat) (n : Nat) (hn : n ≤ 22) : ∀ (k i : Nat), i ≤ n → n - i < k → impl_power.l0 K (n : Int) k ((6 : Int) ^ i) (i : Int) = some ((6 : Int) ^ n) := by
  intro k
  induction k with
  | zero => intro i h1 h2; omega
  | succ k ih =>
    intro i h1 h2
    rw [impl_power.l0]
    by_cases h : (i : Int) < (n : Int)
    · have hp := pow_lt (i + 1) (by omega)
      have hq := pow_pos (i + 1)
      have e : (6 : Int) ^ i * 6 = 6 ^ (i + 1) := (Int.pow_succ 6 i).symm
      rw [if_pos h, e, w64 (n := (6 : Int) ^ (i + 1)) (by omega) (by omega), w64 (n := (i : Int) + 1) (by omega) (by omega), show (i : Int) + 1 = ((i + 1 : Nat) : Int) by omega]
      exact ih (i + 1) (by omega) (by omega)
    · rw [if_neg h, show i = n by omega]
theorem power_eq (K : Nat) (hK : 30 ≤ K) (n : Nat) (hn : n ≤ 22) : impl_power.f K (n : Int) = some ((6 : Int) ^ n) := by
  unfold impl_power.f
  rw [show impl_power.l0 K (n : Int) K 1 0 = some ((6 : Int) ^ n) from power_l0 K n hn K 0 (by omega) (by omega)]
  rfl
theorem toA6 (K : Nat) (hK : 8 ≤ K) (a : Ar 6) : laws_toIntA6.f K a = some a := by
  obtain ⟨k, rfl⟩ := Nat.exists_eq_add_of_le hK
  obtain ⟨x, y, z, u, v, w, rfl⟩ := Ar.cases6 a
  have e : 8 + k = k + 1 + 1 + 1 + 1 + 1 + 1 + 1 + 1 := by omega
  unfold laws_toIntA6.f
  rw [e]
  simp only [laws_toIntA6.l0, show (0 : Int) < 6 by decide, show wrap64 (0 + 1) = 1 by decide +kernel, show wrap64 (1 + 1) = 2 by decide +kernel, show wrap64 (2 + 1) = 3 by decide +kernel, show wrap64 (3 + 1) = 4 by decide +kernel, show wrap64 (4 + 1) = 5 by decide +kernel, show wrap64 (5 + 1) = 6 by decide +kernel, if_true, show (0 : Int) ≤ 0 ∧ True by decide]
  rfl
theorem toA6S_l0 (K : Nat) (hK : 8 ≤ K) (l : List (Ar 6)) (h : l.length ≤ 1073741824) : ∀ (k n : Nat) (out : List (Ar 6)), out.length = l.length → out.take n = l.take n → n ≤ l.length → l.length - n < k → laws_toIntA6S.l0 K l k (n : Int) out = some l := by
  intro k
  induction k with
  | zero => intro n out h1 h2 h3 h4; omega
  | succ k ih =>
    intro n out h1 h2 h3 h4
    rw [laws_toIntA6S.l0]
    by_cases hn : (n : Int) < (l.length : Int)
    · have hn' : n < l.length := by omega
      rw [if_pos hn, if_pos (by omega), toA6 K hK, some_bind, if_pos (by omega), w1 n (by omega)]
      refine ih (n + 1) _ (by simp [h1]) ?_ (by omega) (by omega)
      have hnn : ((n : Int)).toNat = n := by omega
      rw [hnn, List.take_add_one, List.take_add_one, List.take_set_of_le (Nat.le_refl n), h2]
      rw [List.getElem?_set_self (by omega)]
      congr 1
      rw [List.getD_eq_getElem?_getD, List.getElem?_eq_getElem hn']
      rfl
    · rw [if_neg hn]
      have : n = l.length := by omega
      subst this
      rw [← h1, List.take_length, h1, List.take_length] at h2
      rw [h2]
theorem toA6S (K : Nat) (l : List (Ar 6)) (h : l.length ≤ 1048576) (hK : 2000000 ≤ K) : laws_toIntA6S.f K l = some l := by
  unfold laws_toIntA6S.f
  rw [if_pos (by omega), show (0 : Int) = ((0 : Nat) : Int) from rfl, toA6S_l0 K (by omega) l (by omega) K 0 _ (by simp) (by simp) (by omega) (by omega)]
  rfl
theorem sizeA6S (K : Nat) (l : List (Ar 6)) (h : l.length ≤ maxLen) : (laws_szIntA6S.f K l 1048576 = some (-1) ∧ 1048576 < l.length) ∨ (∃ r : Int, 0 ≤ r ∧ laws_szIntA6S.f K l 1048576 = some r ∧ l.length ≤ 1048576) := by
  have hm : l.length ≤ 2 ^ 63 - 1 := h
  unfold laws_szIntA6S.f
  have e : wrap64 (1048576 - (l.length : Int)) = 1048576 - (l.length : Int) := w64 (by omega) (by omega)
  rw [e]
  by_cases hc : (1048576 : Int) - (l.length : Int) < 0
  · rw [if_pos hc]; exact .inl ⟨rfl, by omega⟩
  · rw [if_neg hc]; exact .inr ⟨_, by omega, rfl, by omega⟩
theorem eqA6 (K : Nat) (hK : 8 ≤ K) (a : Ar 6) : laws_eqIntA6.f K a a = some true := by
  obtain ⟨k, rfl⟩ := Nat.exists_eq_add_of_le hK
  rw [show 8 + k = k + 1 + 1 + 1 + 1 + 1 + 1 + 1 + 1 by omega]
  simp [laws_eqIntA6.f, laws_eqIntA6.l0, wrap64]
theorem eqA6S_l0 (K : Nat) (hK : 8 ≤ K) (l : List (Ar 6)) (h : l.length ≤ 1073741824) : ∀ (k n : Nat), n ≤ l.length → l.length - n < k → laws_eqIntA6S.l0 K l l k (n : Int) = some (Sum.inl ()) := by
  intro k
  induction k with
  | zero => intro n h1 h2; omega
  | succ k ih =>
    intro n h1 h2
    rw [laws_eqIntA6S.l0]
    by_cases hn : (n : Int) < (l.length : Int)
    · rw [if_pos hn, if_pos (by omega), if_pos (by omega), eqA6 K hK, some_bind, if_pos rfl, w1 n (by omega)]
      exact ih (n + 1) (by omega) (by omega)
    · rw [if_neg hn]
theorem eqA6S (K : Nat) (l : List (Ar 6)) (h : l.length ≤ 1048576) (hK : 2000000 ≤ K) : laws_eqIntA6S.f K l l = some true := by
  unfold laws_eqIntA6S.f
  rw [if_pos rfl, show (0 : Int) = ((0 : Nat) : Int) from rfl, eqA6S_l0 K (by omega) l (by omega) K 0 (by omega) (by omega)]
  rfl
theorem roll_roll : spec_l2Roll.f = impl_rollAt.f := by kernel_rfl
theorem roll_l0 (K : Nat) (l : List (Ar 6)) (h8 : l.length ≤ 8) : ∀ (k n : Nat) (v : Int) (out : List Int), n ≤ l.length → n < k → 0 ≤ v → v ≤ 1000000 → out.length = l.length → ∃ o, impl_rollAt.l0 K l k v ((n : Int) - 1) out = some o ∧ o.length = l.length := by
  intro k
  induction k with
  | zero => intro n v out h1 h2; omega
  | succ k ih =>
    intro n v out h1 h2 h3 h4 h5
    rw [impl_rollAt.l0]
    by_cases hn : n = 0
    · subst hn
      rw [if_neg (by decide)]
      exact ⟨out, rfl, h5⟩
    · obtain ⟨p, rfl⟩ : ∃ p, n = p + 1 := ⟨n - 1, by omega⟩
      have e : ((p + 1 : Nat) : Int) - 1 = (p : Int) := by omega
      have c0 : (0 : Int) ≤ (p : Int) := by omega
      have c1 : (0 : Int) ≤ (p : Int) ∧ (p : Int) < (l.length : Int) := by omega
      have c2 : (0 : Int) ≤ v.tmod 6 ∧ v.tmod 6 < 6 := by
        have := Int.tmod_nonneg (a := v) 6 h3
        have := Int.tmod_lt_of_pos v (b := 6) (by omega)
        omega
      have c3 : (0 : Int) ≤ (p : Int) ∧ (p : Int) < (out.length : Int) := by omega
      have d0 : 0 ≤ v.tdiv 6 := Int.tdiv_nonneg h3 (by omega)
      have d1 : v.tdiv 6 ≤ v := Int.tdiv_le_self _ h3
      have f1 : p ≤ l.length := by omega
      have f2 : p < k := by omega
      have f3 : v.tdiv 6 ≤ 1000000 := by omega
      have e1 : wrap64 (v.tdiv 6) = v.tdiv 6 := w64 (by omega) (by omega)
      have e2 : wrap64 ((p : Int) - 1) = (p : Int) - 1 := by clear e1; exact w64 (by omega) (by omega)
      rw [e, if_pos c0, if_pos c1, if_pos c2, if_pos c3, e1, e2]
      exact ih p _ _ f1 f2 d0 f3 (by rw [List.length_set]; exact h5)
def put (num w k : Nat) : Nat := num - num / w % 6 * w + k * w
def combo (N w : Nat) : Prop := (N = 6 ∧ w = 1) ∨ (N = 36 ∧ w = 6) ∨ (N = 36 ∧ w = 1) ∨ (N = 216 ∧ w = 36) ∨ (N = 216 ∧ w = 6) ∨ (N = 216 ∧ w = 1)
theorem put_lt (N w num k : Nat) (h : combo N w) (h1 : num < N) (hk : k < 6) : put num w k < N := by
  unfold put
  rcases h with ⟨rfl, rfl⟩ | ⟨rfl, rfl⟩ | ⟨rfl, rfl⟩ | ⟨rfl, rfl⟩ | ⟨rfl, rfl⟩ | ⟨rfl, rfl⟩ <;> omega
theorem combo_of (n i : Nat) (hn : 1 ≤ n ∧ n ≤ 3) (hi : i < n) : combo (6 ^ n) (6 ^ (n - 1 - i)) := by
  unfold combo
  rcases (show (n = 1 ∧ i = 0) ∨ (n = 2 ∧ i = 0) ∨ (n = 2 ∧ i = 1) ∨ (n = 3 ∧ i = 0) ∨ (n = 3 ∧ i = 1) ∨ (n = 3 ∧ i = 2) by omega) with ⟨rfl, rfl⟩ | ⟨rfl, rfl⟩ | ⟨rfl, rfl⟩ | ⟨rfl, rfl⟩ | ⟨rfl, rfl⟩ | ⟨rfl, rfl⟩ <;> simp
def sbit (set i : Nat) : Bool := decide (Go.bits .and .i64 ((set : Int).fdiv (2 ^ (min (i : Int).toNat 64))) 1 = 1)
def mg (n set : Nat) : Nat → Nat → Nat → Nat
  | 0, num, _ => num
  | i + 1, num, o => mg n set i (if sbit set i = true then put num (6 ^ (n - 1 - i)) (o % 6) else num) (o / 6)
theorem mg_lt (n set : Nat) (hn : 1 ≤ n ∧ n ≤ 3) : ∀ (i num o : Nat), i ≤ n → num < 6 ^ n → mg n set i num o < 6 ^ n
  | 0, num, o, _, h => h
  | i + 1, num, o, hi, h => by
    rw [mg]
    apply mg_lt n set hn i _ _ (by omega)
    split
    · exact put_lt _ _ _ _ (combo_of n i hn (by omega)) h (Nat.mod_lt _ (by omega))
    · exact h
theorem w6_eq (n i : Nat) (hn : 1 ≤ n ∧ n ≤ 3) (hi : i < n) : spec_l6Power.f 200000000 (n : Int) (i : Int) = some ((6 ^ (n - 1 - i) : Nat) : Int) := by
  unfold spec_l6Power.f
  have e : wrap64 (wrap64 ((n : Int) - 1) - (i : Int)) = ((n - 1 - i : Nat) : Int) := by
    rw [w64 (n := (n : Int) - 1) (by omega) (by omega), w64 (by omega) (by omega)]; omega
  rw [e, all_power, power_eq 200000000 (by omega) _ (by omega), some_bind]
  simp
theorem digit_eq (n i num : Nat) (hn : 1 ≤ n ∧ n ≤ 3) (hi : i < n) (hnum : num ≤ 1000) : spec_l6Digit.f 200000000 (n : Int) (num : Int) (i : Int) = some ((num / 6 ^ (n - 1 - i) % 6 : Nat) : Int) := by
  unfold spec_l6Digit.f
  have hp : 0 < 6 ^ (n - 1 - i) := Nat.pow_pos (by omega)
  rw [w6_eq n i hn hi, some_bind]
  generalize 6 ^ (n - 1 - i) = w at *
  have e1 : (num : Int).tdiv (w : Int) = ((num / w : Nat) : Int) := by rw [Int.tdiv_eq_ediv_of_nonneg (by omega)]; rfl
  have hle : num / w ≤ num := Nat.div_le_self _ _
  rw [if_pos (by omega), e1]
  generalize num / w = q at *
  rw [w64 (by omega) (by omega), Int.tmod_eq_emod_of_nonneg (by omega)]
  rfl
theorem pow6_few (n : Nat) (hn : n ≤ 3) : 1 ≤ 6 ^ n ∧ 6 ^ n ≤ 216 := by
  rcases (show n = 0 ∨ n = 1 ∨ n = 2 ∨ n = 3 by omega) with rfl | rfl | rfl | rfl <;> decide
theorem mrg_step (k set i num oth out wt : Nat) (hset : set < 8) (hi : i < 3) (hb : num ≤ 1000 ∧ oth ≤ 1000 ∧ out ≤ 1000000 ∧ wt ≤ 1000) : impl_again_merged__c.l0 200000000 (set : Int) (k + 1) (num : Int) (oth : Int) (out : Int) (wt : Int) (i : Int) = impl_again_merged__c.l0 200000000 (set : Int) k ((num / 6 : Nat) : Int) ((oth / 6 : Nat) : Int) ((out + (if sbit set i = true then oth % 6 else num % 6) * wt : Nat) : Int) ((wt * 6 : Nat) : Int) ((i : Int) - 1) := by
  have e1 : (num : Int).tdiv 6 = ((num / 6 : Nat) : Int) := by rw [Int.tdiv_eq_ediv_of_nonneg (by omega)]; rfl
  have e2 : (oth : Int).tdiv 6 = ((oth / 6 : Nat) : Int) := by rw [Int.tdiv_eq_ediv_of_nonneg (by omega)]; rfl
  have e3 : (num : Int).tmod 6 = ((num % 6 : Nat) : Int) := by rw [Int.tmod_eq_emod_of_nonneg (by omega)]; rfl
  have e4 : (oth : Int).tmod 6 = ((oth % 6 : Nat) : Int) := by rw [Int.tmod_eq_emod_of_nonneg (by omega)]; rfl
  have m1 : num % 6 * wt ≤ 5000 := by
    have : num % 6 * wt ≤ 5 * wt := Nat.mul_le_mul_right _ (by omega)
    omega
  have m2 : oth % 6 * wt ≤ 5000 := by
    have : oth % 6 * wt ≤ 5 * wt := Nat.mul_le_mul_right _ (by omega)
    omega
  rw [impl_again_merged__c.l0, if_pos (by omega), impl_isIn.f, if_pos (by omega), some_bind, e1, e2, e3, e4, w64 (n := ((num / 6 : Nat) : Int)) (by omega) (by omega), w64 (n := ((oth / 6 : Nat) : Int)) (by omega) (by omega), ← Int.natCast_mul, ← Int.natCast_mul, w64 (n := ((oth % 6 * wt : Nat) : Int)) (by omega) (by omega), w64 (n := ((num % 6 * wt : Nat) : Int)) (by omega) (by omega), w64 (n := (out : Int) + ((oth % 6 * wt : Nat) : Int)) (by omega) (by omega), w64 (n := (out : Int) + ((num % 6 * wt : Nat) : Int)) (by omega) (by omega), w64 (n := (wt : Int) * 6) (by omega) (by omega), w64 (n := (i : Int) - 1) (by omega) (by omega)]
  show (if sbit set i = true then _ else _) = _
  by_cases hs : sbit set i = true
  · simp only [if_pos hs]
    congr 1
  · simp only [if_neg hs]
    congr 1
theorem merged_eq (p : List (Ar 6)) (y : List (List Int)) (n set num oth : Nat) (hp : p.length = n) (hn : 1 ≤ n ∧ n ≤ 3) (hset : set < 8) (h1 : num < 6 ^ n) (h2 : oth < 6 ^ n) : impl_again_merged__c.f 200000000 p y (num : Int) (set : Int) (oth : Int) = some ((mg n set n num oth : Nat) : Int) := by
  unfold impl_again_merged__c.f
  have hN := pow6_few n hn.2
  have e : wrap64 ((p.length : Int) - 1) = ((n - 1 : Nat) : Int) := by rw [hp, w64 (by omega) (by omega)]; omega
  have stop : ∀ (k : Nat) (a b c d : Int), impl_again_merged__c.l0 200000000 (set : Int) (k + 1) a b c d (((0 : Nat) : Int) - 1) = some c := by
    intro k a b c d
    rw [impl_again_merged__c.l0, if_neg (by decide)]
  rw [e]
  rcases (show n = 1 ∨ n = 2 ∨ n = 3 by omega) with rfl | rfl | rfl
  · rw [show (200000000 : Nat) = 199999998 + 1 + 1 from rfl] at *
    have s1 := mrg_step (199999998 + 1) set 0 num oth 0 1 hset (by omega) (by omega)
    rw [show impl_again_merged__c.l0 (199999998 + 1 + 1) (set : Int) (199999998 + 1 + 1) (num : Int) (oth : Int) 0 1 ((1 - 1 : Nat) : Int) = _ from s1, stop, some_bind]
    congr 2
    simp only [mg, put]
    rcases Bool.eq_false_or_eq_true (sbit set 0) with h0 | h0 <;> simp [h0] <;> omega
  · have s1 := mrg_step 199999999 set 1 num oth 0 1 hset (by omega) (by omega)
    have hq : (if sbit set 1 = true then oth % 6 else num % 6) * 1 ≤ 5 := by split <;> omega
    have s2 := mrg_step 199999998 set 0 (num / 6) (oth / 6) (0 + (if sbit set 1 = true then oth % 6 else num % 6) * 1) (1 * 6) hset (by omega) (by omega)
    rw [show impl_again_merged__c.l0 200000000 (set : Int) 200000000 (num : Int) (oth : Int) 0 1 ((2 - 1 : Nat) : Int) = _ from s1]
    rw [show ((1 : Nat) : Int) - 1 = ((0 : Nat) : Int) from rfl]
    rw [show impl_again_merged__c.l0 200000000 (set : Int) 199999999 ((num / 6 : Nat) : Int) ((oth / 6 : Nat) : Int) ((0 + (if sbit set 1 = true then oth % 6 else num % 6) * 1 : Nat) : Int) ((1 * 6 : Nat) : Int) ((0 : Nat) : Int) = _ from s2, stop 199999997, some_bind]
    congr 2
    simp only [mg, put]
    rcases Bool.eq_false_or_eq_true (sbit set 0) with h0 | h0 <;> rcases Bool.eq_false_or_eq_true (sbit set 1) with h3 | h3 <;> simp [h0, h3] <;> omega
  · have s1 := mrg_step 199999999 set 2 num oth 0 1 hset (by omega) (by omega)
    have hq : (if sbit set 2 = true then oth % 6 else num % 6) * 1 ≤ 5 := by split <;> omega
    have s2 := mrg_step 199999998 set 1 (num / 6) (oth / 6) (0 + (if sbit set 2 = true then oth % 6 else num % 6) * 1) (1 * 6) hset (by omega) (by omega)
    have hq2 : (if sbit set 1 = true then oth / 6 % 6 else num / 6 % 6) * (1 * 6) ≤ 30 := by split <;> omega
    have s3 := mrg_step 199999997 set 0 (num / 6 / 6) (oth / 6 / 6) (0 + (if sbit set 2 = true then oth % 6 else num % 6) * 1 + (if sbit set 1 = true then oth / 6 % 6 else num / 6 % 6) * (1 * 6)) (1 * 6 * 6) hset (by omega) (by omega)
    rw [show impl_again_merged__c.l0 200000000 (set : Int) 200000000 (num : Int) (oth : Int) 0 1 ((3 - 1 : Nat) : Int) = _ from s1]
    rw [show ((2 : Nat) : Int) - 1 = ((1 : Nat) : Int) from rfl]
    rw [show impl_again_merged__c.l0 200000000 (set : Int) 199999999 ((num / 6 : Nat) : Int) ((oth / 6 : Nat) : Int) ((0 + (if sbit set 2 = true then oth % 6 else num % 6) * 1 : Nat) : Int) ((1 * 6 : Nat) : Int) ((1 : Nat) : Int) = _ from s2]
    rw [show ((1 : Nat) : Int) - 1 = ((0 : Nat) : Int) from rfl]
    rw [show impl_again_merged__c.l0 200000000 (set : Int) 199999998 ((num / 6 / 6 : Nat) : Int) ((oth / 6 / 6 : Nat) : Int) ((0 + (if sbit set 2 = true then oth % 6 else num % 6) * 1 + (if sbit set 1 = true then oth / 6 % 6 else num / 6 % 6) * (1 * 6) : Nat) : Int) ((1 * 6 * 6 : Nat) : Int) ((0 : Nat) : Int) = _ from s3, stop 199999996, some_bind]
    congr 2
    simp only [mg, put]
    rcases Bool.eq_false_or_eq_true (sbit set 0) with h0 | h0 <;> rcases Bool.eq_false_or_eq_true (sbit set 1) with h3 | h3 <;> rcases Bool.eq_false_or_eq_true (sbit set 2) with h4 | h4 <;> simp [h0, h3, h4] <;> omega
theorem powN (n : Nat) : ((6 ^ n : Nat) : Int) = (6 : Int) ^ n := by simp
theorem roll_some6 (l : List (Ar 6)) (h4 : l.length ≤ 4) (v : Int) (h0 : 0 ≤ v) (h1 : v ≤ 1000000) : ∃ o, impl_rollAt.f 200000000 l v = some o ∧ o.length = l.length := by
  obtain ⟨o, o1, o2⟩ := roll_l0 200000000 l (by omega) 200000000 l.length v (List.replicate l.length 0) (Nat.le_refl _) (by omega) h0 (by omega) (by simp)
  have c : (0 : Int) ≤ (l.length : Int) ∧ (l.length : Int) ≤ 1073741824 := by omega
  have e2 : wrap64 ((l.length : Int) - 1) = (l.length : Int) - 1 := w64 (by omega) (by omega)
  refine ⟨o, ?_, o2⟩
  unfold impl_rollAt.f
  rw [if_pos c, e2, Int.toNat_natCast, o1]
  rfl
theorem sets_eq (p : List (Ar 6)) (y : List (List Int)) (n : Nat) (hp : p.length = n) (hn : 1 ≤ n ∧ n ≤ 3) : impl_again_sets__c.f 200000000 p y = some ((2 ^ n : Nat) : Int) := by
  unfold impl_again_sets__c.f
  rw [hp, if_pos (by omega)]
  rcases (show n = 1 ∨ n = 2 ∨ n = 3 by omega) with rfl | rfl | rfl <;> kernel_rfl
theorem shl_eq (n : Nat) (hn : 1 ≤ n ∧ n ≤ 3) : wrap64 (1 * 2 ^ (min ((n : Int) : Int).toNat 64)) = ((2 ^ n : Nat) : Int) := by
  rcases (show n = 1 ∨ n = 2 ∨ n = 3 by omega) with rfl | rfl | rfl <;> kernel_rfl
theorem pow2_few (n : Nat) (hn : 1 ≤ n ∧ n ≤ 3) : 2 ≤ 2 ^ n ∧ 2 ^ n ≤ 8 := by
  rcases (show n = 1 ∨ n = 2 ∨ n = 3 by omega) with rfl | rfl | rfl <;> decide
/-- Lists of values: so many, and none too great. -/
theorem num_same (l : List (Ar 6)) (n : Nat) (hl : l.length = n) (hn : 1 ≤ n ∧ n ≤ 3) (a : Int) : spec_l6Number.f 200000000 l a = some (decide (0 ≤ a ∧ a < ((6 ^ n : Nat) : Int))) ∧ impl_isOutcome.f 200000000 l a = some (decide (0 ≤ a ∧ a < ((6 ^ n : Nat) : Int))) := by
  have hN := pow6_few n hn.2
  have e : wrap64 (((6 ^ n : Nat) : Int) - 1) = ((6 ^ n : Nat) : Int) - 1 := w64 (by omega) (by omega)
  unfold spec_l6Number.f impl_isOutcome.f
  rw [all_power, hl, power_eq 200000000 (by omega) n (by omega), ← powN, some_bind, some_bind, e, in_within]
  simp only [in_eq, some_bind]
  have : (decide (0 ≤ a ∧ a ≤ ((6 ^ n : Nat) : Int) - 1)) = decide (0 ≤ a ∧ a < ((6 ^ n : Nat) : Int)) := by rw [decide_eq_decide]; omega
  rw [this]
  exact ⟨rfl, rfl⟩
def marksS (a : Int) : Nat → List Int
  | 0 => []
  | n + 1 => a :: marksS (a + 1) n
theorem marksS_length : ∀ (n : Nat) (a : Int), (marksS a n).length = n
  | 0, _ => rfl
  | n + 1, a => by simp [marksS, marksS_length n]
theorem marksS_get : ∀ (n : Nat) (a : Int) (i : Nat), i < n → (marksS a n)[i]? = some (a + i)
  | 0, _, i, h => by omega
  | n + 1, a, 0, _ => by simp [marksS]
  | n + 1, a, i + 1, h => by
    simp only [marksS, List.getElem?_cons_succ]
    rw [marksS_get n (a + 1) i (by omega)]
    congr 1
    omega
theorem markS_l0 (K : Nat) (l : List Int) (N : Nat) (a : Int) (h0 : 0 ≤ a) (h : N ≤ 1073741824) (ha : a ≤ 1073741824) : ∀ (k n : Nat) (out : List Int), out.length = N → out.take n = (marksS a N).take n → n ≤ N → N - n < k → laws_markIntS.l0 K l k (a + n) (n : Int) out = some (a + N, marksS a N) := by
  intro k
  induction k with
  | zero => intro n out h1 h2 h3 h4; omega
  | succ k ih =>
    intro n out h1 h2 h3 h4
    rw [laws_markIntS.l0]
    by_cases hn : (n : Int) < (out.length : Int)
    · have hn' : n < N := by omega
      rw [if_pos hn, if_pos (by omega), w1 n (by omega)]
      rw [show wrap64 (a + (n : Int) + 1) = a + ((n + 1 : Nat) : Int) by rw [w64 (by omega) (by omega)]; omega]
      refine ih (n + 1) _ (by simp [h1]) ?_ (by omega) (by omega)
      have hnn : ((n : Int)).toNat = n := by omega
      rw [hnn, List.take_add_one, List.take_add_one, List.take_set_of_le (Nat.le_refl n), h2]
      rw [List.getElem?_set_self (by omega), marksS_get N a n hn']
    · rw [if_neg hn]
      have : n = N := by omega
      subst this
      have h5 : out = marksS a n := by
        have e1 : out.take n = out := by rw [← h1]; exact List.take_length
        have e2 : (marksS a n).take n = marksS a n := by
          conv => lhs; rw [← marksS_length n a]
          rw [marksS_length]; exact List.take_of_length_le (by rw [marksS_length]; omega)
        rw [e1, e2] at h2
        exact h2
      rw [h5]
theorem heldS_l0 (K : Nat) (N : Nat) (a : Int) (h0 : 0 ≤ a) (h : N ≤ 1073741824) (ha : a ≤ 1073741824) : ∀ (k n : Nat), n ≤ N → N - n < k → laws_heldIntS.l0 K (marksS a N) k (a + n) (n : Int) = some (Sum.inl (a + N)) := by
  intro k
  induction k with
  | zero => intro n h3 h4; omega
  | succ k ih =>
    intro n h3 h4
    rw [laws_heldIntS.l0, marksS_length]
    by_cases hn : (n : Int) < (N : Int)
    · have hn' : n < N := by omega
      have hnn : ((n : Int)).toNat = n := by omega
      rw [if_pos hn, if_pos (by omega), w1 n (by omega), hnn, List.getD_eq_getElem?_getD, marksS_get N a n hn', Option.getD_some, if_pos rfl]
      rw [show wrap64 (a + (n : Int) + 1) = a + ((n + 1 : Nat) : Int) by rw [w64 (by omega) (by omega)]; omega]
      exact ih (n + 1) (by omega) (by omega)
    · rw [if_neg hn]
      have : n = N := by omega
      subst this
      rfl
theorem markS (K : Nat) (l : List Int) (a : Int) (h0 : 0 ≤ a) (ha : a ≤ 1073741824) (h : l.length ≤ 100000000) (hK : 200000000 ≤ K) : laws_markIntS.f K l a = some (a + l.length, marksS a l.length) := by
  unfold laws_markIntS.f
  have := markS_l0 K l l.length a h0 (by omega) ha K 0 l rfl (by simp) (by omega) (by omega)
  simp only [Int.natCast_zero, Int.add_zero] at this
  rw [this]; rfl
theorem heldS (K : Nat) (N : Nat) (a : Int) (h0 : 0 ≤ a) (ha : a ≤ 1073741824) (h : N ≤ 100000000) (hK : 200000000 ≤ K) : laws_heldIntS.f K (marksS a N) a = some (a + N) := by
  unfold laws_heldIntS.f
  have := heldS_l0 K N a h0 (by omega) ha K 0 (by omega) (by omega)
  simp only [Int.natCast_zero, Int.add_zero] at this
  rw [this]; rfl
theorem ar_get_set {n : Nat} (a : Ar n) (i j v : Int) (h0 : 0 ≤ i) (h1 : i < n) (h2 : 0 ≤ j) : (a.set i v).get j = if j = i then v else a.get j := by
  unfold Ar.get Ar.set
  simp only [List.getD_eq_getElem?_getD]
  by_cases h : j = i
  · subst h
    rw [if_pos rfl, List.getElem?_set_self (by rw [a.h]; omega)]
    rfl
  · rw [if_neg h, List.getElem?_set_ne (by omega)]
theorem getD_set6 (l : List (Ar 6)) (d j : Nat) (x : Ar 6) (h : d < l.length) : (l.set d x).getD j (Ar.zero 6) = if j = d then x else l.getD j (Ar.zero 6) := by
  rw [List.getD_eq_getElem?_getD, List.getD_eq_getElem?_getD]
  by_cases hj : j = d
  · subst hj
    rw [if_pos rfl, List.getElem?_set_self h]; rfl
  · rw [if_neg hj, List.getElem?_set_ne (fun e => hj e.symm)]
def MkA6 (a : Int) (d : Nat) (l : List (Ar 6)) : Prop := ∀ j i : Nat, j < d → i < 6 → (l.getD j (Ar.zero 6)).get (i : Int) = a + 6 * j + i
theorem markA6x_l3 (K : Nat) (a : Int) (h0 : 0 ≤ a) (ha : a ≤ 1000000) (d : Nat) (hd : d ≤ 1048576) : ∀ (k n : Nat) (out : List (Ar 6)), n ≤ 6 → 6 - n < k → d < out.length → MkA6 a d out → (∀ i : Nat, i < n → (out.getD d (Ar.zero 6)).get (i : Int) = a + 6 * d + i) → ∃ out', laws_markIntA6S.l3 K (d : Int) k (a + 6 * d + n) (n : Int) out = some (a + 6 * (d + 1 : Nat), out') ∧ out'.length = out.length ∧ MkA6 a (d + 1) out' := by
  intro k
  induction k with
  | zero => intro n out h1 h2; omega
  | succ k ih =>
    intro n out h1 h2 h3 h4 h5
    rw [laws_markIntA6S.l3]
    by_cases hn : (n : Int) < 6
    · have c1 : (0 : Int) ≤ (d : Int) ∧ (d : Int) < (out.length : Int) := by omega
      have c2 : (0 : Int) ≤ (n : Int) ∧ (n : Int) < 6 := by omega
      have f1 : n + 1 ≤ 6 := by omega
      have f2 : 6 - (n + 1) < k := by omega
      have f3 : n ≤ 4000000000000000000 := by omega
      have e1 : wrap64 (a + 6 * (d : Int) + (n : Int) + 1) = a + 6 * (d : Int) + ((n + 1 : Nat) : Int) := by rw [w64 (by omega) (by omega)]; omega
      rw [if_pos hn, if_pos c1, if_pos c2, e1, w1 n f3, show ((d : Int)).toNat = d from rfl]
      obtain ⟨o, i1, i2, i3⟩ := ih (n + 1) (out.set d ((out.getD d (Ar.zero 6)).set (n : Int) (a + 6 * (d : Int) + (n : Int)))) f1 f2 (by rw [List.length_set]; exact h3) (by
        intro j i hj hi
        rw [getD_set6 _ _ _ _ h3, if_neg (by omega)]
        exact h4 j i hj hi) (by
        intro i hi
        rw [getD_set6 _ _ _ _ h3, if_pos rfl, ar_get_set _ _ _ _ c2.1 c2.2 (by omega)]
        by_cases hin : i = n
        · rw [hin, if_pos rfl]
        · rw [if_neg (by omega)]
          exact h5 i (by omega))
      exact ⟨o, i1, by rw [i2, List.length_set], i3⟩
    · have hnc : n = 6 := by omega
      subst hnc
      rw [if_neg hn]
      refine ⟨out, ?_, rfl, ?_⟩
      · congr 2
        omega
      · intro j i hj hi
        by_cases hjd : j = d
        · subst hjd; exact h5 i hi
        · exact h4 j i (by omega) hi
theorem markA6x_l2 (K : Nat) (hK : 10 ≤ K) (a : Int) (h0 : 0 ≤ a) (ha : a ≤ 1000000) (N : Nat) (hN : N ≤ 1048576) : ∀ (k d : Nat) (out : List (Ar 6)), d ≤ N → N - d < k → out.length = N → MkA6 a d out → ∃ out', laws_markIntA6S.l2 K k (a + 6 * d) (d : Int) out = some (a + 6 * N, out') ∧ out'.length = N ∧ MkA6 a N out' := by
  intro k
  induction k with
  | zero => intro d out h1 h2; omega
  | succ k ih =>
    intro d out h1 h2 h3 h4
    rw [laws_markIntA6S.l2]
    by_cases hn : (d : Int) < (out.length : Int)
    · have f1 : d + 1 ≤ N := by omega
      have f2 : N - (d + 1) < k := by omega
      have f3 : d ≤ 4000000000000000000 := by omega
      obtain ⟨o, i1, i2, i3⟩ := markA6x_l3 K a h0 ha d (by omega) K 0 out (by omega) (by omega) (by omega) h4 (fun i hi => by omega)
      have i1' : laws_markIntA6S.l3 K (d : Int) K (a + 6 * (d : Int)) 0 out = some (a + 6 * ((d + 1 : Nat) : Int), o) := by
        rw [show ((0 : Nat) : Int) = 0 from rfl, Int.add_zero] at i1; exact i1
      rw [if_pos hn, i1', some_bind, w1 d f3]
      exact ih (d + 1) o f1 f2 (by omega) i3
    · have : d = N := by omega
      subst this
      rw [if_neg hn]
      exact ⟨out, rfl, h3, h4⟩
theorem mix_step (k set n num oth i : Nat) (hn : 1 ≤ n ∧ n ≤ 3) (hset : set < 8) (hi : i < n) (h1 : num < 6 ^ n) (h2 : oth < 6 ^ n) : spec_l6Mixed.l0 200000000 (n : Int) (oth : Int) (set : Int) (k + 1) (num : Int) (i : Int) = spec_l6Mixed.l0 200000000 (n : Int) (oth : Int) (set : Int) k (((if sbit set i = true then put num (6 ^ (n - 1 - i)) (oth / 6 ^ (n - 1 - i) % 6) else num) : Nat) : Int) ((i + 1 : Nat) : Int) := by
  have hN := pow6_few n hn.2
  have hc := combo_of n i hn hi
  rw [spec_l6Mixed.l0, if_pos (by omega), if_pos (by omega), w1' i (by omega)]
  have hb : (Go.bits .and .i64 ((set : Int).fdiv (2 ^ (min (i : Int).toNat 64))) 1 = 1) = (sbit set i = true) := by unfold sbit; simp
  simp only [hb]
  by_cases hs : sbit set i = true
  · rw [if_pos hs, if_pos hs, digit_eq n i oth hn hi (by omega), digit_eq n i num hn hi (by omega), w6_eq n i hn hi, some_bind, some_bind, some_bind]
    congr 1
    unfold put
    generalize 6 ^ (n - 1 - i) = w at *
    generalize 6 ^ n = N at *
    rcases hc with ⟨rfl, rfl⟩ | ⟨rfl, rfl⟩ | ⟨rfl, rfl⟩ | ⟨rfl, rfl⟩ | ⟨rfl, rfl⟩ | ⟨rfl, rfl⟩ <;>
    · rw [w64 (n := ((oth / _ % 6 : Nat) : Int) - ((num / _ % 6 : Nat) : Int)) (by omega) (by omega), w64 (n := (((oth / _ % 6 : Nat) : Int) - ((num / _ % 6 : Nat) : Int)) * _) (by omega) (by omega), w64 (by omega) (by omega)]
      omega
  · rw [if_neg hs, if_neg hs]
theorem mix_eq (n set num oth : Nat) (hn : 1 ≤ n ∧ n ≤ 3) (hset : set < 8) (h1 : num < 6 ^ n) (h2 : oth < 6 ^ n) : spec_l6Mixed.f 200000000 (n : Int) (num : Int) (oth : Int) (set : Int) = some ((mg n set n num oth : Nat) : Int) := by
  unfold spec_l6Mixed.f
  have stop : ∀ (k : Nat) (a : Int), spec_l6Mixed.l0 200000000 (n : Int) (oth : Int) (set : Int) (k + 1) a (n : Int) = some a := by
    intro k a
    rw [spec_l6Mixed.l0, if_neg (by omega)]
  have hlt : ∀ (x i : Nat), i < n → x < 6 ^ n → (if sbit set i = true then put x (6 ^ (n - 1 - i)) (oth / 6 ^ (n - 1 - i) % 6) else x) < 6 ^ n := by
    intro x i hi hx
    split
    · exact put_lt _ _ _ _ (combo_of n i hn hi) hx (Nat.mod_lt _ (by omega))
    · exact hx
  have s0 := mix_step 199999999 set n num oth 0 hn hset (by omega) h1 h2
  rw [show spec_l6Mixed.l0 200000000 (n : Int) (oth : Int) (set : Int) 200000000 (num : Int) 0 = _ from s0]
  have l0 := hlt num 0 (by omega) h1
  rcases (show n = 1 ∨ n = 2 ∨ n = 3 by omega) with rfl | rfl | rfl
  · rw [show ((0 + 1 : Nat) : Int) = ((1 : Nat) : Int) from rfl, stop 199999998, some_bind]
    congr 2
    simp only [mg, put]
    rcases Bool.eq_false_or_eq_true (sbit set 0) with h0 | h0 <;> simp [h0] <;> omega
  · have s1 := mix_step 199999998 set 2 _ oth 1 hn hset (by omega) l0 h2
    rw [show ((0 + 1 : Nat) : Int) = ((1 : Nat) : Int) from rfl, show (199999999 : Nat) = 199999998 + 1 from rfl, s1]
    rw [show ((1 + 1 : Nat) : Int) = ((2 : Nat) : Int) from rfl, show (199999998 : Nat) = 199999997 + 1 from rfl, stop 199999997, some_bind]
    congr 2
    simp only [mg, put]
    rcases Bool.eq_false_or_eq_true (sbit set 0) with h0 | h0 <;> rcases Bool.eq_false_or_eq_true (sbit set 1) with h3 | h3 <;> simp [h0, h3] at h1 h2 ⊢ <;> omega
  · have s1 := mix_step 199999998 set 3 _ oth 1 hn hset (by omega) l0 h2
    have l1 := hlt _ 1 (by omega) l0
    have s2 := mix_step 199999997 set 3 _ oth 2 hn hset (by omega) l1 h2
    rw [show ((0 + 1 : Nat) : Int) = ((1 : Nat) : Int) from rfl, show (199999999 : Nat) = 199999998 + 1 from rfl, s1]
    rw [show ((1 + 1 : Nat) : Int) = ((2 : Nat) : Int) from rfl, show (199999998 : Nat) = 199999997 + 1 from rfl, s2]
    rw [show ((2 + 1 : Nat) : Int) = ((3 : Nat) : Int) from rfl, show (199999997 : Nat) = 199999996 + 1 from rfl, stop 199999996, some_bind]
    congr 2
    simp only [mg, put]
    rcases Bool.eq_false_or_eq_true (sbit set 0) with h0 | h0 <;> rcases Bool.eq_false_or_eq_true (sbit set 1) with h3 | h3 <;> rcases Bool.eq_false_or_eq_true (sbit set 2) with h4 | h4 <;> simp [h0, h3, h4] at h1 h2 ⊢ <;> omega
theorem play_l0 (p : List (Ar 6)) (hn : 1 ≤ p.length ∧ p.length ≤ 3) (s t : List Int) (hs : s.length = t.length) (h2 : s.length ≤ 2) : ∀ (k i num : Nat), i ≤ s.length → s.length - i < k → num < 6 ^ p.length → ∃ r, spec_PlaySets.l0 200000000 p s t k (num : Int) (i : Int) = some r ∧ impl_PlaySets.l0 200000000 p s t k (num : Int) (i : Int) = some r ∧ (r = Sum.inr ([], false) ∨ ∃ q : Nat, r = Sum.inl (q : Int) ∧ q < 6 ^ p.length) := by
  have hp2 := pow2_few p.length hn
  intro k
  induction k with
  | zero => intro i num h1 h2; omega
  | succ k ih =>
    intro i num h1 h3 h4
    rw [spec_PlaySets.l0, impl_PlaySets.l0]
    by_cases hi : i < s.length
    · have e : wrap64 (((2 ^ p.length : Nat) : Int) - 1) = ((2 ^ p.length : Nat) : Int) - 1 := w64 (by omega) (by omega)
      rw [if_pos (by omega), if_pos (by omega), if_pos (by omega), if_pos (by omega), if_pos (by omega), if_pos (by omega), if_pos (by omega), sets_eq p _ p.length rfl hn, some_bind, shl_eq p.length hn, e, in_within, in_eq, some_bind, some_bind, Int.toNat_natCast]
      by_cases hc : 0 ≤ s.getD i 0 ∧ s.getD i 0 ≤ ((2 ^ p.length : Nat) : Int) - 1
      · obtain ⟨c1, c2⟩ := num_same p p.length rfl hn (t.getD i 0)
        rw [decide_eq_true hc, if_pos rfl, if_pos rfl, c1, c2, some_bind, some_bind]
        by_cases ha : 0 ≤ t.getD i 0 ∧ t.getD i 0 < ((6 ^ p.length : Nat) : Int)
        · rw [decide_eq_true ha, if_pos rfl, if_pos rfl]
          generalize s.getD i 0 = a at *
          generalize t.getD i 0 = b at *
          obtain ⟨set, rfl⟩ : ∃ q : Nat, a = (q : Int) := ⟨a.toNat, by omega⟩
          obtain ⟨oth, rfl⟩ : ∃ q : Nat, b = (q : Int) := ⟨b.toNat, by omega⟩
          have hset : set < 8 := by omega
          have ho : oth < 6 ^ p.length := by omega
          rw [mix_eq p.length set num oth hn hset h4 ho, merged_eq p _ p.length set num oth rfl hn hset h4 ho, some_bind, some_bind, w1' i (by omega)]
          exact ih (i + 1) _ (by omega) (by omega) (mg_lt _ _ hn _ _ _ (Nat.le_refl _) h4)
        · rw [decide_eq_false ha]
          exact ⟨_, rfl, rfl, .inl rfl⟩
      · rw [decide_eq_false hc]
        exact ⟨_, rfl, rfl, .inl rfl⟩
    · rw [if_neg (by omega), if_neg (by omega)]
      exact ⟨_, rfl, rfl, .inr ⟨num, rfl, h4⟩⟩
theorem PlaySets_same (l : List (Ar 6)) (a : Int) (s t : List Int) (h : l.length ≤ 1048576) (hs : s.length ≤ 1048576) (ht : t.length ≤ 1048576) : ∃ o b, spec_PlaySets.f 200000000 l a s t = some (o, b) ∧ impl_PlaySets.f 200000000 l a s t = some (o, b) ∧ o.length ≤ 1000 := by
  unfold spec_PlaySets.f impl_PlaySets.f
  rw [pool_spec 200000000 (by omega) l h, pool_impl 200000000 (by omega) l h, some_bind, some_bind]
  cases hp : poolB l with
  | false => exact ⟨_, _, rfl, rfl, by simp⟩
  | true =>
    obtain ⟨⟨g1, g2⟩, g3⟩ := pool_good l hp
    rw [if_pos rfl, if_pos rfl]
    by_cases h3 : 3 < (l.length : Int)
    · rw [if_pos h3, if_pos h3]
      exact ⟨_, _, rfl, rfl, by simp⟩
    · have hn : 1 ≤ l.length ∧ l.length ≤ 3 := by omega
      have hN := pow6_few l.length hn.2
      obtain ⟨c1, c2⟩ := num_same l l.length rfl hn a
      rw [if_neg h3, if_neg h3, c1, c2, some_bind, some_bind]
      by_cases ha : 0 ≤ a ∧ a < ((6 ^ l.length : Nat) : Int)
      · rw [decide_eq_true ha, if_pos rfl, if_pos rfl]
        by_cases hst : (s.length : Int) = (t.length : Int)
        · rw [if_pos hst, if_pos hst]
          by_cases hs2 : 2 < (s.length : Int)
          · rw [if_pos hs2, if_pos hs2]
            exact ⟨_, _, rfl, rfl, by simp⟩
          · obtain ⟨num, rfl⟩ : ∃ q : Nat, a = (q : Int) := ⟨a.toNat, by omega⟩
            obtain ⟨r, r1, r2, r3⟩ := play_l0 l hn s t (by omega) (by omega) 200000000 0 num (by omega) (by omega) (by omega)
            rw [if_neg hs2, if_neg hs2, show spec_PlaySets.l0 200000000 l s t 200000000 (num : Int) 0 = some r from r1, show impl_PlaySets.l0 200000000 l s t 200000000 (num : Int) 0 = some r from r2, some_bind, some_bind]
            rcases r3 with rfl | ⟨q, rfl, hq⟩
            · exact ⟨_, _, rfl, rfl, by simp⟩
            · obtain ⟨o, o1, o2⟩ := roll_some6 l (by omega) (q : Int) (by omega) (by omega)
              dsimp only
              rw [roll_roll, o1, some_bind]
              exact ⟨_, _, rfl, rfl, by omega⟩
        · rw [if_neg hst, if_neg hst]
          exact ⟨_, _, rfl, rfl, by simp⟩
      · rw [decide_eq_false ha]
        exact ⟨_, _, rfl, rfl, by simp⟩
theorem markA6m (K : Nat) (hK : 2000000 ≤ K) (l : List (Ar 6)) (h : l.length ≤ 1048576) : ∃ o, laws_markIntA6S.f K l 1 = some (1 + 6 * (l.length : Int), o) := by
  obtain ⟨o, h1, h2, h3⟩ := markA6x_l2 K (by omega) 1 (by omega) (by omega) l.length h K 0 l (by omega) (by omega) rfl (fun j i hj => by omega)
  rw [show ((0 : Nat) : Int) = 0 from rfl, Int.mul_zero, Int.add_zero] at h1
  refine ⟨o, ?_⟩
  unfold laws_markIntA6S.f
  rw [h1]
  rfl
theorem PlaySets_pure (l0 : List (Ar 6)) (a1 : Int) (l2 l3 : List Int) (m : l0.length ≤ maxLen) (_w : ∀ z ∈ l0, ∀ y ∈ z.l, (Lit.int .i64 y).wf = true) (_w1 : (Lit.int .i64 a1).wf = true) (_m2 : l2.length ≤ maxLen) (_w2 : ∀ z ∈ l2, (Lit.int .i64 z).wf = true) (_m3 : l3.length ≤ maxLen) (_w3 : ∀ z ∈ l3, (Lit.int .i64 z).wf = true) : ∃ K, laws_FnExactPlaySets.f K l0 a1 l2 l3 = some true := by
  refine ⟨200000000, ?_⟩
  unfold laws_FnExactPlaySets.f
  by_cases hs : (1048576 : Int) < l2.length
  · rw [if_pos hs]
  · by_cases ht : (1048576 : Int) < l3.length
    · rw [if_neg hs, if_pos ht]
    · rw [if_neg hs, if_neg ht]
      rcases sizeA6S 200000000 l0 m with ⟨h, _⟩ | ⟨z, hz, h, h'⟩
      · rw [h]; rfl
      · rw [h]
        obtain ⟨r, b, h1, h2, h3⟩ := PlaySets_same l0 a1 l2 l3 h' (by omega) (by omega)
        have t1 := toA6S 200000000 l0 h' (by omega)
        have q1 := eqA6S 200000000 l0 h' (by omega)
        have t2 := toS 200000000 l2 (by omega) (by omega)
        have t3 := toS 200000000 l3 (by omega) (by omega)
        have q2 := eqS 200000000 r (by omega) (by omega)
        have q3 := eqS 200000000 l2 (by omega) (by omega)
        have q4 := eqS 200000000 l3 (by omega) (by omega)
        have m2 := markS 200000000 r 1 (by omega) (by omega) (by omega) (by omega)
        have m3 := heldS 200000000 r.length 1 (by omega) (by omega) (by omega) (by omega)
        have i2 : ¬ (1 : Int) + r.length < 0 := by omega
        obtain ⟨s, m4⟩ := markA6m 200000000 (by omega) l0 h'
        have m5 := markS 200000000 l2 (1 + 6 * (l0.length : Int)) (by omega) (by omega) (by omega) (by omega)
        have m6 := markS 200000000 l3 (1 + 6 * (l0.length : Int) + l2.length) (by omega) (by omega) (by omega) (by omega)
        have i1 : ¬ (1 + 6 * (l0.length : Int) + l2.length) + l3.length < 0 := by omega
        simp only [t1, t2, t3, h1, h2, q1, q2, q3, q4, m2, m3, m4, m5, m6, i1, i2, some_bind, if_true, beq_self_eq_true, show ¬ z < 0 by omega, if_false]
end Go.Proofs.Ytlbedonjfihldaa.WPlaySets

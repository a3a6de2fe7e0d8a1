/- The plain law: what the walk shows to be computed answers true. Conditions: the numbers are 64-bit. -/
import Derived.Test.YtfiabgkolhpbkaaWTieWays
import Derived.KernelRfl
namespace Go.Proofs.Ytfiabgkolhpbkaa.WTieWays
open Go.K Go.RowKit
set_option linter.unusedVariables false
set_option linter.unusedSimpArgs false

theorem in_eq (K : Nat) (a lo hi : Int) : impl_within.f K a lo hi = some (decide (lo ≤ a ∧ a ≤ hi)) := by
  unfold impl_within.f
  by_cases h : lo ≤ a <;> simp [h]
theorem in_within : spec_l1In.f = impl_within.f := by kernel_rfl
def faceB (a : Int) : Bool := decide (0 ≤ a ∧ a ≤ 30)
theorem isFace_eq (K : Nat) (_hK : 2000000 ≤ K) (a : Int) : impl_isFace.f K a = some (faceB a) := by
  unfold impl_isFace.f
  rw [in_eq]; rfl
theorem w1 (n : Nat) (h : n ≤ 4000000000000000000) : wrap64 ((n : Int) + 1) = ((n + 1 : Nat) : Int) := by rw [w64 (by omega) (by omega)]; omega
theorem allFace_l0 (K : Nat) (hK : 2000000 ≤ K) (l : List Int) (h : l.length ≤ 1073741824) : ∀ (k n : Nat), n ≤ l.length → l.length - n < k →
    (slices_IndexFunc_int_int__areAll_int_1_isFace.l0 K l k (n : Int) = some (Sum.inl ()) ∧ (l.drop n).all faceB = true) ∨ (∃ i : Int, 0 ≤ i ∧ slices_IndexFunc_int_int__areAll_int_1_isFace.l0 K l k (n : Int) = some (Sum.inr i) ∧ (l.drop n).all faceB = false) := by
  intro k
  induction k with
  | zero => intro n h1 h2; omega
  | succ k ih =>
    intro n h1 h2
    rw [slices_IndexFunc_int_int__areAll_int_1_isFace.l0]
    by_cases hn : (n : Int) < (l.length : Int)
    · have hn' : n < l.length := by omega
      have hnn : ((n : Int)).toNat = n := by omega
      have hd : l.drop n = l[n] :: l.drop (n + 1) := List.drop_eq_getElem_cons hn'
      have hg : l.getD n (0 : Int) = l[n] := by rw [List.getD_eq_getElem?_getD, List.getElem?_eq_getElem hn']; rfl
      rw [if_pos hn, if_pos (by omega), w1 n (by omega), hnn, hg, impl_areAll_int_1__isFace.f, isFace_eq K hK, hd]
      simp only [some_bind, List.all_cons]
      rcases Bool.eq_false_or_eq_true (faceB l[n]) with e | e
      · rw [e]
        simp only [Bool.not_true, Bool.false_eq_true, if_false, Bool.true_and]
        exact ih (n + 1) (by omega) (by omega)
      · rw [e]
        simp only [Bool.not_false, if_true, Bool.false_and]
        exact .inr ⟨_, by omega, rfl, trivial⟩
    · rw [if_neg hn]
      have : n = l.length := by omega
      subst this
      exact .inl ⟨rfl, by simp⟩
theorem allFace_eq (K : Nat) (hK : 2000000 ≤ K) (l : List Int) (h : l.length ≤ 1048576) : impl_areAll_int__isFace.f K l = some (l.all faceB) := by
  unfold impl_areAll_int__isFace.f slices_ContainsFunc_int_int__areAll_int_1_isFace.f slices_IndexFunc_int_int__areAll_int_1_isFace.f
  rcases allFace_l0 K hK l (by omega) K 0 (by omega) (by omega) with ⟨h1, h2⟩ | ⟨i, hi, h1, h2⟩
  · rw [show (0 : Int) = ((0 : Nat) : Int) from rfl, h1]
    simp only [some_bind, List.drop_zero] at h2 ⊢
    rw [h2]; rfl
  · rw [show (0 : Int) = ((0 : Nat) : Int) from rfl, h1]
    simp only [some_bind, List.drop_zero] at h2 ⊢
    rw [h2]
    have : decide (((0 : Nat) : Int) ≤ i) = true := decide_eq_true (by simpa using hi)
    rw [this]; rfl
def dieP (a : Ar 6) : Prop := ((0 ≤ a.get 0 ∧ a.get 0 ≤ 30) ∧ (0 ≤ a.get 1 ∧ a.get 1 ≤ 30) ∧ (0 ≤ a.get 2 ∧ a.get 2 ≤ 30) ∧ (0 ≤ a.get 3 ∧ a.get 3 ≤ 30) ∧ (0 ≤ a.get 4 ∧ a.get 4 ≤ 30) ∧ (0 ≤ a.get 5 ∧ a.get 5 ≤ 30)) ∧ (a.get 0 ≤ a.get 1 ∧ a.get 1 ≤ a.get 2 ∧ a.get 2 ≤ a.get 3 ∧ a.get 3 ≤ a.get 4 ∧ a.get 4 ≤ a.get 5)
instance (a : Ar 6) : Decidable (dieP a) := by unfold dieP; infer_instance
def dieB (a : Ar 6) : Bool := decide (dieP a)
theorem die_get (x y z u v w : Int) : (Ar.get (⟨[x, y, z, u, v, w], rfl⟩ : Ar 6) 0 = x ∧ Ar.get (⟨[x, y, z, u, v, w], rfl⟩ : Ar 6) 1 = y ∧ Ar.get (⟨[x, y, z, u, v, w], rfl⟩ : Ar 6) 2 = z) ∧ (Ar.get (⟨[x, y, z, u, v, w], rfl⟩ : Ar 6) 3 = u ∧ Ar.get (⟨[x, y, z, u, v, w], rfl⟩ : Ar 6) 4 = v ∧ Ar.get (⟨[x, y, z, u, v, w], rfl⟩ : Ar 6) 5 = w) := ⟨⟨rfl, rfl, rfl⟩, rfl, rfl, rfl⟩
set_option maxHeartbeats 4000000 in
theorem die_spec (K : Nat) (hK : 2000000 ≤ K) (a : Ar 6) : spec_l2Die.f K a = some (dieB a) := by
  obtain ⟨k, rfl⟩ := Nat.exists_eq_add_of_le (show 8 ≤ K by omega)
  obtain ⟨x, y, z, u, v, w, rfl⟩ := Ar.cases6 a
  have e : 8 + k = k + 1 + 1 + 1 + 1 + 1 + 1 + 1 + 1 := by omega
  unfold spec_l2Die.f dieB dieP
  obtain ⟨⟨g0, g1, g2⟩, g3, g4, g5⟩ := die_get x y z u v w
  rw [e]
  simp only [spec_l2Die.l0, in_within, in_eq, some_bind, show (0 : Int) < 6 by decide, show wrap64 (0 + 1) = 1 by decide +kernel, show wrap64 (1 + 1) = 2 by decide +kernel, show wrap64 (2 + 1) = 3 by decide +kernel, show wrap64 (3 + 1) = 4 by decide +kernel, show wrap64 (4 + 1) = 5 by decide +kernel, show wrap64 (5 + 1) = 6 by decide +kernel, show wrap64 (1 - 1) = 0 by decide +kernel, show wrap64 (2 - 1) = 1 by decide +kernel, show wrap64 (3 - 1) = 2 by decide +kernel, show wrap64 (4 - 1) = 3 by decide +kernel, show wrap64 (5 - 1) = 4 by decide +kernel, g0, g1, g2, g3, g4, g5, decide_eq_true_eq]
  simp
  repeat' split
  all_goals simp_all
  all_goals omega
set_option maxHeartbeats 4000000 in
theorem die_impl (K : Nat) (hK : 2000000 ≤ K) (a : Ar 6) : impl_IsDie.f K a = some (dieB a) := by
  obtain ⟨x, y, z, u, v, w, rfl⟩ := Ar.cases6 a
  unfold impl_IsDie.f dieB dieP
  rw [allFace_eq K hK _ (by simp)]
  obtain ⟨k, rfl⟩ := Nat.exists_eq_add_of_le (show 8 ≤ K by omega)
  have e : 8 + k = k + 1 + 1 + 1 + 1 + 1 + 1 + 1 + 1 := by omega
  obtain ⟨⟨g0, g1, g2⟩, g3, g4, g5⟩ := die_get x y z u v w
  unfold slices_IsSorted_int_int.f
  rw [e]
  simp [slices_IsSorted_int_int.l0, cmp_Less_int.f, cmp_isNaN_int.f, some_bind, show wrap64 (6 - 1) = 5 by decide +kernel, show wrap64 5 = 5 by decide +kernel, show wrap64 (5 - 1) = 4 by decide +kernel, show wrap64 (4 - 1) = 3 by decide +kernel, show wrap64 (3 - 1) = 2 by decide +kernel, show wrap64 (2 - 1) = 1 by decide +kernel, show wrap64 (1 - 1) = 0 by decide +kernel, show wrap64 4 = 4 by decide +kernel, show wrap64 3 = 3 by decide +kernel, show wrap64 2 = 2 by decide +kernel, show wrap64 1 = 1 by decide +kernel, show wrap64 0 = 0 by decide +kernel, g0, g1, g2, g3, g4, g5, faceB]
  repeat' split
  all_goals simp_all
  all_goals omega
theorem IsDie_eq (K : Nat) (hK : 2000000 ≤ K) (a : Ar 6) : impl_IsDie.f K a = some (dieB a) := die_impl K hK a
theorem allDie_l0 (K : Nat) (hK : 2000000 ≤ K) (l : List (Ar 6)) (h : l.length ≤ 1073741824) : ∀ (k n : Nat), n ≤ l.length → l.length - n < k →
    (slices_IndexFunc_6_int_6_int__areAll_6_int_1_IsDie.l0 K l k (n : Int) = some (Sum.inl ()) ∧ (l.drop n).all dieB = true) ∨ (∃ i : Int, 0 ≤ i ∧ slices_IndexFunc_6_int_6_int__areAll_6_int_1_IsDie.l0 K l k (n : Int) = some (Sum.inr i) ∧ (l.drop n).all dieB = false) := by
  intro k
  induction k with
  | zero => intro n h1 h2; omega
  | succ k ih =>
    intro n h1 h2
    rw [slices_IndexFunc_6_int_6_int__areAll_6_int_1_IsDie.l0]
    by_cases hn : (n : Int) < (l.length : Int)
    · have hn' : n < l.length := by omega
      have hnn : ((n : Int)).toNat = n := by omega
      have hd : l.drop n = l[n] :: l.drop (n + 1) := List.drop_eq_getElem_cons hn'
      have hg : l.getD n (Ar.zero 6) = l[n] := by rw [List.getD_eq_getElem?_getD, List.getElem?_eq_getElem hn']; rfl
      rw [if_pos hn, if_pos (by omega), w1 n (by omega), hnn, hg, impl_areAll_6_int_1__IsDie.f, IsDie_eq K hK, hd]
      simp only [some_bind, List.all_cons]
      rcases Bool.eq_false_or_eq_true (dieB l[n]) with e | e
      · rw [e]
        simp only [Bool.not_true, Bool.false_eq_true, if_false, Bool.true_and]
        exact ih (n + 1) (by omega) (by omega)
      · rw [e]
        simp only [Bool.not_false, if_true, Bool.false_and]
        exact .inr ⟨_, by omega, rfl, trivial⟩
    · rw [if_neg hn]
      have : n = l.length := by omega
      subst this
      exact .inl ⟨rfl, by simp⟩
theorem allDie_eq (K : Nat) (hK : 2000000 ≤ K) (l : List (Ar 6)) (h : l.length ≤ 1048576) : impl_areAll_6_int__IsDie.f K l = some (l.all dieB) := by
  unfold impl_areAll_6_int__IsDie.f slices_ContainsFunc_6_int_6_int__areAll_6_int_1_IsDie.f slices_IndexFunc_6_int_6_int__areAll_6_int_1_IsDie.f
  rcases allDie_l0 K hK l (by omega) K 0 (by omega) (by omega) with ⟨h1, h2⟩ | ⟨i, hi, h1, h2⟩
  · rw [show (0 : Int) = ((0 : Nat) : Int) from rfl, h1]
    simp only [some_bind, List.drop_zero] at h2 ⊢
    rw [h2]; rfl
  · rw [show (0 : Int) = ((0 : Nat) : Int) from rfl, h1]
    simp only [some_bind, List.drop_zero] at h2 ⊢
    rw [h2]
    have : decide (((0 : Nat) : Int) ≤ i) = true := decide_eq_true (by simpa using hi)
    rw [this]; rfl
theorem capDie_l0 (K : Nat) (hK : 2000000 ≤ K) (l : List (Ar 6)) (h : l.length ≤ 1073741824) : ∀ (k n : Nat), n ≤ l.length → l.length - n < k →
    (spec_l2Pool.l0 K l k (n : Int) = some (Sum.inl ()) ∧ ((l.length : Int) ≤ 4 → (l.drop n).all dieB = true)) ∨ (spec_l2Pool.l0 K l k (n : Int) = some (Sum.inr false) ∧ (l.drop n).all dieB = false) := by
  intro k
  induction k with
  | zero => intro n h1 h2; omega
  | succ k ih =>
    intro n h1 h2
    rw [spec_l2Pool.l0]
    by_cases hn : (n : Int) < (l.length : Int)
    · rw [if_pos hn]
      by_cases hc : (n : Int) ≤ 4
      · have hn' : n < l.length := by omega
        have hnn : ((n : Int)).toNat = n := by omega
        have hd : l.drop n = l[n] :: l.drop (n + 1) := List.drop_eq_getElem_cons hn'
        have hg : l.getD n (Ar.zero 6) = l[n] := by rw [List.getD_eq_getElem?_getD, List.getElem?_eq_getElem hn']; rfl
        rw [if_pos hc, if_pos (by omega), w1 n (by omega), hnn, hg, die_spec K hK, hd]
        simp only [some_bind, List.all_cons]
        rcases Bool.eq_false_or_eq_true (dieB l[n]) with e | e
        · rw [e]
          simp only [if_true, Bool.true_and]
          exact ih (n + 1) (by omega) (by omega)
        · rw [e]
          simp only [Bool.false_eq_true, if_false, Bool.false_and]
          exact .inr ⟨trivial, trivial⟩
      · rw [if_neg hc]
        exact .inl ⟨rfl, fun h => by omega⟩
    · rw [if_neg hn]
      have : n = l.length := by omega
      subst this
      exact .inl ⟨rfl, by simp⟩
def poolB (l : List (Ar 6)) : Bool := decide ((1 : Int) ≤ l.length ∧ (l.length : Int) ≤ 4) && l.all dieB
theorem pool_spec (K : Nat) (hK : 2000000 ≤ K) (l : List (Ar 6)) (h : l.length ≤ 1048576) : spec_l2Pool.f K l = some (poolB l) := by
  unfold spec_l2Pool.f poolB
  rcases capDie_l0 K hK l (by omega) K 0 (by omega) (by omega) with ⟨h1, h2⟩ | ⟨h1, h2⟩
  · rw [show (0 : Int) = ((0 : Nat) : Int) from rfl, h1, in_within]
    simp only [some_bind, List.drop_zero, in_eq] at h2 ⊢
    by_cases hc : (l.length : Int) ≤ 4
    · rw [h2 hc]; simp [hc]
    · simp [hc]
  · rw [show (0 : Int) = ((0 : Nat) : Int) from rfl, h1]
    simp only [some_bind, List.drop_zero] at h2 ⊢
    rw [h2]; simp
theorem pool_impl (K : Nat) (hK : 2000000 ≤ K) (l : List (Ar 6)) (h : l.length ≤ 1048576) : impl_IsPool.f K l = some (poolB l) := by
  unfold impl_IsPool.f poolB
  rw [in_eq, allDie_eq K hK l h]
  simp only [some_bind]
  by_cases hc : (1 : Int) ≤ l.length ∧ (l.length : Int) ≤ 4 <;> simp [hc]
theorem pool_good (l : List (Ar 6)) (h : poolB l = true) : (1 ≤ l.length ∧ l.length ≤ 4) ∧ ∀ a ∈ l, dieB a = true := by
  unfold poolB at h
  simp only [Bool.and_eq_true, decide_eq_true_eq, List.all_eq_true] at h
  exact ⟨by omega, h.2⟩
theorem toA6 (K : Nat) (hK : 8 ≤ K) (a : Ar 6) : laws_toIntA6.f K a = some a := by
  obtain ⟨k, rfl⟩ := Nat.exists_eq_add_of_le hK
  obtain ⟨x, y, z, u, v, w, rfl⟩ := Ar.cases6 a
  have e : 8 + k = k + 1 + 1 + 1 + 1 + 1 + 1 + 1 + 1 := by omega
  unfold laws_toIntA6.f
  rw [e]
  simp only [laws_toIntA6.l0, show (0 : Int) < 6 by decide, show wrap64 (0 + 1) = 1 by decide +kernel, show wrap64 (1 + 1) = 2 by decide +kernel, show wrap64 (2 + 1) = 3 by decide +kernel, show wrap64 (3 + 1) = 4 by decide +kernel, show wrap64 (4 + 1) = 5 by decide +kernel, show wrap64 (5 + 1) = 6 by decide +kernel, if_true, show (0 : Int) ≤ 0 ∧ True by decide]
  rfl
theorem toA6S_l0 (K : Nat) (hK : 8 ≤ K) (l : List (Ar 6)) (h : l.length ≤ 1073741824) : ∀ (k n : Nat) (out : List (Ar 6)), out.length = l.length → out.take n = l.take n → n ≤ l.length → l.length - n < k → laws_toIntA6S.l0 K l k (n : Int) out = some l := by
  intro k
  induction k with
  | zero => intro n out h1 h2 h3 h4; omega
  | succ k ih =>
    intro n out h1 h2 h3 h4
    rw [laws_toIntA6S.l0]
    by_cases hn : (n : Int) < (l.length : Int)
    · have hn' : n < l.length := by omega
      rw [if_pos hn, if_pos (by omega), toA6 K hK, some_bind, if_pos (by omega), w1 n (by omega)]
      refine ih (n + 1) _ (by simp [h1]) ?_ (by omega) (by omega)
      have hnn : ((n : Int)).toNat = n := by omega
      rw [hnn, List.take_add_one, List.take_add_one, List.take_set_of_le (Nat.le_refl n), h2]
      rw [List.getElem?_set_self (by omega)]
      congr 1
      rw [List.getD_eq_getElem?_getD, List.getElem?_eq_getElem hn']
      rfl
    · rw [if_neg hn]
      have : n = l.length := by omega
      subst this
      rw [← h1, List.take_length, h1, List.take_length] at h2
      rw [h2]
theorem toA6S (K : Nat) (l : List (Ar 6)) (h : l.length ≤ 1048576) (hK : 2000000 ≤ K) : laws_toIntA6S.f K l = some l := by
  unfold laws_toIntA6S.f
  rw [if_pos (by omega), show (0 : Int) = ((0 : Nat) : Int) from rfl, toA6S_l0 K (by omega) l (by omega) K 0 _ (by simp) (by simp) (by omega) (by omega)]
  rfl
theorem sizeA6S (K : Nat) (l : List (Ar 6)) (h : l.length ≤ maxLen) : (laws_szIntA6S.f K l 1048576 = some (-1) ∧ 1048576 < l.length) ∨ (∃ r : Int, 0 ≤ r ∧ laws_szIntA6S.f K l 1048576 = some r ∧ l.length ≤ 1048576) := by
  have hm : l.length ≤ 2 ^ 63 - 1 := h
  unfold laws_szIntA6S.f
  have e : wrap64 (1048576 - (l.length : Int)) = 1048576 - (l.length : Int) := w64 (by omega) (by omega)
  rw [e]
  by_cases hc : (1048576 : Int) - (l.length : Int) < 0
  · rw [if_pos hc]; exact .inl ⟨rfl, by omega⟩
  · rw [if_neg hc]; exact .inr ⟨_, by omega, rfl, by omega⟩
theorem eqA6 (K : Nat) (hK : 8 ≤ K) (a : Ar 6) : laws_eqIntA6.f K a a = some true := by
  obtain ⟨k, rfl⟩ := Nat.exists_eq_add_of_le hK
  rw [show 8 + k = k + 1 + 1 + 1 + 1 + 1 + 1 + 1 + 1 by omega]
  simp [laws_eqIntA6.f, laws_eqIntA6.l0, wrap64]
theorem eqA6S_l0 (K : Nat) (hK : 8 ≤ K) (l : List (Ar 6)) (h : l.length ≤ 1073741824) : ∀ (k n : Nat), n ≤ l.length → l.length - n < k → laws_eqIntA6S.l0 K l l k (n : Int) = some (Sum.inl ()) := by
  intro k
  induction k with
  | zero => intro n h1 h2; omega
  | succ k ih =>
    intro n h1 h2
    rw [laws_eqIntA6S.l0]
    by_cases hn : (n : Int) < (l.length : Int)
    · rw [if_pos hn, if_pos (by omega), if_pos (by omega), eqA6 K hK, some_bind, if_pos rfl, w1 n (by omega)]
      exact ih (n + 1) (by omega) (by omega)
    · rw [if_neg hn]
theorem eqA6S (K : Nat) (l : List (Ar 6)) (h : l.length ≤ 1048576) (hK : 2000000 ≤ K) : laws_eqIntA6S.f K l l = some true := by
  unfold laws_eqIntA6S.f
  rw [if_pos rfl, show (0 : Int) = ((0 : Nat) : Int) from rfl, eqA6S_l0 K (by omega) l (by omega) K 0 (by omega) (by omega)]
  rfl
theorem all_power : spec_l2All.f = impl_power.f := by kernel_rfl
theorem pow_lt (n : Nat) (h : n ≤ 22) : (6 : Int) ^ n ≤ 131621703842267136 := by
  have : (6 : Nat) ^ n ≤ 6 ^ 22 := Nat.pow_le_pow_right (by omega) h
  have h2 : ((6 ^ n : Nat) : Int) ≤ ((6 ^ 22 : Nat) : Int) := by exact_mod_cast this
  simpa using h2
theorem pow_pos (n : Nat) : (1 : Int) ≤ 6 ^ n := by
  have : 1 ≤ (6 : Nat) ^ n := Nat.one_le_pow _ _ (by omega)
  have h2 : ((1 : Nat) : Int) ≤ ((6 ^ n : Nat) : Int) := by exact_mod_cast this
  simpa using h2
theorem power_l0 (K : Nat) (n : Nat) (hn : n ≤ 22) : ∀ (k i : Nat), i ≤ n → n - i < k → impl_power.l0 K (n : Int) k ((6 : Int) ^ i) (i : Int) = some ((6 : Int) ^ n) := by
  intro k
  induction k with
  | zero => intro i h1 h2; omega
  | succ k ih =>
    intro i h1 h2
    rw [impl_power.l0]
    by_cases h : (i : Int) < (n : Int)
    · have hp := pow_lt (i + 1) (by omega)
      have hq := pow_pos (i + 1)
      have e : (6 : Int) ^ i * 6 = 6 ^ (i + 1) := (Int.pow_succ 6 i).symm
      rw [if_pos h, e, w64 (n := (6 : Int) ^ (i + 1)) (by omega) (by omega), w64 (n := (i : Int) + 1) (by omega) (by omega), show (i : Int) + 1 = ((i + 1 : Nat) : Int) by omega]
      exact ih (i + 1) (by omega) (by omega)
    · rw [if_neg h, show i = n by omega]
theorem power_eq (K : Nat) (hK : 30 ≤ K) (n : Nat) (hn : n ≤ 22) : impl_power.f K (n : Int) = some ((6 : Int) ^ n) := by
  unfold impl_power.f
  rw [show impl_power.l0 K (n : Int) K 1 0 = some ((6 : Int) ^ n) from power_l0 K n hn K 0 (by omega) (by omega)]
  rfl
theorem order_l3 (K : Nat) (l : List Int) (hl : l.length ≤ 4) (x : Nat) (hx : x < l.length) : ∀ (k n m : Nat), n ≤ l.length → l.length - n < k → m ≤ n → (x < n → m + 1 ≤ n) → ∃ r, spec_l10Order.l3 K l (x : Int) k (m : Int) (n : Int) = some r ∧ impl_orderOf.l3 K l (x : Int) k (m : Int) (n : Int) = some r ∧ (r = Sum.inr (Ar.zero 4, false) ∨ ∃ c : Nat, r = Sum.inl (c : Int) ∧ c < 4) := by
  intro k
  induction k with
  | zero => intro n m h1 h2; omega
  | succ k ih =>
    intro n m h1 h2 h3 h4
    rw [spec_l10Order.l3, impl_orderOf.l3]
    by_cases hn : n < l.length
    · have c1 : (n : Int) < (l.length : Int) := by omega
      have c2 : (0 : Int) ≤ (n : Int) ∧ (n : Int) < (l.length : Int) := by omega
      have c3 : (0 : Int) ≤ (x : Int) ∧ (x : Int) < (l.length : Int) := by omega
      have f1 : l.length - (n + 1) < k := by omega
      have b1 : n ≤ 4000000000000000000 := by omega
      have b2 : m ≤ 4000000000000000000 := by omega
      have g1 : m ≤ n + 1 := by omega
      have g2 : m + 1 ≤ n + 1 := by omega
      have e0 : wrap64 ((m : Int) + 0) = (m : Int) := by rw [Int.add_zero]; exact w64 (by omega) (by omega)
      rw [if_pos c1, if_pos c1]
      simp only [if_pos c2]
      by_cases hnx : n = x
      · subst hnx
        have hlt : ¬ l.getD n 0 < l.getD n 0 := Int.lt_irrefl _
        rw [if_pos rfl, if_pos rfl, if_pos c3, show ((n : Int)).toNat = n from rfl, if_neg hlt, decide_eq_false hlt, impl_truth.f, if_neg (by decide), some_bind, e0, w1 n b1]
        exact ih (n + 1) m hn f1 g1 (fun _ => g2)
      · have h5 : ¬ (n : Int) = (x : Int) := by omega
        have g3 : x < n + 1 → m + 1 ≤ n + 1 := fun _ => g2
        have g4 : x < n + 1 → m + 1 + 1 ≤ n + 1 := fun h => by have := h4 (by omega); omega
        rw [if_neg h5, if_neg h5, if_pos c3, show ((n : Int)).toNat = n from rfl, show ((x : Int)).toNat = x from rfl]
        by_cases he : l.getD n 0 = l.getD x 0
        · rw [if_pos he, if_pos he]
          exact ⟨_, rfl, rfl, .inl rfl⟩
        · rw [if_neg he, if_neg he]
          by_cases hlt : l.getD x 0 < l.getD n 0
          · rw [if_pos hlt, decide_eq_true hlt, impl_truth.f, if_pos rfl, some_bind, w1 m b2, w1 n b1]
            exact ih (n + 1) (m + 1) hn f1 g2 g4
          · rw [if_neg hlt, decide_eq_false hlt, impl_truth.f, if_neg (by decide), some_bind, e0, w1 n b1]
            exact ih (n + 1) m hn f1 g1 g3
    · have c1 : ¬ (n : Int) < (l.length : Int) := by omega
      rw [if_neg c1, if_neg c1]
      have := h4 (by omega)
      exact ⟨_, rfl, rfl, .inr ⟨m, rfl, by omega⟩⟩
theorem order_l2 (K : Nat) (hK : 1000 ≤ K) (l : List Int) (hl : l.length ≤ 4) : ∀ (k n : Nat) (o : Ar 4), n ≤ l.length → l.length - n < k → ∃ r, spec_l10Order.l2 K l k (n : Int) o = some r ∧ impl_orderOf.l2 K l k (n : Int) o = some r := by
  intro k
  induction k with
  | zero => intro n o h1 h2; omega
  | succ k ih =>
    intro n o h1 h2
    rw [spec_l10Order.l2, impl_orderOf.l2]
    by_cases hn : n < l.length
    · have c1 : (n : Int) < (l.length : Int) := by omega
      have c2 : (0 : Int) ≤ (n : Int) ∧ (n : Int) < (l.length : Int) := by omega
      have f1 : l.length - (n + 1) < k := by omega
      have b1 : n ≤ 4000000000000000000 := by omega
      obtain ⟨r, r1, r2, r3⟩ := order_l3 K l hl n hn K 0 0 (by omega) (by omega) (by omega) (by omega)
      rw [show ((0 : Nat) : Int) = 0 from rfl] at r1 r2
      rw [if_pos c1, if_pos c1, if_pos c2, r1, r2, some_bind, some_bind]
      rcases r3 with rfl | ⟨c, rfl, hc⟩
      · exact ⟨_, rfl, rfl⟩
      · have c3 : (0 : Int) ≤ (c : Int) ∧ (c : Int) < 4 := by omega
        simp only [if_pos c3, w1 n b1]
        exact ih (n + 1) _ hn f1
    · have c1 : ¬ (n : Int) < (l.length : Int) := by omega
      rw [if_neg c1, if_neg c1]
      exact ⟨_, rfl, rfl⟩
theorem order_f (K : Nat) (hK : 1000 ≤ K) (l : List Int) (hl : l.length ≤ 4) : ∃ r, spec_l10Order.f K l = some r ∧ impl_orderOf.f K l = some r := by
  obtain ⟨r, r1, r2⟩ := order_l2 K hK l hl K 0 ⟨[(-1), (-1), (-1), (-1)], rfl⟩ (by omega) (by omega)
  unfold spec_l10Order.f impl_orderOf.f
  rw [show spec_l10Order.l2 K l K 0 (⟨[(-1), (-1), (-1), (-1)], rfl⟩ : Ar 4) = some r from r1, show impl_orderOf.l2 K l K 0 (⟨[(-1), (-1), (-1), (-1)], rfl⟩ : Ar 4) = some r from r2]
  simp only [some_bind]
  rcases r with r | r <;> exact ⟨_, rfl, rfl⟩
theorem roll_roll : spec_l2Roll.f = impl_rollAt.f := by kernel_rfl
theorem roll_l0 (K : Nat) (l : List (Ar 6)) (h8 : l.length ≤ 8) : ∀ (k n : Nat) (v : Int) (out : List Int), n ≤ l.length → n < k → 0 ≤ v → v ≤ 1000000 → out.length = l.length → ∃ o, impl_rollAt.l0 K l k v ((n : Int) - 1) out = some o ∧ o.length = l.length := by
  intro k
  induction k with
  | zero => intro n v out h1 h2; omega
  | succ k ih =>
    intro n v out h1 h2 h3 h4 h5
    rw [impl_rollAt.l0]
    by_cases hn : n = 0
    · subst hn
      rw [if_neg (by decide)]
      exact ⟨out, rfl, h5⟩
    · obtain ⟨p, rfl⟩ : ∃ p, n = p + 1 := ⟨n - 1, by omega⟩
      have e : ((p + 1 : Nat) : Int) - 1 = (p : Int) := by omega
      have c0 : (0 : Int) ≤ (p : Int) := by omega
      have c1 : (0 : Int) ≤ (p : Int) ∧ (p : Int) < (l.length : Int) := by omega
      have c2 : (0 : Int) ≤ v.tmod 6 ∧ v.tmod 6 < 6 := by
        have := Int.tmod_nonneg (a := v) 6 h3
        have := Int.tmod_lt_of_pos v (b := 6) (by omega)
        omega
      have c3 : (0 : Int) ≤ (p : Int) ∧ (p : Int) < (out.length : Int) := by omega
      have d0 : 0 ≤ v.tdiv 6 := Int.tdiv_nonneg h3 (by omega)
      have d1 : v.tdiv 6 ≤ v := Int.tdiv_le_self _ h3
      have f1 : p ≤ l.length := by omega
      have f2 : p < k := by omega
      have f3 : v.tdiv 6 ≤ 1000000 := by omega
      have e1 : wrap64 (v.tdiv 6) = v.tdiv 6 := w64 (by omega) (by omega)
      have e2 : wrap64 ((p : Int) - 1) = (p : Int) - 1 := by clear e1; exact w64 (by omega) (by omega)
      rw [e, if_pos c0, if_pos c1, if_pos c2, if_pos c3, e1, e2]
      exact ih p _ _ f1 f2 d0 f3 (by rw [List.length_set]; exact h5)
theorem outcome_range (l : List (Ar 6)) (hl : l.length ≤ 4) : (6 : Int) ^ l.length ≤ 1296 := by
  rcases (show l.length = 0 ∨ l.length = 1 ∨ l.length = 2 ∨ l.length = 3 ∨ l.length = 4 by omega) with e | e | e | e | e <;> rw [e] <;> decide
def ordL (n : Nat) : List (Ar 4) := match impl_orders.f 300 (n : Int) with
  | some l => l
  | none => []
def goodO (n : Nat) (l : List Int) : Bool := match impl_orderOf.f 200000000 l with
  | some r => !r.2 || decide (r.1 ∈ ordL n)
  | none => false
set_option maxRecDepth 100000 in
theorem ord_impl : ∀ i : Fin 4, impl_orders.f 200000000 ((i.val + 1 : Nat) : Int) = some (ordL (i.val + 1)) := by decide +kernel
set_option maxRecDepth 100000 in
theorem ord_spec : ∀ i : Fin 4, spec_l10Orders.f 200000000 ((i.val + 1 : Nat) : Int) = some (ordL (i.val + 1)) := by decide +kernel
set_option maxRecDepth 100000 in
theorem ord_few : ∀ i : Fin 4, (ordL (i.val + 1)).length ≤ 24 ∧ (ordL (i.val + 1)).Nodup := by decide +kernel
set_option maxRecDepth 100000 in
theorem ord_c1 : ∀ a : Fin 1, goodO 1 [(a.val : Int)] = true := by decide +kernel
set_option maxRecDepth 100000 in
theorem ord_c2 : ∀ a b : Fin 2, goodO 2 [(a.val : Int), (b.val : Int)] = true := by decide +kernel
set_option maxRecDepth 100000 in
theorem ord_c3 : ∀ a b c : Fin 3, goodO 3 [(a.val : Int), (b.val : Int), (c.val : Int)] = true := by decide +kernel
set_option maxRecDepth 100000 in
theorem ord_c4 : ∀ a b c d : Fin 4, goodO 4 [(a.val : Int), (b.val : Int), (c.val : Int), (d.val : Int)] = true := by decide +kernel
theorem pat_l3 (K : Nat) (l m : List Int) (hlm : l.length = m.length) (hq : ∀ i k : Nat, i < l.length → k < l.length → (l.getD k 0 = l.getD i 0 ↔ m.getD k 0 = m.getD i 0)) (hlt : ∀ i k : Nat, i < l.length → k < l.length → (l.getD i 0 < l.getD k 0 ↔ m.getD i 0 < m.getD k 0)) (x : Nat) (hx : x < l.length) (hl : l.length ≤ 4) : ∀ (k n : Nat) (c : Int), n ≤ l.length → impl_orderOf.l3 K l (x : Int) k c (n : Int) = impl_orderOf.l3 K m (x : Int) k c (n : Int) := by
  intro k
  induction k with
  | zero => intro n c h1; rfl
  | succ k ih =>
    intro n c h1
    rw [impl_orderOf.l3, impl_orderOf.l3, ← hlm]
    by_cases hn : n < l.length
    · have e1 := propext (hq x n hx hn)
      have e2 : decide (l.getD x 0 < l.getD n 0) = decide (m.getD x 0 < m.getD n 0) := by rw [decide_eq_decide]; exact hlt x n hx hn
      simp only [if_pos (show (n : Int) < (l.length : Int) by omega), if_pos (show (0 : Int) ≤ (n : Int) ∧ (n : Int) < (l.length : Int) by omega), Int.toNat_natCast, w1' n (by omega), e1, e2]
      simp only [fun c => ih (n + 1) c (by omega)]
    · rw [if_neg (by omega), if_neg (by omega)]
theorem pat_l2 (K : Nat) (l m : List Int) (hlm : l.length = m.length) (hq : ∀ i k : Nat, i < l.length → k < l.length → (l.getD k 0 = l.getD i 0 ↔ m.getD k 0 = m.getD i 0)) (hlt : ∀ i k : Nat, i < l.length → k < l.length → (l.getD i 0 < l.getD k 0 ↔ m.getD i 0 < m.getD k 0)) (hl : l.length ≤ 4) : ∀ (k n : Nat) (o : Ar 4), n ≤ l.length → impl_orderOf.l2 K l k (n : Int) o = impl_orderOf.l2 K m k (n : Int) o := by
  intro k
  induction k with
  | zero => intro n o h1; rfl
  | succ k ih =>
    intro n o h1
    rw [impl_orderOf.l2, impl_orderOf.l2, ← hlm]
    by_cases hn : n < l.length
    · rw [if_pos (by omega), if_pos (by omega), if_pos (by omega), if_pos (by omega)]
      have := pat_l3 K l m hlm hq hlt n hn hl K 0 0 (by omega)
      rw [show impl_orderOf.l3 K l (n : Int) K 0 0 = _ from this, w1' n (by omega)]
      simp only [fun o => ih (n + 1) o (by omega)]
      rfl
    · rw [if_neg (by omega), if_neg (by omega)]
def rankL (l : List Int) : List Int := l.map fun x => ((l.countP fun y => decide (y < x) : Nat) : Int)
theorem countP_lt_len (l : List Int) (x : Int) (hx : x ∈ l) : (l.countP fun y => decide (y < x)) < l.length := by
  have h1 : (l.countP fun y => decide (y < x)) ≤ l.length := List.countP_le_length
  rcases Nat.lt_or_ge (l.countP fun y => decide (y < x)) l.length with h | h
  · exact h
  · have : (l.countP fun y => decide (y < x)) = l.length := by omega
    rw [List.countP_eq_length] at this
    have := this x hx
    simp at this
theorem countP_mono (l : List Int) (x y : Int) (hxy : x ≤ y) : (l.countP fun z => decide (z < x)) ≤ (l.countP fun z => decide (z < y)) := by
  apply List.countP_mono_left
  intro z _ hz
  simp only [decide_eq_true_eq] at hz ⊢
  omega
theorem countP_strict : ∀ (l : List Int) (x y : Int), x < y → x ∈ l → (l.countP fun z => decide (z < x)) < (l.countP fun z => decide (z < y))
  | [], x, y, _, h => by simp at h
  | a :: l, x, y, hxy, h => by
    rw [List.countP_cons, List.countP_cons]
    have hm := countP_mono l x y (by omega)
    rcases List.mem_cons.1 h with rfl | h
    · have h1 : ¬ x < x := by omega
      simp only [h1, decide_false, hxy, decide_true, Bool.false_eq_true, if_false, if_true]
      omega
    · have := countP_strict l x y hxy h
      by_cases h1 : a < x
      · have h2 : a < y := by omega
        simp only [h1, h2, decide_true, if_true]; omega
      · simp only [h1, decide_false, Bool.false_eq_true, if_false]; omega
theorem rank_get (l : List Int) (i : Nat) (hi : i < l.length) : (rankL l).getD i 0 = ((l.countP fun y => decide (y < l.getD i 0) : Nat) : Int) := by
  unfold rankL
  rw [getD_nat _ _ _ (by simpa using hi), getD_nat _ _ _ hi]
  simp
theorem order_rank (K : Nat) (l : List Int) (hl : l.length ≤ 4) : impl_orderOf.f K l = impl_orderOf.f K (rankL l) := by
  have hlm : l.length = (rankL l).length := by simp [rankL]
  have hmem : ∀ i, i < l.length → l.getD i 0 ∈ l := fun i hi => by rw [getD_nat _ _ _ hi]; exact List.getElem_mem _
  have hlt : ∀ i k : Nat, i < l.length → k < l.length → (l.getD i 0 < l.getD k 0 ↔ (rankL l).getD i 0 < (rankL l).getD k 0) := by
    intro i k hi hk
    rw [rank_get l i hi, rank_get l k hk]
    constructor
    · intro h
      have := countP_strict l _ _ h (hmem i hi)
      omega
    · intro h
      rcases Int.lt_or_le (l.getD i 0) (l.getD k 0) with h1 | h1
      · exact h1
      · have := countP_mono l _ _ h1; omega
  have hq : ∀ i k : Nat, i < l.length → k < l.length → (l.getD k 0 = l.getD i 0 ↔ (rankL l).getD k 0 = (rankL l).getD i 0) := by
    intro i k hi hk
    have a1 := hlt i k hi hk
    have a2 := hlt k i hk hi
    omega
  unfold impl_orderOf.f
  have := pat_l2 K l (rankL l) hlm hq hlt hl K 0 ⟨[(-1), (-1), (-1), (-1)], rfl⟩ (by omega)
  rw [show impl_orderOf.l2 K l K 0 (⟨[(-1), (-1), (-1), (-1)], rfl⟩ : Ar 4) = _ from this]
  rfl
theorem order_good (l : List Int) (n : Nat) (hn : l.length = n + 1) (h4 : n < 4) : goodO (n + 1) l = true := by
  have e : goodO (n + 1) l = goodO (n + 1) (rankL l) := by
    unfold goodO
    rw [order_rank 200000000 l (by omega)]
  rw [e]
  have hb : ∀ x ∈ rankL l, ∃ q : Fin (n + 1), x = (q.val : Int) := by
    intro x hx
    simp only [rankL, List.mem_map] at hx
    obtain ⟨y, hy, rfl⟩ := hx
    exact ⟨⟨_, by rw [← hn]; exact countP_lt_len l y hy⟩, rfl⟩
  have hr : (rankL l).length = n + 1 := by simp [rankL, hn]
  generalize rankL l = m at *
  rcases (show n = 0 ∨ n = 1 ∨ n = 2 ∨ n = 3 by omega) with rfl | rfl | rfl | rfl
  · match m, hr, hb with
    | [x], _, hb =>
      obtain ⟨a, rfl⟩ := hb x (by simp)
      exact ord_c1 a
  · match m, hr, hb with
    | [x, y], _, hb =>
      obtain ⟨a, rfl⟩ := hb x (by simp)
      obtain ⟨b, rfl⟩ := hb y (by simp)
      exact ord_c2 a b
  · match m, hr, hb with
    | [x, y, z], _, hb =>
      obtain ⟨a, rfl⟩ := hb x (by simp)
      obtain ⟨b, rfl⟩ := hb y (by simp)
      obtain ⟨c, rfl⟩ := hb z (by simp)
      exact ord_c3 a b c
  · match m, hr, hb with
    | [x, y, z, u], _, hb =>
      obtain ⟨a, rfl⟩ := hb x (by simp)
      obtain ⟨b, rfl⟩ := hb y (by simp)
      obtain ⟨c, rfl⟩ := hb z (by simp)
      obtain ⟨d, rfl⟩ := hb u (by simp)
      exact ord_c4 a b c d
theorem order_in (l : List Int) (n : Nat) (hn : l.length = n + 1) (h4 : n < 4) : ∃ r : Ar 4 × Bool, spec_l10Order.f 200000000 l = some r ∧ impl_orderOf.f 200000000 l = some r ∧ (r.2 = true → r.1 ∈ ordL (n + 1)) := by
  obtain ⟨r, r1, r2⟩ := order_f 200000000 (by omega) l (by omega)
  refine ⟨r, r1, r2, fun h => ?_⟩
  have := order_good l n hn h4
  unfold goodO at this
  rw [r2] at this
  simpa [h] using this
/-! the place of an order -/
theorem idx_l0 (K : Nat) (L : List (Ar 4)) (o : Ar 4) (i : Nat) (hi : L[i]? = some o) (hd : L.Nodup) (hl : L.length ≤ 24) : ∀ (k n : Nat), n ≤ i → i - n < k → slices_Index_impl_Order_impl_Order.l0 K L o k (n : Int) = some (Sum.inr (i : Int)) := by
  obtain ⟨hil, hie⟩ := List.getElem?_eq_some_iff.1 hi
  intro k
  induction k with
  | zero => intro n h1 h2; omega
  | succ k ih =>
    intro n h1 h2
    rw [slices_Index_impl_Order_impl_Order.l0, if_pos (by omega), if_pos (by omega), Int.toNat_natCast, w1' n (by omega), getD_nat _ _ _ (by omega)]
    by_cases hni : n = i
    · subst hni
      rw [if_pos hie.symm]
    · have hne : ¬ o = L[n] := by
        intro e
        rw [← hie] at e
        exact hni ((List.getElem_inj (h₀ := hil) (h₁ := (by omega : n < L.length)) hd).1 e).symm
      rw [if_neg hne]
      exact ih (n + 1) (by omega) (by omega)
theorem idx_eq (K : Nat) (L : List (Ar 4)) (o : Ar 4) (i : Nat) (hi : L[i]? = some o) (hd : L.Nodup) (hl : L.length ≤ 24) (hK : 100 ≤ K) : slices_Index_impl_Order_impl_Order.f K L o = some (i : Int) := by
  obtain ⟨hil, hie⟩ := List.getElem?_eq_some_iff.1 hi
  unfold slices_Index_impl_Order_impl_Order.f
  rw [show slices_Index_impl_Order_impl_Order.l0 K L o K 0 = some (Sum.inr (i : Int)) from idx_l0 K L o i hi hd hl K 0 (Nat.zero_le _) (by omega)]
  rfl
theorem inc_l3 (K : Nat) (L : List (Ar 4)) (o : Ar 4) (i : Nat) (hi : L[i]? = some o) (hd : L.Nodup) (hl : L.length ≤ 24) : ∀ (k n : Nat) (s : List Int), n ≤ L.length → L.length - n < k → s.length = L.length → spec_l10Ways.l3 K L (o, true) k (n : Int) s = some (if n ≤ i then s.set i (wrap64 (s.getD i 0 + 1)) else s) := by
  obtain ⟨hil, hie⟩ := List.getElem?_eq_some_iff.1 hi
  intro k
  induction k with
  | zero => intro n s h1 h2; omega
  | succ k ih =>
    intro n s h1 h2 h3
    rw [spec_l10Ways.l3]
    by_cases hn : n < L.length
    · rw [if_pos (by omega), if_pos rfl, if_pos (by omega), Int.toNat_natCast, getD_nat _ _ _ hn, w1' n (by omega)]
      by_cases hni : n = i
      · subst hni
        rw [if_pos hie, if_pos (by omega), ih (n + 1) _ (by omega) (by omega) (by simpa using h3), if_neg (by omega), if_pos (by omega)]
      · have hne : ¬ L[n] = (o, true).1 := by
          intro e
          rw [← hie] at e
          exact hni ((List.getElem_inj (h₀ := hn) (h₁ := hil) hd).1 e)
        rw [if_neg hne, ih (n + 1) _ (by omega) (by omega) h3]
        by_cases hlt : n ≤ i
        · rw [if_pos hlt, if_pos (by omega)]
        · rw [if_neg hlt, if_neg (by omega)]
    · rw [if_neg (by omega), if_neg (by omega)]
theorem inc_no (K : Nat) (L : List (Ar 4)) (o : Ar 4) (hl : L.length ≤ 24) : ∀ (k n : Nat) (s : List Int), n ≤ L.length → L.length - n < k → spec_l10Ways.l3 K L (o, false) k (n : Int) s = some s := by
  intro k
  induction k with
  | zero => intro n s h1 h2; omega
  | succ k ih =>
    intro n s h1 h2
    rw [spec_l10Ways.l3]
    by_cases hn : n < L.length
    · rw [if_pos (by omega), if_neg (by simp), w1' n (by omega)]
      exact ih (n + 1) s (by omega) (by omega)
    · rw [if_neg (by omega)]
theorem roll_some (K : Nat) (hK : 1000 ≤ K) (l : List (Ar 6)) (h4 : l.length ≤ 4) (v : Int) (h0 : 0 ≤ v) (h1 : v ≤ 1000000) : ∃ o, impl_rollAt.f K l v = some o ∧ o.length = l.length := by
  obtain ⟨o, o1, o2⟩ := roll_l0 K l (by omega) K l.length v (List.replicate l.length 0) (Nat.le_refl _) (by omega) h0 (by omega) (by simp)
  have c : (0 : Int) ≤ (l.length : Int) ∧ (l.length : Int) ≤ 1073741824 := by omega
  have e2 : wrap64 ((l.length : Int) - 1) = (l.length : Int) - 1 := w64 (by omega) (by omega)
  refine ⟨o, ?_, o2⟩
  unfold impl_rollAt.f
  rw [if_pos c, e2, Int.toNat_natCast, o1]
  rfl
theorem ways_same (l : List (Ar 6)) (n : Nat) (hn : l.length = n + 1) (h4 : n < 4) : ∃ o, spec_l10Ways.f 200000000 l = some o ∧ impl_orderWays.f 200000000 l = some o ∧ o.length ≤ 24 := by
  have f1 := ord_impl ⟨n, h4⟩
  have f2 := ord_spec ⟨n, h4⟩
  obtain ⟨f3, f4⟩ := ord_few ⟨n, h4⟩
  have key : ∀ (k m : Nat) (s : List Int), (m : Int) ≤ 6 ^ l.length → (6 : Int) ^ l.length - m < k → s.length = (ordL (n + 1)).length → ∃ o, spec_l10Ways.l2 200000000 l (ordL (n + 1)) k (m : Int) s = some o ∧ impl_orderWays.l0 200000000 l (ordL (n + 1)) (6 ^ l.length) k (m : Int) s = some o ∧ o.length = (ordL (n + 1)).length := by
    have hr := outcome_range l (by omega)
    intro k
    induction k with
    | zero => intro m s h1 h2; omega
    | succ k ih =>
      intro m s h1 h2 h3
      rw [spec_l10Ways.l2, impl_orderWays.l0, all_power, power_eq 200000000 (by omega) l.length (by omega), some_bind]
      by_cases hm : (m : Int) < 6 ^ l.length
      · obtain ⟨o, o1, o2⟩ := roll_some 200000000 (by omega) l (by omega) (m : Int) (by omega) (by omega)
        obtain ⟨r, r1, r2, r3⟩ := order_in o n (by omega) h4
        have rr : spec_l2Roll.f 200000000 l (m : Int) = some o := by rw [roll_roll]; exact o1
        have f5 : (m : Int) + 1 ≤ 6 ^ l.length := by omega
        have f6 : (6 : Int) ^ l.length - ((m + 1 : Nat) : Int) < k := by omega
        rw [if_pos hm, if_pos hm, rr, o1]
        simp only [some_bind, r1, r2]
        rw [w1' m (by omega)]
        obtain ⟨ro, rb⟩ := r
        cases rb with
        | false =>
          have hin := inc_no 200000000 (ordL (n + 1)) ro f3 200000000 0 s (by omega) (by have : (ordL (n + 1)).length ≤ 24 := f3; omega)
          rw [show spec_l10Ways.l3 200000000 (ordL (n + 1)) (ro, false) 200000000 0 s = _ from hin, if_neg (by simp), some_bind]
          exact ih (m + 1) s (by omega) f6 h3
        | true =>
          obtain ⟨i, hi, hie⟩ := List.getElem_of_mem (r3 rfl)
          have hi? : (ordL (n + 1))[i]? = some ro := by rw [List.getElem?_eq_getElem hi, hie]
          have hin := inc_l3 200000000 _ ro i hi? f4 f3 200000000 0 s (by omega) (by have : (ordL (n + 1)).length ≤ 24 := f3; omega) h3
          rw [show spec_l10Ways.l3 200000000 (ordL (n + 1)) (ro, true) 200000000 0 s = _ from hin, if_pos rfl, some_bind, idx_eq 200000000 _ ro i hi? f4 f3 (by omega), some_bind, if_pos (by omega), if_pos (by omega), Int.toNat_natCast]
          exact ih (m + 1) _ (by omega) f6 (by simpa using h3)
      · rw [if_neg hm, if_neg hm]
        exact ⟨s, rfl, rfl, h3⟩
  have hr := outcome_range l (by omega)
  obtain ⟨o, o1, o2, o3⟩ := key 200000000 0 (List.replicate (ordL (n + 1)).length 0) (by have := pow_pos l.length; omega) (by omega) (by simp)
  have hc : (0 : Int) ≤ ((ordL (n + 1)).length : Int) ∧ ((ordL (n + 1)).length : Int) ≤ 1073741824 := by
    have : (ordL (n + 1)).length ≤ 24 := f3
    omega
  refine ⟨o, ?_, ?_, by have : (ordL (n + 1)).length ≤ 24 := f3; omega⟩
  · unfold spec_l10Ways.f
    rw [hn, show spec_l10Orders.f 200000000 ((n + 1 : Nat) : Int) = some (ordL (n + 1)) from f2, some_bind, if_pos hc, Int.toNat_natCast, show spec_l10Ways.l2 200000000 l (ordL (n + 1)) 200000000 0 (List.replicate (ordL (n + 1)).length 0) = some o from o1]
    rfl
  · unfold impl_orderWays.f
    rw [power_eq 200000000 (by omega) l.length (by omega)]
    rw [hn] at o2 ⊢
    rw [show impl_orders.f 200000000 ((n + 1 : Nat) : Int) = some (ordL (n + 1)) from f1, some_bind, if_pos hc, some_bind, Int.toNat_natCast, show impl_orderWays.l0 200000000 l (ordL (n + 1)) (6 ^ (n + 1)) 200000000 0 (List.replicate (ordL (n + 1)).length 0) = some o from o2]
    rfl
theorem wrap_wrap (x y : Int) : wrap64 (wrap64 x + y) = wrap64 (x + y) := by unfold wrap64; omega
theorem wrap_sub (x y : Int) : wrap64 (x - wrap64 y) = wrap64 (x - y) := by unfold wrap64; omega
theorem wrap_sub' (x y : Int) : wrap64 (wrap64 x - y) = wrap64 (x - y) := by unfold wrap64; omega
def sumL : List Int → Int
  | [] => 0
  | x :: r => x + sumL r
theorem total_l0 (K : Nat) (l : List Int) (hl : l.length ≤ 1000) : ∀ (k n : Nat) (acc : Int), n ≤ l.length → l.length - n < k → ∃ X, impl_total.l0 K l k acc (n : Int) = some X ∧ wrap64 X = wrap64 (acc + sumL (l.drop n)) := by
  intro k
  induction k with
  | zero => intro n acc h1 h2; omega
  | succ k ih =>
    intro n acc h1 h2
    rw [impl_total.l0]
    by_cases hn : n < l.length
    · rw [if_pos (by omega), if_pos (by omega), Int.toNat_natCast, w1' n (by omega), getD_nat _ _ _ hn]
      obtain ⟨X, x1, x2⟩ := ih (n + 1) (wrap64 (acc + l[n])) (by omega) (by omega)
      refine ⟨X, x1, ?_⟩
      rw [x2, wrap_wrap, List.drop_eq_getElem_cons hn, sumL, Int.add_assoc]
    · rw [if_neg (by omega)]
      refine ⟨acc, rfl, ?_⟩
      rw [List.drop_of_length_le (by omega), sumL, Int.add_zero]
theorem ties_l0 (K : Nat) (p : List (Ar 6)) (l : List Int) (hl : l.length ≤ 1000) : ∀ (k n : Nat) (acc : Int), n ≤ l.length → l.length - n < k → wrap64 acc = acc → spec_l10Ties.l0 K p l k acc (n : Int) = some (wrap64 (acc - sumL (l.drop n))) := by
  intro k
  induction k with
  | zero => intro n acc h1 h2; omega
  | succ k ih =>
    intro n acc h1 h2 h3
    rw [spec_l10Ties.l0]
    by_cases hn : n < l.length
    · rw [if_pos (by omega), if_pos (by omega), Int.toNat_natCast, w1' n (by omega), getD_nat _ _ _ hn]
      have hw : wrap64 (wrap64 (acc - l[n])) = wrap64 (acc - l[n]) := by unfold wrap64; omega
      rw [ih (n + 1) (wrap64 (acc - l[n])) (by omega) (by omega) hw, wrap_sub', List.drop_eq_getElem_cons hn, sumL]
      congr 2
      omega
    · rw [if_neg (by omega), List.drop_of_length_le (by omega), sumL, Int.sub_zero, h3]
theorem TieWays_same (l : List (Ar 6)) (h : l.length ≤ 1048576) : ∃ r, spec_TieWays.f 200000000 l = some r ∧ impl_TieWays.f 200000000 l = some r := by
  unfold spec_TieWays.f impl_TieWays.f
  rw [pool_spec 200000000 (by omega) l h, pool_impl 200000000 (by omega) l h, some_bind, some_bind]
  cases hp : poolB l with
  | false => exact ⟨_, rfl, rfl⟩
  | true =>
    obtain ⟨⟨g1, g2⟩, g3⟩ := pool_good l hp
    obtain ⟨n, hn⟩ : ∃ n, l.length = n + 1 := ⟨l.length - 1, by omega⟩
    obtain ⟨o, o1, o2, o3⟩ := ways_same l n hn (by omega)
    have hpw := power_eq 200000000 (by omega) l.length (by omega)
    have hr := outcome_range l (by omega)
    have hpp := pow_pos l.length
    obtain ⟨X, x1, x2⟩ := total_l0 200000000 o (by omega) 200000000 0 0 (by omega) (by omega)
    have hx1 : impl_total.l0 200000000 o 200000000 0 0 = some X := x1
    have hw : wrap64 ((6 : Int) ^ l.length) = 6 ^ l.length := w64 (by omega) (by omega)
    have y1 := ties_l0 200000000 l o (by omega) 200000000 0 (6 ^ l.length) (by omega) (by omega) hw
    have hy1 : spec_l10Ties.l0 200000000 l o 200000000 (6 ^ l.length) 0 = _ := y1
    rw [if_pos rfl, if_pos rfl]
    unfold impl_ties.f impl_total.f spec_l10Ties.f
    rw [o1, some_bind, all_power, hpw, some_bind, some_bind, o2, some_bind, hx1, hy1]
    simp only [some_bind, List.drop_zero, Int.zero_add] at x2 ⊢
    rw [← wrap_sub _ X, x2, wrap_sub]
    exact ⟨_, rfl, rfl⟩
theorem TieWays_pure (l0 : List (Ar 6)) (m : l0.length ≤ maxLen) (_w : ∀ z ∈ l0, ∀ y ∈ z.l, (Lit.int .i64 y).wf = true) : ∃ K, laws_FnExactTieWays.f K l0 = some true := by
  refine ⟨200000000, ?_⟩
  unfold laws_FnExactTieWays.f
  rcases sizeA6S 200000000 l0 m with ⟨h, _⟩ | ⟨z, hz, h, h'⟩
  · rw [h]; rfl
  · rw [h]
    obtain ⟨q, h1, h2⟩ := TieWays_same l0 h'
    have t1 := toA6S 200000000 l0 h' (by omega)
    have q1 := eqA6S 200000000 l0 h' (by omega)
    simp only [t1, h1, h2, q1, some_bind, if_true, beq_self_eq_true, show ¬ z < 0 by omega, if_false]
end Go.Proofs.Ytfiabgkolhpbkaa.WTieWays

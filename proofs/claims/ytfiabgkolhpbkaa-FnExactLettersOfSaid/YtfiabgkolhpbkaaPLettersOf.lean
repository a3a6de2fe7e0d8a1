/- The plain law: what the walk shows to be computed answers true. Conditions: the numbers are 64-bit. -/
import Derived.Test.YtfiabgkolhpbkaaWLettersOf
import Derived.KernelRfl
namespace Go.Proofs.Ytfiabgkolhpbkaa.WLettersOf
open Go.K Go.RowKit
set_option linter.unusedVariables false
set_option linter.unusedSimpArgs false

theorem in_eq (K : Nat) (a lo hi : Int) : impl_within.f K a lo hi = some (decide (lo ≤ a ∧ a ≤ hi)) := by
  unfold impl_within.f
  by_cases h : lo ≤ a <;> simp [h]
theorem in_within : spec_l1In.f = impl_within.f := by kernel_rfl
def faceB (a : Int) : Bool := decide (0 ≤ a ∧ a ≤ 30)
theorem isFace_eq (K : Nat) (_hK : 2000000 ≤ K) (a : Int) : impl_isFace.f K a = some (faceB a) := by
  unfold impl_isFace.f
  rw [in_eq]; rfl
theorem w1 (n : Nat) (h : n ≤ 4000000000000000000) : wrap64 ((n : Int) + 1) = ((n + 1 : Nat) : Int) := by rw [w64 (by omega) (by omega)]; omega
theorem allFace_l0 (K : Nat) (hK : 2000000 ≤ K) (l : List Int) (h : l.length ≤ 1073741824) : ∀ (k n : Nat), n ≤ l.length → l.length - n < k →
    (slices_IndexFunc_int_int__areAll_int_1_isFace.l0 K l k (n : Int) = some (Sum.inl ()) ∧ (l.drop n).all faceB = true) ∨ (∃ i : Int, 0 ≤ i ∧ slices_IndexFunc_int_int__areAll_int_1_isFace.l0 K l k (n : Int) = some (Sum.inr i) ∧ (l.drop n).all faceB = false) := by
  intro k
  induction k with
  | zero => intro n h1 h2; omega
  | succ k ih =>
    intro n h1 h2
    rw [slices_IndexFunc_int_int__areAll_int_1_isFace.l0]
    by_cases hn : (n : Int) < (l.length : Int)
    · have hn' : n < l.length := by omega
      have hnn : ((n : Int)).toNat = n := by omega
      have hd : l.drop n = l[n] :: l.drop (n + 1) := List.drop_eq_getElem_cons hn'
      have hg : l.getD n (0 : Int) = l[n] := by rw [List.getD_eq_getElem?_getD, List.getElem?_eq_getElem hn']; rfl
      rw [if_pos hn, if_pos (by omega), w1 n (by omega), hnn, hg, impl_areAll_int_1__isFace.f, isFace_eq K hK, hd]
      simp only [some_bind, List.all_cons]
      rcases Bool.eq_false_or_eq_true (faceB l[n]) with e | e
      · rw [e]
        simp only [Bool.not_true, Bool.false_eq_true, if_false, Bool.true_and]
        exact ih (n + 1) (by omega) (by omega)
      · rw [e]
        simp only [Bool.not_false, if_true, Bool.false_and]
        exact .inr ⟨_, by omega, rfl, trivial⟩
    · rw [if_neg hn]
      have : n = l.length := by omega
      subst this
      exact .inl ⟨rfl, by simp⟩
theorem allFace_eq (K : Nat) (hK : 2000000 ≤ K) (l : List Int) (h : l.length ≤ 1048576) : impl_areAll_int__isFace.f K l = some (l.all faceB) := by
  unfold impl_areAll_int__isFace.f slices_ContainsFunc_int_int__areAll_int_1_isFace.f slices_IndexFunc_int_int__areAll_int_1_isFace.f
  rcases allFace_l0 K hK l (by omega) K 0 (by omega) (by omega) with ⟨h1, h2⟩ | ⟨i, hi, h1, h2⟩
  · rw [show (0 : Int) = ((0 : Nat) : Int) from rfl, h1]
    simp only [some_bind, List.drop_zero] at h2 ⊢
    rw [h2]; rfl
  · rw [show (0 : Int) = ((0 : Nat) : Int) from rfl, h1]
    simp only [some_bind, List.drop_zero] at h2 ⊢
    rw [h2]
    have : decide (((0 : Nat) : Int) ≤ i) = true := decide_eq_true (by simpa using hi)
    rw [this]; rfl
def dieP (a : Ar 6) : Prop := ((0 ≤ a.get 0 ∧ a.get 0 ≤ 30) ∧ (0 ≤ a.get 1 ∧ a.get 1 ≤ 30) ∧ (0 ≤ a.get 2 ∧ a.get 2 ≤ 30) ∧ (0 ≤ a.get 3 ∧ a.get 3 ≤ 30) ∧ (0 ≤ a.get 4 ∧ a.get 4 ≤ 30) ∧ (0 ≤ a.get 5 ∧ a.get 5 ≤ 30)) ∧ (a.get 0 ≤ a.get 1 ∧ a.get 1 ≤ a.get 2 ∧ a.get 2 ≤ a.get 3 ∧ a.get 3 ≤ a.get 4 ∧ a.get 4 ≤ a.get 5)
instance (a : Ar 6) : Decidable (dieP a) := by unfold dieP; infer_instance
def dieB (a : Ar 6) : Bool := decide (dieP a)
theorem die_get (x y z u v w : Int) : (Ar.get (⟨[x, y, z, u, v, w], rfl⟩ : Ar 6) 0 = x ∧ Ar.get (⟨[x, y, z, u, v, w], rfl⟩ : Ar 6) 1 = y ∧ Ar.get (⟨[x, y, z, u, v, w], rfl⟩ : Ar 6) 2 = z) ∧ (Ar.get (⟨[x, y, z, u, v, w], rfl⟩ : Ar 6) 3 = u ∧ Ar.get (⟨[x, y, z, u, v, w], rfl⟩ : Ar 6) 4 = v ∧ Ar.get (⟨[x, y, z, u, v, w], rfl⟩ : Ar 6) 5 = w) := ⟨⟨rfl, rfl, rfl⟩, rfl, rfl, rfl⟩
set_option maxHeartbeats 4000000 in
theorem die_spec (K : Nat) (hK : 2000000 ≤ K) (a : Ar 6) : spec_l2Die.f K a = some (dieB a) := by
  obtain ⟨k, rfl⟩ := Nat.exists_eq_add_of_le (show 8 ≤ K by omega)
  obtain ⟨x, y, z, u, v, w, rfl⟩ := Ar.cases6 a
  have e : 8 + k = k + 1 + 1 + 1 + 1 + 1 + 1 + 1 + 1 := by omega
  unfold spec_l2Die.f dieB dieP
  obtain ⟨⟨g0, g1, g2⟩, g3, g4, g5⟩ := die_get x y z u v w
  rw [e]
  simp only [spec_l2Die.l0, in_within, in_eq, some_bind, show (0 : Int) < 6 by decide, show wrap64 (0 + 1) = 1 by decide +kernel, show wrap64 (1 + 1) = 2 by decide +kernel, show wrap64 (2 + 1) = 3 by decide +kernel, show wrap64 (3 + 1) = 4 by decide +kernel, show wrap64 (4 + 1) = 5 by decide +kernel, show wrap64 (5 + 1) = 6 by decide +kernel, show wrap64 (1 - 1) = 0 by decide +kernel, show wrap64 (2 - 1) = 1 by decide +kernel, show wrap64 (3 - 1) = 2 by decide +kernel, show wrap64 (4 - 1) = 3 by decide +kernel, show wrap64 (5 - 1) = 4 by decide +kernel, g0, g1, g2, g3, g4, g5, decide_eq_true_eq]
  simp
  repeat' split
  all_goals simp_all
  all_goals omega
set_option maxHeartbeats 4000000 in
theorem die_impl (K : Nat) (hK : 2000000 ≤ K) (a : Ar 6) : impl_IsDie.f K a = some (dieB a) := by
  obtain ⟨x, y, z, u, v, w, rfl⟩ := Ar.cases6 a
  unfold impl_IsDie.f dieB dieP
  rw [allFace_eq K hK _ (by simp)]
  obtain ⟨k, rfl⟩ := Nat.exists_eq_add_of_le (show 8 ≤ K by omega)
  have e : 8 + k = k + 1 + 1 + 1 + 1 + 1 + 1 + 1 + 1 := by omega
  obtain ⟨⟨g0, g1, g2⟩, g3, g4, g5⟩ := die_get x y z u v w
  unfold slices_IsSorted_int_int.f
  rw [e]
  simp [slices_IsSorted_int_int.l0, cmp_Less_int.f, cmp_isNaN_int.f, some_bind, show wrap64 (6 - 1) = 5 by decide +kernel, show wrap64 5 = 5 by decide +kernel, show wrap64 (5 - 1) = 4 by decide +kernel, show wrap64 (4 - 1) = 3 by decide +kernel, show wrap64 (3 - 1) = 2 by decide +kernel, show wrap64 (2 - 1) = 1 by decide +kernel, show wrap64 (1 - 1) = 0 by decide +kernel, show wrap64 4 = 4 by decide +kernel, show wrap64 3 = 3 by decide +kernel, show wrap64 2 = 2 by decide +kernel, show wrap64 1 = 1 by decide +kernel, show wrap64 0 = 0 by decide +kernel, g0, g1, g2, g3, g4, g5, faceB]
  repeat' split
  all_goals simp_all
  all_goals omega
theorem IsDie_eq (K : Nat) (hK : 2000000 ≤ K) (a : Ar 6) : impl_IsDie.f K a = some (dieB a) := die_impl K hK a
theorem allDie_l0 (K : Nat) (hK : 2000000 ≤ K) (l : List (Ar 6)) (h : l.length ≤ 1073741824) : ∀ (k n : Nat), n ≤ l.length → l.length - n < k →
    (slices_IndexFunc_6_int_6_int__areAll_6_int_1_IsDie.l0 K l k (n : Int) = some (Sum.inl ()) ∧ (l.drop n).all dieB = true) ∨ (∃ i : Int, 0 ≤ i ∧ slices_IndexFunc_6_int_6_int__areAll_6_int_1_IsDie.l0 K l k (n : Int) = some (Sum.inr i) ∧ (l.drop n).all dieB = false) := by
  intro k
  induction k with
  | zero => intro n h1 h2; omega
  | succ k ih =>
    intro n h1 h2
    rw [slices_IndexFunc_6_int_6_int__areAll_6_int_1_IsDie.l0]
    by_cases hn : (n : Int) < (l.length : Int)
    · have hn' : n < l.length := by omega
      have hnn : ((n : Int)).toNat = n := by omega
      have hd : l.drop n = l[n] :: l.drop (n + 1) := List.drop_eq_getElem_cons hn'
      have hg : l.getD n (Ar.zero 6) = l[n] := by rw [List.getD_eq_getElem?_getD, List.getElem?_eq_getElem hn']; rfl
      rw [if_pos hn, if_pos (by omega), w1 n (by omega), hnn, hg, impl_areAll_6_int_1__IsDie.f, IsDie_eq K hK, hd]
      simp only [some_bind, List.all_cons]
      rcases Bool.eq_false_or_eq_true (dieB l[n]) with e | e
      · rw [e]
        simp only [Bool.not_true, Bool.false_eq_true, if_false, Bool.true_and]
        exact ih (n + 1) (by omega) (by omega)
      · rw [e]
        simp only [Bool.not_false, if_true, Bool.false_and]
        exact .inr ⟨_, by omega, rfl, trivial⟩
    · rw [if_neg hn]
      have : n = l.length := by omega
      subst this
      exact .inl ⟨rfl, by simp⟩
theorem allDie_eq (K : Nat) (hK : 2000000 ≤ K) (l : List (Ar 6)) (h : l.length ≤ 1048576) : impl_areAll_6_int__IsDie.f K l = some (l.all dieB) := by
  unfold impl_areAll_6_int__IsDie.f slices_ContainsFunc_6_int_6_int__areAll_6_int_1_IsDie.f slices_IndexFunc_6_int_6_int__areAll_6_int_1_IsDie.f
  rcases allDie_l0 K hK l (by omega) K 0 (by omega) (by omega) with ⟨h1, h2⟩ | ⟨i, hi, h1, h2⟩
  · rw [show (0 : Int) = ((0 : Nat) : Int) from rfl, h1]
    simp only [some_bind, List.drop_zero] at h2 ⊢
    rw [h2]; rfl
  · rw [show (0 : Int) = ((0 : Nat) : Int) from rfl, h1]
    simp only [some_bind, List.drop_zero] at h2 ⊢
    rw [h2]
    have : decide (((0 : Nat) : Int) ≤ i) = true := decide_eq_true (by simpa using hi)
    rw [this]; rfl
theorem capDie_l0 (K : Nat) (hK : 2000000 ≤ K) (l : List (Ar 6)) (h : l.length ≤ 1073741824) : ∀ (k n : Nat), n ≤ l.length → l.length - n < k →
    (spec_l2Pool.l0 K l k (n : Int) = some (Sum.inl ()) ∧ ((l.length : Int) ≤ 4 → (l.drop n).all dieB = true)) ∨ (spec_l2Pool.l0 K l k (n : Int) = some (Sum.inr false) ∧ (l.drop n).all dieB = false) := by
  intro k
  induction k with
  | zero => intro n h1 h2; omega
  | succ k ih =>
    intro n h1 h2
    rw [spec_l2Pool.l0]
    by_cases hn : (n : Int) < (l.length : Int)
    · rw [if_pos hn]
      by_cases hc : (n : Int) ≤ 4
      · have hn' : n < l.length := by omega
        have hnn : ((n : Int)).toNat = n := by omega
        have hd : l.drop n = l[n] :: l.drop (n + 1) := List.drop_eq_getElem_cons hn'
        have hg : l.getD n (Ar.zero 6) = l[n] := by rw [List.getD_eq_getElem?_getD, List.getElem?_eq_getElem hn']; rfl
        rw [if_pos hc, if_pos (by omega), w1 n (by omega), hnn, hg, die_spec K hK, hd]
        simp only [some_bind, List.all_cons]
        rcases Bool.eq_false_or_eq_true (dieB l[n]) with e | e
        · rw [e]
          simp only [if_true, Bool.true_and]
          exact ih (n + 1) (by omega) (by omega)
        · rw [e]
          simp only [Bool.false_eq_true, if_false, Bool.false_and]
          exact .inr ⟨trivial, trivial⟩
      · rw [if_neg hc]
        exact .inl ⟨rfl, fun h => by omega⟩
    · rw [if_neg hn]
      have : n = l.length := by omega
      subst this
      exact .inl ⟨rfl, by simp⟩
def poolB (l : List (Ar 6)) : Bool := decide ((1 : Int) ≤ l.length ∧ (l.length : Int) ≤ 4) && l.all dieB
theorem pool_spec (K : Nat) (hK : 2000000 ≤ K) (l : List (Ar 6)) (h : l.length ≤ 1048576) : spec_l2Pool.f K l = some (poolB l) := by
  unfold spec_l2Pool.f poolB
  rcases capDie_l0 K hK l (by omega) K 0 (by omega) (by omega) with ⟨h1, h2⟩ | ⟨h1, h2⟩
  · rw [show (0 : Int) = ((0 : Nat) : Int) from rfl, h1, in_within]
    simp only [some_bind, List.drop_zero, in_eq] at h2 ⊢
    by_cases hc : (l.length : Int) ≤ 4
    · rw [h2 hc]; simp [hc]
    · simp [hc]
  · rw [show (0 : Int) = ((0 : Nat) : Int) from rfl, h1]
    simp only [some_bind, List.drop_zero] at h2 ⊢
    rw [h2]; simp
theorem pool_impl (K : Nat) (hK : 2000000 ≤ K) (l : List (Ar 6)) (h : l.length ≤ 1048576) : impl_IsPool.f K l = some (poolB l) := by
  unfold impl_IsPool.f poolB
  rw [in_eq, allDie_eq K hK l h]
  simp only [some_bind]
  by_cases hc : (1 : Int) ≤ l.length ∧ (l.length : Int) ≤ 4 <;> simp [hc]
theorem pool_good (l : List (Ar 6)) (h : poolB l = true) : (1 ≤ l.length ∧ l.length ≤ 4) ∧ ∀ a ∈ l, dieB a = true := by
  unfold poolB at h
  simp only [Bool.and_eq_true, decide_eq_true_eq, List.all_eq_true] at h
  exact ⟨by omega, h.2⟩
theorem toA6 (K : Nat) (hK : 8 ≤ K) (a : Ar 6) : laws_toIntA6.f K a = some a := by
  obtain ⟨k, rfl⟩ := Nat.exists_eq_add_of_le hK
  obtain ⟨x, y, z, u, v, w, rfl⟩ := Ar.cases6 a
  have e : 8 + k = k + 1 + 1 + 1 + 1 + 1 + 1 + 1 + 1 := by omega
  unfold laws_toIntA6.f
  rw [e]
  simp only [laws_toIntA6.l0, show (0 : Int) < 6 by decide, show wrap64 (0 + 1) = 1 by decide +kernel, show wrap64 (1 + 1) = 2 by decide +kernel, show wrap64 (2 + 1) = 3 by decide +kernel, show wrap64 (3 + 1) = 4 by decide +kernel, show wrap64 (4 + 1) = 5 by decide +kernel, show wrap64 (5 + 1) = 6 by decide +kernel, if_true, show (0 : Int) ≤ 0 ∧ True by decide]
  rfl
theorem toA6S_l0 (K : Nat) (hK : 8 ≤ K) (l : List (Ar 6)) (h : l.length ≤ 1073741824) : ∀ (k n : Nat) (out : List (Ar 6)), out.length = l.length → out.take n = l.take n → n ≤ l.length → l.length - n < k → laws_toIntA6S.l0 K l k (n : Int) out = some l := by
  intro k
  induction k with
  | zero => intro n out h1 h2 h3 h4; omega
  | succ k ih =>
    intro n out h1 h2 h3 h4
    rw [laws_toIntA6S.l0]
    by_cases hn : (n : Int) < (l.length : Int)
    · have hn' : n < l.length := by omega
      rw [if_pos hn, if_pos (by omega), toA6 K hK, some_bind, if_pos (by omega), w1 n (by omega)]
      refine ih (n + 1) _ (by simp [h1]) ?_ (by omega) (by omega)
      have hnn : ((n : Int)).toNat = n := by omega
      rw [hnn, List.take_add_one, List.take_add_one, List.take_set_of_le (Nat.le_refl n), h2]
      rw [List.getElem?_set_self (by omega)]
      congr 1
      rw [List.getD_eq_getElem?_getD, List.getElem?_eq_getElem hn']
      rfl
    · rw [if_neg hn]
      have : n = l.length := by omega
      subst this
      rw [← h1, List.take_length, h1, List.take_length] at h2
      rw [h2]
theorem toA6S (K : Nat) (l : List (Ar 6)) (h : l.length ≤ 1048576) (hK : 2000000 ≤ K) : laws_toIntA6S.f K l = some l := by
  unfold laws_toIntA6S.f
  rw [if_pos (by omega), show (0 : Int) = ((0 : Nat) : Int) from rfl, toA6S_l0 K (by omega) l (by omega) K 0 _ (by simp) (by simp) (by omega) (by omega)]
  rfl
theorem sizeA6S (K : Nat) (l : List (Ar 6)) (h : l.length ≤ maxLen) : (laws_szIntA6S.f K l 1048576 = some (-1) ∧ 1048576 < l.length) ∨ (∃ r : Int, 0 ≤ r ∧ laws_szIntA6S.f K l 1048576 = some r ∧ l.length ≤ 1048576) := by
  have hm : l.length ≤ 2 ^ 63 - 1 := h
  unfold laws_szIntA6S.f
  have e : wrap64 (1048576 - (l.length : Int)) = 1048576 - (l.length : Int) := w64 (by omega) (by omega)
  rw [e]
  by_cases hc : (1048576 : Int) - (l.length : Int) < 0
  · rw [if_pos hc]; exact .inl ⟨rfl, by omega⟩
  · rw [if_neg hc]; exact .inr ⟨_, by omega, rfl, by omega⟩
theorem eqA6 (K : Nat) (hK : 8 ≤ K) (a : Ar 6) : laws_eqIntA6.f K a a = some true := by
  obtain ⟨k, rfl⟩ := Nat.exists_eq_add_of_le hK
  rw [show 8 + k = k + 1 + 1 + 1 + 1 + 1 + 1 + 1 + 1 by omega]
  simp [laws_eqIntA6.f, laws_eqIntA6.l0, wrap64]
theorem eqA6S_l0 (K : Nat) (hK : 8 ≤ K) (l : List (Ar 6)) (h : l.length ≤ 1073741824) : ∀ (k n : Nat), n ≤ l.length → l.length - n < k → laws_eqIntA6S.l0 K l l k (n : Int) = some (Sum.inl ()) := by
  intro k
  induction k with
  | zero => intro n h1 h2; omega
  | succ k ih =>
    intro n h1 h2
    rw [laws_eqIntA6S.l0]
    by_cases hn : (n : Int) < (l.length : Int)
    · rw [if_pos hn, if_pos (by omega), if_pos (by omega), eqA6 K hK, some_bind, if_pos rfl, w1 n (by omega)]
      exact ih (n + 1) (by omega) (by omega)
    · rw [if_neg hn]
theorem eqA6S (K : Nat) (l : List (Ar 6)) (h : l.length ≤ 1048576) (hK : 2000000 ≤ K) : laws_eqIntA6S.f K l l = some true := by
  unfold laws_eqIntA6S.f
  rw [if_pos rfl, show (0 : Int) = ((0 : Nat) : Int) from rfl, eqA6S_l0 K (by omega) l (by omega) K 0 (by omega) (by omega)]
  rfl
def wt (a : Ar 6) (x : Int) : Nat := a.l.count x
theorem wt_le (a : Ar 6) (x : Int) : wt a x ≤ 6 := by
  have := List.count_le_length (a := x) (l := a.l)
  rw [a.h] at this
  exact this
theorem ar_drop (a : Ar 6) (n : Nat) (h : n < 6) : a.l.drop n = a.get (n : Int) :: a.l.drop (n + 1) := by
  have hn : n < a.l.length := by rw [a.h]; exact h
  rw [List.drop_eq_getElem_cons hn]
  congr 1
  unfold Ar.get
  rw [show ((n : Int)).toNat = n by omega, List.getD_eq_getElem?_getD, List.getElem?_eq_getElem hn]
  rfl
theorem weight_l0 (K : Nat) (a : Ar 6) (x : Int) : ∀ (k n m : Nat), n ≤ 6 → 6 - n < k → m ≤ n → spec_l8Weight.l0 K a x k (m : Int) (n : Int) = some ((m + (a.l.drop n).count x : Nat) : Int) ∧ impl_weight.l0 K a x k (m : Int) (n : Int) = some ((m + (a.l.drop n).count x : Nat) : Int) := by
  intro k
  induction k with
  | zero => intro n m h1 h2; omega
  | succ k ih =>
    intro n m h1 h2 h3
    rw [spec_l8Weight.l0, impl_weight.l0]
    by_cases hn : (n : Int) < 6
    · have c2 : (0 : Int) ≤ (n : Int) ∧ (n : Int) < 6 := by omega
      have e1 : wrap64 ((n : Int) + 1) = ((n + 1 : Nat) : Int) := w1 n (by omega)
      have e2 : wrap64 ((m : Int) + 1) = ((m + 1 : Nat) : Int) := w1 m (by omega)
      have e3 : wrap64 ((m : Int) + 0) = (m : Int) := by rw [w64 (by omega) (by omega)]; omega
      simp only [if_pos hn, if_pos c2, e1, e2, impl_truth.f, decide_eq_true_eq]
      rw [ar_drop a n (by omega), List.count_cons]
      by_cases hx : a.get (n : Int) = x
      · simp only [if_pos hx, some_bind, e2]
        rw [(ih (n + 1) (m + 1) (by omega) (by omega) (by omega)).1, (ih (n + 1) (m + 1) (by omega) (by omega) (by omega)).2]
        simp [hx]
        omega
      · simp only [if_neg hx, some_bind, e3]
        rw [(ih (n + 1) m (by omega) (by omega) (by omega)).1, (ih (n + 1) m (by omega) (by omega) (by omega)).2]
        simp [hx]
    · rw [if_neg hn, if_neg hn]
      have : n = 6 := by omega
      subst this
      have : a.l.drop 6 = [] := List.drop_of_length_le (by rw [a.h]; omega)
      rw [this]
      exact ⟨rfl, rfl⟩
theorem weight_eq (K : Nat) (hK : 10 ≤ K) (a : Ar 6) (x : Int) : spec_l8Weight.f K a x = some (wt a x : Int) ∧ impl_weight.f K a x = some (wt a x : Int) := by
  have := weight_l0 K a x K 0 0 (by omega) (by omega) (by omega)
  simp only [Nat.zero_add, List.drop_zero] at this
  unfold spec_l8Weight.f impl_weight.f
  rw [show spec_l8Weight.l0 K a x K 0 0 = _ from this.1, show impl_weight.l0 K a x K 0 0 = _ from this.2]
  exact ⟨rfl, rfl⟩
theorem index_l0 (K : Nat) (l : List Int) (x : Int) (h : l.length ≤ 1073741824) : ∀ (k n : Nat), n ≤ l.length → l.length - n < k →
    (slices_Index_int_int.l0 K l x k (n : Int) = some (Sum.inl ()) ∧ x ∉ l.drop n) ∨ (∃ i : Int, 0 ≤ i ∧ slices_Index_int_int.l0 K l x k (n : Int) = some (Sum.inr i) ∧ x ∈ l.drop n) := by
  intro k
  induction k with
  | zero => intro n h1 h2; omega
  | succ k ih =>
    intro n h1 h2
    rw [slices_Index_int_int.l0]
    by_cases hn : (n : Int) < (l.length : Int)
    · have hn' : n < l.length := by omega
      have hnn : ((n : Int)).toNat = n := by omega
      have hd : l.drop n = l[n] :: l.drop (n + 1) := List.drop_eq_getElem_cons hn'
      have hg : l.getD n 0 = l[n] := by rw [List.getD_eq_getElem?_getD, List.getElem?_eq_getElem hn']; rfl
      rw [if_pos hn, if_pos (by omega), w1 n (by omega), hnn, hg, hd]
      by_cases e : x = l[n]
      · rw [if_pos e]
        exact .inr ⟨_, by omega, rfl, by rw [e]; exact List.mem_cons_self⟩
      · have e' : ¬ l[n] = x := fun h => e h.symm
        simp only [e, e', if_false, List.mem_cons, false_or]
        exact ih (n + 1) (by omega) (by omega)
    · rw [if_neg hn]
      have : n = l.length := by omega
      subst this
      exact .inl ⟨rfl, by simp⟩
theorem contains_eq (K : Nat) (hK : 2000000 ≤ K) (l : List Int) (x : Int) (h : l.length ≤ 1048576) : slices_Contains_int_int.f K l x = some (decide (x ∈ l)) := by
  unfold slices_Contains_int_int.f slices_Index_int_int.f
  rcases index_l0 K l x (by omega) K 0 (by omega) (by omega) with ⟨h1, h2⟩ | ⟨i, hi, h1, h2⟩
  · rw [show slices_Index_int_int.l0 K l x K 0 = _ from h1]
    simp only [some_bind, List.drop_zero] at h2 ⊢
    simp [h2]
  · rw [show slices_Index_int_int.l0 K l x K 0 = _ from h1]
    simp only [some_bind, List.drop_zero] at h2 ⊢
    simp [h2, hi]
theorem has_eq (K : Nat) (hK : 2000000 ≤ K) (a : Ar 6) (x : Int) : impl_has.f K a x = some (decide (0 < wt a x)) := by
  unfold impl_has.f
  rw [contains_eq K hK _ _ (by rw [a.h]; omega)]
  simp only [some_bind]
  congr 1
  rw [decide_eq_decide]
  exact List.count_pos_iff.symm
def tieB (a b : Ar 6) : Bool := a.l.any fun f => decide (0 < wt b f)
theorem tie_idx (K : Nat) (hK : 2000000 ≤ K) (l : List Int) (b : Ar 6) (h : l.length ≤ 100) : slices_ContainsFunc_int_int__isTieless_1.f K l b = some (l.any fun f => decide (0 < wt b f)) := by
  unfold slices_ContainsFunc_int_int__isTieless_1.f slices_IndexFunc_int_int__isTieless_1.f
  have hl := loop_find (fun k n => slices_IndexFunc_int_int__isTieless_1.l0 K l b k n) l.length (fun n => decide (0 < wt b (l.getD n 0))) (fun n => some (Sum.inr (n : Int))) (some (Sum.inl ())) (by
      intro k n hn
      rw [slices_IndexFunc_int_int__isTieless_1.l0, if_pos (by omega), if_pos (by omega), Int.toNat_natCast, impl_isTieless_1__c.f, has_eq K hK, w1' n (by omega)]
      simp only [some_bind]) (by
      intro k
      rw [slices_IndexFunc_int_int__isTieless_1.l0, if_neg (by omega)]) l.length 0 K (by omega) (by omega)
  rw [show slices_IndexFunc_int_int__isTieless_1.l0 K l b K 0 = _ from hl]
  have hany : (l.any fun f => decide (0 < wt b f)) = ((List.range' 0 l.length).find? (fun n => decide (0 < wt b (l.getD n 0)))).isSome := by
    rw [Bool.eq_iff_iff, List.any_eq_true, List.find?_isSome]
    constructor
    · rintro ⟨x, hx, hp⟩
      obtain ⟨i, hi, rfl⟩ := List.getElem_of_mem hx
      exact ⟨i, List.mem_range'_1.2 ⟨by omega, by omega⟩, by rw [getD_nat _ _ _ hi]; exact hp⟩
    · rintro ⟨i, hi, hp⟩
      have hi' := (List.mem_range'_1.1 hi).2
      rw [getD_nat _ _ _ (by omega)] at hp
      exact ⟨_, List.getElem_mem _, hp⟩
  rw [hany]
  cases hf : (List.range' 0 l.length).find? (fun n => decide (0 < wt b (l.getD n 0))) with
  | none => rfl
  | some i => simp [some_bind]
theorem tie_spec (K : Nat) (hK : 2000000 ≤ K) (p : List (Ar 6)) (i j : Nat) (hi : i < p.length) (hj : j < p.length) (h : p.length ≤ 4) : spec_l10Tieless.l9 K p (i : Int) (j : Int) K 0 = if tieB (p.getD i (Ar.zero 6)) (p.getD j (Ar.zero 6)) = true then some (Sum.inr false) else some (Sum.inl ()) := by
  have hl := loop_find (fun k n => spec_l10Tieless.l9 K p (i : Int) (j : Int) k n) 6 (fun n : Nat => decide (0 < wt (p.getD j (Ar.zero 6)) ((p.getD i (Ar.zero 6)).get (n : Int)))) (fun _ => some (Sum.inr false)) (some (Sum.inl ())) (by
      intro k n hn
      rw [spec_l10Tieless.l9, if_pos (by omega), if_pos (by omega), if_pos (by omega), if_pos (by omega), Int.toNat_natCast, Int.toNat_natCast, (weight_eq K (by omega) _ _).1, w1' n (by omega)]
      simp only [some_bind, decide_eq_true_eq]
      by_cases hc : 0 < wt (p.getD j (Ar.zero 6)) ((p.getD i (Ar.zero 6)).get (n : Int))
      · rw [if_pos (by omega), if_pos hc]
      · rw [if_neg (by omega), if_neg hc]) (by
      intro k
      rw [spec_l10Tieless.l9, if_neg (by omega)]) 6 0 K (by omega) (by omega)
  rw [show spec_l10Tieless.l9 K p (i : Int) (j : Int) K 0 = _ from hl]
  generalize p.getD j (Ar.zero 6) = b
  generalize p.getD i (Ar.zero 6) = a
  have hany : tieB a b = ((List.range' 0 6).find? (fun n : Nat => decide (0 < wt b (a.get (n : Int))))).isSome := by
    unfold tieB
    rw [Bool.eq_iff_iff, List.any_eq_true, List.find?_isSome]
    constructor
    · rintro ⟨x, hx, hp⟩
      obtain ⟨i, hi, rfl⟩ := List.getElem_of_mem hx
      rw [a.h] at hi
      exact ⟨i, List.mem_range'_1.2 ⟨by omega, by omega⟩, by unfold Ar.get; rw [Int.toNat_natCast, getD_nat _ _ _ (by rw [a.h]; omega)]; exact hp⟩
    · rintro ⟨i, hi, hp⟩
      have hi' := (List.mem_range'_1.1 hi).2
      unfold Ar.get at hp
      rw [Int.toNat_natCast, getD_nat _ _ _ (by rw [a.h]; omega)] at hp
      exact ⟨_, List.getElem_mem _, hp⟩
  rw [hany]
  cases hf : (List.range' 0 6).find? (fun n : Nat => decide (0 < wt b (a.get (n : Int)))) with
  | none => rfl
  | some i => rfl
theorem tie_same (K : Nat) (hK : 2000000 ≤ K) (p : List (Ar 6)) (h : p.length ≤ 4) : ∃ b, spec_l10Tieless.f K p = some b ∧ impl_isTieless.f K p = some b := by
  have inner : ∀ i : Nat, i < p.length → ∃ b, spec_l10Tieless.l8 K p (i : Int) K 0 = some b ∧ impl_isTieless.l3 K p (i : Int) K 0 = some b ∧ (b = Sum.inl () ∨ b = Sum.inr false) := by
    intro i hi
    have h1 := loop_find (fun k n => spec_l10Tieless.l8 K p (i : Int) k n) i (fun n => tieB (p.getD i (Ar.zero 6)) (p.getD n (Ar.zero 6))) (fun _ => some (Sum.inr false)) (some (Sum.inl ())) (by
      intro k n hn
      rw [spec_l10Tieless.l8, if_pos (by omega), tie_spec K hK p i n hi (by omega) h, w1' n (by omega)]
      by_cases hc : tieB (p.getD i (Ar.zero 6)) (p.getD n (Ar.zero 6)) = true
      · rw [if_pos hc, if_pos hc]; rfl
      · rw [if_neg hc, if_neg hc]; rfl) (by
      intro k
      rw [spec_l10Tieless.l8, if_neg (by omega)]) i 0 K (by omega) (by omega)
    have hlen : ((p.take (i : Int).toNat).drop 0).length = i := by simp; omega
    have h2 := loop_find (fun k n => impl_isTieless.l3 K p (i : Int) k n) i (fun n => tieB (p.getD i (Ar.zero 6)) (p.getD n (Ar.zero 6))) (fun _ => some (Sum.inr false)) (some (Sum.inl ())) (by
      intro k n hn
      have hg : ((p.take i).drop 0).getD n (Ar.zero 6) = p.getD n (Ar.zero 6) := by
        rw [List.drop_zero, List.getD_eq_getElem?_getD, List.getElem?_take, if_pos hn, List.getD_eq_getElem?_getD]
      rw [impl_isTieless.l3, hlen, if_pos (by omega), if_pos (by omega), Int.toNat_natCast, Int.toNat_natCast, hg, tie_idx K hK _ _ (by rw [Ar.h]; omega), w1' n (by omega), some_bind]
      rfl) (by
      intro k
      rw [impl_isTieless.l3, hlen, if_neg (by omega)]) i 0 K (by omega) (by omega)
    refine ⟨match (List.range' 0 i).find? (fun n => tieB (p.getD i (Ar.zero 6)) (p.getD n (Ar.zero 6))) with | some _ => Sum.inr false | none => Sum.inl (), ?_, ?_, ?_⟩
    · rw [show spec_l10Tieless.l8 K p (i : Int) K 0 = _ from h1]
      cases (List.range' 0 i).find? (fun n => tieB (p.getD i (Ar.zero 6)) (p.getD n (Ar.zero 6))) <;> rfl
    · rw [show impl_isTieless.l3 K p (i : Int) K 0 = _ from h2]
      cases (List.range' 0 i).find? (fun n => tieB (p.getD i (Ar.zero 6)) (p.getD n (Ar.zero 6))) <;> rfl
    · cases (List.range' 0 i).find? (fun n => tieB (p.getD i (Ar.zero 6)) (p.getD n (Ar.zero 6)))
      · exact .inl rfl
      · exact .inr rfl
  have outer : ∀ (k n : Nat), n ≤ p.length → p.length - n < k → ∃ b, spec_l10Tieless.l5 K p k (n : Int) = some b ∧ impl_isTieless.l2 K p k (n : Int) = some b := by
    intro k
    induction k with
    | zero => intro n h1 h2; omega
    | succ k ih =>
      intro n h1 h2
      rw [spec_l10Tieless.l5, impl_isTieless.l2]
      by_cases hn : n < p.length
      · obtain ⟨b, b1, b2, b3⟩ := inner n hn
        rw [if_pos (by omega), if_pos (by omega), if_pos (by omega), if_pos (by omega), b1, b2, some_bind, some_bind, w1' n (by omega)]
        rcases b3 with rfl | rfl
        · exact ih (n + 1) (by omega) (by omega)
        · exact ⟨_, rfl, rfl⟩
      · rw [if_neg (by omega), if_neg (by omega)]
        exact ⟨_, rfl, rfl⟩
  obtain ⟨b, b1, b2⟩ := outer K 0 (by omega) (by omega)
  unfold spec_l10Tieless.f impl_isTieless.f
  rw [show spec_l10Tieless.l5 K p K 0 = _ from b1, show impl_isTieless.l2 K p K 0 = _ from b2, some_bind]
  rcases b with b | b <;> exact ⟨_, rfl, rfl⟩
theorem eqS_l0 (K : Nat) (l : List Int) (h : l.length ≤ 1073741824) : ∀ (k n : Nat), n ≤ l.length → l.length - n < k → laws_eqIntS.l0 K l l k (n : Int) = some (Sum.inl ()) := by
  intro k
  induction k with
  | zero => intro n h1 h2; omega
  | succ k ih =>
    intro n h1 h2
    rw [laws_eqIntS.l0]
    by_cases hn : (n : Int) < (l.length : Int)
    · rw [if_pos hn, if_pos (by omega), if_pos (by omega), if_pos rfl, w1 n (by omega)]
      exact ih (n + 1) (by omega) (by omega)
    · rw [if_neg hn]
theorem eqS (K : Nat) (l : List Int) (h : l.length ≤ 1048576) (hK : 2000000 ≤ K) : laws_eqIntS.f K l l = some true := by
  unfold laws_eqIntS.f
  rw [if_pos rfl, show (0 : Int) = ((0 : Nat) : Int) from rfl, eqS_l0 K l (by omega) K 0 (by omega) (by omega)]
  rfl
def marksS (a : Int) : Nat → List Int
  | 0 => []
  | n + 1 => a :: marksS (a + 1) n
theorem marksS_length : ∀ (n : Nat) (a : Int), (marksS a n).length = n
  | 0, _ => rfl
  | n + 1, a => by simp [marksS, marksS_length n]
theorem marksS_get : ∀ (n : Nat) (a : Int) (i : Nat), i < n → (marksS a n)[i]? = some (a + i)
  | 0, _, i, h => by omega
  | n + 1, a, 0, _ => by simp [marksS]
  | n + 1, a, i + 1, h => by
    simp only [marksS, List.getElem?_cons_succ]
    rw [marksS_get n (a + 1) i (by omega)]
    congr 1
    omega
theorem markS_l0 (K : Nat) (l : List Int) (N : Nat) (a : Int) (h0 : 0 ≤ a) (h : N ≤ 1073741824) (ha : a ≤ 1073741824) : ∀ (k n : Nat) (out : List Int), out.length = N → out.take n = (marksS a N).take n → n ≤ N → N - n < k → laws_markIntS.l0 K l k (a + n) (n : Int) out = some (a + N, marksS a N) := by
  intro k
  induction k with
  | zero => intro n out h1 h2 h3 h4; omega
  | succ k ih =>
    intro n out h1 h2 h3 h4
    rw [laws_markIntS.l0]
    by_cases hn : (n : Int) < (out.length : Int)
    · have hn' : n < N := by omega
      rw [if_pos hn, if_pos (by omega), w1 n (by omega)]
      rw [show wrap64 (a + (n : Int) + 1) = a + ((n + 1 : Nat) : Int) by rw [w64 (by omega) (by omega)]; omega]
      refine ih (n + 1) _ (by simp [h1]) ?_ (by omega) (by omega)
      have hnn : ((n : Int)).toNat = n := by omega
      rw [hnn, List.take_add_one, List.take_add_one, List.take_set_of_le (Nat.le_refl n), h2]
      rw [List.getElem?_set_self (by omega), marksS_get N a n hn']
    · rw [if_neg hn]
      have : n = N := by omega
      subst this
      have h5 : out = marksS a n := by
        have e1 : out.take n = out := by rw [← h1]; exact List.take_length
        have e2 : (marksS a n).take n = marksS a n := by
          conv => lhs; rw [← marksS_length n a]
          rw [marksS_length]; exact List.take_of_length_le (by rw [marksS_length]; omega)
        rw [e1, e2] at h2
        exact h2
      rw [h5]
theorem heldS_l0 (K : Nat) (N : Nat) (a : Int) (h0 : 0 ≤ a) (h : N ≤ 1073741824) (ha : a ≤ 1073741824) : ∀ (k n : Nat), n ≤ N → N - n < k → laws_heldIntS.l0 K (marksS a N) k (a + n) (n : Int) = some (Sum.inl (a + N)) := by
  intro k
  induction k with
  | zero => intro n h3 h4; omega
  | succ k ih =>
    intro n h3 h4
    rw [laws_heldIntS.l0, marksS_length]
    by_cases hn : (n : Int) < (N : Int)
    · have hn' : n < N := by omega
      have hnn : ((n : Int)).toNat = n := by omega
      rw [if_pos hn, if_pos (by omega), w1 n (by omega), hnn, List.getD_eq_getElem?_getD, marksS_get N a n hn', Option.getD_some, if_pos rfl]
      rw [show wrap64 (a + (n : Int) + 1) = a + ((n + 1 : Nat) : Int) by rw [w64 (by omega) (by omega)]; omega]
      exact ih (n + 1) (by omega) (by omega)
    · rw [if_neg hn]
      have : n = N := by omega
      subst this
      rfl
theorem markS (K : Nat) (l : List Int) (a : Int) (h0 : 0 ≤ a) (ha : a ≤ 1073741824) (h : l.length ≤ 100000000) (hK : 200000000 ≤ K) : laws_markIntS.f K l a = some (a + l.length, marksS a l.length) := by
  unfold laws_markIntS.f
  have := markS_l0 K l l.length a h0 (by omega) ha K 0 l rfl (by simp) (by omega) (by omega)
  simp only [Int.natCast_zero, Int.add_zero] at this
  rw [this]; rfl
theorem heldS (K : Nat) (N : Nat) (a : Int) (h0 : 0 ≤ a) (ha : a ≤ 1073741824) (h : N ≤ 100000000) (hK : 200000000 ≤ K) : laws_heldIntS.f K (marksS a N) a = some (a + N) := by
  unfold laws_heldIntS.f
  have := heldS_l0 K N a h0 (by omega) ha K 0 (by omega) (by omega)
  simp only [Int.natCast_zero, Int.add_zero] at this
  rw [this]; rfl
theorem ar_get_set {n : Nat} (a : Ar n) (i j v : Int) (h0 : 0 ≤ i) (h1 : i < n) (h2 : 0 ≤ j) : (a.set i v).get j = if j = i then v else a.get j := by
  unfold Ar.get Ar.set
  simp only [List.getD_eq_getElem?_getD]
  by_cases h : j = i
  · subst h
    rw [if_pos rfl, List.getElem?_set_self (by rw [a.h]; omega)]
    rfl
  · rw [if_neg h, List.getElem?_set_ne (by omega)]
theorem getD_set6 (l : List (Ar 6)) (d j : Nat) (x : Ar 6) (h : d < l.length) : (l.set d x).getD j (Ar.zero 6) = if j = d then x else l.getD j (Ar.zero 6) := by
  rw [List.getD_eq_getElem?_getD, List.getD_eq_getElem?_getD]
  by_cases hj : j = d
  · subst hj
    rw [if_pos rfl, List.getElem?_set_self h]; rfl
  · rw [if_neg hj, List.getElem?_set_ne (fun e => hj e.symm)]
def MkA6 (a : Int) (d : Nat) (l : List (Ar 6)) : Prop := ∀ j i : Nat, j < d → i < 6 → (l.getD j (Ar.zero 6)).get (i : Int) = a + 6 * j + i
theorem markA6x_l3 (K : Nat) (a : Int) (h0 : 0 ≤ a) (ha : a ≤ 1000000) (d : Nat) (hd : d ≤ 1048576) : ∀ (k n : Nat) (out : List (Ar 6)), n ≤ 6 → 6 - n < k → d < out.length → MkA6 a d out → (∀ i : Nat, i < n → (out.getD d (Ar.zero 6)).get (i : Int) = a + 6 * d + i) → ∃ out', laws_markIntA6S.l3 K (d : Int) k (a + 6 * d + n) (n : Int) out = some (a + 6 * (d + 1 : Nat), out') ∧ out'.length = out.length ∧ MkA6 a (d + 1) out' := by
  intro k
  induction k with
  | zero => intro n out h1 h2; omega
  | succ k ih =>
    intro n out h1 h2 h3 h4 h5
    rw [laws_markIntA6S.l3]
    by_cases hn : (n : Int) < 6
    · have c1 : (0 : Int) ≤ (d : Int) ∧ (d : Int) < (out.length : Int) := by omega
      have c2 : (0 : Int) ≤ (n : Int) ∧ (n : Int) < 6 := by omega
      have f1 : n + 1 ≤ 6 := by omega
      have f2 : 6 - (n + 1) < k := by omega
      have f3 : n ≤ 4000000000000000000 := by omega
      have e1 : wrap64 (a + 6 * (d : Int) + (n : Int) + 1) = a + 6 * (d : Int) + ((n + 1 : Nat) : Int) := by rw [w64 (by omega) (by omega)]; omega
      rw [if_pos hn, if_pos c1, if_pos c2, e1, w1 n f3, show ((d : Int)).toNat = d from rfl]
      obtain ⟨o, i1, i2, i3⟩ := ih (n + 1) (out.set d ((out.getD d (Ar.zero 6)).set (n : Int) (a + 6 * (d : Int) + (n : Int)))) f1 f2 (by rw [List.length_set]; exact h3) (by
        intro j i hj hi
        rw [getD_set6 _ _ _ _ h3, if_neg (by omega)]
        exact h4 j i hj hi) (by
        intro i hi
        rw [getD_set6 _ _ _ _ h3, if_pos rfl, ar_get_set _ _ _ _ c2.1 c2.2 (by omega)]
        by_cases hin : i = n
        · rw [hin, if_pos rfl]
        · rw [if_neg (by omega)]
          exact h5 i (by omega))
      exact ⟨o, i1, by rw [i2, List.length_set], i3⟩
    · have hnc : n = 6 := by omega
      subst hnc
      rw [if_neg hn]
      refine ⟨out, ?_, rfl, ?_⟩
      · congr 2
        omega
      · intro j i hj hi
        by_cases hjd : j = d
        · subst hjd; exact h5 i hi
        · exact h4 j i (by omega) hi
theorem markA6x_l2 (K : Nat) (hK : 10 ≤ K) (a : Int) (h0 : 0 ≤ a) (ha : a ≤ 1000000) (N : Nat) (hN : N ≤ 1048576) : ∀ (k d : Nat) (out : List (Ar 6)), d ≤ N → N - d < k → out.length = N → MkA6 a d out → ∃ out', laws_markIntA6S.l2 K k (a + 6 * d) (d : Int) out = some (a + 6 * N, out') ∧ out'.length = N ∧ MkA6 a N out' := by
  intro k
  induction k with
  | zero => intro d out h1 h2; omega
  | succ k ih =>
    intro d out h1 h2 h3 h4
    rw [laws_markIntA6S.l2]
    by_cases hn : (d : Int) < (out.length : Int)
    · have f1 : d + 1 ≤ N := by omega
      have f2 : N - (d + 1) < k := by omega
      have f3 : d ≤ 4000000000000000000 := by omega
      obtain ⟨o, i1, i2, i3⟩ := markA6x_l3 K a h0 ha d (by omega) K 0 out (by omega) (by omega) (by omega) h4 (fun i hi => by omega)
      have i1' : laws_markIntA6S.l3 K (d : Int) K (a + 6 * (d : Int)) 0 out = some (a + 6 * ((d + 1 : Nat) : Int), o) := by
        rw [show ((0 : Nat) : Int) = 0 from rfl, Int.add_zero] at i1; exact i1
      rw [if_pos hn, i1', some_bind, w1 d f3]
      exact ih (d + 1) o f1 f2 (by omega) i3
    · have : d = N := by omega
      subst this
      rw [if_neg hn]
      exact ⟨out, rfl, h3, h4⟩
theorem heldA6x_l3 (K : Nat) (a : Int) (h0 : 0 ≤ a) (ha : a ≤ 1000000) (d : Nat) (hd : d ≤ 1048576) (l : List (Ar 6)) (hl : d < l.length) (hm : MkA6 a l.length l) : ∀ (k n : Nat), n ≤ 6 → 6 - n < k → laws_heldIntA6S.l3 K l (d : Int) k (a + 6 * d + n) (n : Int) = some (Sum.inl (a + 6 * (d + 1 : Nat))) := by
  intro k
  induction k with
  | zero => intro n h1 h2; omega
  | succ k ih =>
    intro n h1 h2
    rw [laws_heldIntA6S.l3]
    by_cases hn : (n : Int) < 6
    · have c1 : (0 : Int) ≤ (d : Int) ∧ (d : Int) < (l.length : Int) := by omega
      have c2 : (0 : Int) ≤ (n : Int) ∧ (n : Int) < 6 := by omega
      have f1 : n + 1 ≤ 6 := by omega
      have f2 : 6 - (n + 1) < k := by omega
      have f3 : n ≤ 4000000000000000000 := by omega
      have e1 : wrap64 (a + 6 * (d : Int) + (n : Int) + 1) = a + 6 * (d : Int) + ((n + 1 : Nat) : Int) := by rw [w64 (by omega) (by omega)]; omega
      rw [if_pos hn, if_pos c1, if_pos c2, e1, w1 n f3, show ((d : Int)).toNat = d from rfl, if_pos (hm d n hl (by omega))]
      exact ih (n + 1) f1 f2
    · have hnc : n = 6 := by omega
      subst hnc
      rw [if_neg hn]
      congr 2
      omega
theorem heldA6x_l2 (K : Nat) (hK : 10 ≤ K) (a : Int) (h0 : 0 ≤ a) (ha : a ≤ 1000000) (l : List (Ar 6)) (hN : l.length ≤ 1048576) (hm : MkA6 a l.length l) : ∀ (k d : Nat), d ≤ l.length → l.length - d < k → laws_heldIntA6S.l2 K l k (a + 6 * d) (d : Int) = some (Sum.inl (a + 6 * l.length)) := by
  intro k
  induction k with
  | zero => intro d h1 h2; omega
  | succ k ih =>
    intro d h1 h2
    rw [laws_heldIntA6S.l2]
    by_cases hn : (d : Int) < (l.length : Int)
    · have f1 : d + 1 ≤ l.length := by omega
      have f2 : l.length - (d + 1) < k := by omega
      have f3 : d ≤ 4000000000000000000 := by omega
      have i1 := heldA6x_l3 K a h0 ha d (by omega) l (by omega) hm K 0 (by omega) (by omega)
      rw [show ((0 : Nat) : Int) = 0 from rfl, Int.add_zero] at i1
      rw [if_pos hn, i1, some_bind, w1 d f3]
      exact ih (d + 1) f1 f2
    · have : d = l.length := by omega
      rw [if_neg hn, this]
theorem marksA6x (K : Nat) (hK : 2000000 ≤ K) (l : List (Ar 6)) (h : l.length ≤ 1048576) : ∃ m o, laws_markIntA6S.f K l 1 = some (m, o) ∧ laws_heldIntA6S.f K o 1 = some m ∧ 0 ≤ m := by
  obtain ⟨o, h1, h2, h3⟩ := markA6x_l2 K (by omega) 1 (by omega) (by omega) l.length h K 0 l (by omega) (by omega) rfl (fun j i hj => by omega)
  have h4 := heldA6x_l2 K (by omega) 1 (by omega) (by omega) o (by omega) (by rw [h2]; exact h3) K 0 (by omega) (by omega)
  rw [show ((0 : Nat) : Int) = 0 from rfl, Int.mul_zero, Int.add_zero] at h1 h4
  rw [h2] at h4
  refine ⟨1 + 6 * (l.length : Int), o, ?_, ?_, by omega⟩
  · unfold laws_markIntA6S.f
    rw [h1]; rfl
  · unfold laws_heldIntA6S.f
    rw [h4]; rfl
theorem rep_eq (x : Int) (w : Nat) (hw : w ≤ 6) : slices_Repeat_int_int.f 200000000 [x] (w : Int) = some (List.replicate w x) := by
  rcases (show w = 0 ∨ w = 1 ∨ w = 2 ∨ w = 3 ∨ w = 4 ∨ w = 5 ∨ w = 6 by omega) with rfl | rfl | rfl | rfl | rfl | rfl | rfl <;> kernel_rfl
theorem letters_l12 (p : List (Ar 6)) (face : Int) (j : Nat) (hj : j < p.length) (hp : p.length ≤ 4) : ∀ (k t : Nat) (s : List Int), t ≤ wt (p.getD j (Ar.zero 6)) face → wt (p.getD j (Ar.zero 6)) face - t < k → s.length ≤ 2000 + t → spec_LettersOf.l12 200000000 p face (j : Int) k (t : Int) s = some (s ++ List.replicate (wt (p.getD j (Ar.zero 6)) face - t) (j : Int)) := by
  have hw := wt_le (p.getD j (Ar.zero 6)) face
  intro k
  induction k with
  | zero => intro t s h1 h2; omega
  | succ k ih =>
    intro t s h1 h2 h3
    rw [spec_LettersOf.l12, if_pos (by omega), Int.toNat_natCast, (weight_eq 200000000 (by omega) _ _).1, some_bind]
    by_cases ht : t < wt (p.getD j (Ar.zero 6)) face
    · rw [if_pos (by omega), if_pos (by simp; omega), w1' t (by omega), ih (t + 1) _ (by omega) (by omega) (by simp; omega)]
      congr 1
      rw [show wt (p.getD j (Ar.zero 6)) face - t = (wt (p.getD j (Ar.zero 6)) face - (t + 1)) + 1 by omega, List.replicate_succ, List.append_assoc]
      rfl
    · rw [if_neg (by omega), show wt (p.getD j (Ar.zero 6)) face - t = 0 by omega]
      simp
def lettersF (p : List (Ar 6)) (face : Int) (s : List Int) : List Int := (List.range p.length).foldl (fun s j => s ++ List.replicate (wt (p.getD j (Ar.zero 6)) face) (j : Int)) s
theorem letters_face (p : List (Ar 6)) (hp : p.length ≤ 4) (face : Nat) (hf : face ≤ 30) (s : List Int) (hs : s.length ≤ 24 * face) : spec_LettersOf.l11 200000000 p (face : Int) 200000000 0 s = some (lettersF p face s) ∧ impl_LettersOf.l4 200000000 p (face : Int) 200000000 0 s = some (lettersF p face s) ∧ (lettersF p face s).length ≤ 24 * (face + 1) := by
  have a1 := loop_fold0 (fun k n s => spec_LettersOf.l11 200000000 p (face : Int) k n s) p.length (fun n s => s.length ≤ 24 * face + 6 * n) (fun j s => s ++ List.replicate (wt (p.getD j (Ar.zero 6)) face) (j : Int)) some (by
    intro k n s hn hs
    have hw := wt_le (p.getD n (Ar.zero 6)) face
    have h := letters_l12 p face n hn hp 200000000 0 s (by omega) (by omega) (by omega)
    refine ⟨?_, by rw [List.length_append, List.length_replicate]; omega⟩
    rw [spec_LettersOf.l11, if_pos (by omega), show spec_LettersOf.l12 200000000 p (face : Int) (n : Int) 200000000 0 s = _ from h, some_bind, w1' n (by omega)]
    rfl) (by
    intro k s _
    rw [spec_LettersOf.l11, if_neg (by omega)]) 200000000 s (by omega) (by omega)
  have a2 := loop_fold0 (fun k n s => impl_LettersOf.l4 200000000 p (face : Int) k n s) p.length (fun n s => s.length ≤ 24 * face + 6 * n) (fun j s => s ++ List.replicate (wt (p.getD j (Ar.zero 6)) face) (j : Int)) some (by
    intro k n s hn hs
    have hw := wt_le (p.getD n (Ar.zero 6)) face
    refine ⟨?_, by rw [List.length_append, List.length_replicate]; omega⟩
    rw [impl_LettersOf.l4, if_pos (by omega), if_pos (by omega), Int.toNat_natCast, (weight_eq 200000000 (by omega) _ _).2, some_bind, rep_eq _ _ hw, some_bind, if_pos (by rw [List.length_replicate]; omega), w1' n (by omega)]) (by
    intro k s _
    rw [impl_LettersOf.l4, if_neg (by omega)]) 200000000 s (by omega) (by omega)
  exact ⟨a1.1, a2.1, by have := a1.2; unfold lettersF; omega⟩
theorem letters_all (p : List (Ar 6)) (hp : p.length ≤ 4) : ∃ o, spec_LettersOf.l8 200000000 p 200000000 0 [] = some o ∧ impl_LettersOf.l3 200000000 p 200000000 0 [] = some o ∧ o.length ≤ 744 := by
  have a1 := loop_fold0 (fun k n s => spec_LettersOf.l8 200000000 p k n s) 31 (fun n s => s.length ≤ 24 * n) (fun f s => lettersF p f s) some (by
    intro k n s hn hs
    obtain ⟨h1, _, h3⟩ := letters_face p hp n (by omega) s hs
    refine ⟨?_, h3⟩
    rw [spec_LettersOf.l8, if_pos (by omega), h1, some_bind, w1' n (by omega)]) (by
    intro k s _
    rw [spec_LettersOf.l8, if_neg (by omega)]) 200000000 [] (by omega) (by simp)
  have a2 := loop_fold0 (fun k n s => impl_LettersOf.l3 200000000 p k n s) 31 (fun n s => s.length ≤ 24 * n) (fun f s => lettersF p f s) some (by
    intro k n s hn hs
    obtain ⟨_, h2, h3⟩ := letters_face p hp n (by omega) s hs
    refine ⟨?_, h3⟩
    rw [impl_LettersOf.l3, if_pos (by omega), h2, some_bind, w1' n (by omega)]) (by
    intro k s _
    rw [impl_LettersOf.l3, if_neg (by omega)]) 200000000 [] (by omega) (by simp)
  exact ⟨_, a1.1, a2.1, a1.2⟩
theorem LettersOf_same (l : List (Ar 6)) (h : l.length ≤ 1048576) : ∃ o b, spec_LettersOf.f 200000000 l = some (o, b) ∧ impl_LettersOf.f 200000000 l = some (o, b) ∧ o.length ≤ 1000 := by
  unfold spec_LettersOf.f impl_LettersOf.f
  rw [pool_spec 200000000 (by omega) l h, pool_impl 200000000 (by omega) l h, some_bind, some_bind]
  cases hp : poolB l with
  | false => exact ⟨_, _, rfl, rfl, by simp⟩
  | true =>
    obtain ⟨⟨g1, g2⟩, g3⟩ := pool_good l hp
    obtain ⟨b, b1, b2⟩ := tie_same 200000000 (by omega) l g2
    rw [if_pos rfl, if_pos rfl, b1, b2, some_bind, some_bind]
    cases b with
    | false => exact ⟨_, _, rfl, rfl, by simp⟩
    | true =>
      obtain ⟨o, o1, o2, o3⟩ := letters_all l g2
      rw [if_pos rfl, if_pos rfl, o1, o2]
      exact ⟨_, _, rfl, rfl, by omega⟩
theorem LettersOf_pure (l0 : List (Ar 6)) (m : l0.length ≤ maxLen) (_w : ∀ z ∈ l0, ∀ y ∈ z.l, (Lit.int .i64 y).wf = true) : ∃ K, laws_FnExactLettersOf.f K l0 = some true := by
  refine ⟨200000000, ?_⟩
  unfold laws_FnExactLettersOf.f
  rcases sizeA6S 200000000 l0 m with ⟨h, _⟩ | ⟨z, hz, h, h'⟩
  · rw [h]; rfl
  · rw [h]
    obtain ⟨r, b, h1, h2, h3⟩ := LettersOf_same l0 h'
    have t1 := toA6S 200000000 l0 h' (by omega)
    have q1 := eqA6S 200000000 l0 h' (by omega)
    have q2 := eqS 200000000 r (by omega) (by omega)
    have m2 := markS 200000000 r 1 (by omega) (by omega) (by omega) (by omega)
    have m3 := heldS 200000000 r.length 1 (by omega) (by omega) (by omega) (by omega)
    have i2 : ¬ (1 : Int) + r.length < 0 := by omega
    obtain ⟨m, s, m4, m5, m6⟩ := marksA6x 200000000 (by omega) l0 (by omega)
    have i1 : ¬ m < 0 := by omega
    simp only [t1, h1, h2, q1, q2, m2, m3, m4, i1, i2, some_bind, if_true, beq_self_eq_true, show ¬ z < 0 by omega, if_false]
end Go.Proofs.Ytfiabgkolhpbkaa.WLettersOf

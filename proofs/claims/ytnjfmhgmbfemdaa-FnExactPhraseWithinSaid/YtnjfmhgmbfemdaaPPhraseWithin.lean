/- The plain law: what the walk shows to be computed answers true. Conditions: the numbers are 64-bit. -/
import Derived.Test.YtnjfmhgmbfemdaaWPhraseWithin
import Derived.KernelRfl
namespace Go.Proofs.Ytnjfmhgmbfemdaa.WPhraseWithin
open Go.K Go.RowKit
set_option linter.unusedVariables false
set_option linter.unusedSimpArgs false

theorem in_eq (K : Nat) (a lo hi : Int) : impl_within.f K a lo hi = some (decide (lo ≤ a ∧ a ≤ hi)) := by
  unfold impl_within.f
  by_cases h : lo ≤ a <;> simp [h]
theorem in_within : spec_l1In.f = impl_within.f := by kernel_rfl
theorem powN (n : Nat) : ((6 ^ n : Nat) : Int) = (6 : Int) ^ n := by simp
def faceB (a : Int) : Bool := decide (0 ≤ a ∧ a ≤ 30)
theorem isFace_eq (K : Nat) (_hK : 2000000 ≤ K) (a : Int) : impl_isFace.f K a = some (faceB a) := by
  unfold impl_isFace.f
  rw [in_eq]; rfl
theorem w1 (n : Nat) (h : n ≤ 4000000000000000000) : wrap64 ((n : Int) + 1) = ((n + 1 : Nat) : Int) := by rw [w64 (by omega) (by omega)]; omega
theorem toS_l0 (K : Nat) (l : List Int) (h : l.length ≤ 1073741824) : ∀ (k n : Nat) (out : List Int), out.length = l.length → out.take n = l.take n → n ≤ l.length → l.length - n < k → laws_toIntS.l0 K l k (n : Int) out = some l := by
  intro k
  induction k with
  | zero => intro n out h1 h2 h3 h4; omega
  | succ k ih =>
    intro n out h1 h2 h3 h4
    rw [laws_toIntS.l0]
    by_cases hn : (n : Int) < (l.length : Int)
    · have hn' : n < l.length := by omega
      rw [if_pos hn, if_pos (by omega), if_pos (by omega), w1 n (by omega)]
      refine ih (n + 1) _ (by simp [h1]) ?_ (by omega) (by omega)
      have hnn : ((n : Int)).toNat = n := by omega
      rw [hnn, List.take_add_one, List.take_add_one, List.take_set_of_le (Nat.le_refl n), h2]
      rw [List.getElem?_set_self (by omega)]
      congr 1
      rw [List.getD_eq_getElem?_getD, List.getElem?_eq_getElem hn']
      rfl
    · rw [if_neg hn]
      have : n = l.length := by omega
      subst this
      rw [← h1, List.take_length, h1, List.take_length] at h2
      rw [h2]
theorem toS (K : Nat) (l : List Int) (h : l.length ≤ 1048576) (hK : 2000000 ≤ K) : laws_toIntS.f K l = some l := by
  unfold laws_toIntS.f
  rw [if_pos (by omega), show (0 : Int) = ((0 : Nat) : Int) from rfl, toS_l0 K l (by omega) K 0 _ (by simp) (by simp) (by omega) (by omega)]
  rfl
theorem allFace_l0 (K : Nat) (hK : 2000000 ≤ K) (l : List Int) (h : l.length ≤ 1073741824) : ∀ (k n : Nat), n ≤ l.length → l.length - n < k →
    (slices_IndexFunc_int_int__areAll_int_1_isFace.l0 K l k (n : Int) = some (Sum.inl ()) ∧ (l.drop n).all faceB = true) ∨ (∃ i : Int, 0 ≤ i ∧ slices_IndexFunc_int_int__areAll_int_1_isFace.l0 K l k (n : Int) = some (Sum.inr i) ∧ (l.drop n).all faceB = false) := by
  intro k
  induction k with
  | zero => intro n h1 h2; omega
  | succ k ih =>
    intro n h1 h2
    rw [slices_IndexFunc_int_int__areAll_int_1_isFace.l0]
    by_cases hn : (n : Int) < (l.length : Int)
    · have hn' : n < l.length := by omega
      have hnn : ((n : Int)).toNat = n := by omega
      have hd : l.drop n = l[n] :: l.drop (n + 1) := List.drop_eq_getElem_cons hn'
      have hg : l.getD n (0 : Int) = l[n] := by rw [List.getD_eq_getElem?_getD, List.getElem?_eq_getElem hn']; rfl
      rw [if_pos hn, if_pos (by omega), w1 n (by omega), hnn, hg, impl_areAll_int_1__isFace.f, isFace_eq K hK, hd]
      simp only [some_bind, List.all_cons]
      rcases Bool.eq_false_or_eq_true (faceB l[n]) with e | e
      · rw [e]
        simp only [Bool.not_true, Bool.false_eq_true, if_false, Bool.true_and]
        exact ih (n + 1) (by omega) (by omega)
      · rw [e]
        simp only [Bool.not_false, if_true, Bool.false_and]
        exact .inr ⟨_, by omega, rfl, trivial⟩
    · rw [if_neg hn]
      have : n = l.length := by omega
      subst this
      exact .inl ⟨rfl, by simp⟩
theorem allFace_eq (K : Nat) (hK : 2000000 ≤ K) (l : List Int) (h : l.length ≤ 1048576) : impl_areAll_int__isFace.f K l = some (l.all faceB) := by
  unfold impl_areAll_int__isFace.f slices_ContainsFunc_int_int__areAll_int_1_isFace.f slices_IndexFunc_int_int__areAll_int_1_isFace.f
  rcases allFace_l0 K hK l (by omega) K 0 (by omega) (by omega) with ⟨h1, h2⟩ | ⟨i, hi, h1, h2⟩
  · rw [show (0 : Int) = ((0 : Nat) : Int) from rfl, h1]
    simp only [some_bind, List.drop_zero] at h2 ⊢
    rw [h2]; rfl
  · rw [show (0 : Int) = ((0 : Nat) : Int) from rfl, h1]
    simp only [some_bind, List.drop_zero] at h2 ⊢
    rw [h2]
    have : decide (((0 : Nat) : Int) ≤ i) = true := decide_eq_true (by simpa using hi)
    rw [this]; rfl
def dieP (a : Ar 6) : Prop := ((0 ≤ a.get 0 ∧ a.get 0 ≤ 30) ∧ (0 ≤ a.get 1 ∧ a.get 1 ≤ 30) ∧ (0 ≤ a.get 2 ∧ a.get 2 ≤ 30) ∧ (0 ≤ a.get 3 ∧ a.get 3 ≤ 30) ∧ (0 ≤ a.get 4 ∧ a.get 4 ≤ 30) ∧ (0 ≤ a.get 5 ∧ a.get 5 ≤ 30)) ∧ (a.get 0 ≤ a.get 1 ∧ a.get 1 ≤ a.get 2 ∧ a.get 2 ≤ a.get 3 ∧ a.get 3 ≤ a.get 4 ∧ a.get 4 ≤ a.get 5)
instance (a : Ar 6) : Decidable (dieP a) := by unfold dieP; infer_instance
def dieB (a : Ar 6) : Bool := decide (dieP a)
theorem die_get (x y z u v w : Int) : (Ar.get (⟨[x, y, z, u, v, w], rfl⟩ : Ar 6) 0 = x ∧ Ar.get (⟨[x, y, z, u, v, w], rfl⟩ : Ar 6) 1 = y ∧ Ar.get (⟨[x, y, z, u, v, w], rfl⟩ : Ar 6) 2 = z) ∧ (Ar.get (⟨[x, y, z, u, v, w], rfl⟩ : Ar 6) 3 = u ∧ Ar.get (⟨[x, y, z, u, v, w], rfl⟩ : Ar 6) 4 = v ∧ Ar.get (⟨[x, y, z, u, v, w], rfl⟩ : Ar 6) 5 = w) := ⟨⟨rfl, rfl, rfl⟩, rfl, rfl, rfl⟩
set_option maxHeartbeats 4000000 in
theorem die_spec (K : Nat) (hK : 2000000 ≤ K) (a : Ar 6) : spec_l2Die.f K a = some (dieB a) := by
  obtain ⟨k, rfl⟩ := Nat.exists_eq_add_of_le (show 8 ≤ K by omega)
  obtain ⟨x, y, z, u, v, w, rfl⟩ := Ar.cases6 a
  have e : 8 + k = k + 1 + 1 + 1 + 1 + 1 + 1 + 1 + 1 := by omega
  unfold spec_l2Die.f dieB dieP
  obtain ⟨⟨g0, g1, g2⟩, g3, g4, g5⟩ := die_get x y z u v w
  rw [e]
  simp only [spec_l2Die.l0, in_within, in_eq, some_bind, show (0 : Int) < 6 by decide, show wrap64 (0 + 1) = 1 by decide +kernel, show wrap64 (1 + 1) = 2 by decide +kernel, show wrap64 (2 + 1) = 3 by decide +kernel, show wrap64 (3 + 1) = 4 by decide +kernel, show wrap64 (4 + 1) = 5 by decide +kernel, show wrap64 (5 + 1) = 6 by decide +kernel, show wrap64 (1 - 1) = 0 by decide +kernel, show wrap64 (2 - 1) = 1 by decide +kernel, show wrap64 (3 - 1) = 2 by decide +kernel, show wrap64 (4 - 1) = 3 by decide +kernel, show wrap64 (5 - 1) = 4 by decide +kernel, g0, g1, g2, g3, g4, g5, decide_eq_true_eq]
  simp
  repeat' split
  all_goals simp_all
  all_goals omega
set_option maxHeartbeats 4000000 in
theorem die_impl (K : Nat) (hK : 2000000 ≤ K) (a : Ar 6) : impl_IsDie.f K a = some (dieB a) := by
  obtain ⟨x, y, z, u, v, w, rfl⟩ := Ar.cases6 a
  unfold impl_IsDie.f dieB dieP
  rw [allFace_eq K hK _ (by simp)]
  obtain ⟨k, rfl⟩ := Nat.exists_eq_add_of_le (show 8 ≤ K by omega)
  have e : 8 + k = k + 1 + 1 + 1 + 1 + 1 + 1 + 1 + 1 := by omega
  obtain ⟨⟨g0, g1, g2⟩, g3, g4, g5⟩ := die_get x y z u v w
  unfold slices_IsSorted_int_int.f
  rw [e]
  simp [slices_IsSorted_int_int.l0, cmp_Less_int.f, cmp_isNaN_int.f, some_bind, show wrap64 (6 - 1) = 5 by decide +kernel, show wrap64 5 = 5 by decide +kernel, show wrap64 (5 - 1) = 4 by decide +kernel, show wrap64 (4 - 1) = 3 by decide +kernel, show wrap64 (3 - 1) = 2 by decide +kernel, show wrap64 (2 - 1) = 1 by decide +kernel, show wrap64 (1 - 1) = 0 by decide +kernel, show wrap64 4 = 4 by decide +kernel, show wrap64 3 = 3 by decide +kernel, show wrap64 2 = 2 by decide +kernel, show wrap64 1 = 1 by decide +kernel, show wrap64 0 = 0 by decide +kernel, g0, g1, g2, g3, g4, g5, faceB]
  repeat' split
  all_goals simp_all
  all_goals omega
def wt (a : Ar 6) (x : Int) : Nat := a.l.count x
theorem ar_drop (a : Ar 6) (n : Nat) (h : n < 6) : a.l.drop n = a.get (n : Int) :: a.l.drop (n + 1) := by
  have hn : n < a.l.length := by rw [a.h]; exact h
  rw [List.drop_eq_getElem_cons hn]
  congr 1
  unfold Ar.get
  rw [show ((n : Int)).toNat = n by omega, List.getD_eq_getElem?_getD, List.getElem?_eq_getElem hn]
  rfl
theorem weight_l0 (K : Nat) (a : Ar 6) (x : Int) : ∀ (k n m : Nat), n ≤ 6 → 6 - n < k → m ≤ n → spec_l8Weight.l0 K a x k (m : Int) (n : Int) = some ((m + (a.l.drop n).count x : Nat) : Int) ∧ impl_weight.l0 K a x k (m : Int) (n : Int) = some ((m + (a.l.drop n).count x : Nat) : Int) := by
  intro k
  induction k with
  | zero => intro n m h1 h2; omega
  | succ k ih =>
    intro n m h1 h2 h3
    rw [spec_l8Weight.l0, impl_weight.l0]
    by_cases hn : (n : Int) < 6
    · have c2 : (0 : Int) ≤ (n : Int) ∧ (n : Int) < 6 := by omega
      have e1 : wrap64 ((n : Int) + 1) = ((n + 1 : Nat) : Int) := w1 n (by omega)
      have e2 : wrap64 ((m : Int) + 1) = ((m + 1 : Nat) : Int) := w1 m (by omega)
      have e3 : wrap64 ((m : Int) + 0) = (m : Int) := by rw [w64 (by omega) (by omega)]; omega
      simp only [if_pos hn, if_pos c2, e1, e2, impl_truth.f, decide_eq_true_eq]
      rw [ar_drop a n (by omega), List.count_cons]
      by_cases hx : a.get (n : Int) = x
      · simp only [if_pos hx, some_bind, e2]
        rw [(ih (n + 1) (m + 1) (by omega) (by omega) (by omega)).1, (ih (n + 1) (m + 1) (by omega) (by omega) (by omega)).2]
        simp [hx]
        omega
      · simp only [if_neg hx, some_bind, e3]
        rw [(ih (n + 1) m (by omega) (by omega) (by omega)).1, (ih (n + 1) m (by omega) (by omega) (by omega)).2]
        simp [hx]
    · rw [if_neg hn, if_neg hn]
      have : n = 6 := by omega
      subst this
      have : a.l.drop 6 = [] := List.drop_of_length_le (by rw [a.h]; omega)
      rw [this]
      exact ⟨rfl, rfl⟩
theorem weight_eq (K : Nat) (hK : 10 ≤ K) (a : Ar 6) (x : Int) : spec_l8Weight.f K a x = some (wt a x : Int) ∧ impl_weight.f K a x = some (wt a x : Int) := by
  have := weight_l0 K a x K 0 0 (by omega) (by omega) (by omega)
  simp only [Nat.zero_add, List.drop_zero] at this
  unfold spec_l8Weight.f impl_weight.f
  rw [show spec_l8Weight.l0 K a x K 0 0 = _ from this.1, show impl_weight.l0 K a x K 0 0 = _ from this.2]
  exact ⟨rfl, rfl⟩
theorem index_l0 (K : Nat) (l : List Int) (x : Int) (h : l.length ≤ 1073741824) : ∀ (k n : Nat), n ≤ l.length → l.length - n < k →
    (slices_Index_int_int.l0 K l x k (n : Int) = some (Sum.inl ()) ∧ x ∉ l.drop n) ∨ (∃ i : Int, 0 ≤ i ∧ slices_Index_int_int.l0 K l x k (n : Int) = some (Sum.inr i) ∧ x ∈ l.drop n) := by
  intro k
  induction k with
  | zero => intro n h1 h2; omega
  | succ k ih =>
    intro n h1 h2
    rw [slices_Index_int_int.l0]
    by_cases hn : (n : Int) < (l.length : Int)
    · have hn' : n < l.length := by omega
      have hnn : ((n : Int)).toNat = n := by omega
      have hd : l.drop n = l[n] :: l.drop (n + 1) := List.drop_eq_getElem_cons hn'
      have hg : l.getD n 0 = l[n] := by rw [List.getD_eq_getElem?_getD, List.getElem?_eq_getElem hn']; rfl
      rw [if_pos hn, if_pos (by omega), w1 n (by omega), hnn, hg, hd]
      by_cases e : x = l[n]
      · rw [if_pos e]
        exact .inr ⟨_, by omega, rfl, by rw [e]; exact List.mem_cons_self⟩
      · have e' : ¬ l[n] = x := fun h => e h.symm
        simp only [e, e', if_false, List.mem_cons, false_or]
        exact ih (n + 1) (by omega) (by omega)
    · rw [if_neg hn]
      have : n = l.length := by omega
      subst this
      exact .inl ⟨rfl, by simp⟩
theorem contains_eq (K : Nat) (hK : 2000000 ≤ K) (l : List Int) (x : Int) (h : l.length ≤ 1048576) : slices_Contains_int_int.f K l x = some (decide (x ∈ l)) := by
  unfold slices_Contains_int_int.f slices_Index_int_int.f
  rcases index_l0 K l x (by omega) K 0 (by omega) (by omega) with ⟨h1, h2⟩ | ⟨i, hi, h1, h2⟩
  · rw [show slices_Index_int_int.l0 K l x K 0 = _ from h1]
    simp only [some_bind, List.drop_zero] at h2 ⊢
    simp [h2]
  · rw [show slices_Index_int_int.l0 K l x K 0 = _ from h1]
    simp only [some_bind, List.drop_zero] at h2 ⊢
    simp [h2, hi]
theorem has_eq (K : Nat) (hK : 2000000 ≤ K) (a : Ar 6) (x : Int) : impl_has.f K a x = some (decide (0 < wt a x)) := by
  unfold impl_has.f
  rw [contains_eq K hK _ _ (by rw [a.h]; omega)]
  simp only [some_bind]
  congr 1
  rw [decide_eq_decide]
  exact List.count_pos_iff.symm
theorem all_power : spec_l2All.f = impl_power.f := by kernel_rfl
theorem pow_lt (n : Nat) (h : n ≤ 22) : (6 : Int) ^ n ≤ 131621703842267136 := by
  have : (6 : Nat) ^ n ≤ 6 ^ 22 := Nat.pow_le_pow_right (by omega) h
  have h2 : ((6 ^ n : Nat) : Int) ≤ ((6 ^ 22 : Nat) : Int) := by exact_mod_cast this
  simpa using h2
theorem pow_pos (n : Nat) : (1 : Int) ≤ 6 ^ n := by
  have : 1 ≤ (6 : Nat) ^ n := Nat.one_le_pow _ _ (by omega)
  have h2 : ((1 : Nat) : Int) ≤ ((6 ^ n : Nat) : Int) := by exact_mod_cast this
  simpa using h2
theorem power_l0 (K : Nat) (n : Nat) (hn : n ≤ 22) : ∀ (k i : Nat), i ≤ n → n - i < k → impl_power.l0 K (n : Int) k ((6 : Int) ^ i) (i : Int) = some ((6 : Int) ^ n) := by
  intro k
  induction k with
  | zero => intro i h1 h2; omega
  | succ k ih =>
    intro i h1 h2
    rw [impl_power.l0]
    by_cases h : (i : Int) < (n : Int)
    · have hp := pow_lt (i + 1) (by omega)
      have hq := pow_pos (i + 1)
      have e : (6 : Int) ^ i * 6 = 6 ^ (i + 1) := (Int.pow_succ 6 i).symm
      rw [if_pos h, e, w64 (n := (6 : Int) ^ (i + 1)) (by omega) (by omega), w64 (n := (i : Int) + 1) (by omega) (by omega), show (i : Int) + 1 = ((i + 1 : Nat) : Int) by omega]
      exact ih (i + 1) (by omega) (by omega)
    · rw [if_neg h, show i = n by omega]
theorem power_eq (K : Nat) (hK : 30 ≤ K) (n : Nat) (hn : n ≤ 22) : impl_power.f K (n : Int) = some ((6 : Int) ^ n) := by
  unfold impl_power.f
  rw [show impl_power.l0 K (n : Int) K 1 0 = some ((6 : Int) ^ n) from power_l0 K n hn K 0 (by omega) (by omega)]
  rfl
def allW (a : Ar 6) (l : List Int) : Bool := l.all fun x => decide (0 < wt a x)
theorem any_find (l : List Int) (p : Int → Bool) : (l.any p) = ((List.range' 0 l.length).find? (fun n : Nat => p (l.getD n 0))).isSome := by
  rw [Bool.eq_iff_iff, List.any_eq_true, List.find?_isSome]
  constructor
  · rintro ⟨x, hx, hp⟩
    obtain ⟨i, hi, rfl⟩ := List.getElem_of_mem hx
    exact ⟨i, List.mem_range'_1.2 ⟨by omega, by omega⟩, by rw [getD_nat _ _ _ hi]; exact hp⟩
  · rintro ⟨i, hi, hp⟩
    have hi' := (List.mem_range'_1.1 hi).2
    rw [getD_nat _ _ _ (by omega)] at hp
    exact ⟨_, List.getElem_mem _, hp⟩
theorem all_phrase (K : Nat) (hK : 2000000 ≤ K) (l : List Int) (a : Ar 6) (h : l.length ≤ 1048576) : impl_areAll_int__isPhrase_1.f K l a = some (allW a l) := by
  unfold impl_areAll_int__isPhrase_1.f slices_ContainsFunc_int_int__areAll_int_1_isPhrase_1.f slices_IndexFunc_int_int__areAll_int_1_isPhrase_1.f
  have hl := loop_find (fun k n => slices_IndexFunc_int_int__areAll_int_1_isPhrase_1.l0 K l a k n) l.length (fun n : Nat => !decide (0 < wt a (l.getD n 0))) (fun n => some (Sum.inr (n : Int))) (some (Sum.inl ())) (by
      intro k n hn
      rw [slices_IndexFunc_int_int__areAll_int_1_isPhrase_1.l0, if_pos (by omega), if_pos (by omega), Int.toNat_natCast, impl_areAll_int_1__isPhrase_1.f, impl_isPhrase_1__c.f, has_eq K hK, w1' n (by omega)]
      simp only [some_bind]) (by
      intro k
      rw [slices_IndexFunc_int_int__areAll_int_1_isPhrase_1.l0, if_neg (by omega)]) l.length 0 K (by omega) (by omega)
  rw [show slices_IndexFunc_int_int__areAll_int_1_isPhrase_1.l0 K l a K 0 = _ from hl]
  have ha : allW a l = !(l.any fun x => !decide (0 < wt a x)) := by
    unfold allW
    rw [Bool.eq_iff_iff]
    simp only [List.all_eq_true, Bool.not_eq_true', List.any_eq_false, decide_eq_true_eq, decide_eq_false_iff_not, Classical.not_not]
  rw [ha, any_find l (fun x => !decide (0 < wt a x))]
  cases hf : (List.range' 0 l.length).find? (fun n : Nat => !decide (0 < wt a (l.getD n 0))) with
  | none => rfl
  | some i => simp [some_bind]
def lenB (l : List Int) : Bool := decide ((1 : Int) ≤ (l.length : Int) ∧ (l.length : Int) ≤ 6)
theorem phrase_impl (K : Nat) (hK : 2000000 ≤ K) (a : Ar 6) (l : List Int) (h : l.length ≤ 1048576) : impl_isPhrase.f K a l = some (lenB l && allW a l) := by
  unfold impl_isPhrase.f
  rw [in_eq, all_phrase K hK l a h, some_bind]
  unfold lenB
  cases hb : decide ((1 : Int) ≤ (l.length : Int) ∧ (l.length : Int) ≤ 6) <;> simp [some_bind]
theorem phrase_spec (K : Nat) (hK : 2000000 ≤ K) (a : Ar 6) (l : List Int) (h : l.length ≤ 1048576) : spec_l8Phrase.f K a l = some (dieB a && (lenB l && allW a l)) := by
  unfold spec_l8Phrase.f
  have key : ∀ (k n : Nat), n ≤ l.length → l.length - n < k → (spec_l8Phrase.l0 K a l k (n : Int) = some (Sum.inl ()) ∧ (l.length ≤ 6 → allW a (l.drop n) = true)) ∨ (spec_l8Phrase.l0 K a l k (n : Int) = some (Sum.inr false) ∧ allW a (l.drop n) = false) := by
    intro k
    induction k with
    | zero => intro n h1 h2; omega
    | succ k ih =>
      intro n h1 h2
      rw [spec_l8Phrase.l0]
      by_cases hn : n < l.length
      · have hd : allW a (l.drop n) = (decide (0 < wt a (l.getD n 0)) && allW a (l.drop (n + 1))) := by
          rw [List.drop_eq_getElem_cons hn, getD_nat _ _ _ hn]; rfl
        rw [if_pos (by omega)]
        by_cases h6 : (n : Int) ≤ 6
        · rw [if_pos h6, if_pos (by omega), Int.toNat_natCast, (weight_eq K (by omega) _ _).1, some_bind, w1' n (by omega), hd]
          by_cases hw : wt a (l.getD n 0) = 0
          · rw [if_pos (by omega), hw]
            exact .inr ⟨rfl, rfl⟩
          · rw [if_neg (by omega), decide_eq_true (show 0 < wt a (l.getD n 0) by omega), Bool.true_and]
            exact ih (n + 1) (by omega) (by omega)
        · rw [if_neg h6]
          exact .inl ⟨rfl, fun h => by omega⟩
      · rw [if_neg (by omega)]
        refine .inl ⟨rfl, fun _ => ?_⟩
        rw [List.drop_of_length_le (by omega)]; rfl
  rcases key K 0 (by omega) (by omega) with ⟨h1, h2⟩ | ⟨h1, h2⟩
  · rw [show spec_l8Phrase.l0 K a l K 0 = _ from h1, some_bind]
    dsimp only
    rw [die_spec K hK, some_bind, in_within, in_eq, some_bind]
    cases hd : dieB a with
    | false => rfl
    | true =>
      simp only [if_true, Bool.true_and]
      unfold lenB
      by_cases hc : (1 : Int) ≤ (l.length : Int) ∧ (l.length : Int) ≤ 6
      · rw [decide_eq_true hc, Bool.true_and]
        have := h2 (by omega)
        rw [List.drop_zero] at this
        rw [this]
      · rw [decide_eq_false hc, Bool.false_and]
  · rw [show spec_l8Phrase.l0 K a l K 0 = _ from h1, some_bind]
    rw [List.drop_zero] at h2
    rw [h2, Bool.and_false, Bool.and_false]
theorem same_same : spec_l1Same.f = slices_Equal_int_int.f := by kernel_rfl
theorem equal_eq (K : Nat) (l m : List Int) (h : l.length ≤ 100) (hK : 200 ≤ K) : slices_Equal_int_int.f K l m = some (decide (l = m)) := by
  unfold slices_Equal_int_int.f
  by_cases hl : l.length = m.length
  · rw [if_pos (by omega)]
    have h1 := loop_find (fun k n => slices_Equal_int_int.l0 K l m k n) l.length (fun n : Nat => !decide (l.getD n 0 = m.getD n 0)) (fun _ => some (Sum.inr false)) (some (Sum.inl ())) (by
      intro k n hn
      rw [slices_Equal_int_int.l0, if_pos (by omega), if_pos (by omega), if_pos (by omega), Int.toNat_natCast, w1' n (by omega)]
      by_cases hc : l.getD n 0 = m.getD n 0
      · rw [if_pos hc]; simp only [hc, decide_true, Bool.not_true, Bool.false_eq_true, if_false]
      · rw [if_neg hc]; simp only [hc, decide_false, Bool.not_false, if_true]) (by
      intro k
      rw [slices_Equal_int_int.l0, if_neg (by omega)]) l.length 0 K (by omega) (by omega)
    rw [show slices_Equal_int_int.l0 K l m K 0 = _ from h1]
    cases hf : (List.range' 0 l.length).find? (fun n : Nat => !decide (l.getD n 0 = m.getD n 0)) with
    | none =>
      have : l = m := by
        apply List.ext_getElem hl
        intro i hi1 hi2
        have := List.find?_eq_none.1 hf i (List.mem_range'_1.2 ⟨by omega, by omega⟩)
        simp only [Bool.not_eq_true', decide_eq_false_iff_not, Classical.not_not] at this
        rw [getD_nat _ _ _ hi1, getD_nat _ _ _ hi2] at this
        exact this
      rw [decide_eq_true this]; rfl
    | some i =>
      have : ¬ l = m := by
        rintro rfl
        have := List.find?_some hf
        simp at this
      rw [decide_eq_false this]; rfl
  · rw [if_neg (by omega), decide_eq_false (fun e => hl (by rw [e]))]
def nn (l : List Int) : Prop := ∀ x ∈ l, 0 ≤ x
theorem nn_sum : ∀ l : List Int, nn l → 0 ≤ l.sum
  | [], _ => by simp
  | x :: l, h => by
    have h1 := h x List.mem_cons_self
    have h2 := nn_sum l (fun y hy => h y (List.mem_cons_of_mem _ hy))
    simp only [List.sum_cons]
    omega
theorem nn_get (l : List Int) (h : nn l) (i : Nat) (hi : i < l.length) : 0 ≤ l.getD i 0 := by
  rw [List.getD_eq_getElem?_getD, List.getElem?_eq_getElem hi]
  exact h _ (List.getElem_mem hi)
theorem nn_le : ∀ (l : List Int) (i : Nat), nn l → i < l.length → l.getD i 0 ≤ l.sum
  | [], i, _, hi => by simp at hi
  | x :: l, 0, h, _ => by
    have h2 := nn_sum l (fun y hy => h y (List.mem_cons_of_mem _ hy))
    simp only [List.getD_cons_zero, List.sum_cons]
    omega
  | x :: l, i + 1, h, hi => by
    have h1 := h x List.mem_cons_self
    have h2 := nn_le l i (fun y hy => h y (List.mem_cons_of_mem _ hy)) (by simpa using hi)
    simp only [List.getD_cons_succ, List.sum_cons]
    omega
theorem sum_set : ∀ (l : List Int) (i : Nat) (v : Int), i < l.length → (l.set i (l.getD i 0 + v)).sum = l.sum + v
  | [], i, v, hi => by simp at hi
  | x :: l, 0, v, _ => by simp only [List.set_cons_zero, List.getD_cons_zero, List.sum_cons]; omega
  | x :: l, i + 1, v, hi => by
    have h2 := sum_set l i v (by simpa using hi)
    simp only [List.set_cons_succ, List.getD_cons_succ, List.sum_cons, h2]
    omega
theorem nn_set (l : List Int) (i : Nat) (v : Int) (h : nn l) (hv : 0 ≤ v) : nn (l.set i v) := by
  intro x hx
  rcases List.mem_or_eq_of_mem_set hx with h1 | h1
  · exact h x h1
  · omega
theorem eqA2 (K : Nat) (hK : 3 ≤ K) (a : Ar 2) : laws_eqIntA2.f K a a = some true := by
  obtain ⟨k, rfl⟩ := Nat.exists_eq_add_of_le hK
  rw [show 3 + k = k + 1 + 1 + 1 by omega]
  simp [laws_eqIntA2.f, laws_eqIntA2.l0, wrap64]

theorem toA6 (K : Nat) (hK : 8 ≤ K) (a : Ar 6) : laws_toIntA6.f K a = some a := by
  obtain ⟨k, rfl⟩ := Nat.exists_eq_add_of_le hK
  obtain ⟨x, y, z, u, v, w, rfl⟩ := Ar.cases6 a
  have e : 8 + k = k + 1 + 1 + 1 + 1 + 1 + 1 + 1 + 1 := by omega
  unfold laws_toIntA6.f
  rw [e]
  simp only [laws_toIntA6.l0, show (0 : Int) < 6 by decide, show wrap64 (0 + 1) = 1 by decide +kernel, show wrap64 (1 + 1) = 2 by decide +kernel, show wrap64 (2 + 1) = 3 by decide +kernel, show wrap64 (3 + 1) = 4 by decide +kernel, show wrap64 (4 + 1) = 5 by decide +kernel, show wrap64 (5 + 1) = 6 by decide +kernel, if_true, show (0 : Int) ≤ 0 ∧ True by decide]
  rfl
theorem eqS_l0 (K : Nat) (l : List Int) (h : l.length ≤ 1073741824) : ∀ (k n : Nat), n ≤ l.length → l.length - n < k → laws_eqIntS.l0 K l l k (n : Int) = some (Sum.inl ()) := by
  intro k
  induction k with
  | zero => intro n h1 h2; omega
  | succ k ih =>
    intro n h1 h2
    rw [laws_eqIntS.l0]
    by_cases hn : (n : Int) < (l.length : Int)
    · rw [if_pos hn, if_pos (by omega), if_pos (by omega), if_pos rfl, w1 n (by omega)]
      exact ih (n + 1) (by omega) (by omega)
    · rw [if_neg hn]
theorem eqS (K : Nat) (l : List Int) (h : l.length ≤ 1048576) (hK : 2000000 ≤ K) : laws_eqIntS.f K l l = some true := by
  unfold laws_eqIntS.f
  rw [if_pos rfl, show (0 : Int) = ((0 : Nat) : Int) from rfl, eqS_l0 K l (by omega) K 0 (by omega) (by omega)]
  rfl
theorem cut_l0 (K : Nat) : ∀ (k : Nat) (a b : Int), 0 < a → 0 ≤ b → b < k → ∃ g, 0 < g ∧ spec_l2Cut.l0 K k a b = some g ∧ impl_fraction.l0 K k a b = some g := by
  intro k
  induction k with
  | zero => intro a b h0 h1 h2; omega
  | succ k ih =>
    intro a b h0 h1 h2
    rw [spec_l2Cut.l0, impl_fraction.l0]
    by_cases h : b = 0
    · subst h; exact ⟨a, h0, by simp, by simp⟩
    · rw [if_pos (show 0 < b by omega), if_neg h, if_pos h, if_pos h]
      have hb : 0 ≤ a.tmod b := Int.tmod_nonneg _ (by omega)
      have hc : a.tmod b < b := Int.tmod_lt_of_pos _ (by omega)
      obtain ⟨g, h3, h4, h5⟩ := ih b (a.tmod b) (by omega) hb (by omega)
      rw [h4, h5]
      exact ⟨g, h3, rfl, rfl⟩
theorem cutz_l0 (K : Nat) (k : Nat) (a b : Int) (ha : 0 ≤ a) (hb : 0 ≤ b) (h : 0 < a ∨ 0 < b) (hk : b + 1 < k) : ∃ g, 0 < g ∧ spec_l2Cut.l0 K k a b = some g ∧ impl_fraction.l0 K k a b = some g := by
  rcases Int.lt_or_eq_of_le ha with h0 | h0
  · exact cut_l0 K k a b h0 hb (by omega)
  · have hb' : 0 < b := by omega
    match k, hk with
    | 0, hk => omega
    | k + 1, hk =>
      rw [spec_l2Cut.l0, impl_fraction.l0]
      have hne : b ≠ 0 := by omega
      have h1 : (0 : Int).tmod b = 0 := Int.zero_tmod b
      subst h0
      rw [if_pos hb', if_neg hne, if_pos hne, if_pos hne, h1]
      exact cut_l0 K k b 0 hb' (by omega) (by omega)
theorem cutz_eq (K : Nat) (a b : Int) (ha : 0 ≤ a) (hb : 0 ≤ b) (h : 0 < a ∨ 0 < b) (hK : b + 1 < K) : ∃ r, spec_l2Cut.f K a b = some r ∧ impl_fraction.f K a b = some r := by
  obtain ⟨g, h1, h2, h3⟩ := cutz_l0 K K a b ha hb h hK
  unfold spec_l2Cut.f impl_fraction.f
  rw [h2, h3]
  simp only [some_bind]
  have : spec_l1Most.f K g 1 = some g := by
    unfold spec_l1Most.f
    by_cases h : 1 < g
    · rw [if_pos h]
    · rw [if_neg h, show g = 1 by omega]
  rw [this]
  simp only [some_bind]
  have hg : g ≠ 0 := by omega
  rw [if_pos hg, if_pos hg]
  exact ⟨_, rfl, rfl⟩
theorem longest_both (K : Nat) (hK : 300 ≤ K) (l t : List Int) (f : Int) (hl : l.length ≤ 6) (ht : t.length ≤ 6) : ∀ k n : Nat, n ≤ l.length → n ≤ t.length + 1 → n < k → ∃ o, spec_l8Step.l0 K l f t k (n : Int) = some o ∧ impl_longest.l0 K (t ++ [f]) l k (n : Int) = some o ∧ (o = Sum.inl () ∨ ∃ s : Nat, s ≤ n ∧ o = Sum.inr (s : Int)) := by
  intro k
  induction k with
  | zero => intro n h1 h2 h3; omega
  | succ k ih =>
    intro n h1 h2 h3
    rw [spec_l8Step.l0, impl_longest.l0]
    by_cases hn : 0 < n
    · obtain ⟨j, rfl⟩ : ∃ j, n = j + 1 := ⟨n - 1, by omega⟩
      have hlen : (t ++ [f]).length = t.length + 1 := by simp
      have e : wrap64 (((t ++ [f]).length : Int) - ((j + 1 : Nat) : Int)) = (((t ++ [f]).length - (j + 1) : Nat) : Int) := by
        rw [hlen, w64 (by omega) (by omega)]; omega
      rw [e, w1p j (by clear e; omega)]
      clear e
      rw [if_pos (by omega), if_pos (by omega), if_pos (by omega), if_pos (by omega), if_pos (by omega), if_pos (by omega), same_same, equal_eq K _ _ (by rw [List.length_drop, List.length_take]; omega) (by omega)]
      simp only [some_bind]
      split
      · exact ⟨_, rfl, rfl, .inr ⟨j + 1, Nat.le_refl _, rfl⟩⟩
      · obtain ⟨o, o1, o2, o3⟩ := ih j (by omega) (by omega) (by omega)
        refine ⟨o, o1, o2, ?_⟩
        rcases o3 with h | ⟨s, h4, h5⟩
        · exact .inl h
        · exact .inr ⟨s, by omega, h5⟩
    · rw [if_neg (by omega), if_neg (by omega)]
      exact ⟨_, rfl, rfl, .inl rfl⟩
theorem step_both (K : Nat) (hK : 300 ≤ K) (l : List Int) (x : Nat) (f : Int) (hl : l.length ≤ 6) (hx : x < l.length) : ∃ t : Nat, t ≤ l.length ∧ spec_l8Step.f K l (x : Int) f = some (t : Int) ∧ impl_longest.f K (l.take x ++ [f]) l = some (t : Int) := by
  have hlt : (l.take x).length = x := by rw [List.length_take]; omega
  have hlen : (l.take x ++ [f]).length = x + 1 := by simp [hlt]
  obtain ⟨o, o1, o2, o3⟩ := longest_both K hK l (l.take x) f hl (by omega) K (x + 1) (by omega) (by omega) (by omega)
  unfold spec_l8Step.f impl_longest.f spec_l1Own.f spec_l1Least.f
  rw [if_pos (by omega), Int.toNat_natCast, List.drop_zero, if_pos (by rw [hlt]; simp; omega), some_bind, List.nil_append, if_pos (by rw [hlt]; simp; omega), hlen]
  have m1 : (if ((x + 1 : Nat) : Int) < (l.length : Int) then some ((x + 1 : Nat) : Int) else some (l.length : Int)) = some ((x + 1 : Nat) : Int) := by
    split
    · rfl
    · congr 1; omega
  have m2 : (if (l.length : Int) < ((x + 1 : Nat) : Int) then (l.length : Int) else ((x + 1 : Nat) : Int)) = ((x + 1 : Nat) : Int) := by
    rw [if_neg (by omega)]
  rw [m1, some_bind, m2, o1, o2, some_bind]
  rcases o3 with rfl | ⟨s, h1, rfl⟩
  · exact ⟨0, by omega, rfl, rfl⟩
  · exact ⟨s, by omega, rfl, rfl⟩
theorem getD_app (w : List Int) (d : Int) (t : Nat) (h : t < w.length) : (w ++ [d]).getD t 0 = w.getD t 0 := by
  rw [List.getD_eq_getElem?_getD, List.getD_eq_getElem?_getD, List.getElem?_append_left h]
theorem getD_app_end (w : List Int) (d : Int) : (w ++ [d]).getD w.length 0 = d := by
  rw [List.getD_eq_getElem?_getD, List.getElem?_append_right (Nat.le_refl _)]; simp
theorem set_app_end (w : List Int) (d v : Int) : (w ++ [d]).set w.length v = w ++ [v] := by
  rw [List.set_append_right _ _ (Nat.le_refl _)]; simp
theorem pw12 (K : Nat) (hK : 300 ≤ K) (a : Ar 6) (l u : List Int) (hl6 : l.length ≤ 6) (d0 : Int) (hu : u.length = l.length) (x : Nat) (hx : x < l.length) (hc : 0 ≤ u.getD x 0) : ∀ (r n k : Nat) (d : Int) (w : List Int), n + r = 6 → r < k → w.length = l.length → nn (w ++ [d]) → (w ++ [d]).sum + u.getD x 0 * (r : Int) ≤ 1000000000000000000 →
    ∃ d' w', spec_PhraseWithin.l12 K a l u (x : Int) k d (n : Int) w = some (d', w') ∧ impl_PhraseWithin.l12 K a l (u ++ [d0]) (x : Int) k (n : Int) (w ++ [d]) = some (w' ++ [d']) ∧ w'.length = l.length ∧ nn (w' ++ [d']) ∧ (w' ++ [d']).sum = (w ++ [d]).sum + u.getD x 0 * (r : Int) := by
  intro r
  induction r with
  | zero =>
    intro n k d w h1 h2 h3 h4 h5
    obtain ⟨k, rfl⟩ : ∃ q, k = q + 1 := ⟨k - 1, by omega⟩
    rw [spec_PhraseWithin.l12, impl_PhraseWithin.l12, if_neg (by omega), if_neg (by omega)]
    exact ⟨d, w, rfl, rfl, h3, h4, by simp⟩
  | succ r ih =>
    intro n k d w h1 h2 h3 h4 h5
    obtain ⟨k, rfl⟩ : ∃ q, k = q + 1 := ⟨k - 1, by omega⟩
    obtain ⟨t, t1, t2, t3⟩ := step_both K hK l x (a.get (n : Int)) hl6 hx
    have hut : (u ++ [d0]).take l.length = u := by rw [← hu]; simp
    have hlt : (l.take x).length = x := by rw [List.length_take]; omega
    have hwl : (w ++ [d]).length = l.length + 1 := by simp [h3]
    have hr : u.getD x 0 * ((r + 1 : Nat) : Int) = u.getD x 0 + u.getD x 0 * (r : Int) := by
      rw [show ((r + 1 : Nat) : Int) = (r : Int) + 1 by omega, Int.mul_add, Int.mul_one]; omega
    have hrn : 0 ≤ u.getD x 0 * (r : Int) := Int.mul_nonneg hc (by omega)
    have g1 := nn_get (w ++ [d]) h4 t (by omega)
    have g2 := nn_le (w ++ [d]) t h4 (by omega)
    have g3 := sum_set (w ++ [d]) t (u.getD x 0) (by omega)
    have eW : wrap64 ((w ++ [d]).getD t 0 + u.getD x 0) = (w ++ [d]).getD t 0 + u.getD x 0 := w64 (by omega) (by omega)
    have hns := nn_set (w ++ [d]) t ((w ++ [d]).getD t 0 + u.getD x 0) h4 (by omega)
    rw [spec_PhraseWithin.l12, impl_PhraseWithin.l12, if_pos (by omega), if_pos (by omega), if_pos (by omega), if_pos (by omega), if_pos (by omega), t2]
    unfold slices_Clone_int_int.f
    simp only [Int.toNat_natCast, List.drop_zero, some_bind, hut]
    rw [if_pos (show (l.take x).length ≤ 1073741824 by clear eW; omega), some_bind, if_pos (show (l.take x).length + [a.get (n : Int)].length ≤ 1073741824 by rw [hlt]; simp; clear eW; omega), t3, some_bind, if_pos (show (0 : Int) ≤ (t : Int) ∧ (t : Int) < ((w ++ [d]).length : Int) by clear eW; omega), w1' n (by clear eW; omega)]
    simp only [Int.toNat_natCast]
    by_cases ht : t = l.length
    · rw [if_pos (by omega), if_pos (by omega)]
      rw [ht, ← h3, getD_app_end] at eW hns g3
      rw [ht, ← h3, getD_app_end, eW]
      rw [set_app_end] at hns g3 ⊢
      obtain ⟨d', w', i1, i2, i3, i4, i5⟩ := ih (n + 1) k (d + u.getD x 0) w (by omega) (by omega) h3 hns (by rw [g3]; clear eW; omega)
      exact ⟨d', w', i1, i2, i3.trans h3.symm, i4, by rw [i5, g3, hr]; omega⟩
    · have htw : t < w.length := by clear eW; omega
      rw [if_neg (by clear eW; omega), if_pos (by clear eW; omega), if_pos (by clear eW; omega), if_pos (by clear eW; omega)]
      rw [getD_app w d t htw] at eW hns g3
      rw [getD_app w d t htw, eW]
      rw [List.set_append_left _ _ htw] at hns g3 ⊢
      clear eW
      obtain ⟨d', w', i1, i2, i3, i4, i5⟩ := ih (n + 1) k d (w.set t (w.getD t 0 + u.getD x 0)) (by omega) (by omega) (by rw [List.length_set]; exact h3) hns (by rw [g3]; omega)
      exact ⟨d', w', i1, i2, i3, i4, by rw [i5, g3, hr]; omega⟩
theorem pw11 (K : Nat) (hK : 300 ≤ K) (a : Ar 6) (l u : List Int) (hl6 : l.length ≤ 6) (d0 : Int) (hu : u.length = l.length) (hun : nn u) : ∀ (r n k : Nat) (d : Int) (w : List Int), n + r = l.length → r < k → w.length = l.length → nn (w ++ [d]) → (w ++ [d]).sum + 6 * (u.drop n).sum ≤ 1000000000000000000 →
    ∃ d' w', spec_PhraseWithin.l11 K a l u k d (n : Int) w = some (d', w') ∧ impl_PhraseWithin.l11 K a l (u ++ [d0]) k (n : Int) (w ++ [d]) = some (w' ++ [d']) ∧ w'.length = l.length ∧ nn (w' ++ [d']) ∧ (w' ++ [d']).sum = (w ++ [d]).sum + 6 * (u.drop n).sum := by
  have hut : (u ++ [d0]).take l.length = u := by rw [← hu]; simp
  intro r
  induction r with
  | zero =>
    intro n k d w h1 h2 h3 h4 h5
    obtain ⟨k, rfl⟩ : ∃ q, k = q + 1 := ⟨k - 1, by omega⟩
    rw [spec_PhraseWithin.l11, impl_PhraseWithin.l11]
    simp only [Int.toNat_natCast, List.drop_zero, hut]
    rw [if_neg (by omega), if_neg (by omega), List.drop_of_length_le (by omega)]
    exact ⟨d, w, rfl, rfl, h3, h4, by simp⟩
  | succ r ih =>
    intro n k d w h1 h2 h3 h4 h5
    obtain ⟨k, rfl⟩ : ∃ q, k = q + 1 := ⟨k - 1, by omega⟩
    have hn : n < u.length := by omega
    have hdr : (u.drop n).sum = u.getD n 0 + (u.drop (n + 1)).sum := by
      rw [List.drop_eq_getElem_cons hn, List.sum_cons, getD_nat _ _ _ hn]
    have hdn : 0 ≤ (u.drop (n + 1)).sum := nn_sum _ (fun y hy => hun y (List.mem_of_mem_drop hy))
    have hg := nn_get u hun n hn
    rw [spec_PhraseWithin.l11, impl_PhraseWithin.l11]
    simp only [Int.toNat_natCast, List.drop_zero, hut]
    rw [if_pos (by omega), if_pos (by omega), if_pos (by omega)]
    obtain ⟨d1, w1, i1, i2, i3, i4, i5⟩ := pw12 K hK a l u hl6 d0 hu n (by omega) hg 6 0 K d w (by omega) (by omega) h3 h4 (by omega)
    rw [show (0 : Int) = ((0 : Nat) : Int) from rfl, i1, i2]
    simp only [some_bind]
    rw [w1' n (by omega)]
    obtain ⟨d', w', j1, j2, j3, j4, j5⟩ := ih (n + 1) k d1 w1 (by omega) (by omega) i3 i4 (by rw [i5]; omega)
    exact ⟨d', w', j1, j2, j3, j4, by rw [j5, i5, hdr]; omega⟩
theorem pw8 (K : Nat) (hK : 300 ≤ K) (a : Ar 6) (l : List Int) (hl1 : 1 ≤ l.length) (hl6 : l.length ≤ 6) (T : Nat) : ∀ (r n k : Nat) (d : Int) (u : List Int), n + r = T → T ≤ 12 → r < k → u.length = l.length → nn (u ++ [d]) → (u ++ [d]).sum * 6 ^ r ≤ 2176782336 →
    ∃ d' u', spec_PhraseWithin.l8 K a l (T : Int) k d (n : Int) u = some d' ∧ impl_PhraseWithin.l8 K a l (T : Int) k (n : Int) (u ++ [d]) = some (u' ++ [d']) ∧ u'.length = l.length ∧ nn (u' ++ [d']) ∧ (u' ++ [d']).sum = (u ++ [d]).sum * 6 ^ r := by
  intro r
  induction r with
  | zero =>
    intro n k d u h1 h2 h3 h4 h5 h6
    obtain ⟨k, rfl⟩ : ∃ q, k = q + 1 := ⟨k - 1, by omega⟩
    rw [spec_PhraseWithin.l8, impl_PhraseWithin.l8, if_neg (by omega), if_neg (by omega)]
    exact ⟨d, u, rfl, rfl, h4, h5, by simp⟩
  | succ r ih =>
    intro n k d u h1 h2 h3 h4 h5 h6
    obtain ⟨k, rfl⟩ : ∃ q, k = q + 1 := ⟨k - 1, by omega⟩
    have hul : (u ++ [d]).length = l.length + 1 := by simp [h4]
    have hun : nn u := fun y hy => h5 y (List.mem_append_left _ hy)
    have hdn : 0 ≤ d := h5 d (by simp)
    have hus := nn_sum u hun
    have hsum : (u ++ [d]).sum = u.sum + d := by simp
    have hpw : (u ++ [d]).sum * 6 ^ (r + 1) = ((u ++ [d]).sum * 6) * 6 ^ r := by rw [Int.pow_succ, Int.mul_assoc, Int.mul_comm (6 ^ r) 6]
    have hS : (u ++ [d]).sum * 6 ≤ ((u ++ [d]).sum * 6) * 6 ^ r := by
      have h := pow_pos r
      have := Int.mul_le_mul_of_nonneg_left h (show (0 : Int) ≤ (u ++ [d]).sum * 6 by omega)
      rw [Int.mul_one] at this
      exact this
    have e1 : wrap64 (6 * d) = 6 * d := w64 (by omega) (by omega)
    have e2 : wrap64 (d * 6) = 6 * d := by clear e1; rw [w64 (by omega) (by omega)]; omega
    have hrep : (List.replicate (u ++ [d]).length (0 : Int)).set l.length (6 * d) = List.replicate l.length 0 ++ [6 * d] := by
      rw [hul, List.replicate_succ']
      have := set_app_end (List.replicate l.length (0 : Int)) 0 (6 * d)
      rw [List.length_replicate] at this
      exact this
    have hg : (u ++ [d]).getD l.length 0 = d := by rw [← h4]; exact getD_app_end u d
    rw [spec_PhraseWithin.l8, impl_PhraseWithin.l8, if_pos (by clear e1 e2; omega), if_pos (by clear e1 e2; omega), if_pos (by clear e1 e2; omega), if_pos (by clear e1 e2; omega), if_pos (by rw [List.length_replicate, Int.toNat_natCast]; clear e1 e2; omega), if_pos (by clear e1 e2; omega)]
    simp only [Int.toNat_natCast, hg, e1, e2, hrep]
    clear e1 e2
    have hrs : (List.replicate l.length (0 : Int) ++ [6 * d]).sum = 6 * d := by simp
    obtain ⟨d1, w1, i1, i2, i3, i4, i5⟩ := pw11 K hK a l u hl6 d h4 hun l.length 0 K (6 * d) (List.replicate l.length 0) (by omega) (by omega) (by simp) (by
      intro y hy
      simp only [List.mem_append, List.mem_replicate, List.mem_singleton] at hy
      rcases hy with ⟨_, rfl⟩ | rfl <;> omega) (by rw [hrs, List.drop_zero]; omega)
    rw [List.drop_zero, hrs] at i5
    rw [show (0 : Int) = ((0 : Nat) : Int) from rfl] at *
    rw [i1, i2]
    simp only [some_bind]
    rw [w1' n (by omega)]
    have hs1 : (w1 ++ [d1]).sum = (u ++ [d]).sum * 6 := by rw [i5]; omega
    obtain ⟨d', u', j1, j2, j3, j4, j5⟩ := ih (n + 1) k d1 w1 (by omega) h2 (by omega) i3 i4 (by rw [hs1, ← hpw]; exact h6)
    exact ⟨d', u', j1, j2, j3, j4, by rw [j5, hs1, hpw]⟩
theorem PhraseWithin_same (K : Nat) (hK : 100000000000 ≤ K) (a : Ar 6) (l : List Int) (T : Int) (hl : l.length ≤ 1048576) : ∃ r, spec_PhraseWithin.f K a l T = some r ∧ impl_PhraseWithin.f K a l T = some r := by
  unfold spec_PhraseWithin.f impl_PhraseWithin.f spec_l8Rolls.f impl_isRolls.f
  rw [phrase_spec K (by omega) a l hl, phrase_impl K (by omega) a l hl, die_impl K (by omega), die_spec K (by omega), all_power, in_within, in_eq]
  simp only [some_bind]
  cases hd : dieB a with
  | false => exact ⟨_, rfl, rfl⟩
  | true =>
    simp only [if_true, Bool.true_and]
    cases h1 : (lenB l && allW a l) with
    | false => exact ⟨_, rfl, rfl⟩
    | true =>
      simp only [if_true]
      by_cases h : 0 ≤ T ∧ T ≤ 12
      · obtain ⟨n, rfl⟩ : ∃ n : Nat, T = n := ⟨T.toNat, by omega⟩
        simp only [Bool.and_eq_true, lenB, decide_eq_true_eq] at h1
        have e1 : wrap64 ((l.length : Int) + 1) = ((l.length + 1 : Nat) : Int) := w1' _ (by omega)
        have hsp : (List.replicate l.length (0 : Int)).set 0 1 ++ [0] = (List.replicate (l.length + 1) (0 : Int)).set 0 1 := by
          rw [List.replicate_succ', List.set_append_left _ _ (by rw [List.length_replicate]; omega)]
        have hst : (List.replicate (l.length + 1) (0 : Int)).set 0 1 = 1 :: List.replicate l.length 0 := by rw [List.replicate_succ]; rfl
        have hnn : nn ((List.replicate l.length (0 : Int)).set 0 1 ++ [0]) := by
          rw [hsp, hst]
          intro y hy
          simp only [List.mem_cons, List.mem_replicate] at hy
          rcases hy with rfl | ⟨_, rfl⟩ <;> omega
        have hsum : ((List.replicate l.length (0 : Int)).set 0 1 ++ [0]).sum = 1 := by rw [hsp, hst]; simp
        have hp6 : (6 : Int) ^ n ≤ 2176782336 := by
          have : ((6 ^ n : Nat) : Int) ≤ ((6 ^ 12 : Nat) : Int) := by
            exact_mod_cast Nat.pow_le_pow_right (by omega) (by omega)
          rw [powN] at this
          exact this
        obtain ⟨d', u', j1, j2, j3, j4, j5⟩ := pw8 K (by omega) a l (by omega) (by omega) n n 0 K 0 ((List.replicate l.length (0 : Int)).set 0 1) (by omega) (by omega) (by omega) (by simp) hnn (by rw [hsum]; omega)
        rw [hsum, Int.one_mul] at j5
        have hdn : 0 ≤ d' := j4 d' (by simp)
        have hun := nn_sum u' (fun y hy => j4 y (List.mem_append_left _ hy))
        have hs' : (u' ++ [d']).sum = u'.sum + d' := by simp
        have hg : (u' ++ [d']).getD l.length 0 = d' := by rw [← j3]; exact getD_app_end u' d'
        have hq := pow_pos n
        obtain ⟨s, c1, c2⟩ := cutz_eq K d' ((6 : Int) ^ n) (by clear e1; omega) (by clear e1; omega) (by clear e1; omega) (by clear e1; omega)
        have hul : (u' ++ [d']).length = l.length + 1 := by simp [j3]
        rw [decide_eq_true h, e1]
        clear e1
        simp only [if_true]
        rw [if_pos (by omega), if_pos (by rw [List.length_replicate, Int.toNat_natCast]; omega), if_pos (by omega), if_pos (by rw [List.length_replicate, Int.toNat_natCast]; omega), Int.toNat_natCast, Int.toNat_natCast, show (0 : Int).toNat = 0 from rfl, ← hsp]
        rw [show spec_PhraseWithin.l8 K a l (n : Int) K 0 0 ((List.replicate l.length (0 : Int)).set 0 1) = _ from j1, show impl_PhraseWithin.l8 K a l (n : Int) K 0 ((List.replicate l.length (0 : Int)).set 0 1 ++ [0]) = _ from j2]
        simp only [some_bind]
        rw [if_pos (show (0 : Int) ≤ (l.length : Int) ∧ (l.length : Int) < ((u' ++ [d']).length : Int) by omega), hg, power_eq K (by omega) n (by omega)]
        simp only [some_bind, c1, c2]
        exact ⟨_, rfl, rfl⟩
      · rw [decide_eq_false h]
        exact ⟨_, rfl, rfl⟩
theorem PhraseWithin_pure (a0 : Ar 6) (l1 : List Int) (a2 : Int) (_w0 : ∀ z ∈ a0.l, (Lit.int .i64 z).wf = true) (_m1 : l1.length ≤ maxLen) (_w1 : ∀ z ∈ l1, (Lit.int .i64 z).wf = true) (_w2 : (Lit.int .i64 a2).wf = true) : ∃ K, laws_FnExactPhraseWithin.f K a0 l1 a2 = some true := by
  refine ⟨100000000000, ?_⟩
  unfold laws_FnExactPhraseWithin.f
  by_cases h1 : (1048576 : Int) < l1.length
  · rw [if_pos h1]
  · rw [if_neg h1]
    obtain ⟨r, r1, r2⟩ := PhraseWithin_same 100000000000 (by omega) a0 l1 a2 (by omega)
    have t1 := toS 100000000000 l1 (by omega) (by omega)
    have t3 := fun a => toA6 100000000000 (by omega) a
    have q1 := eqS 100000000000 l1 (by omega) (by omega)
    have q3 := fun a => eqA2 100000000000 (by omega) a
    simp only [t1, t3, r1, r2, q1, q3, some_bind, if_true, beq_self_eq_true]
end Go.Proofs.Ytnjfmhgmbfemdaa.WPhraseWithin

/- The plain law: what the walk shows to be computed answers true. Conditions: the numbers are 64-bit. -/
import Derived.Test.YtbknafijehakbaaWFairSizes
import Derived.KernelRfl
namespace Go.Proofs.Ytbknafijehakbaa.WFairSizes
open Go.K Go.RowKit
set_option linter.unusedVariables false
set_option linter.unusedSimpArgs false

theorem w1 (n : Nat) (h : n ≤ 4000000000000000000) : wrap64 ((n : Int) + 1) = ((n + 1 : Nat) : Int) := by rw [w64 (by omega) (by omega)]; omega
theorem ar_get_set {n : Nat} (a : Ar n) (i j v : Int) (h0 : 0 ≤ i) (h1 : i < n) (h2 : 0 ≤ j) : (a.set i v).get j = if j = i then v else a.get j := by
  unfold Ar.get Ar.set
  simp only [List.getD_eq_getElem?_getD]
  by_cases h : j = i
  · subst h
    rw [if_pos rfl, List.getElem?_set_self (by rw [a.h]; omega)]
    rfl
  · rw [if_neg h, List.getElem?_set_ne (by omega)]
theorem ar_get_zero {n : Nat} (j : Int) : (Ar.zero n).get j = 0 := by
  unfold Ar.get Ar.zero
  simp only [List.getD_eq_getElem?_getD, List.getElem?_replicate]
  split <;> rfl
theorem in_eq (K : Nat) (a lo hi : Int) : impl_within.f K a lo hi = some (decide (lo ≤ a ∧ a ≤ hi)) := by
  unfold impl_within.f
  by_cases h : lo ≤ a <;> simp [h]
theorem in_within : spec_l1In.f = impl_within.f := by kernel_rfl
def faceB (a : Int) : Bool := decide (0 ≤ a ∧ a ≤ 30)
theorem isFace_eq (K : Nat) (_hK : 2000000 ≤ K) (a : Int) : impl_isFace.f K a = some (faceB a) := by
  unfold impl_isFace.f
  rw [in_eq]; rfl
theorem allFace_l0 (K : Nat) (hK : 2000000 ≤ K) (l : List Int) (h : l.length ≤ 1073741824) : ∀ (k n : Nat), n ≤ l.length → l.length - n < k →
    (slices_IndexFunc_int_int__areAll_int_1_isFace.l0 K l k (n : Int) = some (Sum.inl ()) ∧ (l.drop n).all faceB = true) ∨ (∃ i : Int, 0 ≤ i ∧ slices_IndexFunc_int_int__areAll_int_1_isFace.l0 K l k (n : Int) = some (Sum.inr i) ∧ (l.drop n).all faceB = false) := by
  intro k
  induction k with
  | zero => intro n h1 h2; omega
  | succ k ih =>
    intro n h1 h2
    rw [slices_IndexFunc_int_int__areAll_int_1_isFace.l0]
    by_cases hn : (n : Int) < (l.length : Int)
    · have hn' : n < l.length := by omega
      have hnn : ((n : Int)).toNat = n := by omega
      have hd : l.drop n = l[n] :: l.drop (n + 1) := List.drop_eq_getElem_cons hn'
      have hg : l.getD n (0 : Int) = l[n] := by rw [List.getD_eq_getElem?_getD, List.getElem?_eq_getElem hn']; rfl
      rw [if_pos hn, if_pos (by omega), w1 n (by omega), hnn, hg, impl_areAll_int_1__isFace.f, isFace_eq K hK, hd]
      simp only [some_bind, List.all_cons]
      rcases Bool.eq_false_or_eq_true (faceB l[n]) with e | e
      · rw [e]
        simp only [Bool.not_true, Bool.false_eq_true, if_false, Bool.true_and]
        exact ih (n + 1) (by omega) (by omega)
      · rw [e]
        simp only [Bool.not_false, if_true, Bool.false_and]
        exact .inr ⟨_, by omega, rfl, trivial⟩
    · rw [if_neg hn]
      have : n = l.length := by omega
      subst this
      exact .inl ⟨rfl, by simp⟩
theorem allFace_eq (K : Nat) (hK : 2000000 ≤ K) (l : List Int) (h : l.length ≤ 1048576) : impl_areAll_int__isFace.f K l = some (l.all faceB) := by
  unfold impl_areAll_int__isFace.f slices_ContainsFunc_int_int__areAll_int_1_isFace.f slices_IndexFunc_int_int__areAll_int_1_isFace.f
  rcases allFace_l0 K hK l (by omega) K 0 (by omega) (by omega) with ⟨h1, h2⟩ | ⟨i, hi, h1, h2⟩
  · rw [show (0 : Int) = ((0 : Nat) : Int) from rfl, h1]
    simp only [some_bind, List.drop_zero] at h2 ⊢
    rw [h2]; rfl
  · rw [show (0 : Int) = ((0 : Nat) : Int) from rfl, h1]
    simp only [some_bind, List.drop_zero] at h2 ⊢
    rw [h2]
    have : decide (((0 : Nat) : Int) ≤ i) = true := decide_eq_true (by simpa using hi)
    rw [this]; rfl
def dieP (a : Ar 6) : Prop := ((0 ≤ a.get 0 ∧ a.get 0 ≤ 30) ∧ (0 ≤ a.get 1 ∧ a.get 1 ≤ 30) ∧ (0 ≤ a.get 2 ∧ a.get 2 ≤ 30) ∧ (0 ≤ a.get 3 ∧ a.get 3 ≤ 30) ∧ (0 ≤ a.get 4 ∧ a.get 4 ≤ 30) ∧ (0 ≤ a.get 5 ∧ a.get 5 ≤ 30)) ∧ (a.get 0 ≤ a.get 1 ∧ a.get 1 ≤ a.get 2 ∧ a.get 2 ≤ a.get 3 ∧ a.get 3 ≤ a.get 4 ∧ a.get 4 ≤ a.get 5)
instance (a : Ar 6) : Decidable (dieP a) := by unfold dieP; infer_instance
def dieB (a : Ar 6) : Bool := decide (dieP a)
theorem die_get (x y z u v w : Int) : (Ar.get (⟨[x, y, z, u, v, w], rfl⟩ : Ar 6) 0 = x ∧ Ar.get (⟨[x, y, z, u, v, w], rfl⟩ : Ar 6) 1 = y ∧ Ar.get (⟨[x, y, z, u, v, w], rfl⟩ : Ar 6) 2 = z) ∧ (Ar.get (⟨[x, y, z, u, v, w], rfl⟩ : Ar 6) 3 = u ∧ Ar.get (⟨[x, y, z, u, v, w], rfl⟩ : Ar 6) 4 = v ∧ Ar.get (⟨[x, y, z, u, v, w], rfl⟩ : Ar 6) 5 = w) := ⟨⟨rfl, rfl, rfl⟩, rfl, rfl, rfl⟩
set_option maxHeartbeats 4000000 in
theorem die_spec (K : Nat) (hK : 2000000 ≤ K) (a : Ar 6) : spec_l2Die.f K a = some (dieB a) := by
  obtain ⟨k, rfl⟩ := Nat.exists_eq_add_of_le (show 8 ≤ K by omega)
  obtain ⟨x, y, z, u, v, w, rfl⟩ := Ar.cases6 a
  have e : 8 + k = k + 1 + 1 + 1 + 1 + 1 + 1 + 1 + 1 := by omega
  unfold spec_l2Die.f dieB dieP
  obtain ⟨⟨g0, g1, g2⟩, g3, g4, g5⟩ := die_get x y z u v w
  rw [e]
  simp only [spec_l2Die.l0, in_within, in_eq, some_bind, show (0 : Int) < 6 by decide, show wrap64 (0 + 1) = 1 by decide +kernel, show wrap64 (1 + 1) = 2 by decide +kernel, show wrap64 (2 + 1) = 3 by decide +kernel, show wrap64 (3 + 1) = 4 by decide +kernel, show wrap64 (4 + 1) = 5 by decide +kernel, show wrap64 (5 + 1) = 6 by decide +kernel, show wrap64 (1 - 1) = 0 by decide +kernel, show wrap64 (2 - 1) = 1 by decide +kernel, show wrap64 (3 - 1) = 2 by decide +kernel, show wrap64 (4 - 1) = 3 by decide +kernel, show wrap64 (5 - 1) = 4 by decide +kernel, g0, g1, g2, g3, g4, g5, decide_eq_true_eq]
  simp
  repeat' split
  all_goals simp_all
  all_goals omega
set_option maxHeartbeats 4000000 in
theorem die_impl (K : Nat) (hK : 2000000 ≤ K) (a : Ar 6) : impl_IsDie.f K a = some (dieB a) := by
  obtain ⟨x, y, z, u, v, w, rfl⟩ := Ar.cases6 a
  unfold impl_IsDie.f dieB dieP
  rw [allFace_eq K hK _ (by simp)]
  obtain ⟨k, rfl⟩ := Nat.exists_eq_add_of_le (show 8 ≤ K by omega)
  have e : 8 + k = k + 1 + 1 + 1 + 1 + 1 + 1 + 1 + 1 := by omega
  obtain ⟨⟨g0, g1, g2⟩, g3, g4, g5⟩ := die_get x y z u v w
  unfold slices_IsSorted_int_int.f
  rw [e]
  simp [slices_IsSorted_int_int.l0, cmp_Less_int.f, cmp_isNaN_int.f, some_bind, show wrap64 (6 - 1) = 5 by decide +kernel, show wrap64 5 = 5 by decide +kernel, show wrap64 (5 - 1) = 4 by decide +kernel, show wrap64 (4 - 1) = 3 by decide +kernel, show wrap64 (3 - 1) = 2 by decide +kernel, show wrap64 (2 - 1) = 1 by decide +kernel, show wrap64 (1 - 1) = 0 by decide +kernel, show wrap64 4 = 4 by decide +kernel, show wrap64 3 = 3 by decide +kernel, show wrap64 2 = 2 by decide +kernel, show wrap64 1 = 1 by decide +kernel, show wrap64 0 = 0 by decide +kernel, g0, g1, g2, g3, g4, g5, faceB]
  repeat' split
  all_goals simp_all
  all_goals omega
theorem die_faces (a : Ar 6) (h : dieB a = true) : ∀ z ∈ a.l, 0 ≤ z ∧ z ≤ 30 := by
  obtain ⟨x, y, z, u, v, w, rfl⟩ := Ar.cases6 a
  replace h := of_decide_eq_true h
  unfold dieP at h
  obtain ⟨⟨g0, g1, g2⟩, g3, g4, g5⟩ := die_get x y z u v w
  rw [g0, g1, g2, g3, g4, g5] at h
  intro t ht
  simp only [List.mem_cons, List.not_mem_nil, or_false] at ht
  omega
def Tab (m : Int) (B : Int) (t : Ar 121) : Prop := ∀ s : Int, 0 ≤ s → s < 121 → (0 ≤ t.get s ∧ t.get s ≤ B) ∧ (m < s → t.get s = 0)
theorem die_face (a : Ar 6) (h : dieB a = true) (i : Int) (h0 : 0 ≤ i) (h1 : i < 6) : 0 ≤ a.get i ∧ a.get i ≤ 30 := by
  refine die_faces a h _ ?_
  unfold Ar.get
  have hl : i.toNat < a.l.length := by rw [a.h]; omega
  rw [List.getD_eq_getElem?_getD, List.getElem?_eq_getElem hl]
  exact List.getElem_mem hl
theorem table_l12 (K : Nat) (l : List (Ar 6)) (d : Nat) (hd : d < l.length) (hdie : dieB (l.getD d (Ar.zero 6)) = true) (cur : Ar 121) (M m : Int) (hc : Tab m M cur) (hM : 0 ≤ M) (hMM : M ≤ 1000000000000) (hm : m + 30 < 121) (s : Nat) (hs : s < 121) (hpos : 0 < cur.get (s : Int)) :
    ∀ (k n : Nat) (B : Int) (t : Ar 121), n ≤ 6 → 6 - n < k → Tab (m + 30) B t → 0 ≤ B → B + M * (6 - n) ≤ 4000000000000000000 → ∃ r, spec_l2Table.l12 K l (d : Int) cur (s : Int) k (n : Int) t = some r ∧ impl_sums.l12 K l (d : Int) cur (s : Int) k (n : Int) t = some r ∧ Tab (m + 30) (B + M * (6 - n)) r := by
  intro k
  induction k with
  | zero => intro n B t h1 h2; omega
  | succ k ih =>
    intro n B t h1 h2 h3 h4 h5
    rw [spec_l2Table.l12, impl_sums.l12]
    by_cases hn : (n : Int) < 6
    · have c1 : (0 : Int) ≤ (s : Int) ∧ (s : Int) < 121 := by omega
      have c2 : (0 : Int) ≤ (d : Int) ∧ (d : Int) < (l.length : Int) := by omega
      have c3 : (0 : Int) ≤ (n : Int) ∧ (n : Int) < 6 := by omega
      have hdn : ((d : Int)).toNat = d := by omega
      rw [hdn]
      have hf := die_face _ hdie (n : Int) (by omega) (by omega)
      generalize (l.getD d (Ar.zero 6)).get (n : Int) = f at hf ⊢
      have hsm : (s : Int) ≤ m := by
        rcases Int.lt_or_le m (s : Int) with h | h
        · have := (hc s (by omega) (by omega)).2 h; omega
        · exact h
      have e1 : wrap64 ((s : Int) + f) = (s : Int) + f := w64 (by omega) (by omega)
      have c4 : (0 : Int) ≤ (s : Int) + f ∧ (s : Int) + f < 121 := by omega
      have hcs := (hc s (by omega) (by omega)).1
      have hts := (h3 ((s : Int) + f) (by omega) (by omega)).1
      have e2 : M * (6 - (n : Int)) = M + M * (6 - ((n + 1 : Nat) : Int)) := by
        rw [show (6 : Int) - (n : Int) = 1 + (6 - ((n + 1 : Nat) : Int)) by omega, Int.mul_add, Int.mul_one]
      have e3 : 0 ≤ M * (6 - ((n + 1 : Nat) : Int)) := Int.mul_nonneg hM (by omega)
      have e4 : wrap64 (t.get ((s : Int) + f) + cur.get (s : Int)) = t.get ((s : Int) + f) + cur.get (s : Int) := w64 (by omega) (by omega)
      simp only [if_pos hn, if_pos c1, if_pos hpos, if_pos c2, if_pos c3, e1, if_pos c4, e4, w1 n (by omega)]
      rw [e2, ← Int.add_assoc]
      refine ih (n + 1) (B + M) _ (by omega) (by omega) ?_ (by omega) (by omega)
      intro j hj0 hj1
      rw [ar_get_set _ _ _ _ (by omega) (by omega) hj0]
      have hj := h3 j hj0 hj1
      by_cases hjs : j = (s : Int) + f
      · rw [if_pos hjs]
        exact ⟨⟨by omega, by omega⟩, fun h => by omega⟩
      · rw [if_neg hjs]
        exact ⟨⟨hj.1.1, by omega⟩, hj.2⟩
    · have : n = 6 := by omega
      subst this
      rw [if_neg hn, if_neg hn]
      exact ⟨t, rfl, rfl, by simpa using h3⟩
theorem table_skip (K : Nat) (l : List (Ar 6)) (d : Int) (cur : Ar 121) (s : Nat) (hs : s < 121) (hz : cur.get (s : Int) = 0) : ∀ (k n : Nat) (t : Ar 121), n ≤ 6 → 6 - n < k → spec_l2Table.l12 K l d cur (s : Int) k (n : Int) t = some t := by
  intro k
  induction k with
  | zero => intro n t h1 h2; omega
  | succ k ih =>
    intro n t h1 h2
    rw [spec_l2Table.l12]
    by_cases hn : (n : Int) < 6
    · rw [if_pos hn, if_pos (by omega), if_neg (by omega), w1 n (by omega)]
      exact ih (n + 1) t (by omega) (by omega)
    · rw [if_neg hn]
theorem table_l11 (K : Nat) (hK : 1000 ≤ K) (l : List (Ar 6)) (d : Nat) (hd : d < l.length) (hdie : dieB (l.getD d (Ar.zero 6)) = true) (cur : Ar 121) (M m : Int) (hc : Tab m M cur) (hM : 0 ≤ M) (hMM : M ≤ 1000000000000) (hm : m + 30 < 121) :
    ∀ (k s : Nat) (t : Ar 121), s ≤ 121 → 121 - s < k → Tab (m + 30) (M * (6 * s)) t → ∃ r, spec_l2Table.l11 K l (d : Int) cur k (s : Int) t = some r ∧ impl_sums.l11 K l (d : Int) cur k (s : Int) t = some r ∧ Tab (m + 30) (M * 726) r := by
  intro k
  induction k with
  | zero => intro s t h1 h2; omega
  | succ k ih =>
    intro s t h1 h2 h3
    rw [spec_l2Table.l11, impl_sums.l11]
    by_cases hn : (s : Int) < 121
    · have c1 : (0 : Int) ≤ (s : Int) ∧ (s : Int) < 121 := by omega
      have hB : 0 ≤ M * (6 * (s : Int)) := Int.mul_nonneg hM (by omega)
      have hB2 : M * (6 * (s : Int)) ≤ M * 726 := Int.mul_le_mul_of_nonneg_left (by omega) hM
      have e2 : M * (6 * ((s + 1 : Nat) : Int)) = M * (6 * (s : Int)) + M * 6 := by
        rw [← Int.mul_add, show 6 * ((s + 1 : Nat) : Int) = 6 * (s : Int) + 6 by omega]
      simp only [if_pos hn, if_pos c1, w1 s (by omega)]
      by_cases hz : cur.get (s : Int) = 0
      · rw [if_pos hz, show spec_l2Table.l12 K l (d : Int) cur (s : Int) K 0 t = some t from table_skip K l d cur s (by omega) hz K 0 t (by omega) (by omega)]
        simp only [some_bind]
        refine ih (s + 1) t (by omega) (by omega) ?_
        intro j hj0 hj1
        have hj := h3 j hj0 hj1
        rw [e2]
        exact ⟨⟨hj.1.1, by omega⟩, hj.2⟩
      · have hp := (hc s (by omega) (by omega)).1
        obtain ⟨r, r1, r2, r3⟩ := table_l12 K l d hd hdie cur M m hc hM hMM hm s (by omega) (by omega) K 0 (M * (6 * (s : Int))) t (by omega) (by omega) h3 hB (by simp; omega)
        rw [if_neg hz, show spec_l2Table.l12 K l (d : Int) cur (s : Int) K 0 t = some r from r1, show impl_sums.l12 K l (d : Int) cur (s : Int) K 0 t = some r from r2]
        simp only [some_bind]
        refine ih (s + 1) r (by omega) (by omega) ?_
        rw [e2]
        simpa using r3
    · have : s = 121 := by omega
      subst this
      rw [if_neg hn, if_neg hn]
      exact ⟨t, rfl, rfl, by simpa using h3⟩
theorem table_l8 (K : Nat) (hK : 1000 ≤ K) (l : List (Ar 6)) (hl : l.length ≤ 4) (hd : ∀ a ∈ l, dieB a = true) :
    ∀ (k d : Nat) (t : Ar 121), d ≤ l.length → l.length - d < k → Tab (30 * d) (726 ^ d) t → ∃ r, spec_l2Table.l8 K l k (d : Int) t = some r ∧ impl_sums.l8 K l k (d : Int) t = some r ∧ Tab 120 1000000000000 r := by
  intro k
  induction k with
  | zero => intro d t h1 h2; omega
  | succ k ih =>
    intro d t h1 h2 h3
    have hp : (726 : Int) ^ d ≤ 300000000000 ∧ 0 ≤ (726 : Int) ^ d := by
      rcases (show d = 0 ∨ d = 1 ∨ d = 2 ∨ d = 3 ∨ d = 4 by omega) with rfl | rfl | rfl | rfl | rfl <;> decide
    rw [spec_l2Table.l8, impl_sums.l8]
    by_cases hn : (d : Int) < (l.length : Int)
    · have hn' : d < l.length := by omega
      have c1 : (0 : Int) ≤ (d : Int) ∧ (d : Int) < (l.length : Int) := by omega
      have hdie : dieB (l.getD d (Ar.zero 6)) = true := by
        rw [List.getD_eq_getElem?_getD, List.getElem?_eq_getElem hn']
        exact hd _ (List.getElem_mem hn')
      obtain ⟨r, r1, r2, r3⟩ := table_l11 K hK l d hn' hdie t ((726 : Int) ^ d) (30 * (d : Int)) h3 hp.2 (by omega) (by omega) K 0 (Ar.zero 121) (by omega) (by omega) (by
        intro j _ _
        rw [ar_get_zero]
        exact ⟨by simp, fun _ => rfl⟩)
      rw [if_pos hn, if_pos hn, if_pos c1, show spec_l2Table.l11 K l (d : Int) t K 0 (Ar.zero 121) = some r from r1, show impl_sums.l11 K l (d : Int) t K 0 (Ar.zero 121) = some r from r2, w1 d (by omega)]
      simp only [some_bind]
      refine ih (d + 1) r (by omega) (by omega) ?_
      rw [Int.pow_succ, show (30 : Int) * ((d + 1 : Nat) : Int) = 30 * (d : Int) + 30 by omega]
      exact r3
    · rw [if_neg hn, if_neg hn]
      refine ⟨t, rfl, rfl, fun j hj0 hj1 => ?_⟩
      have hj := h3 j hj0 hj1
      exact ⟨⟨hj.1.1, by omega⟩, fun h => by omega⟩
theorem table_eq (K : Nat) (hK : 1000 ≤ K) (l : List (Ar 6)) (hl : l.length ≤ 4) (hd : ∀ a ∈ l, dieB a = true) : ∃ r, spec_l2Table.f K l = some r ∧ impl_sums.f K l = some r ∧ Tab 120 1000000000000 r := by
  obtain ⟨r, r1, r2, r3⟩ := table_l8 K hK l hl hd K 0 ((Ar.zero 121).set 0 1) (by omega) (by omega) (by
    intro j hj0 hj1
    rw [ar_get_set _ _ _ _ (by omega) (by omega) hj0, ar_get_zero]
    by_cases h : j = 0
    · rw [if_pos h]; exact ⟨by simp, fun h' => by omega⟩
    · rw [if_neg h]; exact ⟨by simp, fun _ => rfl⟩)
  unfold spec_l2Table.f impl_sums.f
  rw [show spec_l2Table.l8 K l K 0 ((Ar.zero 121).set 0 1) = some r from r1, show impl_sums.l8 K l K 0 ((Ar.zero 121).set 0 1) = some r from r2]
  exact ⟨r, rfl, rfl, r3⟩
theorem IsDie_eq (K : Nat) (hK : 2000000 ≤ K) (a : Ar 6) : impl_IsDie.f K a = some (dieB a) := die_impl K hK a
theorem allDie_l0 (K : Nat) (hK : 2000000 ≤ K) (l : List (Ar 6)) (h : l.length ≤ 1073741824) : ∀ (k n : Nat), n ≤ l.length → l.length - n < k →
    (slices_IndexFunc_6_int_6_int__areAll_6_int_1_IsDie.l0 K l k (n : Int) = some (Sum.inl ()) ∧ (l.drop n).all dieB = true) ∨ (∃ i : Int, 0 ≤ i ∧ slices_IndexFunc_6_int_6_int__areAll_6_int_1_IsDie.l0 K l k (n : Int) = some (Sum.inr i) ∧ (l.drop n).all dieB = false) := by
  intro k
  induction k with
  | zero => intro n h1 h2; omega
  | succ k ih =>
    intro n h1 h2
    rw [slices_IndexFunc_6_int_6_int__areAll_6_int_1_IsDie.l0]
    by_cases hn : (n : Int) < (l.length : Int)
    · have hn' : n < l.length := by omega
      have hnn : ((n : Int)).toNat = n := by omega
      have hd : l.drop n = l[n] :: l.drop (n + 1) := List.drop_eq_getElem_cons hn'
      have hg : l.getD n (Ar.zero 6) = l[n] := by rw [List.getD_eq_getElem?_getD, List.getElem?_eq_getElem hn']; rfl
      rw [if_pos hn, if_pos (by omega), w1 n (by omega), hnn, hg, impl_areAll_6_int_1__IsDie.f, IsDie_eq K hK, hd]
      simp only [some_bind, List.all_cons]
      rcases Bool.eq_false_or_eq_true (dieB l[n]) with e | e
      · rw [e]
        simp only [Bool.not_true, Bool.false_eq_true, if_false, Bool.true_and]
        exact ih (n + 1) (by omega) (by omega)
      · rw [e]
        simp only [Bool.not_false, if_true, Bool.false_and]
        exact .inr ⟨_, by omega, rfl, trivial⟩
    · rw [if_neg hn]
      have : n = l.length := by omega
      subst this
      exact .inl ⟨rfl, by simp⟩
theorem allDie_eq (K : Nat) (hK : 2000000 ≤ K) (l : List (Ar 6)) (h : l.length ≤ 1048576) : impl_areAll_6_int__IsDie.f K l = some (l.all dieB) := by
  unfold impl_areAll_6_int__IsDie.f slices_ContainsFunc_6_int_6_int__areAll_6_int_1_IsDie.f slices_IndexFunc_6_int_6_int__areAll_6_int_1_IsDie.f
  rcases allDie_l0 K hK l (by omega) K 0 (by omega) (by omega) with ⟨h1, h2⟩ | ⟨i, hi, h1, h2⟩
  · rw [show (0 : Int) = ((0 : Nat) : Int) from rfl, h1]
    simp only [some_bind, List.drop_zero] at h2 ⊢
    rw [h2]; rfl
  · rw [show (0 : Int) = ((0 : Nat) : Int) from rfl, h1]
    simp only [some_bind, List.drop_zero] at h2 ⊢
    rw [h2]
    have : decide (((0 : Nat) : Int) ≤ i) = true := decide_eq_true (by simpa using hi)
    rw [this]; rfl
theorem capDie_l0 (K : Nat) (hK : 2000000 ≤ K) (l : List (Ar 6)) (h : l.length ≤ 1073741824) : ∀ (k n : Nat), n ≤ l.length → l.length - n < k →
    (spec_l2Pool.l0 K l k (n : Int) = some (Sum.inl ()) ∧ ((l.length : Int) ≤ 4 → (l.drop n).all dieB = true)) ∨ (spec_l2Pool.l0 K l k (n : Int) = some (Sum.inr false) ∧ (l.drop n).all dieB = false) := by
  intro k
  induction k with
  | zero => intro n h1 h2; omega
  | succ k ih =>
    intro n h1 h2
    rw [spec_l2Pool.l0]
    by_cases hn : (n : Int) < (l.length : Int)
    · rw [if_pos hn]
      by_cases hc : (n : Int) ≤ 4
      · have hn' : n < l.length := by omega
        have hnn : ((n : Int)).toNat = n := by omega
        have hd : l.drop n = l[n] :: l.drop (n + 1) := List.drop_eq_getElem_cons hn'
        have hg : l.getD n (Ar.zero 6) = l[n] := by rw [List.getD_eq_getElem?_getD, List.getElem?_eq_getElem hn']; rfl
        rw [if_pos hc, if_pos (by omega), w1 n (by omega), hnn, hg, die_spec K hK, hd]
        simp only [some_bind, List.all_cons]
        rcases Bool.eq_false_or_eq_true (dieB l[n]) with e | e
        · rw [e]
          simp only [if_true, Bool.true_and]
          exact ih (n + 1) (by omega) (by omega)
        · rw [e]
          simp only [Bool.false_eq_true, if_false, Bool.false_and]
          exact .inr ⟨trivial, trivial⟩
      · rw [if_neg hc]
        exact .inl ⟨rfl, fun h => by omega⟩
    · rw [if_neg hn]
      have : n = l.length := by omega
      subst this
      exact .inl ⟨rfl, by simp⟩
def poolB (l : List (Ar 6)) : Bool := decide ((1 : Int) ≤ l.length ∧ (l.length : Int) ≤ 4) && l.all dieB
theorem pool_spec (K : Nat) (hK : 2000000 ≤ K) (l : List (Ar 6)) (h : l.length ≤ 1048576) : spec_l2Pool.f K l = some (poolB l) := by
  unfold spec_l2Pool.f poolB
  rcases capDie_l0 K hK l (by omega) K 0 (by omega) (by omega) with ⟨h1, h2⟩ | ⟨h1, h2⟩
  · rw [show (0 : Int) = ((0 : Nat) : Int) from rfl, h1, in_within]
    simp only [some_bind, List.drop_zero, in_eq] at h2 ⊢
    by_cases hc : (l.length : Int) ≤ 4
    · rw [h2 hc]; simp [hc]
    · simp [hc]
  · rw [show (0 : Int) = ((0 : Nat) : Int) from rfl, h1]
    simp only [some_bind, List.drop_zero] at h2 ⊢
    rw [h2]; simp
theorem pool_impl (K : Nat) (hK : 2000000 ≤ K) (l : List (Ar 6)) (h : l.length ≤ 1048576) : impl_IsPool.f K l = some (poolB l) := by
  unfold impl_IsPool.f poolB
  rw [in_eq, allDie_eq K hK l h]
  simp only [some_bind]
  by_cases hc : (1 : Int) ≤ l.length ∧ (l.length : Int) ≤ 4 <;> simp [hc]
theorem pool_good (l : List (Ar 6)) (h : poolB l = true) : (1 ≤ l.length ∧ l.length ≤ 4) ∧ ∀ a ∈ l, dieB a = true := by
  unfold poolB at h
  simp only [Bool.and_eq_true, decide_eq_true_eq, List.all_eq_true] at h
  exact ⟨by omega, h.2⟩
theorem toA6 (K : Nat) (hK : 8 ≤ K) (a : Ar 6) : laws_toIntA6.f K a = some a := by
  obtain ⟨k, rfl⟩ := Nat.exists_eq_add_of_le hK
  obtain ⟨x, y, z, u, v, w, rfl⟩ := Ar.cases6 a
  have e : 8 + k = k + 1 + 1 + 1 + 1 + 1 + 1 + 1 + 1 := by omega
  unfold laws_toIntA6.f
  rw [e]
  simp only [laws_toIntA6.l0, show (0 : Int) < 6 by decide, show wrap64 (0 + 1) = 1 by decide +kernel, show wrap64 (1 + 1) = 2 by decide +kernel, show wrap64 (2 + 1) = 3 by decide +kernel, show wrap64 (3 + 1) = 4 by decide +kernel, show wrap64 (4 + 1) = 5 by decide +kernel, show wrap64 (5 + 1) = 6 by decide +kernel, if_true, show (0 : Int) ≤ 0 ∧ True by decide]
  rfl
theorem toA6S_l0 (K : Nat) (hK : 8 ≤ K) (l : List (Ar 6)) (h : l.length ≤ 1073741824) : ∀ (k n : Nat) (out : List (Ar 6)), out.length = l.length → out.take n = l.take n → n ≤ l.length → l.length - n < k → laws_toIntA6S.l0 K l k (n : Int) out = some l := by
  intro k
  induction k with
  | zero => intro n out h1 h2 h3 h4; omega
  | succ k ih =>
    intro n out h1 h2 h3 h4
    rw [laws_toIntA6S.l0]
    by_cases hn : (n : Int) < (l.length : Int)
    · have hn' : n < l.length := by omega
      rw [if_pos hn, if_pos (by omega), toA6 K hK, some_bind, if_pos (by omega), w1 n (by omega)]
      refine ih (n + 1) _ (by simp [h1]) ?_ (by omega) (by omega)
      have hnn : ((n : Int)).toNat = n := by omega
      rw [hnn, List.take_add_one, List.take_add_one, List.take_set_of_le (Nat.le_refl n), h2]
      rw [List.getElem?_set_self (by omega)]
      congr 1
      rw [List.getD_eq_getElem?_getD, List.getElem?_eq_getElem hn']
      rfl
    · rw [if_neg hn]
      have : n = l.length := by omega
      subst this
      rw [← h1, List.take_length, h1, List.take_length] at h2
      rw [h2]
theorem toA6S (K : Nat) (l : List (Ar 6)) (h : l.length ≤ 1048576) (hK : 2000000 ≤ K) : laws_toIntA6S.f K l = some l := by
  unfold laws_toIntA6S.f
  rw [if_pos (by omega), show (0 : Int) = ((0 : Nat) : Int) from rfl, toA6S_l0 K (by omega) l (by omega) K 0 _ (by simp) (by simp) (by omega) (by omega)]
  rfl
theorem sizeA6S (K : Nat) (l : List (Ar 6)) (h : l.length ≤ maxLen) : (laws_szIntA6S.f K l 1048576 = some (-1) ∧ 1048576 < l.length) ∨ (∃ r : Int, 0 ≤ r ∧ laws_szIntA6S.f K l 1048576 = some r ∧ l.length ≤ 1048576) := by
  have hm : l.length ≤ 2 ^ 63 - 1 := h
  unfold laws_szIntA6S.f
  have e : wrap64 (1048576 - (l.length : Int)) = 1048576 - (l.length : Int) := w64 (by omega) (by omega)
  rw [e]
  by_cases hc : (1048576 : Int) - (l.length : Int) < 0
  · rw [if_pos hc]; exact .inl ⟨rfl, by omega⟩
  · rw [if_neg hc]; exact .inr ⟨_, by omega, rfl, by omega⟩
theorem eqA6 (K : Nat) (hK : 8 ≤ K) (a : Ar 6) : laws_eqIntA6.f K a a = some true := by
  obtain ⟨k, rfl⟩ := Nat.exists_eq_add_of_le hK
  rw [show 8 + k = k + 1 + 1 + 1 + 1 + 1 + 1 + 1 + 1 by omega]
  simp [laws_eqIntA6.f, laws_eqIntA6.l0, wrap64]
theorem eqA6S_l0 (K : Nat) (hK : 8 ≤ K) (l : List (Ar 6)) (h : l.length ≤ 1073741824) : ∀ (k n : Nat), n ≤ l.length → l.length - n < k → laws_eqIntA6S.l0 K l l k (n : Int) = some (Sum.inl ()) := by
  intro k
  induction k with
  | zero => intro n h1 h2; omega
  | succ k ih =>
    intro n h1 h2
    rw [laws_eqIntA6S.l0]
    by_cases hn : (n : Int) < (l.length : Int)
    · rw [if_pos hn, if_pos (by omega), if_pos (by omega), eqA6 K hK, some_bind, if_pos rfl, w1 n (by omega)]
      exact ih (n + 1) (by omega) (by omega)
    · rw [if_neg hn]
theorem eqA6S (K : Nat) (l : List (Ar 6)) (h : l.length ≤ 1048576) (hK : 2000000 ≤ K) : laws_eqIntA6S.f K l l = some true := by
  unfold laws_eqIntA6S.f
  rw [if_pos rfl, show (0 : Int) = ((0 : Nat) : Int) from rfl, eqA6S_l0 K (by omega) l (by omega) K 0 (by omega) (by omega)]
  rfl
theorem markA6_l3 (K : Nat) (d : Nat) : ∀ (k n : Nat) (a : Int) (out : List (Ar 6)), n ≤ 6 → 6 - n < k → 0 ≤ a → a ≤ 1000000000000 → d < out.length → out.length ≤ 1073741824 → ∃ out', laws_markIntA6S.l3 K (d : Int) k (a + n) (n : Int) out = some (a + 6, out') ∧ out'.length = out.length := by
  intro k
  induction k with
  | zero => intro n a out h1 h2; omega
  | succ k ih =>
    intro n a out h1 h2 h3 h4 h5 h6
    rw [laws_markIntA6S.l3]
    by_cases hn : (n : Int) < 6
    · rw [if_pos hn, if_pos (by omega), if_pos (by omega), w1 n (by omega), show wrap64 (a + (n : Int) + 1) = a + ((n + 1 : Nat) : Int) by rw [w64 (by omega) (by omega)]; omega]
      obtain ⟨o, h7, h8⟩ := ih (n + 1) a (out.set ((d : Int)).toNat ((out.getD ((d : Int)).toNat (Ar.zero 6)).set (n : Int) (a + (n : Int)))) (by omega) (by omega) h3 h4 (by simp; omega) (by simp; omega)
      exact ⟨o, h7, by simpa using h8⟩
    · have : n = 6 := by omega
      subst this
      rw [if_neg hn]
      exact ⟨out, rfl, rfl⟩
theorem markA6_l2 (K : Nat) (hK : 10 ≤ K) : ∀ (k d : Nat) (a : Int) (out : List (Ar 6)), d ≤ out.length → out.length - d < k → 0 ≤ a → a ≤ 6 * d + 1000 → out.length ≤ 1073741824 → ∃ m out', laws_markIntA6S.l2 K k a (d : Int) out = some (m, out') ∧ 0 ≤ m := by
  intro k
  induction k with
  | zero => intro d a out h1 h2; omega
  | succ k ih =>
    intro d a out h1 h2 h3 h4 h5
    rw [laws_markIntA6S.l2]
    by_cases hn : (d : Int) < (out.length : Int)
    · obtain ⟨o, h7, h8⟩ := markA6_l3 K d K 0 a out (by omega) (by omega) h3 (by omega) (by omega) h5
      have h7' : laws_markIntA6S.l3 K (d : Int) K a 0 out = some (a + 6, o) := by simpa using h7
      rw [if_pos hn, h7', w1 d (by omega)]
      simp only [some_bind]
      exact ih (d + 1) (a + 6) o (by omega) (by omega) (by omega) (by omega) (by omega)
    · rw [if_neg hn]; exact ⟨a, out, rfl, h3⟩
theorem markA6S (K : Nat) (hK : 2000000 ≤ K) (l : List (Ar 6)) (h : l.length ≤ 1048576) : ∃ m out', laws_markIntA6S.f K l 1 = some (m, out') ∧ 0 ≤ m := by
  obtain ⟨m, o, h1, h2⟩ := markA6_l2 K (by omega) K 0 1 l (by omega) (by omega) (by omega) (by omega) (by omega)
  unfold laws_markIntA6S.f
  rw [show laws_markIntA6S.l2 K K 1 0 l = some (m, o) from h1]
  exact ⟨m, o, rfl, h2⟩
theorem eqS_l0 (K : Nat) (l : List Int) (h : l.length ≤ 1073741824) : ∀ (k n : Nat), n ≤ l.length → l.length - n < k → laws_eqIntS.l0 K l l k (n : Int) = some (Sum.inl ()) := by
  intro k
  induction k with
  | zero => intro n h1 h2; omega
  | succ k ih =>
    intro n h1 h2
    rw [laws_eqIntS.l0]
    by_cases hn : (n : Int) < (l.length : Int)
    · rw [if_pos hn, if_pos (by omega), if_pos (by omega), if_pos rfl, w1 n (by omega)]
      exact ih (n + 1) (by omega) (by omega)
    · rw [if_neg hn]
theorem eqS (K : Nat) (l : List Int) (h : l.length ≤ 1048576) (hK : 2000000 ≤ K) : laws_eqIntS.f K l l = some true := by
  unfold laws_eqIntS.f
  rw [if_pos rfl, show (0 : Int) = ((0 : Nat) : Int) from rfl, eqS_l0 K l (by omega) K 0 (by omega) (by omega)]
  rfl
def marksS (a : Int) : Nat → List Int
  | 0 => []
  | n + 1 => a :: marksS (a + 1) n
theorem marksS_length : ∀ (n : Nat) (a : Int), (marksS a n).length = n
  | 0, _ => rfl
  | n + 1, a => by simp [marksS, marksS_length n]
theorem marksS_get : ∀ (n : Nat) (a : Int) (i : Nat), i < n → (marksS a n)[i]? = some (a + i)
  | 0, _, i, h => by omega
  | n + 1, a, 0, _ => by simp [marksS]
  | n + 1, a, i + 1, h => by
    simp only [marksS, List.getElem?_cons_succ]
    rw [marksS_get n (a + 1) i (by omega)]
    congr 1
    omega
theorem markS_l0 (K : Nat) (l : List Int) (N : Nat) (a : Int) (h0 : 0 ≤ a) (h : N ≤ 1073741824) (ha : a ≤ 1073741824) : ∀ (k n : Nat) (out : List Int), out.length = N → out.take n = (marksS a N).take n → n ≤ N → N - n < k → laws_markIntS.l0 K l k (a + n) (n : Int) out = some (a + N, marksS a N) := by
  intro k
  induction k with
  | zero => intro n out h1 h2 h3 h4; omega
  | succ k ih =>
    intro n out h1 h2 h3 h4
    rw [laws_markIntS.l0]
    by_cases hn : (n : Int) < (out.length : Int)
    · have hn' : n < N := by omega
      rw [if_pos hn, if_pos (by omega), w1 n (by omega)]
      rw [show wrap64 (a + (n : Int) + 1) = a + ((n + 1 : Nat) : Int) by rw [w64 (by omega) (by omega)]; omega]
      refine ih (n + 1) _ (by simp [h1]) ?_ (by omega) (by omega)
      have hnn : ((n : Int)).toNat = n := by omega
      rw [hnn, List.take_add_one, List.take_add_one, List.take_set_of_le (Nat.le_refl n), h2]
      rw [List.getElem?_set_self (by omega), marksS_get N a n hn']
    · rw [if_neg hn]
      have : n = N := by omega
      subst this
      have h5 : out = marksS a n := by
        have e1 : out.take n = out := by rw [← h1]; exact List.take_length
        have e2 : (marksS a n).take n = marksS a n := by
          conv => lhs; rw [← marksS_length n a]
          rw [marksS_length]; exact List.take_of_length_le (by rw [marksS_length]; omega)
        rw [e1, e2] at h2
        exact h2
      rw [h5]
theorem heldS_l0 (K : Nat) (N : Nat) (a : Int) (h0 : 0 ≤ a) (h : N ≤ 1073741824) (ha : a ≤ 1073741824) : ∀ (k n : Nat), n ≤ N → N - n < k → laws_heldIntS.l0 K (marksS a N) k (a + n) (n : Int) = some (Sum.inl (a + N)) := by
  intro k
  induction k with
  | zero => intro n h3 h4; omega
  | succ k ih =>
    intro n h3 h4
    rw [laws_heldIntS.l0, marksS_length]
    by_cases hn : (n : Int) < (N : Int)
    · have hn' : n < N := by omega
      have hnn : ((n : Int)).toNat = n := by omega
      rw [if_pos hn, if_pos (by omega), w1 n (by omega), hnn, List.getD_eq_getElem?_getD, marksS_get N a n hn', Option.getD_some, if_pos rfl]
      rw [show wrap64 (a + (n : Int) + 1) = a + ((n + 1 : Nat) : Int) by rw [w64 (by omega) (by omega)]; omega]
      exact ih (n + 1) (by omega) (by omega)
    · rw [if_neg hn]
      have : n = N := by omega
      subst this
      rfl
theorem markS (K : Nat) (l : List Int) (a : Int) (h0 : 0 ≤ a) (ha : a ≤ 1073741824) (h : l.length ≤ 100000000) (hK : 200000000 ≤ K) : laws_markIntS.f K l a = some (a + l.length, marksS a l.length) := by
  unfold laws_markIntS.f
  have := markS_l0 K l l.length a h0 (by omega) ha K 0 l rfl (by simp) (by omega) (by omega)
  simp only [Int.natCast_zero, Int.add_zero] at this
  rw [this]; rfl
theorem heldS (K : Nat) (N : Nat) (a : Int) (h0 : 0 ≤ a) (ha : a ≤ 1073741824) (h : N ≤ 100000000) (hK : 200000000 ≤ K) : laws_heldIntS.f K (marksS a N) a = some (a + N) := by
  unfold laws_heldIntS.f
  have := heldS_l0 K N a h0 (by omega) ha K 0 (by omega) (by omega)
  simp only [Int.natCast_zero, Int.add_zero] at this
  rw [this]; rfl
theorem rem_l0 (K : Nat) (l : List (Ar 6)) (t : Ar 121) (a : Int) (ha : 1 ≤ a ∧ a ≤ 40) : ∀ (k n : Nat) (out : List Int), n ≤ 121 → 121 - n < k → (out.length : Int) = a → ∃ r, spec_l9Mod.l0 K l a t k (n : Int) out = some r ∧ impl_remainders.l0 K l a t k (n : Int) out = some r ∧ (r.length : Int) = a := by
  intro k
  induction k with
  | zero => intro n out h1 h2; omega
  | succ k ih =>
    intro n out h1 h2 h3
    rw [spec_l9Mod.l0, impl_remainders.l0]
    by_cases hn : (n : Int) < 121
    · have c1 : (0 : Int) ≤ (n : Int) ∧ (n : Int) < 121 := by omega
      have c2 : a ≠ 0 := by omega
      have c3 : 0 ≤ (n : Int).tmod a ∧ (n : Int).tmod a < (out.length : Int) := by
        have := Int.tmod_nonneg (a := (n : Int)) a (by omega)
        have := Int.tmod_lt_of_pos (n : Int) (b := a) (by omega)
        omega
      simp only [if_pos hn, if_pos c1, if_pos c2, if_pos c3, w1 n (by omega)]
      exact ih (n + 1) _ (by omega) (by omega) (by simp; omega)
    · rw [if_neg hn, if_neg hn]; exact ⟨out, rfl, rfl, h3⟩
theorem rem_same (K : Nat) (hK : 2000000 ≤ K) (l : List (Ar 6)) (hp : poolB l = true) (a : Int) (ha : 1 ≤ a ∧ a ≤ 40) : ∃ r, spec_l9Mod.f K l a = some r ∧ impl_remainders.f K l a = some r ∧ (r.length : Int) = a := by
  obtain ⟨⟨g1, g2⟩, g3⟩ := pool_good l hp
  obtain ⟨t, t1, t2, t3⟩ := table_eq K (by omega) l g2 g3
  obtain ⟨r, r1, r2, r3⟩ := rem_l0 K l t a ha K 0 (List.replicate a.toNat 0) (by omega) (by omega) (by simp; omega)
  have r1' : spec_l9Mod.l0 K l a t K 0 (List.replicate a.toNat 0) = some r := r1
  have r2' : impl_remainders.l0 K l a t K 0 (List.replicate a.toNat 0) = some r := r2
  have c : 0 ≤ a ∧ a ≤ 1073741824 := by omega
  unfold spec_l9Mod.f impl_remainders.f
  simp only [if_pos c, t1, t2, some_bind, r1', r2']
  exact ⟨r, rfl, rfl, r3⟩
theorem max_l0 (K : Nat) (l : List Int) (h : l.length ≤ 1073741824) : ∀ (k n : Nat) (m : Int), n ≤ l.length → l.length - n < k → ∃ r, slices_Max_int_int.l0 K l k m (n : Int) = some r ∧ m ≤ r ∧ (∀ x ∈ l.drop n, x ≤ r) ∧ (r = m ∨ r ∈ l.drop n) := by
  intro k
  induction k with
  | zero => intro n m h1 h2; omega
  | succ k ih =>
    intro n m h1 h2
    rw [slices_Max_int_int.l0]
    by_cases hn : (n : Int) < (l.length : Int)
    · have hn' : n < l.length := by omega
      have hnn : ((n : Int)).toNat = n := by omega
      have hd : l.drop n = l[n] :: l.drop (n + 1) := List.drop_eq_getElem_cons hn'
      have hg : l.getD n 0 = l[n] := by rw [List.getD_eq_getElem?_getD, List.getElem?_eq_getElem hn']; rfl
      rw [if_pos hn, if_pos (by omega), w1 n (by omega), hnn, hg, hd]
      obtain ⟨r, r1, r2, r3, r4⟩ := ih (n + 1) (if l[n] > m then l[n] else m) (by omega) (by omega)
      refine ⟨r, r1, ?_, ?_, ?_⟩
      · split at r2 <;> omega
      · intro x hx
        rcases List.mem_cons.1 hx with rfl | hx
        · split at r2 <;> omega
        · exact r3 x hx
      · rcases r4 with r4 | r4
        · split at r4
          · exact .inr (by rw [r4]; exact List.mem_cons_self)
          · exact .inl r4
        · exact .inr (List.mem_cons_of_mem _ r4)
    · rw [if_neg hn]
      have : n = l.length := by omega
      subst this
      exact ⟨m, rfl, Int.le_refl _, by simp, .inl rfl⟩
theorem min_l0 (K : Nat) (l : List Int) (h : l.length ≤ 1073741824) : ∀ (k n : Nat) (m : Int), n ≤ l.length → l.length - n < k → ∃ r, slices_Min_int_int.l0 K l k m (n : Int) = some r ∧ r ≤ m ∧ (∀ x ∈ l.drop n, r ≤ x) ∧ (r = m ∨ r ∈ l.drop n) := by
  intro k
  induction k with
  | zero => intro n m h1 h2; omega
  | succ k ih =>
    intro n m h1 h2
    rw [slices_Min_int_int.l0]
    by_cases hn : (n : Int) < (l.length : Int)
    · have hn' : n < l.length := by omega
      have hnn : ((n : Int)).toNat = n := by omega
      have hd : l.drop n = l[n] :: l.drop (n + 1) := List.drop_eq_getElem_cons hn'
      have hg : l.getD n 0 = l[n] := by rw [List.getD_eq_getElem?_getD, List.getElem?_eq_getElem hn']; rfl
      rw [if_pos hn, if_pos (by omega), w1 n (by omega), hnn, hg, hd]
      obtain ⟨r, r1, r2, r3, r4⟩ := ih (n + 1) (if l[n] < m then l[n] else m) (by omega) (by omega)
      refine ⟨r, r1, ?_, ?_, ?_⟩
      · split at r2 <;> omega
      · intro x hx
        rcases List.mem_cons.1 hx with rfl | hx
        · split at r2 <;> omega
        · exact r3 x hx
      · rcases r4 with r4 | r4
        · split at r4
          · exact .inr (by rw [r4]; exact List.mem_cons_self)
          · exact .inl r4
        · exact .inr (List.mem_cons_of_mem _ r4)
    · rw [if_neg hn]
      have : n = l.length := by omega
      subst this
      exact ⟨m, rfl, Int.le_refl _, by simp, .inl rfl⟩
theorem maxmin_eq (K : Nat) (hK : 2000000 ≤ K) (l : List Int) (h0 : 1 ≤ l.length) (h : l.length ≤ 1048576) : ∃ a b, slices_Max_int_int.f K l = some a ∧ slices_Min_int_int.f K l = some b ∧ (a = b ↔ ∀ x ∈ l.drop 1, x = l.getD 0 0) := by
  unfold slices_Max_int_int.f slices_Min_int_int.f
  have c1 : ¬ (l.length : Int) < 1 := by omega
  have c2 : (0 : Int) ≤ 0 ∧ (0 : Int) < (l.length : Int) := by omega
  obtain ⟨a, a1, a2, a3, a4⟩ := max_l0 K l (by omega) K 1 (l.getD 0 0) (by omega) (by omega)
  obtain ⟨b, b1, b2, b3, b4⟩ := min_l0 K l (by omega) K 1 (l.getD 0 0) (by omega) (by omega)
  have a1' : slices_Max_int_int.l0 K l K (l.getD 0 0) 1 = some a := a1
  have b1' : slices_Min_int_int.l0 K l K (l.getD 0 0) 1 = some b := b1
  have z : ((0 : Int)).toNat = 0 := rfl
  rw [if_neg c1, if_neg c1, if_pos c2, if_pos c2, z, a1', b1']
  refine ⟨a, b, rfl, rfl, ?_, ?_⟩
  · intro hab x hx
    have := a3 x hx
    have := b3 x hx
    omega
  · intro hx
    have e1 : a = l.getD 0 0 := by
      rcases a4 with h | h
      · exact h
      · exact hx a h
    have e2 : b = l.getD 0 0 := by
      rcases b4 with h | h
      · exact h
      · exact hx b h
    omega
theorem fair_l3 (K : Nat) (l : List Int) (hl : l.length ≤ 1000) (h0 : 1 ≤ l.length) : ∀ (k n : Nat) (b : Bool), n ≤ l.length → l.length - n < k → ∃ r, spec_FairSizes.l3 K (l.length : Int) l k b (n : Int) = some r ∧ (r = true ↔ b = true ∧ ∀ x ∈ l.drop n, x = l.getD 0 0) := by
  intro k
  induction k with
  | zero => intro n b h1 h2; omega
  | succ k ih =>
    intro n b h1 h2
    rw [spec_FairSizes.l3]
    by_cases hn : (n : Int) < (l.length : Int)
    · have hn' : n < l.length := by omega
      have hnn : ((n : Int)).toNat = n := by omega
      have hd : l.drop n = l[n] :: l.drop (n + 1) := List.drop_eq_getElem_cons hn'
      have hg : l.getD n 0 = l[n] := by rw [List.getD_eq_getElem?_getD, List.getElem?_eq_getElem hn']; rfl
      have c1 : (0 : Int) ≤ (n : Int) ∧ (n : Int) < (l.length : Int) := by omega
      have c2 : (0 : Int) ≤ 0 ∧ (0 : Int) < (l.length : Int) := by omega
      rw [if_pos hn, if_pos c1, if_pos c2, w1 n (by omega), hnn, hg, hd, show ((0 : Int)).toNat = 0 from rfl]
      cases b with
      | false =>
        rw [if_neg (by simp)]
        obtain ⟨r, r1, r2⟩ := ih (n + 1) false (by omega) (by omega)
        exact ⟨r, r1, by rw [r2]; simp⟩
      | true =>
        rw [if_pos rfl]
        obtain ⟨r, r1, r2⟩ := ih (n + 1) (decide (l[n] = l.getD 0 0)) (by omega) (by omega)
        exact ⟨r, r1, by rw [r2, decide_eq_true_eq, List.forall_mem_cons]; simp only [true_and]⟩
    · rw [if_neg hn]
      have : n = l.length := by omega
      subst this
      exact ⟨b, rfl, by simp⟩
theorem fair_l2 (K : Nat) (hK : 2000000 ≤ K) (l : List (Ar 6)) (hp : poolB l = true) : ∀ (k n : Nat) (out : List Int), 1 ≤ n → n ≤ 41 → 41 - n < k → out.length ≤ n → ∃ r, spec_FairSizes.l2 K l k (n : Int) out = some r ∧ impl_FairSizes.l0 K l k (n : Int) out = some r ∧ r.length ≤ 1000 := by
  intro k
  induction k with
  | zero => intro n out h0 h1 h2; omega
  | succ k ih =>
    intro n out h0 h1 h2 h3
    rw [spec_FairSizes.l2, impl_FairSizes.l0]
    by_cases hn : (n : Int) ≤ 40
    · obtain ⟨t, t1, t2, t3⟩ := rem_same K hK l hp (n : Int) (by omega)
      obtain ⟨a, b, a1, b1, ab⟩ := maxmin_eq K hK t (by omega) (by omega)
      obtain ⟨r, r1, r2⟩ := fair_l3 K t (by omega) (by omega) K 1 true (by omega) (by omega)
      have r1' : spec_FairSizes.l3 K (n : Int) t K true 1 = some r := by rw [← t3]; exact r1
      have hr : r = true ↔ a = b := by rw [r2, ab]; simp
      simp only [if_pos hn, t1, t2, a1, b1, r1', some_bind, w1 n (by omega)]
      have c : out.length + [(n : Int)].length ≤ 1073741824 := by simp; omega
      by_cases hab : a = b
      · rw [if_pos (hr.2 hab), if_pos hab, if_pos c, if_pos c]
        exact ih (n + 1) _ (by omega) (by omega) (by omega) (by simp; omega)
      · rw [if_neg (fun h => hab (hr.1 h)), if_neg hab]
        exact ih (n + 1) _ (by omega) (by omega) (by omega) (by omega)
    · rw [if_neg hn, if_neg hn]; exact ⟨out, rfl, rfl, by omega⟩
theorem FairSizes_same (K : Nat) (hK : 2000000 ≤ K) (l : List (Ar 6)) (h : l.length ≤ 1048576) : ∃ r b, spec_FairSizes.f K l = some (r, b) ∧ impl_FairSizes.f K l = some (r, b) ∧ r.length ≤ 1000 := by
  unfold spec_FairSizes.f impl_FairSizes.f
  rw [pool_spec K hK l h, pool_impl K hK l h]
  simp only [some_bind]
  cases hp : poolB l with
  | false => exact ⟨[], false, rfl, rfl, by simp⟩
  | true =>
    obtain ⟨r, r1, r2, r3⟩ := fair_l2 K hK l hp K 1 [] (by omega) (by omega) (by omega) (by simp)
    have r1' : spec_FairSizes.l2 K l K 1 [] = some r := r1
    have r2' : impl_FairSizes.l0 K l K 1 [] = some r := r2
    refine ⟨r, true, ?_, ?_, r3⟩
    · simp only [if_true, r1', some_bind]
    · simp only [if_true, r2', some_bind]
theorem FairSizes_pure (l0 : List (Ar 6)) (m : l0.length ≤ maxLen) (_w : ∀ z ∈ l0, ∀ y ∈ z.l, (Lit.int .i64 y).wf = true) : ∃ K, laws_FnExactFairSizes.f K l0 = some true := by
  refine ⟨200000000, ?_⟩
  unfold laws_FnExactFairSizes.f
  rcases sizeA6S 200000000 l0 m with ⟨h, _⟩ | ⟨z, hz, h, h'⟩
  · rw [h]; rfl
  · rw [h]
    obtain ⟨r, b, h1, h2, h3⟩ := FairSizes_same 200000000 (by omega) l0 h'
    obtain ⟨m1, o, h4, h5⟩ := markA6S 200000000 (by omega) l0 h'
    have m2 := markS 200000000 r 1 (by omega) (by omega) (by omega) (by omega)
    have m3 := heldS 200000000 r.length 1 (by omega) (by omega) (by omega) (by omega)
    have i1 : ¬ m1 < 0 := by omega
    have i2 : ¬ (1 : Int) + r.length < 0 := by omega
    have i3 : ¬ z < 0 := by omega
    have t1 := toA6S 200000000 l0 h' (by omega)
    have q1 := eqA6S 200000000 l0 h' (by omega)
    have q2 := eqS 200000000 r (by omega) (by omega)
    simp only [t1, h1, h2, q1, q2, h4, m2, m3, some_bind, i1, i2, i3, if_true, if_false, beq_self_eq_true]
end Go.Proofs.Ytbknafijehakbaa.WFairSizes

/- The plain law: what the walk shows to be computed answers true. Conditions: the numbers are 64-bit. -/
import Derived.Test.YtnjfmhgmbfemdaaWChanceAll
import Derived.KernelRfl
namespace Go.Proofs.Ytnjfmhgmbfemdaa.WChanceAll
open Go.K Go.RowKit
set_option linter.unusedVariables false
set_option linter.unusedSimpArgs false

theorem in_eq (K : Nat) (a lo hi : Int) : impl_within.f K a lo hi = some (decide (lo ≤ a ∧ a ≤ hi)) := by
  unfold impl_within.f
  by_cases h : lo ≤ a <;> simp [h]
theorem in_within : spec_l1In.f = impl_within.f := by kernel_rfl
def faceB (a : Int) : Bool := decide (0 ≤ a ∧ a ≤ 30)
theorem isFace_eq (K : Nat) (_hK : 2000000 ≤ K) (a : Int) : impl_isFace.f K a = some (faceB a) := by
  unfold impl_isFace.f
  rw [in_eq]; rfl
theorem w1 (n : Nat) (h : n ≤ 4000000000000000000) : wrap64 ((n : Int) + 1) = ((n + 1 : Nat) : Int) := by rw [w64 (by omega) (by omega)]; omega
theorem allFace_l0 (K : Nat) (hK : 2000000 ≤ K) (l : List Int) (h : l.length ≤ 1073741824) : ∀ (k n : Nat), n ≤ l.length → l.length - n < k →
    (slices_IndexFunc_int_int__areAll_int_1_isFace.l0 K l k (n : Int) = some (Sum.inl ()) ∧ (l.drop n).all faceB = true) ∨ (∃ i : Int, 0 ≤ i ∧ slices_IndexFunc_int_int__areAll_int_1_isFace.l0 K l k (n : Int) = some (Sum.inr i) ∧ (l.drop n).all faceB = false) := by
  intro k
  induction k with
  | zero => intro n h1 h2; omega
  | succ k ih =>
    intro n h1 h2
    rw [slices_IndexFunc_int_int__areAll_int_1_isFace.l0]
    by_cases hn : (n : Int) < (l.length : Int)
    · have hn' : n < l.length := by omega
      have hnn : ((n : Int)).toNat = n := by omega
      have hd : l.drop n = l[n] :: l.drop (n + 1) := List.drop_eq_getElem_cons hn'
      have hg : l.getD n (0 : Int) = l[n] := by rw [List.getD_eq_getElem?_getD, List.getElem?_eq_getElem hn']; rfl
      rw [if_pos hn, if_pos (by omega), w1 n (by omega), hnn, hg, impl_areAll_int_1__isFace.f, isFace_eq K hK, hd]
      simp only [some_bind, List.all_cons]
      rcases Bool.eq_false_or_eq_true (faceB l[n]) with e | e
      · rw [e]
        simp only [Bool.not_true, Bool.false_eq_true, if_false, Bool.true_and]
        exact ih (n + 1) (by omega) (by omega)
      · rw [e]
        simp only [Bool.not_false, if_true, Bool.false_and]
        exact .inr ⟨_, by omega, rfl, trivial⟩
    · rw [if_neg hn]
      have : n = l.length := by omega
      subst this
      exact .inl ⟨rfl, by simp⟩
theorem allFace_eq (K : Nat) (hK : 2000000 ≤ K) (l : List Int) (h : l.length ≤ 1048576) : impl_areAll_int__isFace.f K l = some (l.all faceB) := by
  unfold impl_areAll_int__isFace.f slices_ContainsFunc_int_int__areAll_int_1_isFace.f slices_IndexFunc_int_int__areAll_int_1_isFace.f
  rcases allFace_l0 K hK l (by omega) K 0 (by omega) (by omega) with ⟨h1, h2⟩ | ⟨i, hi, h1, h2⟩
  · rw [show (0 : Int) = ((0 : Nat) : Int) from rfl, h1]
    simp only [some_bind, List.drop_zero] at h2 ⊢
    rw [h2]; rfl
  · rw [show (0 : Int) = ((0 : Nat) : Int) from rfl, h1]
    simp only [some_bind, List.drop_zero] at h2 ⊢
    rw [h2]
    have : decide (((0 : Nat) : Int) ≤ i) = true := decide_eq_true (by simpa using hi)
    rw [this]; rfl
def dieP (a : Ar 6) : Prop := ((0 ≤ a.get 0 ∧ a.get 0 ≤ 30) ∧ (0 ≤ a.get 1 ∧ a.get 1 ≤ 30) ∧ (0 ≤ a.get 2 ∧ a.get 2 ≤ 30) ∧ (0 ≤ a.get 3 ∧ a.get 3 ≤ 30) ∧ (0 ≤ a.get 4 ∧ a.get 4 ≤ 30) ∧ (0 ≤ a.get 5 ∧ a.get 5 ≤ 30)) ∧ (a.get 0 ≤ a.get 1 ∧ a.get 1 ≤ a.get 2 ∧ a.get 2 ≤ a.get 3 ∧ a.get 3 ≤ a.get 4 ∧ a.get 4 ≤ a.get 5)
instance (a : Ar 6) : Decidable (dieP a) := by unfold dieP; infer_instance
def dieB (a : Ar 6) : Bool := decide (dieP a)
theorem die_get (x y z u v w : Int) : (Ar.get (⟨[x, y, z, u, v, w], rfl⟩ : Ar 6) 0 = x ∧ Ar.get (⟨[x, y, z, u, v, w], rfl⟩ : Ar 6) 1 = y ∧ Ar.get (⟨[x, y, z, u, v, w], rfl⟩ : Ar 6) 2 = z) ∧ (Ar.get (⟨[x, y, z, u, v, w], rfl⟩ : Ar 6) 3 = u ∧ Ar.get (⟨[x, y, z, u, v, w], rfl⟩ : Ar 6) 4 = v ∧ Ar.get (⟨[x, y, z, u, v, w], rfl⟩ : Ar 6) 5 = w) := ⟨⟨rfl, rfl, rfl⟩, rfl, rfl, rfl⟩
set_option maxHeartbeats 4000000 in
theorem die_spec (K : Nat) (hK : 2000000 ≤ K) (a : Ar 6) : spec_l2Die.f K a = some (dieB a) := by
  obtain ⟨k, rfl⟩ := Nat.exists_eq_add_of_le (show 8 ≤ K by omega)
  obtain ⟨x, y, z, u, v, w, rfl⟩ := Ar.cases6 a
  have e : 8 + k = k + 1 + 1 + 1 + 1 + 1 + 1 + 1 + 1 := by omega
  unfold spec_l2Die.f dieB dieP
  obtain ⟨⟨g0, g1, g2⟩, g3, g4, g5⟩ := die_get x y z u v w
  rw [e]
  simp only [spec_l2Die.l0, in_within, in_eq, some_bind, show (0 : Int) < 6 by decide, show wrap64 (0 + 1) = 1 by decide +kernel, show wrap64 (1 + 1) = 2 by decide +kernel, show wrap64 (2 + 1) = 3 by decide +kernel, show wrap64 (3 + 1) = 4 by decide +kernel, show wrap64 (4 + 1) = 5 by decide +kernel, show wrap64 (5 + 1) = 6 by decide +kernel, show wrap64 (1 - 1) = 0 by decide +kernel, show wrap64 (2 - 1) = 1 by decide +kernel, show wrap64 (3 - 1) = 2 by decide +kernel, show wrap64 (4 - 1) = 3 by decide +kernel, show wrap64 (5 - 1) = 4 by decide +kernel, g0, g1, g2, g3, g4, g5, decide_eq_true_eq]
  simp
  repeat' split
  all_goals simp_all
  all_goals omega
set_option maxHeartbeats 4000000 in
theorem die_impl (K : Nat) (hK : 2000000 ≤ K) (a : Ar 6) : impl_IsDie.f K a = some (dieB a) := by
  obtain ⟨x, y, z, u, v, w, rfl⟩ := Ar.cases6 a
  unfold impl_IsDie.f dieB dieP
  rw [allFace_eq K hK _ (by simp)]
  obtain ⟨k, rfl⟩ := Nat.exists_eq_add_of_le (show 8 ≤ K by omega)
  have e : 8 + k = k + 1 + 1 + 1 + 1 + 1 + 1 + 1 + 1 := by omega
  obtain ⟨⟨g0, g1, g2⟩, g3, g4, g5⟩ := die_get x y z u v w
  unfold slices_IsSorted_int_int.f
  rw [e]
  simp [slices_IsSorted_int_int.l0, cmp_Less_int.f, cmp_isNaN_int.f, some_bind, show wrap64 (6 - 1) = 5 by decide +kernel, show wrap64 5 = 5 by decide +kernel, show wrap64 (5 - 1) = 4 by decide +kernel, show wrap64 (4 - 1) = 3 by decide +kernel, show wrap64 (3 - 1) = 2 by decide +kernel, show wrap64 (2 - 1) = 1 by decide +kernel, show wrap64 (1 - 1) = 0 by decide +kernel, show wrap64 4 = 4 by decide +kernel, show wrap64 3 = 3 by decide +kernel, show wrap64 2 = 2 by decide +kernel, show wrap64 1 = 1 by decide +kernel, show wrap64 0 = 0 by decide +kernel, g0, g1, g2, g3, g4, g5, faceB]
  repeat' split
  all_goals simp_all
  all_goals omega
def wt (a : Ar 6) (x : Int) : Nat := a.l.count x
theorem wt_le (a : Ar 6) (x : Int) : wt a x ≤ 6 := by
  have := List.count_le_length (a := x) (l := a.l)
  rw [a.h] at this
  exact this
theorem ar_drop (a : Ar 6) (n : Nat) (h : n < 6) : a.l.drop n = a.get (n : Int) :: a.l.drop (n + 1) := by
  have hn : n < a.l.length := by rw [a.h]; exact h
  rw [List.drop_eq_getElem_cons hn]
  congr 1
  unfold Ar.get
  rw [show ((n : Int)).toNat = n by omega, List.getD_eq_getElem?_getD, List.getElem?_eq_getElem hn]
  rfl
theorem weight_l0 (K : Nat) (a : Ar 6) (x : Int) : ∀ (k n m : Nat), n ≤ 6 → 6 - n < k → m ≤ n → spec_l8Weight.l0 K a x k (m : Int) (n : Int) = some ((m + (a.l.drop n).count x : Nat) : Int) ∧ impl_weight.l0 K a x k (m : Int) (n : Int) = some ((m + (a.l.drop n).count x : Nat) : Int) := by
  intro k
  induction k with
  | zero => intro n m h1 h2; omega
  | succ k ih =>
    intro n m h1 h2 h3
    rw [spec_l8Weight.l0, impl_weight.l0]
    by_cases hn : (n : Int) < 6
    · have c2 : (0 : Int) ≤ (n : Int) ∧ (n : Int) < 6 := by omega
      have e1 : wrap64 ((n : Int) + 1) = ((n + 1 : Nat) : Int) := w1 n (by omega)
      have e2 : wrap64 ((m : Int) + 1) = ((m + 1 : Nat) : Int) := w1 m (by omega)
      have e3 : wrap64 ((m : Int) + 0) = (m : Int) := by rw [w64 (by omega) (by omega)]; omega
      simp only [if_pos hn, if_pos c2, e1, e2, impl_truth.f, decide_eq_true_eq]
      rw [ar_drop a n (by omega), List.count_cons]
      by_cases hx : a.get (n : Int) = x
      · simp only [if_pos hx, some_bind, e2]
        rw [(ih (n + 1) (m + 1) (by omega) (by omega) (by omega)).1, (ih (n + 1) (m + 1) (by omega) (by omega) (by omega)).2]
        simp [hx]
        omega
      · simp only [if_neg hx, some_bind, e3]
        rw [(ih (n + 1) m (by omega) (by omega) (by omega)).1, (ih (n + 1) m (by omega) (by omega) (by omega)).2]
        simp [hx]
    · rw [if_neg hn, if_neg hn]
      have : n = 6 := by omega
      subst this
      have : a.l.drop 6 = [] := List.drop_of_length_le (by rw [a.h]; omega)
      rw [this]
      exact ⟨rfl, rfl⟩
theorem weight_eq (K : Nat) (hK : 10 ≤ K) (a : Ar 6) (x : Int) : spec_l8Weight.f K a x = some (wt a x : Int) ∧ impl_weight.f K a x = some (wt a x : Int) := by
  have := weight_l0 K a x K 0 0 (by omega) (by omega) (by omega)
  simp only [Nat.zero_add, List.drop_zero] at this
  unfold spec_l8Weight.f impl_weight.f
  rw [show spec_l8Weight.l0 K a x K 0 0 = _ from this.1, show impl_weight.l0 K a x K 0 0 = _ from this.2]
  exact ⟨rfl, rfl⟩
/-- The different numbers of the first j, in their order. -/
def ddS (l : List Int) : Nat → List Int
  | 0 => []
  | j + 1 => if 0 < j ∧ l.getD j 0 = l.getD (j - 1) 0 then ddS l j else ddS l j ++ [l.getD j 0]
theorem ddS_len (l : List Int) : ∀ j, (ddS l j).length ≤ j
  | 0 => by simp [ddS]
  | j + 1 => by
    have := ddS_len l j
    rw [ddS]
    split
    · omega
    · rw [List.length_append, List.length_singleton]; omega
theorem ddS_prop (l : List Int) (n : Nat) (hm : ∀ i, i + 1 < n → l.getD i 0 ≤ l.getD (i + 1) 0) : ∀ j, j + 1 ≤ n → ∃ xs, ddS l (j + 1) = xs ++ [l.getD j 0] ∧ (∀ x ∈ xs, x < l.getD j 0) ∧ (ddS l (j + 1)).Pairwise (· < ·) := by
  intro j
  induction j with
  | zero =>
    intro h
    exact ⟨[], by simp [ddS], by simp, by simp [ddS]⟩
  | succ j ih =>
    intro h
    obtain ⟨xs, h1, h2, h3⟩ := ih (by omega)
    rw [ddS]
    by_cases hc : l.getD (j + 1) 0 = l.getD j 0
    · rw [if_pos ⟨by omega, by rw [Nat.add_sub_cancel]; exact hc⟩, hc]
      exact ⟨xs, h1, h2, h3⟩
    · rw [if_neg (fun h => hc (by have := h.2; rw [Nat.add_sub_cancel] at this; exact this))]
      have hlt : l.getD j 0 < l.getD (j + 1) 0 := by have := hm j (by omega); omega
      have hall : ∀ x ∈ ddS l (j + 1), x < l.getD (j + 1) 0 := by
        intro x hx
        rw [h1] at hx
        rcases List.mem_append.1 hx with hx | hx
        · have := h2 x hx; omega
        · rw [List.mem_singleton.1 hx]; exact hlt
      refine ⟨ddS l (j + 1), rfl, hall, ?_⟩
      rw [List.pairwise_append]
      exact ⟨h3, by simp, fun x hx y hy => by rw [List.mem_singleton.1 hy]; exact hall x hx⟩
theorem put_l0 (K : Nat) (xs : List Int) (x : Int) (hl : xs.length ≤ 100) (m : Nat) (hm : m ≤ xs.length) (h1 : ∀ i, i < m → xs.getD i 0 < x) (h2 : m = xs.length ∨ ¬ xs.getD m 0 < x) : ∀ (k n : Nat), n ≤ m → m - n < k → spec_l1Put.l0 K xs x k (n : Int) = some (m : Int) := by
  intro k
  induction k with
  | zero => intro n h3 h4; omega
  | succ k ih =>
    intro n h3 h4
    rw [spec_l1Put.l0]
    by_cases hn : n = m
    · rw [hn]
      rcases h2 with h2 | h2
      · rw [if_neg (by omega)]
      · by_cases h5 : m < xs.length
        · rw [if_pos (by omega), if_pos (by omega), Int.toNat_natCast, if_neg h2]
        · rw [if_neg (by omega)]
    · rw [if_pos (by omega), if_pos (by omega), Int.toNat_natCast, if_pos (h1 n (by omega)), w1' n (by omega)]
      exact ih (n + 1) (by omega) (by omega)
theorem getD_mem (xs : List Int) (i : Nat) (h : i < xs.length) : xs.getD i 0 ∈ xs := by rw [getD_nat _ _ _ h]; exact List.getElem_mem h
theorem put_new (K : Nat) (hK : 200 ≤ K) (xs : List Int) (x : Int) (hl : xs.length ≤ 100) (h : ∀ y ∈ xs, y < x) : spec_l1Put.f K xs x = some (xs ++ [x]) := by
  have h0 := put_l0 K xs x hl xs.length (Nat.le_refl _) (fun i hi => h _ (getD_mem xs i hi)) (.inl rfl) K 0 (by omega) (by omega)
  unfold spec_l1Put.f
  rw [show spec_l1Put.l0 K xs x K 0 = _ from h0, some_bind, if_neg (by omega), if_pos (by omega), Int.toNat_natCast, List.take_length, List.drop_length, List.drop_zero, List.nil_append, if_pos (by simp; omega), if_pos (by simp; omega), if_pos (by omega), if_pos (by simp; omega), List.append_nil]
theorem put_old (K : Nat) (hK : 200 ≤ K) (ys : List Int) (x : Int) (hl : ys.length < 100) (h : ∀ y ∈ ys, y < x) : spec_l1Put.f K (ys ++ [x]) x = some (ys ++ [x]) := by
  have hlen : (ys ++ [x]).length = ys.length + 1 := by simp
  have hg : (ys ++ [x]).getD ys.length 0 = x := by rw [getD_nat _ _ _ (by omega)]; simp
  have h0 := put_l0 K (ys ++ [x]) x (by omega) ys.length (by omega) (fun i hi => by
    rw [getD_nat _ _ _ (by omega), List.getElem_append_left hi]
    exact h _ (List.getElem_mem hi)) (.inr (by rw [hg]; omega)) K 0 (by omega) (by omega)
  unfold spec_l1Put.f
  rw [show spec_l1Put.l0 K (ys ++ [x]) x K 0 = _ from h0, some_bind, if_pos (by omega), if_pos (by omega), Int.toNat_natCast, hg, if_pos rfl]
theorem ar_getD (a : Ar 6) (n : Nat) : a.get (n : Int) = a.l.getD n 0 := by
  unfold Ar.get
  rw [Int.toNat_natCast]
theorem die_mono (a : Ar 6) (h : dieB a = true) : ∀ i, i + 1 < 6 → a.l.getD i 0 ≤ a.l.getD (i + 1) 0 := by
  have h := of_decide_eq_true h
  obtain ⟨_, h1, h2, h3, h4, h5⟩ := h
  intro i hi
  rcases (show i = 0 ∨ i = 1 ∨ i = 2 ∨ i = 3 ∨ i = 4 by omega) with rfl | rfl | rfl | rfl | rfl
  · exact h1
  · exact h2
  · exact h3
  · exact h4
  · exact h5
theorem numbers_spec (K : Nat) (hK : 200 ≤ K) (a : Ar 6) (h : dieB a = true) : spec_l8Numbers.f K a = some (ddS a.l 6) := by
  have key : ∀ (k n : Nat), n ≤ 6 → 6 - n < k → spec_l8Numbers.l0 K a k (n : Int) (ddS a.l n) = some (ddS a.l 6) := by
    intro k
    induction k with
    | zero => intro n h1 h2; omega
    | succ k ih =>
      intro n h1 h2
      rw [spec_l8Numbers.l0]
      by_cases hn : n < 6
      · have hp : spec_l1Put.f K (ddS a.l n) (a.get (n : Int)) = some (ddS a.l (n + 1)) := by
          rw [ar_getD, ddS]
          have hlen := ddS_len a.l n
          by_cases h0 : n = 0
          · subst h0
            rw [if_neg (by omega)]
            exact put_new K hK _ _ (by omega) (by simp [ddS])
          · obtain ⟨j, rfl⟩ : ∃ j, n = j + 1 := ⟨n - 1, by omega⟩
            obtain ⟨xs, p1, p2, p3⟩ := ddS_prop a.l 6 (die_mono a h) j (by omega)
            have hxl : xs.length < 100 := by rw [p1] at hlen; simp at hlen; omega
            by_cases hc : a.l.getD (j + 1) 0 = a.l.getD j 0
            · rw [if_pos ⟨by omega, by rw [Nat.add_sub_cancel]; exact hc⟩, hc, p1]
              exact put_old K hK xs _ hxl p2
            · rw [if_neg (fun h => hc (by have := h.2; rw [Nat.add_sub_cancel] at this; exact this))]
              have hlt : a.l.getD j 0 < a.l.getD (j + 1) 0 := by have := die_mono a h j (by omega); omega
              apply put_new K hK _ _ (by omega)
              intro x hx
              rw [p1] at hx
              rcases List.mem_append.1 hx with hx | hx
              · have := p2 x hx; omega
              · rw [List.mem_singleton.1 hx]; exact hlt
        rw [if_pos (by omega), if_pos (by omega), hp, some_bind, w1' n (by omega)]
        exact ih (n + 1) (by omega) (by omega)
      · rw [if_neg (by omega)]
        have : n = 6 := by omega
        rw [this]
  unfold spec_l8Numbers.f
  rw [show spec_l8Numbers.l0 K a K 0 ([] : List Int) = _ from key K 0 (by omega) (by omega)]
  rfl
theorem take_succ_getD (l : List Int) (n : Nat) (h : n < l.length) : l.take (n + 1) = l.take n ++ [l.getD n 0] := by
  rw [List.take_succ_eq_append_getElem h, getD_nat _ _ _ h]
theorem getD_set_ne (v : List Int) (m p : Nat) (x : Int) (h : m ≠ p) : (v.set m x).getD p 0 = v.getD p 0 := by
  rw [List.getD_eq_getElem?_getD, List.getD_eq_getElem?_getD, List.getElem?_set_ne h]
theorem getD_td (v : List Int) (n i j : Nat) (hv : v.length = n) : ((v.take n).drop i).getD j 0 = v.getD (i + j) 0 := by
  rw [← hv, List.take_length, List.getD_eq_getElem?_getD, List.getElem?_drop, List.getD_eq_getElem?_getD]
theorem compact_l3 (K : Nat) (l : List Int) (hl : l.length = 6) (i0 : Nat) (hi0 : 1 ≤ i0) : ∀ (k m j : Nat) (v : List Int), 7 - j < k → 1 ≤ j → i0 + j ≤ 6 → m ≤ i0 + j - 1 → v.length = 6 → (∀ p, i0 + j - 1 ≤ p → v.getD p 0 = l.getD p 0) → v.take m = ddS l (i0 + j) →
    ∃ (m' : Nat) (v' : List Int), slices_Compact_int_int.l3 K l (i0 : Int) k (m : Int) (j : Int) v = some ((m' : Int), v') ∧ m' ≤ 6 ∧ v'.length = 6 ∧ v'.take m' = ddS l 6 := by
  intro k
  induction k with
  | zero => intro m j v h1; omega
  | succ k ih =>
    intro m j v h1 h2 h3 h4 h5 h6 h7
    have hlen : ((v.take l.length).drop i0).length = 6 - i0 := by rw [List.length_drop, List.length_take, h5, hl]; omega
    rw [slices_Compact_int_int.l3]
    simp only [Int.toNat_natCast, hlen]
    rw [if_pos (show 0 ≤ (i0 : Int) ∧ (i0 : Int) ≤ (l.length : Int) ∧ (l.length : Int) ≤ (v.length : Int) by omega)]
    by_cases hj : i0 + j < 6
    · obtain ⟨q, rfl⟩ : ∃ q, j = q + 1 := ⟨j - 1, by omega⟩
      rw [if_pos (show ((q + 1 : Nat) : Int) < ((6 - i0 : Nat) : Int) by omega), if_pos (show 0 ≤ ((q + 1 : Nat) : Int) ∧ ((q + 1 : Nat) : Int) < ((6 - i0 : Nat) : Int) by omega), w1p q (by omega), if_pos (show 0 ≤ (q : Int) ∧ (q : Int) < ((6 - i0 : Nat) : Int) by omega), Int.toNat_natCast, getD_td v l.length i0 (q + 1) (by omega), getD_td v l.length i0 q (by omega), h6 (i0 + (q + 1)) (by omega), h6 (i0 + q) (by omega), w1' (q + 1) (by omega), w1' m (by omega)]
      have hd : ddS l (i0 + (q + 1) + 1) = if 0 < i0 + (q + 1) ∧ l.getD (i0 + (q + 1)) 0 = l.getD (i0 + (q + 1) - 1) 0 then ddS l (i0 + (q + 1)) else ddS l (i0 + (q + 1)) ++ [l.getD (i0 + (q + 1)) 0] := rfl
      by_cases hc : l.getD (i0 + (q + 1)) 0 = l.getD (i0 + q) 0
      · rw [if_pos hc]
        rw [if_pos ⟨by omega, by rw [show i0 + (q + 1) - 1 = i0 + q by omega]; exact hc⟩] at hd
        exact ih m (q + 1 + 1) v (by omega) (by omega) (by omega) (by omega) h5 (fun p hp => h6 p (by omega)) (by rw [h7, ← hd]; rfl)
      · rw [if_neg hc, if_pos (show 0 ≤ (m : Int) ∧ (m : Int) < (v.length : Int) by omega)]
        rw [if_neg (fun h => hc (by have := h.2; rw [show i0 + (q + 1) - 1 = i0 + q by omega] at this; exact this))] at hd
        refine ih (m + 1) (q + 1 + 1) (v.set m (l.getD (i0 + (q + 1)) 0)) (by omega) (by omega) (by omega) (by omega) (by rw [List.length_set]; exact h5) (fun p hp => ?_) ?_
        · rw [getD_set_ne _ _ _ _ (by omega)]
          exact h6 p (by omega)
        · rw [take_succ_getD _ _ (by rw [List.length_set]; omega), List.take_set_of_le (Nat.le_refl _), h7]
          rw [show i0 + (q + 1 + 1) = i0 + (q + 1) + 1 by omega, hd]
          congr 2
          rw [getD_nat _ _ _ (by rw [List.length_set]; omega), List.getElem_set_self]
    · rw [if_neg (show ¬ (j : Int) < ((6 - i0 : Nat) : Int) by omega)]
      exact ⟨m, v, rfl, by omega, h5, by rw [h7, show i0 + j = 6 by omega]⟩
theorem putAt_take (v z : List Int) (m : Nat) (h : m ≤ v.length) : (putAt v m z).take m = v.take m := by
  unfold putAt
  rw [List.append_assoc, List.take_append_of_le_length (by rw [List.length_take]; omega), List.take_take, Nat.min_self]
theorem compact_eq (K : Nat) (hK : 200 ≤ K) (l : List Int) (hl : l.length = 6) : slices_Compact_int_int.f K l = some (ddS l 6) := by
  have key : ∀ (k n : Nat), 1 ≤ n → n ≤ 6 → 6 - n < k → l.take n = ddS l n → (slices_Compact_int_int.l2 K l k (n : Int) = some (Sum.inl ()) ∧ l = ddS l 6) ∨ slices_Compact_int_int.l2 K l k (n : Int) = some (Sum.inr (ddS l 6)) := by
    intro k
    induction k with
    | zero => intro n h1 h2 h3; omega
    | succ k ih =>
      intro n h1 h2 h3 h4
      rw [slices_Compact_int_int.l2]
      by_cases hn : n < 6
      · obtain ⟨j, rfl⟩ : ∃ j, n = j + 1 := ⟨n - 1, by omega⟩
        rw [if_pos (by omega), if_pos (by omega), w1p j (by omega), if_pos (by omega), Int.toNat_natCast, Int.toNat_natCast]
        have hd : ddS l (j + 1 + 1) = if 0 < j + 1 ∧ l.getD (j + 1) 0 = l.getD (j + 1 - 1) 0 then ddS l (j + 1) else ddS l (j + 1) ++ [l.getD (j + 1) 0] := rfl
        by_cases hc : l.getD (j + 1) 0 = l.getD j 0
        · rw [if_pos hc, if_pos (by omega)]
          rw [if_pos ⟨by omega, by rw [Nat.add_sub_cancel]; exact hc⟩] at hd
          obtain ⟨m', v', i1, i2, i3, i4⟩ := compact_l3 K l hl (j + 1) (by omega) K (j + 1) 1 l (by omega) (by omega) (by omega) (by omega) hl (fun _ _ => rfl) (by rw [h4, ← hd])
          rw [show slices_Compact_int_int.l3 K l ((j + 1 : Nat) : Int) K ((j + 1 : Nat) : Int) 1 l = _ from i1]
          simp only [some_bind, Int.toNat_natCast, List.drop_zero]
          have hpl : (putAt v' m' (List.replicate (v'.length - m') 0)).length = 6 := by
            unfold putAt
            simp only [List.length_append, List.length_take, List.length_replicate, List.length_drop]
            omega
          rw [if_pos (by omega), if_pos (by rw [hpl]; omega), putAt_take _ _ _ (by omega), i4]
          exact .inr rfl
        · rw [if_neg hc, w1' (j + 1) (by omega)]
          rw [if_neg (fun h => hc (by have := h.2; rw [Nat.add_sub_cancel] at this; exact this))] at hd
          exact ih (j + 1 + 1) (by omega) (by omega) (by omega) (by rw [take_succ_getD _ _ (by omega), h4, hd])
      · rw [if_neg (by omega)]
        have : n = 6 := by omega
        subst this
        rw [← hl, List.take_length, hl] at h4
        exact .inl ⟨rfl, h4⟩
  unfold slices_Compact_int_int.f
  rw [if_neg (by omega)]
  rcases key K 1 (by omega) (by omega) (by omega) (by rw [take_succ_getD _ _ (by omega)]; simp [ddS]) with ⟨h1, h2⟩ | h1
  · rw [show slices_Compact_int_int.l2 K l K 1 = _ from h1, some_bind]
    rw [← h2]
  · rw [show slices_Compact_int_int.l2 K l K 1 = _ from h1, some_bind]
theorem numbers_impl (K : Nat) (hK : 200 ≤ K) (a : Ar 6) : impl_numbers.f K a = some (ddS a.l 6) := by
  unfold impl_numbers.f slices_Clone_int_int.f
  rw [if_pos (by rw [a.h]; omega), some_bind, compact_eq K hK _ a.h, some_bind]
def tbit (s i : Nat) : Bool := decide (Go.bits .and .i64 ((s : Int).fdiv (2 ^ (min (i : Int).toNat 64))) 1 = 1)
/-- The weight of a set of numbers, up to the i-th. -/
def sI (ws : List Nat) (s : Nat) : Nat → Nat
  | 0 => 0
  | i + 1 => if tbit s i then sI ws s i + ws.getD i 0 else sI ws s i
def gI (s : Nat) : Nat → Int
  | 0 => 1
  | i + 1 => if tbit s i then 0 - gI s i else gI s i
def pc : Nat → Nat → Int → Int
  | 0, _, x => x
  | f + 1, s, x => if 0 < s then pc f (s / 2) (if s % 2 = 1 then 0 - x else x) else x
theorem gI_one (s : Nat) : ∀ i, gI s i = 1 ∨ gI s i = -1
  | 0 => .inl rfl
  | i + 1 => by
    rw [gI]
    rcases gI_one s i with h | h <;> rw [h] <;> split <;> simp
theorem sI_le (ws : List Nat) (h : ∀ i, ws.getD i 0 ≤ 6) (s : Nat) : ∀ i, sI ws s i ≤ 6 * i
  | 0 => Nat.le_refl _
  | i + 1 => by
    have := sI_le ws h s i
    have := h i
    rw [sI]; split <;> omega
def wsOf (a : Ar 6) (D : List Int) : List Nat := D.map (wt a)
theorem wsOf_get (a : Ar 6) (D : List Int) (i : Nat) (h : i < D.length) : (wsOf a D).getD i 0 = wt a (D.getD i 0) := by
  unfold wsOf
  rw [List.getD_eq_getElem?_getD, List.getElem?_map, List.getElem?_eq_getElem h, getD_nat _ _ _ h]
  rfl
theorem wsOf_le (a : Ar 6) (D : List Int) (i : Nat) : (wsOf a D).getD i 0 ≤ 6 := by
  by_cases h : i < D.length
  · rw [wsOf_get a D i h]; exact wt_le _ _
  · unfold wsOf
    rw [List.getD_eq_getElem?_getD, List.getElem?_map, List.getElem?_eq_none (by omega)]
    simp
theorem sets_l3 (K : Nat) (hK : 20 ≤ K) (a : Ar 6) (D : List Int) (hD : D.length ≤ 6) (s : Nat) : ∀ (k n : Nat), n ≤ D.length → D.length - n < k → spec_l8Sets.l3 K a D (s : Int) k (sI (wsOf a D) s n : Int) (n : Int) = some (sI (wsOf a D) s D.length : Int) := by
  intro k
  induction k with
  | zero => intro n h1 h2; omega
  | succ k ih =>
    intro n h1 h2
    rw [spec_l8Sets.l3]
    by_cases hn : n < D.length
    · have hb := sI_le (wsOf a D) (wsOf_le a D) s n
      have hw := wt_le a (D.getD n 0)
      rw [if_pos (by omega), if_pos (by omega), Int.toNat_natCast, (weight_eq K (by omega) a (D.getD n 0)).1, some_bind, if_pos (show 0 ≤ (n : Int) ∧ (n : Int) < (D.length : Int) by omega), w1' n (by omega)]
      by_cases hc : tbit s n = true
      · have hc' : Go.bits .and .i64 ((s : Int).fdiv (2 ^ (min n 64))) 1 = 1 := by
          have := of_decide_eq_true hc
          rw [Int.toNat_natCast] at this
          exact this
        have hs : sI (wsOf a D) s (n + 1) = sI (wsOf a D) s n + wt a (D.getD n 0) := by rw [sI, if_pos hc, wsOf_get a D n hn]
        have e : wrap64 ((sI (wsOf a D) s n : Int) + (wt a (D.getD n 0) : Int)) = ((sI (wsOf a D) s (n + 1) : Nat) : Int) := by rw [w64 (by omega) (by omega)]; omega
        rw [if_pos hc', e]
        exact ih (n + 1) (by clear e; omega) (by clear e; omega)
      · have hc' : ¬ Go.bits .and .i64 ((s : Int).fdiv (2 ^ (min n 64))) 1 = 1 := by
          intro h
          apply hc
          unfold tbit
          rw [Int.toNat_natCast]
          exact decide_eq_true h
        have hs : sI (wsOf a D) s n = sI (wsOf a D) s (n + 1) := by rw [sI, if_neg hc]
        rw [if_neg hc', hs]
        exact ih (n + 1) (by omega) (by omega)
    · rw [if_neg (by omega)]
      have : n = D.length := by omega
      rw [this]
theorem isIn_eq (K s i : Nat) : impl_isIn.f K (s : Int) (i : Int) = some (tbit s i) := by
  unfold impl_isIn.f tbit
  rw [if_pos (by omega)]
theorem pow_shift (n : Nat) (h : n ≤ 6) : wrap64 (1 * 2 ^ (min ((n : Int) : Int).toNat 64)) = ((2 ^ n : Nat) : Int) := by
  rcases (show n = 0 ∨ n = 1 ∨ n = 2 ∨ n = 3 ∨ n = 4 ∨ n = 5 ∨ n = 6 by omega) with rfl | rfl | rfl | rfl | rfl | rfl | rfl <;> decide +kernel
theorem two_le (n : Nat) (h : n ≤ 6) : 2 ^ n ≤ 64 := by
  rcases (show n = 0 ∨ n = 1 ∨ n = 2 ∨ n = 3 ∨ n = 4 ∨ n = 5 ∨ n = 6 by omega) with rfl | rfl | rfl | rfl | rfl | rfl | rfl <;> decide
/-- The weights of all sets, in their order. -/
def allS (ws : List Nat) : List Int := (List.range (2 ^ ws.length)).map fun s => (sI ws s ws.length : Int)
theorem allS_len (ws : List Nat) : (allS ws).length = 2 ^ ws.length := by simp [allS]
theorem wsOf_len (a : Ar 6) (D : List Int) : (wsOf a D).length = D.length := by simp [wsOf]
theorem sets_eq (K : Nat) (hK : 2000000 ≤ K) (a : Ar 6) (h : dieB a = true) : spec_l8Sets.f K a = some (allS (wsOf a (ddS a.l 6))) := by
  have hD := ddS_len a.l 6
  obtain ⟨N, hN⟩ : ∃ N, N = 2 ^ (ddS a.l 6).length := ⟨_, rfl⟩
  have hsh := pow_shift _ hD
  have h64 := two_le _ hD
  rw [← hN] at hsh h64
  have key : ∀ (k n : Nat), n ≤ N → N - n < k → spec_l8Sets.l2 K a (ddS a.l 6) k (n : Int) ((List.range n).map fun s => (sI (wsOf a (ddS a.l 6)) s (ddS a.l 6).length : Int)) = some ((List.range N).map fun s => (sI (wsOf a (ddS a.l 6)) s (ddS a.l 6).length : Int)) := by
    intro k
    induction k with
    | zero => intro n h1 h2; omega
    | succ k ih =>
      intro n h1 h2
      rw [spec_l8Sets.l2, hsh]
      rw [if_pos (show (0 : Int) ≤ ((ddS a.l 6).length : Int) by clear hsh; omega)]
      clear hsh
      by_cases hn : n < N
      · have h3 := sets_l3 K (by omega) a (ddS a.l 6) hD n K 0 (by omega) (by omega)
        rw [if_pos (by omega), show spec_l8Sets.l3 K a (ddS a.l 6) (n : Int) K 0 0 = _ from h3, some_bind, if_pos (by simp; omega), w1' n (by omega)]
        have := ih (n + 1) (by omega) (by omega)
        rw [List.range_succ, List.map_append] at this
        exact this
      · rw [if_neg (by omega)]
        have : n = N := by omega
        rw [this]
  clear hsh
  unfold spec_l8Sets.f
  rw [numbers_spec K (by omega) a h, some_bind]
  have := key K 0 (by omega) (by omega)
  rw [show spec_l8Sets.l2 K a (ddS a.l 6) K 0 ([] : List Int) = _ from this]
  unfold allS
  rw [wsOf_len, hN]
  rfl
theorem sign_eq (K : Nat) : ∀ (f s k : Nat) (x : Int), s < 2 ^ f → f < k → s ≤ 64 → (x = 1 ∨ x = -1) → spec_l8Sign.l0 K k (s : Int) x = some (pc f s x) := by
  intro f
  induction f with
  | zero =>
    intro s k x h1 h2 h4 h3
    obtain ⟨k, rfl⟩ : ∃ q, k = q + 1 := ⟨k - 1, by omega⟩
    rw [spec_l8Sign.l0, if_neg (by simp at h1; omega)]
    rfl
  | succ f ih =>
    intro s k x h1 h2 h4 h3
    obtain ⟨k, rfl⟩ : ∃ q, k = q + 1 := ⟨k - 1, by omega⟩
    rw [Nat.pow_succ] at h1
    rw [spec_l8Sign.l0, pc]
    by_cases hs : 0 < s
    · have hm : (s : Int).tmod 2 = ((s % 2 : Nat) : Int) := by rw [Int.tmod_eq_emod_of_nonneg (by omega)]; rfl
      have hd : (s : Int).tdiv 2 = ((s / 2 : Nat) : Int) := by rw [Int.tdiv_eq_ediv_of_nonneg (by omega)]; rfl
      have e1 : wrap64 ((s / 2 : Nat) : Int) = ((s / 2 : Nat) : Int) := w64 (by omega) (by omega)
      have e2 : wrap64 (0 - x) = 0 - x := by clear e1; exact w64 (by omega) (by omega)
      rw [if_pos (by clear e1 e2; omega), if_pos hs, hm, hd, e1, e2]
      clear e1 e2
      by_cases hc : s % 2 = 1
      · rw [if_pos (by omega), if_pos hc]
        exact ih _ _ _ (by omega) (by omega) (by omega) (by omega)
      · rw [if_neg (by omega), if_neg hc]
        exact ih _ _ _ (by omega) (by omega) (by omega) h3
    · rw [if_neg (by omega), if_neg hs]
theorem sign_gI : ∀ n : Fin 7, ∀ s : Fin 64, s.val < 2 ^ n.val → gI s.val n.val = pc 6 s.val 1 := by decide +kernel
theorem sign_all (K : Nat) (hK : 20 ≤ K) (n s : Nat) (hn : n ≤ 6) (hs : s < 2 ^ n) : spec_l8Sign.f K (s : Int) = some (gI s n) := by
  have h64 := two_le n hn
  unfold spec_l8Sign.f
  rw [sign_eq K 6 s K 1 (by simp; omega) (by omega) (by omega) (.inl rfl), some_bind, sign_gI ⟨n, by omega⟩ ⟨s, by omega⟩ hs]
/-! the weights sum up to six -/
theorem count_sum : ∀ (D l : List Int), D.Pairwise (· < ·) → (∀ x ∈ l, x ∈ D) → (D.map fun d => l.count d).sum = l.length := by
  intro D l hD
  induction l with
  | nil =>
    intro _
    have : ∀ D : List Int, (D.map fun d => ([] : List Int).count d).sum = 0 := by
      intro D
      induction D with
      | nil => rfl
      | cons d D ih => rw [List.map_cons, List.sum_cons, ih]; rfl
    exact this D
  | cons x l ih =>
    intro h
    have e : (D.map fun d => (x :: l).count d) = D.map fun d => (l.count d + if x = d then 1 else 0) := by
      apply List.map_congr_left
      intro d _
      rw [List.count_cons]
      simp only [beq_iff_eq]
    have two : ∀ D : List Int, (D.map fun d => (l.count d + if x = d then 1 else 0)).sum = (D.map fun d => l.count d).sum + (D.map fun d => if x = d then 1 else 0).sum := by
      intro D
      induction D with
      | nil => rfl
      | cons d D ih => simp only [List.map_cons, List.sum_cons, ih]; omega
    have none0 : ∀ D : List Int, (∀ d ∈ D, ¬ x = d) → (D.map fun d => if x = d then 1 else 0).sum = 0 := by
      intro D
      induction D with
      | nil => intro _; rfl
      | cons d D ih =>
        intro h
        simp only [List.map_cons, List.sum_cons]
        rw [if_neg (h d (by simp)), ih (fun d hd => h d (by simp [hd]))]
    have one : ∀ D : List Int, D.Pairwise (· < ·) → x ∈ D → (D.map fun d => if x = d then 1 else 0).sum = 1 := by
      intro D
      induction D with
      | nil => intro _ h; simp at h
      | cons d D ih =>
        intro hp hx
        rw [List.pairwise_cons] at hp
        simp only [List.map_cons, List.sum_cons]
        by_cases hxd : x = d
        · rw [if_pos hxd, none0 D (fun e he hxe => by have := hp.1 e he; omega)]
        · rw [if_neg hxd, ih hp.2 (by
            rcases List.mem_cons.1 hx with h | h
            · exact absurd h hxd
            · exact h)]
    rw [e, two, ih (fun y hy => h y (by simp [hy])), one D hD (h x (by simp)), List.length_cons]
theorem ddS_mem (l : List Int) : ∀ j, j ≤ l.length → ∀ x, x ∈ ddS l j ↔ x ∈ l.take j := by
  intro j
  induction j with
  | zero => intro _ x; simp [ddS]
  | succ j ih =>
    intro h x
    rw [ddS, take_succ_getD l j (by omega)]
    have ih := ih (by omega)
    split
    · rename_i hc
      rw [ih, List.mem_append, List.mem_singleton]
      constructor
      · exact .inl
      · rintro (h1 | h1)
        · exact h1
        · obtain ⟨q, rfl⟩ : ∃ q, j = q + 1 := ⟨j - 1, by omega⟩
          rw [h1, hc.2, Nat.add_sub_cancel, take_succ_getD l q (by omega)]
          simp
    · rw [List.mem_append, List.mem_append, ih]
theorem ws_good (a : Ar 6) (h : dieB a = true) : (∀ w ∈ wsOf a (ddS a.l 6), 0 < w) ∧ (wsOf a (ddS a.l 6)).sum = 6 := by
  have hm : ∀ x, x ∈ ddS a.l 6 ↔ x ∈ a.l := by
    intro x
    have := ddS_mem a.l 6 (by rw [a.h]; omega) x
    rw [show a.l.take 6 = a.l from List.take_of_length_le (by rw [a.h]; omega)] at this
    exact this
  constructor
  · intro w hw
    obtain ⟨x, hx, rfl⟩ := List.mem_map.1 hw
    exact List.count_pos_iff.2 ((hm x).1 hx)
  · obtain ⟨xs, _, _, hp⟩ := ddS_prop a.l 6 (die_mono a h) 5 (by omega)
    have := count_sum (ddS a.l 6) a.l hp (fun x hx => (hm x).2 hx)
    rw [a.h] at this
    exact this
/-- The ways to cut n into numbers above 0. -/
def comps : Nat → Nat → List (List Nat)
  | 0, _ => [[]]
  | f + 1, n => if n = 0 then [[]] else (List.range n).flatMap fun i => (comps f (n - (i + 1))).map fun r => (i + 1) :: r
theorem comps_mem : ∀ (ws : List Nat) (f : Nat), (∀ w ∈ ws, 0 < w) → ws.sum ≤ f → ws ∈ comps f ws.sum
  | [], f, _, _ => by
    cases f <;> simp [comps]
  | w :: r, f, h, hf => by
    have hw := h w (by simp)
    rw [List.sum_cons] at hf ⊢
    obtain ⟨f, rfl⟩ : ∃ q, f = q + 1 := ⟨f - 1, by omega⟩
    rw [comps, if_neg (by omega)]
    have ih := comps_mem r f (fun x hx => h x (by simp [hx])) (by omega)
    rw [List.mem_flatMap]
    refine ⟨w - 1, List.mem_range.2 (by omega), ?_⟩
    rw [List.mem_map]
    refine ⟨r, ?_, by rw [show w - 1 + 1 = w by omega]⟩
    rw [show w + r.sum - (w - 1 + 1) = r.sum by omega]
    exact ih
theorem ws_comps (a : Ar 6) (h : dieB a = true) : wsOf a (ddS a.l 6) ∈ comps 6 6 := by
  obtain ⟨h1, h2⟩ := ws_good a h
  have := comps_mem _ 6 h1 (by omega)
  rw [h2] at this
  exact this
/-! the same by the bits of a number, which the kernel counts fast -/
theorem tbit_fast : ∀ s : Fin 64, ∀ i : Fin 6, tbit s.val i.val = s.val.testBit i.val := by decide +kernel
def sF (ws : List Nat) (s : Nat) : Nat → Nat
  | 0 => 0
  | i + 1 => if s.testBit i then sF ws s i + ws.getD i 0 else sF ws s i
def gF (s : Nat) : Nat → Int
  | 0 => 1
  | i + 1 => if s.testBit i then 0 - gF s i else gF s i
theorem sF_eq (ws : List Nat) (s : Nat) (hs : s < 64) : ∀ n, n ≤ 6 → sI ws s n = sF ws s n ∧ gI s n = gF s n
  | 0, _ => ⟨rfl, rfl⟩
  | n + 1, h => by
    obtain ⟨h1, h2⟩ := sF_eq ws s hs n (by omega)
    rw [sI, sF, gI, gF, h1, h2, show tbit s n = s.testBit n from tbit_fast ⟨s, hs⟩ ⟨n, by omega⟩]
    exact ⟨rfl, rfl⟩
theorem cut_l0 (K : Nat) : ∀ (k : Nat) (a b : Int), 0 < a → 0 ≤ b → b < k → ∃ g, 0 < g ∧ spec_l2Cut.l0 K k a b = some g ∧ impl_fraction.l0 K k a b = some g := by
  intro k
  induction k with
  | zero => intro a b h0 h1 h2; omega
  | succ k ih =>
    intro a b h0 h1 h2
    rw [spec_l2Cut.l0, impl_fraction.l0]
    by_cases h : b = 0
    · subst h; exact ⟨a, h0, by simp, by simp⟩
    · rw [if_pos (show 0 < b by omega), if_neg h, if_pos h, if_pos h]
      have hb : 0 ≤ a.tmod b := Int.tmod_nonneg _ (by omega)
      have hc : a.tmod b < b := Int.tmod_lt_of_pos _ (by omega)
      obtain ⟨g, h3, h4, h5⟩ := ih b (a.tmod b) (by omega) hb (by omega)
      rw [h4, h5]
      exact ⟨g, h3, rfl, rfl⟩
theorem cutz_l0 (K : Nat) (k : Nat) (a b : Int) (ha : 0 ≤ a) (hb : 0 ≤ b) (h : 0 < a ∨ 0 < b) (hk : b + 1 < k) : ∃ g, 0 < g ∧ spec_l2Cut.l0 K k a b = some g ∧ impl_fraction.l0 K k a b = some g := by
  rcases Int.lt_or_eq_of_le ha with h0 | h0
  · exact cut_l0 K k a b h0 hb (by omega)
  · have hb' : 0 < b := by omega
    match k, hk with
    | 0, hk => omega
    | k + 1, hk =>
      rw [spec_l2Cut.l0, impl_fraction.l0]
      have hne : b ≠ 0 := by omega
      have h1 : (0 : Int).tmod b = 0 := Int.zero_tmod b
      subst h0
      rw [if_pos hb', if_neg hne, if_pos hne, if_pos hne, h1]
      exact cut_l0 K k b 0 hb' (by omega) (by omega)
theorem cutz_eq (K : Nat) (a b : Int) (ha : 0 ≤ a) (hb : 0 ≤ b) (h : 0 < a ∨ 0 < b) (hK : b + 1 < K) : ∃ r, spec_l2Cut.f K a b = some r ∧ impl_fraction.f K a b = some r := by
  obtain ⟨g, h1, h2, h3⟩ := cutz_l0 K K a b ha hb h hK
  unfold spec_l2Cut.f impl_fraction.f
  rw [h2, h3]
  simp only [some_bind]
  have : spec_l1Most.f K g 1 = some g := by
    unfold spec_l1Most.f
    by_cases h : 1 < g
    · rw [if_pos h]
    · rw [if_neg h, show g = 1 by omega]
  rw [this]
  simp only [some_bind]
  have hg : g ≠ 0 := by omega
  rw [if_pos hg, if_pos hg]
  exact ⟨_, rfl, rfl⟩
theorem eqA2 (K : Nat) (hK : 3 ≤ K) (a : Ar 2) : laws_eqIntA2.f K a a = some true := by
  obtain ⟨k, rfl⟩ := Nat.exists_eq_add_of_le hK
  rw [show 3 + k = k + 1 + 1 + 1 by omega]
  simp [laws_eqIntA2.f, laws_eqIntA2.l0, wrap64]

theorem toA6 (K : Nat) (hK : 8 ≤ K) (a : Ar 6) : laws_toIntA6.f K a = some a := by
  obtain ⟨k, rfl⟩ := Nat.exists_eq_add_of_le hK
  obtain ⟨x, y, z, u, v, w, rfl⟩ := Ar.cases6 a
  have e : 8 + k = k + 1 + 1 + 1 + 1 + 1 + 1 + 1 + 1 := by omega
  unfold laws_toIntA6.f
  rw [e]
  simp only [laws_toIntA6.l0, show (0 : Int) < 6 by decide, show wrap64 (0 + 1) = 1 by decide +kernel, show wrap64 (1 + 1) = 2 by decide +kernel, show wrap64 (2 + 1) = 3 by decide +kernel, show wrap64 (3 + 1) = 4 by decide +kernel, show wrap64 (4 + 1) = 5 by decide +kernel, show wrap64 (5 + 1) = 6 by decide +kernel, if_true, show (0 : Int) ≤ 0 ∧ True by decide]
  rfl
theorem all_power : spec_l2All.f = impl_power.f := by kernel_rfl
theorem pow_lt (n : Nat) (h : n ≤ 22) : (6 : Int) ^ n ≤ 131621703842267136 := by
  have : (6 : Nat) ^ n ≤ 6 ^ 22 := Nat.pow_le_pow_right (by omega) h
  have h2 : ((6 ^ n : Nat) : Int) ≤ ((6 ^ 22 : Nat) : Int) := by exact_mod_cast this
  simpa using h2
theorem pow_pos (n : Nat) : (1 : Int) ≤ 6 ^ n := by
  have : 1 ≤ (6 : Nat) ^ n := Nat.one_le_pow _ _ (by omega)
  have h2 : ((1 : Nat) : Int) ≤ ((6 ^ n : Nat) : Int) := by exact_mod_cast this
  simpa using h2
theorem power_l0 (K : Nat) (n : Nat) (hn : n ≤ 22) : ∀ (k i : Nat), i ≤ n → n - i < k → impl_power.l0 K (n : Int) k ((6 : Int) ^ i) (i : Int) = some ((6 : Int) ^ n) := by
  intro k
  induction k with
  | zero => intro i h1 h2; omega
  | succ k ih =>
    intro i h1 h2
    rw [impl_power.l0]
    by_cases h : (i : Int) < (n : Int)
    · have hp := pow_lt (i + 1) (by omega)
      have hq := pow_pos (i + 1)
      have e : (6 : Int) ^ i * 6 = 6 ^ (i + 1) := (Int.pow_succ 6 i).symm
      rw [if_pos h, e, w64 (n := (6 : Int) ^ (i + 1)) (by omega) (by omega), w64 (n := (i : Int) + 1) (by omega) (by omega), show (i : Int) + 1 = ((i + 1 : Nat) : Int) by omega]
      exact ih (i + 1) (by omega) (by omega)
    · rw [if_neg h, show i = n by omega]
theorem power_eq (K : Nat) (hK : 30 ≤ K) (n : Nat) (hn : n ≤ 22) : impl_power.f K (n : Int) = some ((6 : Int) ^ n) := by
  unfold impl_power.f
  rw [show impl_power.l0 K (n : Int) K 1 0 = some ((6 : Int) ^ n) from power_l0 K n hn K 0 (by omega) (by omega)]
  rfl
theorem chance_l3 (K : Nat) (hK : 20 ≤ K) (a : Ar 6) (D : List Int) (hD : D.length ≤ 6) (s : Nat) : ∀ (k n : Nat), n ≤ D.length → D.length - n < k → impl_parts__ChanceAll_1.l3 K a D (s : Int) k (sI (wsOf a D) s n : Int) (gI s n) (n : Int) = some ((sI (wsOf a D) s D.length : Int), gI s D.length) := by
  intro k
  induction k with
  | zero => intro n h1 h2; omega
  | succ k ih =>
    intro n h1 h2
    rw [impl_parts__ChanceAll_1.l3]
    by_cases hn : n < D.length
    · have hb := sI_le (wsOf a D) (wsOf_le a D) s n
      have hw := wt_le a (D.getD n 0)
      have hg := gI_one s n
      rw [if_pos (by omega), if_pos (by omega), Int.toNat_natCast, isIn_eq, some_bind, (weight_eq K (by omega) a (D.getD n 0)).2, some_bind, w1' n (by omega)]
      by_cases hc : tbit s n = true
      · have hs : sI (wsOf a D) s (n + 1) = sI (wsOf a D) s n + wt a (D.getD n 0) := by rw [sI, if_pos hc, wsOf_get a D n hn]
        have hs2 : gI s (n + 1) = 0 - gI s n := by rw [gI, if_pos hc]
        have e : wrap64 ((sI (wsOf a D) s n : Int) + (wt a (D.getD n 0) : Int)) = ((sI (wsOf a D) s (n + 1) : Nat) : Int) := by rw [w64 (by omega) (by omega)]; omega
        have e2 : wrap64 (0 - gI s n) = gI s (n + 1) := by clear e; rw [w64 (by omega) (by omega), hs2]
        rw [if_pos hc, e, e2]
        exact ih (n + 1) (by clear e e2; omega) (by clear e e2; omega)
      · have hs : sI (wsOf a D) s n = sI (wsOf a D) s (n + 1) := by rw [sI, if_neg hc]
        have hs2 : gI s n = gI s (n + 1) := by rw [gI, if_neg hc]
        rw [if_neg hc, hs, hs2]
        exact ih (n + 1) (by omega) (by omega)
    · rw [if_neg (by omega)]
      have : n = D.length := by omega
      rw [this]
/-- One power, of a number up to 6. -/
theorem raised_val (K : Nat) (x : Int) (hx : 0 ≤ x) (hx6 : x ≤ 6) (n : Nat) (hn : n ≤ 22) : ∀ (k i : Nat), i ≤ n → n - i < k → impl_raised.l0 K x (n : Int) k (x ^ i) (i : Int) = some (x ^ n) := by
  have hb : ∀ i, 0 ≤ x ^ i ∧ x ^ i ≤ 6 ^ i := by
    intro i
    induction i with
    | zero => simp
    | succ i ih =>
      obtain ⟨h1, h2⟩ := ih
      rw [Int.pow_succ, Int.pow_succ]
      exact ⟨Int.mul_nonneg h1 hx, Int.mul_le_mul h2 hx6 hx (by have := pow_pos i; omega)⟩
  intro k
  induction k with
  | zero => intro i h1 h2; omega
  | succ k ih =>
    intro i h1 h2
    rw [impl_raised.l0]
    by_cases h : i < n
    · obtain ⟨b1, b2⟩ := hb (i + 1)
      have hp := pow_lt (i + 1) (by omega)
      rw [if_pos (by omega), w1' i (by omega), ← Int.pow_succ, show i.succ = i + 1 from rfl, w64 (by omega) (by omega)]
      exact ih (i + 1) (by omega) (by omega)
    · rw [if_neg (by omega), show i = n by omega]
theorem raised_pow (K : Nat) (hK : 40 ≤ K) (x : Int) (hx : 0 ≤ x) (hx6 : x ≤ 6) (n : Nat) (hn : n ≤ 22) : impl_raised.f K x (n : Int) = some (x ^ n) := by
  unfold impl_raised.f
  have h := raised_val K x hx hx6 n hn K 0 (by omega) (by omega)
  rw [Int.pow_zero] at h
  rw [show impl_raised.l0 K x (n : Int) K 1 0 = _ from h]
  rfl
theorem raised_same : spec_l8Power.f = impl_raised.f := by kernel_rfl
/-- The signed sum from s on. -/
def iC (ws : List Nat) (T : Nat) : Nat → Nat → Int → Int
  | 0, _, y => y
  | r + 1, s, y => iC ws T r (s + 1) (y + gF s ws.length * (6 - (sF ws s ws.length : Int)) ^ T)
def cOK (ws : List Nat) : Bool := (List.range 13).all fun T => decide (0 ≤ iC ws T (2 ^ ws.length) 0 0)
theorem chance_dec : (comps 6 6).all cOK = true := by decide +kernel
theorem sI_sum (ws : List Nat) (s : Nat) : ∀ n, n ≤ ws.length → sI ws s n ≤ (ws.take n).sum := by
  intro n
  induction n with
  | zero => intro _; exact Nat.zero_le _
  | succ n ih =>
    intro h
    have := ih (by omega)
    have e : (ws.take (n + 1)).sum = (ws.take n).sum + ws.getD n 0 := by
      rw [List.take_succ_eq_append_getElem (by omega), List.sum_append, getD_nat _ _ _ (by omega)]
      simp
    rw [sI, e]
    split <;> omega
theorem chance_both (K : Nat) (hK : 2000000 ≤ K) (a : Ar 6) (D : List Int) (hD : D.length ≤ 6) (hsum : (wsOf a D).sum = 6) (T : Nat) (hT : T ≤ 12) : ∀ (r s k : Nat) (y : Int), s + r = 2 ^ D.length → r < k → (-(2176782336 * (s : Int)) ≤ y ∧ y ≤ 2176782336 * (s : Int)) →
    spec_ChanceAll.l0 K (T : Int) (allS (wsOf a D)) k y (s : Int) = some (iC (wsOf a D) T r s y) ∧ impl_parts__ChanceAll_1.l2 K a (T : Int) D k (s : Int) y = some (iC (wsOf a D) T r s y) ∧ iC (wsOf a D) T r s y ≤ 2176782336 * 64 := by
  have hsh := pow_shift _ hD
  have h64 := two_le _ hD
  have hlen : ((allS (wsOf a D)).length : Int) = ((2 ^ D.length : Nat) : Int) := by rw [allS_len, wsOf_len]
  have hget : ∀ s : Nat, s < 2 ^ D.length → (allS (wsOf a D)).getD s 0 = (sI (wsOf a D) s D.length : Int) := by
    intro s hs
    unfold allS
    rw [wsOf_len, List.getD_eq_getElem?_getD, List.getElem?_map, List.getElem?_range hs]
    rfl
  have hsg : ∀ s : Nat, s < 2 ^ D.length → spec_l8Sign.f K (s : Int) = some (gI s D.length) := fun s hs => sign_all K (by clear hsh; omega) D.length s hD hs
  generalize 2 ^ D.length = N at *
  intro r
  induction r with
  | zero =>
    intro s k y h1 h2 h3
    obtain ⟨k, rfl⟩ : ∃ q, k = q + 1 := ⟨k - 1, by clear hsh; omega⟩
    rw [impl_parts__ChanceAll_1.l2, hsh, if_neg (by clear hsh; omega), spec_ChanceAll.l0, if_neg (by clear hsh; omega)]
    refine ⟨rfl, rfl, ?_⟩
    rw [iC]
    clear hsh
    omega
  | succ r ih =>
    intro s k y h1 h2 h3
    obtain ⟨k, rfl⟩ : ∃ q, k = q + 1 := ⟨k - 1, by clear hsh; omega⟩
    have h4 := chance_l3 K (by clear hsh; omega) a D hD s K 0 (by clear hsh; omega) (by clear hsh; omega)
    have h5 : sI (wsOf a D) s D.length ≤ 6 := by
      have := sI_sum (wsOf a D) s D.length (by rw [wsOf_len]; exact Nat.le_refl _)
      rw [← wsOf_len a D, List.take_length, hsum, wsOf_len] at this
      exact this
    have e6 : wrap64 (6 - (sI (wsOf a D) s D.length : Int)) = 6 - (sI (wsOf a D) s D.length : Int) := by clear hsh; exact w64 (by omega) (by omega)
    have hr := raised_pow K (by clear hsh e6; omega) (6 - (sI (wsOf a D) s D.length : Int)) (by clear hsh e6; omega) (by clear hsh e6; omega) T (by clear hsh e6; omega)
    have hP : 0 ≤ (6 - (sI (wsOf a D) s D.length : Int)) ^ T ∧ (6 - (sI (wsOf a D) s D.length : Int)) ^ T ≤ 2176782336 := by
      obtain ⟨q, hq⟩ : ∃ q : Nat, 6 - (sI (wsOf a D) s D.length : Int) = (q : Int) := ⟨6 - sI (wsOf a D) s D.length, by clear hsh e6; omega⟩
      have hq6 : q ≤ 6 := by clear hsh e6; omega
      rw [hq, ← Int.natCast_pow]
      have : q ^ T ≤ 6 ^ 12 := Nat.le_trans (Nat.pow_le_pow_left hq6 T) (Nat.pow_le_pow_right (by omega) hT)
      have h12 : 6 ^ 12 = 2176782336 := by decide
      rw [h12] at this
      clear hsh e6
      omega
    obtain ⟨f1, f2⟩ := sF_eq (wsOf a D) s (by clear hsh e6; omega) D.length hD
    have hs : s < N := by clear hsh e6; omega
    rw [impl_parts__ChanceAll_1.l2, hsh, if_pos (by clear hsh e6; omega), show impl_parts__ChanceAll_1.l3 K a D (s : Int) K 0 1 0 = _ from h4, some_bind, spec_ChanceAll.l0, hlen, if_pos (by clear hsh e6; omega), hsg s hs, some_bind, if_pos (by clear hsh e6; omega), Int.toNat_natCast, hget s hs, raised_same, e6, hr, some_bind, iC, wsOf_len, ← f1, ← f2, w1' s (by clear hsh e6; omega)]
    dsimp only
    unfold impl_ChanceAll_1__c.f
    rw [e6, hr]
    simp only [some_bind]
    have hg := gI_one s D.length
    have hv : (gI s D.length * (6 - (sI (wsOf a D) s D.length : Int)) ^ T ≤ 2176782336) ∧ -2176782336 ≤ gI s D.length * (6 - (sI (wsOf a D) s D.length : Int)) ^ T := by
      clear hsh e6
      rcases hg with h | h <;> rw [h] <;> omega
    generalize gI s D.length * (6 - (sI (wsOf a D) s D.length : Int)) ^ T = V at *
    have e7 : wrap64 V = V := by clear hsh e6; exact w64 (by omega) (by omega)
    have e8 : wrap64 (y + V) = y + V := by clear hsh e6 e7; exact w64 (by omega) (by omega)
    rw [e7, e8]
    exact ih (s + 1) k (y + V) (by clear hsh e6 e7 e8; omega) (by clear hsh e6 e7 e8; omega) (by clear hsh e6 e7 e8; omega)
theorem ChanceAll_same (K : Nat) (hK : 100000000000 ≤ K) (a : Ar 6) (T : Int) : ∃ r, spec_ChanceAll.f K a T = some r ∧ impl_ChanceAll.f K a T = some r := by
  unfold spec_ChanceAll.f impl_ChanceAll.f spec_l8Rolls.f impl_isRolls.f impl_parts__ChanceAll_1.f
  rw [die_impl K (by omega), die_spec K (by omega), all_power, in_within, in_eq, numbers_impl K (by omega)]
  simp only [some_bind]
  cases hd : dieB a with
  | false => exact ⟨_, rfl, rfl⟩
  | true =>
    simp only [if_true]
    by_cases h : 0 ≤ T ∧ T ≤ 12
    · obtain ⟨n, rfl⟩ : ∃ n : Nat, T = n := ⟨T.toNat, by omega⟩
      have hD := ddS_len a.l 6
      have h64 := two_le _ hD
      have hsum := (ws_good a hd).2
      have hdec := List.all_eq_true.1 chance_dec _ (ws_comps a hd)
      unfold cOK at hdec
      have hpos := of_decide_eq_true (List.all_eq_true.1 hdec n (List.mem_range.2 (by omega)))
      rw [wsOf_len] at hpos
      obtain ⟨c1, c2, c3⟩ := chance_both K (by omega) a (ddS a.l 6) hD hsum n (by omega) (2 ^ (ddS a.l 6).length) 0 K 0 (by omega) (by omega) (by omega)
      have hq := pow_pos n
      have hp6 : (6 : Int) ^ n ≤ 2176782336 := by
        have : ((6 ^ n : Nat) : Int) ≤ ((6 ^ 12 : Nat) : Int) := by
          exact_mod_cast Nat.pow_le_pow_right (by omega) (by omega)
        simpa using this
      rw [decide_eq_true h]
      simp only [if_true]
      rw [sets_eq K (by omega) a hd, if_pos (show (0 : Int) ≤ ((ddS a.l 6).length : Int) by omega)]
      simp only [some_bind]
      rw [show spec_ChanceAll.l0 K (n : Int) (allS (wsOf a (ddS a.l 6))) K 0 0 = _ from c1, show impl_parts__ChanceAll_1.l2 K a (n : Int) (ddS a.l 6) K 0 0 = _ from c2]
      generalize iC (wsOf a (ddS a.l 6)) n (2 ^ (ddS a.l 6).length) 0 0 = X at *
      obtain ⟨r, d1, d2⟩ := cutz_eq K X ((6 : Int) ^ n) hpos (by omega) (by omega) (by omega)
      rw [power_eq K (by omega) n (by omega)]
      simp only [some_bind, d1, d2]
      exact ⟨_, rfl, rfl⟩
    · rw [decide_eq_false h]
      exact ⟨_, rfl, rfl⟩
theorem ChanceAll_pure (a0 : Ar 6) (a1 : Int) (_w0 : ∀ z ∈ a0.l, (Lit.int .i64 z).wf = true) (_w1 : (Lit.int .i64 a1).wf = true) : ∃ K, laws_FnExactChanceAll.f K a0 a1 = some true := by
  obtain ⟨K, hK⟩ : ∃ K : Nat, 100000000000 ≤ K := ⟨_, Nat.le_refl _⟩
  refine ⟨K, ?_⟩
  unfold laws_FnExactChanceAll.f
  obtain ⟨r, h1, h2⟩ := ChanceAll_same K hK a0 a1
  have t2 := fun a => toA6 K (by omega) a
  have q2 := fun a => eqA2 K (by omega) a
  simp only [t2, h1, h2, q2, some_bind, if_true, beq_self_eq_true]
end Go.Proofs.Ytnjfmhgmbfemdaa.WChanceAll

/- The plain law: what the walk shows to be computed answers true. Conditions: the numbers are 64-bit. -/
import Derived.Test.YtnjfmhgmbfemdaaWRunWithin
import Derived.KernelRfl
namespace Go.Proofs.Ytnjfmhgmbfemdaa.WRunWithin
open Go.K Go.RowKit
set_option linter.unusedVariables false
set_option linter.unusedSimpArgs false

theorem in_eq (K : Nat) (a lo hi : Int) : impl_within.f K a lo hi = some (decide (lo ≤ a ∧ a ≤ hi)) := by
  unfold impl_within.f
  by_cases h : lo ≤ a <;> simp [h]
theorem in_within : spec_l1In.f = impl_within.f := by kernel_rfl
def faceB (a : Int) : Bool := decide (0 ≤ a ∧ a ≤ 30)
theorem isFace_eq (K : Nat) (_hK : 2000000 ≤ K) (a : Int) : impl_isFace.f K a = some (faceB a) := by
  unfold impl_isFace.f
  rw [in_eq]; rfl
theorem w1 (n : Nat) (h : n ≤ 4000000000000000000) : wrap64 ((n : Int) + 1) = ((n + 1 : Nat) : Int) := by rw [w64 (by omega) (by omega)]; omega
theorem allFace_l0 (K : Nat) (hK : 2000000 ≤ K) (l : List Int) (h : l.length ≤ 1073741824) : ∀ (k n : Nat), n ≤ l.length → l.length - n < k →
    (slices_IndexFunc_int_int__areAll_int_1_isFace.l0 K l k (n : Int) = some (Sum.inl ()) ∧ (l.drop n).all faceB = true) ∨ (∃ i : Int, 0 ≤ i ∧ slices_IndexFunc_int_int__areAll_int_1_isFace.l0 K l k (n : Int) = some (Sum.inr i) ∧ (l.drop n).all faceB = false) := by
  intro k
  induction k with
  | zero => intro n h1 h2; omega
  | succ k ih =>
    intro n h1 h2
    rw [slices_IndexFunc_int_int__areAll_int_1_isFace.l0]
    by_cases hn : (n : Int) < (l.length : Int)
    · have hn' : n < l.length := by omega
      have hnn : ((n : Int)).toNat = n := by omega
      have hd : l.drop n = l[n] :: l.drop (n + 1) := List.drop_eq_getElem_cons hn'
      have hg : l.getD n (0 : Int) = l[n] := by rw [List.getD_eq_getElem?_getD, List.getElem?_eq_getElem hn']; rfl
      rw [if_pos hn, if_pos (by omega), w1 n (by omega), hnn, hg, impl_areAll_int_1__isFace.f, isFace_eq K hK, hd]
      simp only [some_bind, List.all_cons]
      rcases Bool.eq_false_or_eq_true (faceB l[n]) with e | e
      · rw [e]
        simp only [Bool.not_true, Bool.false_eq_true, if_false, Bool.true_and]
        exact ih (n + 1) (by omega) (by omega)
      · rw [e]
        simp only [Bool.not_false, if_true, Bool.false_and]
        exact .inr ⟨_, by omega, rfl, trivial⟩
    · rw [if_neg hn]
      have : n = l.length := by omega
      subst this
      exact .inl ⟨rfl, by simp⟩
theorem allFace_eq (K : Nat) (hK : 2000000 ≤ K) (l : List Int) (h : l.length ≤ 1048576) : impl_areAll_int__isFace.f K l = some (l.all faceB) := by
  unfold impl_areAll_int__isFace.f slices_ContainsFunc_int_int__areAll_int_1_isFace.f slices_IndexFunc_int_int__areAll_int_1_isFace.f
  rcases allFace_l0 K hK l (by omega) K 0 (by omega) (by omega) with ⟨h1, h2⟩ | ⟨i, hi, h1, h2⟩
  · rw [show (0 : Int) = ((0 : Nat) : Int) from rfl, h1]
    simp only [some_bind, List.drop_zero] at h2 ⊢
    rw [h2]; rfl
  · rw [show (0 : Int) = ((0 : Nat) : Int) from rfl, h1]
    simp only [some_bind, List.drop_zero] at h2 ⊢
    rw [h2]
    have : decide (((0 : Nat) : Int) ≤ i) = true := decide_eq_true (by simpa using hi)
    rw [this]; rfl
def dieP (a : Ar 6) : Prop := ((0 ≤ a.get 0 ∧ a.get 0 ≤ 30) ∧ (0 ≤ a.get 1 ∧ a.get 1 ≤ 30) ∧ (0 ≤ a.get 2 ∧ a.get 2 ≤ 30) ∧ (0 ≤ a.get 3 ∧ a.get 3 ≤ 30) ∧ (0 ≤ a.get 4 ∧ a.get 4 ≤ 30) ∧ (0 ≤ a.get 5 ∧ a.get 5 ≤ 30)) ∧ (a.get 0 ≤ a.get 1 ∧ a.get 1 ≤ a.get 2 ∧ a.get 2 ≤ a.get 3 ∧ a.get 3 ≤ a.get 4 ∧ a.get 4 ≤ a.get 5)
instance (a : Ar 6) : Decidable (dieP a) := by unfold dieP; infer_instance
def dieB (a : Ar 6) : Bool := decide (dieP a)
theorem die_get (x y z u v w : Int) : (Ar.get (⟨[x, y, z, u, v, w], rfl⟩ : Ar 6) 0 = x ∧ Ar.get (⟨[x, y, z, u, v, w], rfl⟩ : Ar 6) 1 = y ∧ Ar.get (⟨[x, y, z, u, v, w], rfl⟩ : Ar 6) 2 = z) ∧ (Ar.get (⟨[x, y, z, u, v, w], rfl⟩ : Ar 6) 3 = u ∧ Ar.get (⟨[x, y, z, u, v, w], rfl⟩ : Ar 6) 4 = v ∧ Ar.get (⟨[x, y, z, u, v, w], rfl⟩ : Ar 6) 5 = w) := ⟨⟨rfl, rfl, rfl⟩, rfl, rfl, rfl⟩
set_option maxHeartbeats 4000000 in
theorem die_spec (K : Nat) (hK : 2000000 ≤ K) (a : Ar 6) : spec_l2Die.f K a = some (dieB a) := by
  obtain ⟨k, rfl⟩ := Nat.exists_eq_add_of_le (show 8 ≤ K by omega)
  obtain ⟨x, y, z, u, v, w, rfl⟩ := Ar.cases6 a
  have e : 8 + k = k + 1 + 1 + 1 + 1 + 1 + 1 + 1 + 1 := by omega
  unfold spec_l2Die.f dieB dieP
  obtain ⟨⟨g0, g1, g2⟩, g3, g4, g5⟩ := die_get x y z u v w
  rw [e]
  simp only [spec_l2Die.l0, in_within, in_eq, some_bind, show (0 : Int) < 6 by decide, show wrap64 (0 + 1) = 1 by decide +kernel, show wrap64 (1 + 1) = 2 by decide +kernel, show wrap64 (2 + 1) = 3 by decide +kernel, show wrap64 (3 + 1) = 4 by decide +kernel, show wrap64 (4 + 1) = 5 by decide +kernel, show wrap64 (5 + 1) = 6 by decide +kernel, show wrap64 (1 - 1) = 0 by decide +kernel, show wrap64 (2 - 1) = 1 by decide +kernel, show wrap64 (3 - 1) = 2 by decide +kernel, show wrap64 (4 - 1) = 3 by decide +kernel, show wrap64 (5 - 1) = 4 by decide +kernel, g0, g1, g2, g3, g4, g5, decide_eq_true_eq]
  simp
  repeat' split
  all_goals simp_all
  all_goals omega
set_option maxHeartbeats 4000000 in
theorem die_impl (K : Nat) (hK : 2000000 ≤ K) (a : Ar 6) : impl_IsDie.f K a = some (dieB a) := by
  obtain ⟨x, y, z, u, v, w, rfl⟩ := Ar.cases6 a
  unfold impl_IsDie.f dieB dieP
  rw [allFace_eq K hK _ (by simp)]
  obtain ⟨k, rfl⟩ := Nat.exists_eq_add_of_le (show 8 ≤ K by omega)
  have e : 8 + k = k + 1 + 1 + 1 + 1 + 1 + 1 + 1 + 1 := by omega
  obtain ⟨⟨g0, g1, g2⟩, g3, g4, g5⟩ := die_get x y z u v w
  unfold slices_IsSorted_int_int.f
  rw [e]
  simp [slices_IsSorted_int_int.l0, cmp_Less_int.f, cmp_isNaN_int.f, some_bind, show wrap64 (6 - 1) = 5 by decide +kernel, show wrap64 5 = 5 by decide +kernel, show wrap64 (5 - 1) = 4 by decide +kernel, show wrap64 (4 - 1) = 3 by decide +kernel, show wrap64 (3 - 1) = 2 by decide +kernel, show wrap64 (2 - 1) = 1 by decide +kernel, show wrap64 (1 - 1) = 0 by decide +kernel, show wrap64 4 = 4 by decide +kernel, show wrap64 3 = 3 by decide +kernel, show wrap64 2 = 2 by decide +kernel, show wrap64 1 = 1 by decide +kernel, show wrap64 0 = 0 by decide +kernel, g0, g1, g2, g3, g4, g5, faceB]
  repeat' split
  all_goals simp_all
  all_goals omega
def wt (a : Ar 6) (x : Int) : Nat := a.l.count x
theorem wt_le (a : Ar 6) (x : Int) : wt a x ≤ 6 := by
  have := List.count_le_length (a := x) (l := a.l)
  rw [a.h] at this
  exact this
theorem ar_drop (a : Ar 6) (n : Nat) (h : n < 6) : a.l.drop n = a.get (n : Int) :: a.l.drop (n + 1) := by
  have hn : n < a.l.length := by rw [a.h]; exact h
  rw [List.drop_eq_getElem_cons hn]
  congr 1
  unfold Ar.get
  rw [show ((n : Int)).toNat = n by omega, List.getD_eq_getElem?_getD, List.getElem?_eq_getElem hn]
  rfl
theorem weight_l0 (K : Nat) (a : Ar 6) (x : Int) : ∀ (k n m : Nat), n ≤ 6 → 6 - n < k → m ≤ n → spec_l8Weight.l0 K a x k (m : Int) (n : Int) = some ((m + (a.l.drop n).count x : Nat) : Int) ∧ impl_weight.l0 K a x k (m : Int) (n : Int) = some ((m + (a.l.drop n).count x : Nat) : Int) := by
  intro k
  induction k with
  | zero => intro n m h1 h2; omega
  | succ k ih =>
    intro n m h1 h2 h3
    rw [spec_l8Weight.l0, impl_weight.l0]
    by_cases hn : (n : Int) < 6
    · have c2 : (0 : Int) ≤ (n : Int) ∧ (n : Int) < 6 := by omega
      have e1 : wrap64 ((n : Int) + 1) = ((n + 1 : Nat) : Int) := w1 n (by omega)
      have e2 : wrap64 ((m : Int) + 1) = ((m + 1 : Nat) : Int) := w1 m (by omega)
      have e3 : wrap64 ((m : Int) + 0) = (m : Int) := by rw [w64 (by omega) (by omega)]; omega
      simp only [if_pos hn, if_pos c2, e1, e2, impl_truth.f, decide_eq_true_eq]
      rw [ar_drop a n (by omega), List.count_cons]
      by_cases hx : a.get (n : Int) = x
      · simp only [if_pos hx, some_bind, e2]
        rw [(ih (n + 1) (m + 1) (by omega) (by omega) (by omega)).1, (ih (n + 1) (m + 1) (by omega) (by omega) (by omega)).2]
        simp [hx]
        omega
      · simp only [if_neg hx, some_bind, e3]
        rw [(ih (n + 1) m (by omega) (by omega) (by omega)).1, (ih (n + 1) m (by omega) (by omega) (by omega)).2]
        simp [hx]
    · rw [if_neg hn, if_neg hn]
      have : n = 6 := by omega
      subst this
      have : a.l.drop 6 = [] := List.drop_of_length_le (by rw [a.h]; omega)
      rw [this]
      exact ⟨rfl, rfl⟩
theorem weight_eq (K : Nat) (hK : 10 ≤ K) (a : Ar 6) (x : Int) : spec_l8Weight.f K a x = some (wt a x : Int) ∧ impl_weight.f K a x = some (wt a x : Int) := by
  have := weight_l0 K a x K 0 0 (by omega) (by omega) (by omega)
  simp only [Nat.zero_add, List.drop_zero] at this
  unfold spec_l8Weight.f impl_weight.f
  rw [show spec_l8Weight.l0 K a x K 0 0 = _ from this.1, show impl_weight.l0 K a x K 0 0 = _ from this.2]
  exact ⟨rfl, rfl⟩
/-- The different numbers of the first j, in their order. -/
def ddS (l : List Int) : Nat → List Int
  | 0 => []
  | j + 1 => if 0 < j ∧ l.getD j 0 = l.getD (j - 1) 0 then ddS l j else ddS l j ++ [l.getD j 0]
theorem ddS_len (l : List Int) : ∀ j, (ddS l j).length ≤ j
  | 0 => by simp [ddS]
  | j + 1 => by
    have := ddS_len l j
    rw [ddS]
    split
    · omega
    · rw [List.length_append, List.length_singleton]; omega
theorem ddS_prop (l : List Int) (n : Nat) (hm : ∀ i, i + 1 < n → l.getD i 0 ≤ l.getD (i + 1) 0) : ∀ j, j + 1 ≤ n → ∃ xs, ddS l (j + 1) = xs ++ [l.getD j 0] ∧ (∀ x ∈ xs, x < l.getD j 0) ∧ (ddS l (j + 1)).Pairwise (· < ·) := by
  intro j
  induction j with
  | zero =>
    intro h
    exact ⟨[], by simp [ddS], by simp, by simp [ddS]⟩
  | succ j ih =>
    intro h
    obtain ⟨xs, h1, h2, h3⟩ := ih (by omega)
    rw [ddS]
    by_cases hc : l.getD (j + 1) 0 = l.getD j 0
    · rw [if_pos ⟨by omega, by rw [Nat.add_sub_cancel]; exact hc⟩, hc]
      exact ⟨xs, h1, h2, h3⟩
    · rw [if_neg (fun h => hc (by have := h.2; rw [Nat.add_sub_cancel] at this; exact this))]
      have hlt : l.getD j 0 < l.getD (j + 1) 0 := by have := hm j (by omega); omega
      have hall : ∀ x ∈ ddS l (j + 1), x < l.getD (j + 1) 0 := by
        intro x hx
        rw [h1] at hx
        rcases List.mem_append.1 hx with hx | hx
        · have := h2 x hx; omega
        · rw [List.mem_singleton.1 hx]; exact hlt
      refine ⟨ddS l (j + 1), rfl, hall, ?_⟩
      rw [List.pairwise_append]
      exact ⟨h3, by simp, fun x hx y hy => by rw [List.mem_singleton.1 hy]; exact hall x hx⟩
theorem put_l0 (K : Nat) (xs : List Int) (x : Int) (hl : xs.length ≤ 100) (m : Nat) (hm : m ≤ xs.length) (h1 : ∀ i, i < m → xs.getD i 0 < x) (h2 : m = xs.length ∨ ¬ xs.getD m 0 < x) : ∀ (k n : Nat), n ≤ m → m - n < k → spec_l1Put.l0 K xs x k (n : Int) = some (m : Int) := by
  intro k
  induction k with
  | zero => intro n h3 h4; omega
  | succ k ih =>
    intro n h3 h4
    rw [spec_l1Put.l0]
    by_cases hn : n = m
    · rw [hn]
      rcases h2 with h2 | h2
      · rw [if_neg (by omega)]
      · by_cases h5 : m < xs.length
        · rw [if_pos (by omega), if_pos (by omega), Int.toNat_natCast, if_neg h2]
        · rw [if_neg (by omega)]
    · rw [if_pos (by omega), if_pos (by omega), Int.toNat_natCast, if_pos (h1 n (by omega)), w1' n (by omega)]
      exact ih (n + 1) (by omega) (by omega)
theorem getD_mem (xs : List Int) (i : Nat) (h : i < xs.length) : xs.getD i 0 ∈ xs := by rw [getD_nat _ _ _ h]; exact List.getElem_mem h
theorem put_new (K : Nat) (hK : 200 ≤ K) (xs : List Int) (x : Int) (hl : xs.length ≤ 100) (h : ∀ y ∈ xs, y < x) : spec_l1Put.f K xs x = some (xs ++ [x]) := by
  have h0 := put_l0 K xs x hl xs.length (Nat.le_refl _) (fun i hi => h _ (getD_mem xs i hi)) (.inl rfl) K 0 (by omega) (by omega)
  unfold spec_l1Put.f
  rw [show spec_l1Put.l0 K xs x K 0 = _ from h0, some_bind, if_neg (by omega), if_pos (by omega), Int.toNat_natCast, List.take_length, List.drop_length, List.drop_zero, List.nil_append, if_pos (by simp; omega), if_pos (by simp; omega), if_pos (by omega), if_pos (by simp; omega), List.append_nil]
theorem put_old (K : Nat) (hK : 200 ≤ K) (ys : List Int) (x : Int) (hl : ys.length < 100) (h : ∀ y ∈ ys, y < x) : spec_l1Put.f K (ys ++ [x]) x = some (ys ++ [x]) := by
  have hlen : (ys ++ [x]).length = ys.length + 1 := by simp
  have hg : (ys ++ [x]).getD ys.length 0 = x := by rw [getD_nat _ _ _ (by omega)]; simp
  have h0 := put_l0 K (ys ++ [x]) x (by omega) ys.length (by omega) (fun i hi => by
    rw [getD_nat _ _ _ (by omega), List.getElem_append_left hi]
    exact h _ (List.getElem_mem hi)) (.inr (by rw [hg]; omega)) K 0 (by omega) (by omega)
  unfold spec_l1Put.f
  rw [show spec_l1Put.l0 K (ys ++ [x]) x K 0 = _ from h0, some_bind, if_pos (by omega), if_pos (by omega), Int.toNat_natCast, hg, if_pos rfl]
theorem ar_getD (a : Ar 6) (n : Nat) : a.get (n : Int) = a.l.getD n 0 := by
  unfold Ar.get
  rw [Int.toNat_natCast]
theorem die_mono (a : Ar 6) (h : dieB a = true) : ∀ i, i + 1 < 6 → a.l.getD i 0 ≤ a.l.getD (i + 1) 0 := by
  have h := of_decide_eq_true h
  obtain ⟨_, h1, h2, h3, h4, h5⟩ := h
  intro i hi
  rcases (show i = 0 ∨ i = 1 ∨ i = 2 ∨ i = 3 ∨ i = 4 by omega) with rfl | rfl | rfl | rfl | rfl
  · exact h1
  · exact h2
  · exact h3
  · exact h4
  · exact h5
theorem numbers_spec (K : Nat) (hK : 200 ≤ K) (a : Ar 6) (h : dieB a = true) : spec_l8Numbers.f K a = some (ddS a.l 6) := by
  have key : ∀ (k n : Nat), n ≤ 6 → 6 - n < k → spec_l8Numbers.l0 K a k (n : Int) (ddS a.l n) = some (ddS a.l 6) := by
    intro k
    induction k with
    | zero => intro n h1 h2; omega
    | succ k ih =>
      intro n h1 h2
      rw [spec_l8Numbers.l0]
      by_cases hn : n < 6
      · have hp : spec_l1Put.f K (ddS a.l n) (a.get (n : Int)) = some (ddS a.l (n + 1)) := by
          rw [ar_getD, ddS]
          have hlen := ddS_len a.l n
          by_cases h0 : n = 0
          · subst h0
            rw [if_neg (by omega)]
            exact put_new K hK _ _ (by omega) (by simp [ddS])
          · obtain ⟨j, rfl⟩ : ∃ j, n = j + 1 := ⟨n - 1, by omega⟩
            obtain ⟨xs, p1, p2, p3⟩ := ddS_prop a.l 6 (die_mono a h) j (by omega)
            have hxl : xs.length < 100 := by rw [p1] at hlen; simp at hlen; omega
            by_cases hc : a.l.getD (j + 1) 0 = a.l.getD j 0
            · rw [if_pos ⟨by omega, by rw [Nat.add_sub_cancel]; exact hc⟩, hc, p1]
              exact put_old K hK xs _ hxl p2
            · rw [if_neg (fun h => hc (by have := h.2; rw [Nat.add_sub_cancel] at this; exact this))]
              have hlt : a.l.getD j 0 < a.l.getD (j + 1) 0 := by have := die_mono a h j (by omega); omega
              apply put_new K hK _ _ (by omega)
              intro x hx
              rw [p1] at hx
              rcases List.mem_append.1 hx with hx | hx
              · have := p2 x hx; omega
              · rw [List.mem_singleton.1 hx]; exact hlt
        rw [if_pos (by omega), if_pos (by omega), hp, some_bind, w1' n (by omega)]
        exact ih (n + 1) (by omega) (by omega)
      · rw [if_neg (by omega)]
        have : n = 6 := by omega
        rw [this]
  unfold spec_l8Numbers.f
  rw [show spec_l8Numbers.l0 K a K 0 ([] : List Int) = _ from key K 0 (by omega) (by omega)]
  rfl
theorem take_succ_getD (l : List Int) (n : Nat) (h : n < l.length) : l.take (n + 1) = l.take n ++ [l.getD n 0] := by
  rw [List.take_succ_eq_append_getElem h, getD_nat _ _ _ h]
theorem getD_set_ne (v : List Int) (m p : Nat) (x : Int) (h : m ≠ p) : (v.set m x).getD p 0 = v.getD p 0 := by
  rw [List.getD_eq_getElem?_getD, List.getD_eq_getElem?_getD, List.getElem?_set_ne h]
theorem ddS_mem (l : List Int) : ∀ j, j ≤ l.length → ∀ x, x ∈ ddS l j ↔ x ∈ l.take j := by
  intro j
  induction j with
  | zero => intro _ x; simp [ddS]
  | succ j ih =>
    intro h x
    rw [ddS, take_succ_getD l j (by omega)]
    have ih := ih (by omega)
    split
    · rename_i hc
      rw [ih, List.mem_append, List.mem_singleton]
      constructor
      · exact .inl
      · rintro (h1 | h1)
        · exact h1
        · obtain ⟨q, rfl⟩ : ∃ q, j = q + 1 := ⟨j - 1, by omega⟩
          rw [h1, hc.2, Nat.add_sub_cancel, take_succ_getD l q (by omega)]
          simp
    · rw [List.mem_append, List.mem_append, ih]
def sumN : Nat → (Nat → Int) → Int
  | 0, _ => 0
  | n + 1, g => sumN n g + g n
theorem sumN_congr : ∀ (n : Nat) (g h : Nat → Int), (∀ i, i < n → g i = h i) → sumN n g = sumN n h
  | 0, _, _, _ => rfl
  | n + 1, g, h, e => by rw [sumN, sumN, sumN_congr n g h (fun i hi => e i (by omega)), e n (by omega)]
theorem sumN_add (n : Nat) (g h : Nat → Int) : sumN n (fun i => g i + h i) = sumN n g + sumN n h := by
  induction n with
  | zero => rfl
  | succ n ih => rw [sumN, sumN, sumN, ih]; omega
theorem sumN_zero (n : Nat) : sumN n (fun _ => 0) = 0 := by
  induction n with
  | zero => rfl
  | succ n ih => rw [sumN, ih]; rfl
theorem sumN_range (n : Nat) (g : Nat → Int) (B : Int) (h : ∀ i, i < n → 0 ≤ g i ∧ g i ≤ B) : 0 ≤ sumN n g ∧ sumN n g ≤ n * B := by
  induction n with
  | zero => simp [sumN]
  | succ n ih =>
    obtain ⟨h1, h2⟩ := ih (fun i hi => h i (by omega))
    obtain ⟨h3, h4⟩ := h n (by omega)
    rw [sumN]
    refine ⟨by omega, ?_⟩
    have : ((n + 1 : Nat) : Int) * B = n * B + B := by rw [Int.natCast_add, Int.add_mul]; simp
    omega
theorem rw_nums (l : List Int) : ∀ j, impl_RunWithin.nums l j = ddS l j
  | 0 => rfl
  | j + 1 => by rw [impl_RunWithin.nums, ddS, rw_nums l j]
def rwK (a : Ar 6) (k s : Nat) : Int × Int := ((ddS a.l 6).getD (s / k) 0, ((s % k : Nat) : Int))
def rwN (a : Ar 6) (k : Nat) : Nat := (ddS a.l 6).length * k
theorem rw_U (a : Ar 6) (k : Nat) : impl_RunWithin.U a (k : Int) = (-1, 0) :: (List.range (rwN a k)).map (rwK a k) := by
  unfold impl_RunWithin.U rwN
  rw [rw_nums, Int.toNat_natCast]
  rfl
/-- Sums over a list. -/
def ls (f : Int × Int → Int) : List (Int × Int) → Int
  | [] => 0
  | u :: r => f u + ls f r
theorem sm_ls (A c : Int × Int → Int) : ∀ U, impl_RunWithin.sm A c U = ls (fun u => A u * c u) U
  | [] => rfl
  | u :: r => by rw [impl_RunWithin.sm, ls, sm_ls A c r]
theorem ls_append (f : Int × Int → Int) (b : List (Int × Int)) : ∀ a, ls f (a ++ b) = ls f a + ls f b
  | [] => by simp [ls]
  | u :: r => by rw [List.cons_append, ls, ls, ls_append f b r]; omega
theorem ls_map (f : Int × Int → Int) (g : Nat → Int × Int) : ∀ n, ls f ((List.range n).map g) = sumN n (fun s => f (g s))
  | 0 => rfl
  | n + 1 => by rw [List.range_succ, List.map_append, ls_append, ls_map f g n, sumN]; simp [ls]
theorem ls_congr {f g : Int × Int → Int} : ∀ U, (∀ u ∈ U, f u = g u) → ls f U = ls g U
  | [], _ => rfl
  | u :: r, h => by rw [ls, ls, h u (.head _), ls_congr r (fun v hv => h v (.tail _ hv))]
theorem ls_add (f g : Int × Int → Int) : ∀ U, ls (fun u => f u + g u) U = ls f U + ls g U
  | [] => rfl
  | u :: r => by rw [ls, ls, ls, ls_add f g r]; omega
theorem ls_zero : ∀ U, ls (fun _ => 0) U = 0
  | [] => rfl
  | u :: r => by rw [ls, ls_zero r]; rfl
theorem ls_comm (f : Int × Int → Int × Int → Int) (V : List (Int × Int)) : ∀ U, ls (fun u => ls (f u) V) U = ls (fun v => ls (fun u => f u v) U) V
  | [] => (ls_zero V).symm
  | u :: r => by rw [ls, ls_comm f V r, ← ls_add]; rfl
theorem ls_mul (x : Int) (f : Int × Int → Int) : ∀ U, ls (fun u => x * f u) U = x * ls f U
  | [] => by simp [ls]
  | u :: r => by rw [ls, ls, ls_mul x f r, Int.mul_add]
theorem ls_nn {f : Int × Int → Int} : ∀ U, (∀ u ∈ U, 0 ≤ f u) → 0 ≤ ls f U
  | [], _ => Int.le_refl _
  | u :: r, h => by
    have h1 := h u (.head _)
    have h2 := ls_nn r (fun v hv => h v (.tail _ hv))
    rw [ls]; omega
theorem ls_le {f g : Int × Int → Int} : ∀ U, (∀ u ∈ U, f u ≤ g u) → ls f U ≤ ls g U
  | [], _ => Int.le_refl _
  | u :: r, h => by
    have h1 := h u (.head _)
    have h2 := ls_le r (fun v hv => h v (.tail _ hv))
    rw [ls, ls]; omega
theorem ls_mem {f : Int × Int → Int} : ∀ U, (∀ u ∈ U, 0 ≤ f u) → ∀ u ∈ U, f u ≤ ls f U
  | [], _, _, h => by simp at h
  | v :: r, h, u, hu => by
    have h1 := h v (.head _)
    have h2 := ls_nn r (fun w hw => h w (.tail _ hw))
    rw [ls]
    rcases List.mem_cons.1 hu with rfl | hu
    · omega
    · have := ls_mem r (fun w hw => h w (.tail _ hw)) u hu
      omega
theorem ls_one (κ : Int × Int) : ∀ U, U.Nodup → ls (fun u => if u = κ then 1 else 0) U ≤ 1 ∧ (κ ∉ U → ls (fun u => if u = κ then 1 else 0) U = 0)
  | [], _ => ⟨by simp [ls], fun _ => rfl⟩
  | u :: r, hn => by
    rw [List.nodup_cons] at hn
    obtain ⟨h1, h2⟩ := ls_one κ r hn.2
    rw [ls]
    by_cases hu : u = κ
    · subst hu
      rw [if_pos rfl, h2 hn.1]
      exact ⟨by omega, fun h => absurd (List.mem_cons_self) h⟩
    · rw [if_neg hu]
      refine ⟨by omega, fun h => ?_⟩
      rw [h2 (fun h' => h (List.mem_cons_of_mem _ h'))]
      rfl
theorem dd_mem (a : Ar 6) (x : Int) : x ∈ ddS a.l 6 ↔ x ∈ a.l := by
  have := ddS_mem a.l 6 (by rw [a.h]; omega) x
  rw [show a.l.take 6 = a.l from List.take_of_length_le (by rw [a.h]; omega)] at this
  exact this
theorem dd_lt (a : Ar 6) (h : dieB a = true) : (ddS a.l 6).Pairwise (· < ·) := by
  obtain ⟨xs, _, _, hp⟩ := ddS_prop a.l 6 (die_mono a h) 5 (by omega)
  exact hp
theorem dd_inj (a : Ar 6) (h : dieB a = true) (i j : Nat) (hi : i < (ddS a.l 6).length) (hj : j < (ddS a.l 6).length) (e : (ddS a.l 6).getD i 0 = (ddS a.l 6).getD j 0) : i = j := by
  have hp := List.pairwise_iff_getElem.1 (dd_lt a h)
  rw [getD_nat _ _ _ hi, getD_nat _ _ _ hj] at e
  rcases Nat.lt_trichotomy i j with h1 | h1 | h1
  · have := hp i j hi hj h1; omega
  · exact h1
  · have := hp j i hj hi h1; omega
theorem rw_get (a : Ar 6) (h : dieB a = true) (i : Nat) (hi : i < 6) : 0 ≤ a.get (i : Int) ∧ a.get (i : Int) ∈ a.l := by
  refine ⟨?_, ?_⟩
  · have h' := of_decide_eq_true h
    have hm := die_mono a h
    have h0 : 0 ≤ a.l.getD 0 0 := by have := h'.1.1.1; have e := ar_getD a 0; rw [← e]; exact this
    rw [ar_getD]
    have key : ∀ j, j < 6 → 0 ≤ a.l.getD j 0 := by
      intro j
      induction j with
      | zero => intro _; exact h0
      | succ j ih => intro hj; have := ih (by omega); have := hm j hj; omega
    exact key i hi
  · rw [ar_getD]
    exact getD_mem _ _ (by rw [a.h]; exact hi)
theorem mem_nn (a : Ar 6) (h : dieB a = true) (x : Int) (hx : x ∈ a.l) : 0 ≤ x := by
  obtain ⟨i, hi⟩ := List.getElem?_of_mem hx
  obtain ⟨hl, rfl⟩ := List.getElem?_eq_some_iff.1 hi
  have := (rw_get a h i (by rw [a.h] at hl; exact hl)).1
  rw [ar_getD, getD_nat _ _ _ hl] at this
  exact this
theorem dd_nn (a : Ar 6) (h : dieB a = true) (j : Nat) (hj : j < (ddS a.l 6).length) : 0 ≤ (ddS a.l 6).getD j 0 := mem_nn a h _ ((dd_mem a _).1 (getD_mem _ _ hj))
theorem rw_split {m k s : Nat} (hk : 0 < k) (hs : s < m * k) : s / k < m ∧ s % k < k ∧ s = s / k * k + s % k := by
  refine ⟨Nat.div_lt_of_lt_mul (by rw [Nat.mul_comm]; exact hs), Nat.mod_lt _ hk, ?_⟩
  have := Nat.div_add_mod s k
  rw [Nat.mul_comm] at this
  omega
theorem rw_join {m k j r : Nat} (hj : j < m) (hr : r < k) : j * k + r < m * k ∧ (j * k + r) / k = j ∧ (j * k + r) % k = r := by
  have h1 : (j + 1) * k ≤ m * k := Nat.mul_le_mul_right _ hj
  rw [Nat.succ_mul] at h1
  refine ⟨by omega, ?_, ?_⟩
  · rw [Nat.mul_comm, Nat.mul_add_div (by omega), Nat.div_eq_of_lt hr, Nat.add_zero]
  · rw [Nat.mul_comm, Nat.mul_add_mod, Nat.mod_eq_of_lt hr]
theorem rwK_at (a : Ar 6) {k j r : Nat} (hj : j < (ddS a.l 6).length) (hr : r < k) : rwK a k (j * k + r) = ((ddS a.l 6).getD j 0, (r : Int)) := by
  obtain ⟨_, h1, h2⟩ := rw_join hj hr
  unfold rwK
  rw [h1, h2]
theorem rw_nodup (a : Ar 6) (h : dieB a = true) (k : Nat) (hk : 0 < k) : (impl_RunWithin.U a (k : Int)).Nodup := by
  rw [rw_U, List.nodup_cons]
  constructor
  · intro hm
    obtain ⟨s, hs, e⟩ := List.mem_map.1 hm
    obtain ⟨h1, _, _⟩ := rw_split hk (List.mem_range.1 hs)
    have := dd_nn a h _ h1
    have e1 := congrArg Prod.fst e
    simp only [rwK] at e1
    omega
  · unfold List.Nodup
    rw [List.pairwise_map]
    refine List.Pairwise.imp_of_mem ?_ List.nodup_range
    intro s t hs ht hne e
    obtain ⟨h1, h2, h3⟩ := rw_split hk (List.mem_range.1 hs)
    obtain ⟨g1, g2, g3⟩ := rw_split hk (List.mem_range.1 ht)
    have e1 := congrArg Prod.fst e
    have e2 := congrArg Prod.snd e
    simp only [rwK] at e1 e2
    have e3 := dd_inj a h _ _ h1 g1 e1
    exact hne (by rw [h3, g3, e3]; omega)
/-! how many faces -/
theorem rw_m (a : Ar 6) (k : Int) (x r : Int) (u : Int × Int) : impl_RunWithin.m a k (x, r) u 6 = if ¬ k ≤ impl_RunWithin.rn u x ∧ r = impl_RunWithin.rn u x then (wt a x : Int) else 0 := by
  have key : ∀ i, i ≤ 6 → impl_RunWithin.m a k (x, r) u i = if ¬ k ≤ impl_RunWithin.rn u x ∧ r = impl_RunWithin.rn u x then ((a.l.take i).count x : Int) else 0 := by
    intro i
    induction i with
    | zero => intro _; simp [impl_RunWithin.m]
    | succ i ih =>
      intro hi
      rw [impl_RunWithin.m, ih (by omega), take_succ_getD a.l i (by rw [a.h]; omega), List.count_append, ar_getD]
      generalize a.l.getD i 0 = y
      by_cases hy : y = x
      · subst hy
        by_cases hc : ¬ k ≤ impl_RunWithin.rn u y ∧ r = impl_RunWithin.rn u y
        · rw [if_pos hc, if_pos hc, if_pos ⟨hc.1, by rw [hc.2]⟩]
          simp
        · rw [if_neg hc, if_neg hc, if_neg (fun h => hc ⟨h.1, by have := congrArg Prod.snd h.2; exact this⟩)]
          rfl
      · rw [if_neg (show ¬ (¬ k ≤ impl_RunWithin.rn u y ∧ (x, r) = (y, impl_RunWithin.rn u y)) from fun h => hy (congrArg Prod.fst h.2).symm)]
        simp [hy]
  have := key 6 (by omega)
  rw [show a.l.take 6 = a.l from List.take_of_length_le (by rw [a.h]; omega)] at this
  exact this
/-- A sum over the faces is one over the different numbers. -/
theorem faces_sum (g : Int → Int) (V : List Int) (hV : V.Nodup) : ∀ l : List Int, (∀ x ∈ l, x ∈ V) → (l.map g).sum = sumN V.length (fun j => (l.count (V.getD j 0) : Int) * g (V.getD j 0))
  | [], _ => by
    simp only [List.map_nil, List.sum_nil, List.count_nil, Int.natCast_zero, Int.zero_mul]
    exact (sumN_zero _).symm
  | y :: l, h => by
    have ih := faces_sum g V hV l (fun x hx => h x (.tail _ hx))
    obtain ⟨i, hi⟩ := List.getElem?_of_mem (h y (.head _))
    obtain ⟨hl, he⟩ := List.getElem?_eq_some_iff.1 hi
    have hsingle : ∀ n, sumN n (fun j => if j = i then g y else 0) = if i < n then g y else 0 := by
      intro n
      induction n with
      | zero => rfl
      | succ n ihn =>
        rw [sumN, ihn]
        by_cases h1 : i < n
        · rw [if_pos h1, if_neg (by omega), if_pos (by omega), Int.add_zero]
        · rw [if_neg h1]
          by_cases h2 : n = i
          · rw [if_pos h2, if_pos (by omega), Int.zero_add]
          · rw [if_neg h2, if_neg (by omega)]; rfl
    rw [List.map_cons, List.sum_cons, ih]
    have e : sumN V.length (fun j => ((y :: l).count (V.getD j 0) : Int) * g (V.getD j 0)) = sumN V.length (fun j => (l.count (V.getD j 0) : Int) * g (V.getD j 0) + (if j = i then g y else 0)) := by
      refine sumN_congr _ _ _ fun j hj => ?_
      rw [List.count_cons]
      by_cases hji : j = i
      · subst hji
        rw [getD_nat _ _ _ hj, he]
        simp [Int.add_mul]
      · have : ¬ y = V.getD j 0 := by
          rw [getD_nat _ _ _ hj, ← he]
          intro e
          exact hji ((List.getElem_inj hV).1 e).symm
        rw [if_neg hji, show (y == V.getD j 0) = false by simpa using this]
        simp
    rw [e, sumN_add, hsingle, if_pos hl]
    omega
theorem rw_c (a : Ar 6) (h : dieB a = true) (k : Int) (u : Int × Int) : impl_RunWithin.c a k u 6 = sumN (ddS a.l 6).length (fun j => (wt a ((ddS a.l 6).getD j 0) : Int) * (if k ≤ impl_RunWithin.rn u ((ddS a.l 6).getD j 0) then 1 else 0)) := by
  have key : ∀ i, i ≤ 6 → impl_RunWithin.c a k u i = ((a.l.take i).map (fun x => if k ≤ impl_RunWithin.rn u x then (1 : Int) else 0)).sum := by
    intro i
    induction i with
    | zero => intro _; simp [impl_RunWithin.c]
    | succ i ih =>
      intro hi
      rw [impl_RunWithin.c, ih (by omega), take_succ_getD a.l i (by rw [a.h]; omega), ar_getD, List.map_append, List.sum_append]
      simp
  have h6 := key 6 (by omega)
  rw [show a.l.take 6 = a.l from List.take_of_length_le (by rw [a.h]; omega)] at h6
  rw [h6, faces_sum _ (ddS a.l 6) ((dd_lt a h).imp (fun h => by omega)) a.l (fun x hx => (dd_mem a x).2 hx)]
  rfl
theorem all_power : spec_l2All.f = impl_power.f := by kernel_rfl
theorem pow_lt (n : Nat) (h : n ≤ 22) : (6 : Int) ^ n ≤ 131621703842267136 := by
  have : (6 : Nat) ^ n ≤ 6 ^ 22 := Nat.pow_le_pow_right (by omega) h
  have h2 : ((6 ^ n : Nat) : Int) ≤ ((6 ^ 22 : Nat) : Int) := by exact_mod_cast this
  simpa using h2
theorem pow_pos (n : Nat) : (1 : Int) ≤ 6 ^ n := by
  have : 1 ≤ (6 : Nat) ^ n := Nat.one_le_pow _ _ (by omega)
  have h2 : ((1 : Nat) : Int) ≤ ((6 ^ n : Nat) : Int) := by exact_mod_cast this
  simpa using h2
theorem power_l0 (K : Nat) (n : Nat) (hn : n ≤ 22) : ∀ (k i : Nat), i ≤ n → n - i < k → impl_power.l0 K (n : Int) k ((6 : Int) ^ i) (i : Int) = some ((6 : Int) ^ n) := by
  intro k
  induction k with
  | zero => intro i h1 h2; omega
  | succ k ih =>
    intro i h1 h2
    rw [impl_power.l0]
    by_cases h : (i : Int) < (n : Int)
    · have hp := pow_lt (i + 1) (by omega)
      have hq := pow_pos (i + 1)
      have e : (6 : Int) ^ i * 6 = 6 ^ (i + 1) := (Int.pow_succ 6 i).symm
      rw [if_pos h, e, w64 (n := (6 : Int) ^ (i + 1)) (by omega) (by omega), w64 (n := (i : Int) + 1) (by omega) (by omega), show (i : Int) + 1 = ((i + 1 : Nat) : Int) by omega]
      exact ih (i + 1) (by omega) (by omega)
    · rw [if_neg h, show i = n by omega]
theorem power_eq (K : Nat) (hK : 30 ≤ K) (n : Nat) (hn : n ≤ 22) : impl_power.f K (n : Int) = some ((6 : Int) ^ n) := by
  unfold impl_power.f
  rw [show impl_power.l0 K (n : Int) K 1 0 = some ((6 : Int) ^ n) from power_l0 K n hn K 0 (by omega) (by omega)]
  rfl
theorem sumN_single (n i : Nat) (g : Nat → Int) : sumN n (fun s => if s = i then g s else 0) = if i < n then g i else 0 := by
  induction n with
  | zero => rfl
  | succ n ih =>
    rw [sumN, ih]
    by_cases h1 : i < n
    · rw [if_pos h1, if_neg (by omega), if_pos (by omega), Int.add_zero]
    · rw [if_neg h1]
      by_cases h2 : n = i
      · rw [if_pos h2, if_pos (by omega), Int.zero_add, h2]
      · rw [if_neg h2, if_neg (by omega)]; rfl
theorem sumN_mul (x : Int) (n : Nat) (g : Nat → Int) : sumN n (fun s => x * g s) = x * sumN n g := by
  induction n with
  | zero => simp [sumN]
  | succ n ih => rw [sumN, sumN, ih, Int.mul_add]
/-- What goes on to run ρ of number j. -/
def rwF (a : Ar 6) (k : Nat) (A : Int × Int → Int) (j ρ : Nat) : Int :=
  if 1 < ρ then A (rwK a k (j * k + (ρ - 1))) else A (-1, 0) + sumN (rwN a k) (fun s => if s / k = j then 0 else A (rwK a k s))
theorem rw_F (a : Ar 6) (h : dieB a = true) (k : Nat) (hk : 0 < k) (A : Int × Int → Int) (hA : ∀ x : Int, 0 ≤ x → A (x, 0) = 0) (j ρ : Nat) (hj : j < (ddS a.l 6).length) (h1 : 1 ≤ ρ) (h2 : ρ ≤ k) :
    ls (fun u => if (ρ : Int) = impl_RunWithin.rn u ((ddS a.l 6).getD j 0) then A u else 0) (impl_RunWithin.U a (k : Int)) = rwF a k A j ρ := by
  have hx := dd_nn a h j hj
  rw [rw_U, ls, ls_map]
  have hs : ∀ s, s < rwN a k → impl_RunWithin.rn (rwK a k s) ((ddS a.l 6).getD j 0) = if s / k = j then ((s % k + 1 : Nat) : Int) else 1 := by
    intro s hs
    obtain ⟨g1, g2, g3⟩ := rw_split hk hs
    unfold impl_RunWithin.rn rwK
    by_cases hc : s / k = j
    · rw [if_pos (by rw [hc]), if_pos hc]; simp
    · rw [if_neg (fun e => hc (dd_inj a h _ _ g1 hj e.symm)), if_neg hc]
  have h0 : impl_RunWithin.rn (-1, 0) ((ddS a.l 6).getD j 0) = 1 := by unfold impl_RunWithin.rn; rw [if_neg (by simp only; omega)]
  rw [h0]
  unfold rwF
  by_cases hρ : 1 < ρ
  · rw [if_pos hρ, if_neg (by omega), Int.zero_add]
    obtain ⟨g1, g2, g3⟩ := rw_join (m := (ddS a.l 6).length) (k := k) hj (show ρ - 1 < k by omega)
    rw [sumN_congr _ _ (fun s => if s = j * k + (ρ - 1) then A (rwK a k s) else 0) (fun s hs' => ?_), sumN_single, if_pos (show _ < rwN a k from g1)]
    rw [hs s hs']
    obtain ⟨f1, f2, f3⟩ := rw_split hk hs'
    by_cases hc : s / k = j
    · rw [if_pos hc]
      by_cases hr : s % k + 1 = ρ
      · rw [if_pos (by omega), if_pos (by rw [f3, hc]; omega)]
      · rw [if_neg (by omega), if_neg (fun e => hr (by rw [e, g3]; omega))]
    · rw [if_neg hc, if_neg (by omega), if_neg (fun e => hc (by rw [e, g2]))]
  · have hρ1 : ρ = 1 := by omega
    subst hρ1
    rw [if_neg hρ, if_pos (show ((1 : Nat) : Int) = 1 from rfl)]
    congr 1
    refine sumN_congr _ _ _ fun s hs' => ?_
    rw [hs s hs']
    by_cases hc : s / k = j
    · rw [if_pos hc, if_pos hc]
      by_cases hr : s % k = 0
      · obtain ⟨f1, _, _⟩ := rw_split hk hs'
        rw [if_pos (by rw [hr])]
        unfold rwK
        rw [hr]
        exact hA _ (dd_nn a h _ f1)
      · rw [if_neg (by omega)]
    · rw [if_neg hc, if_neg hc, if_pos (show ((1 : Nat) : Int) = 1 from rfl)]
theorem rw_rn (a : Ar 6) (h : dieB a = true) (k : Nat) (hk : 0 < k) (u : Int × Int) (hu : u ∈ impl_RunWithin.U a (k : Int)) (x : Int) : 1 ≤ impl_RunWithin.rn u x ∧ impl_RunWithin.rn u x ≤ k := by
  have hu2 : 0 ≤ u.2 ∧ u.2 + 1 ≤ k := by
    rw [rw_U] at hu
    rcases List.mem_cons.1 hu with rfl | hu
    · exact ⟨by simp, by simp; omega⟩
    · obtain ⟨s, hs, rfl⟩ := List.mem_map.1 hu
      obtain ⟨_, h2, _⟩ := rw_split hk (List.mem_range.1 hs)
      simp only [rwK]
      omega
  unfold impl_RunWithin.rn
  split <;> omega
theorem rw_As (a : Ar 6) (k : Int) (t : Nat) (key : Int × Int) : impl_RunWithin.A a k (t + 1) key = ls (fun u => impl_RunWithin.A a k t u * impl_RunWithin.m a k key u 6) (impl_RunWithin.U a k) := by
  rw [← sm_ls]; rfl
theorem rw_A0 (a : Ar 6) (k : Nat) : ∀ (t : Nat) (x : Int), 0 ≤ x → impl_RunWithin.A a (k : Int) t (x, 0) = 0
  | 0, x, hx => by
    unfold impl_RunWithin.A upd
    rw [if_neg (by simp; omega)]
  | t + 1, x, hx => by
    rw [rw_As, ls_congr (g := fun _ => 0) _ (fun u hu => ?_), ls_zero]
    by_cases hk : 0 < k
    · rw [rw_m, if_neg (fun h0 => ?_), Int.mul_zero]
      have h2 : 0 ≤ u.2 := by
        rw [rw_U] at hu
        rcases List.mem_cons.1 hu with rfl | hu
        · simp
        · obtain ⟨s, hs, rfl⟩ := List.mem_map.1 hu
          simp only [rwK]; omega
      have h3 := h0.2
      unfold impl_RunWithin.rn at h3
      split at h3 <;> omega
    · rw [rw_m, if_neg (fun h0 => ?_), Int.mul_zero]
      have hk0 : k = 0 := by omega
      subst hk0
      have h3 := h0.1
      have h2 : u = (-1, 0) := by
        rw [rw_U] at hu
        simpa [rwN] using hu
      subst h2
      apply h3
      unfold impl_RunWithin.rn
      split <;> simp
theorem rw_start (a : Ar 6) (h : dieB a = true) (k : Nat) (t : Nat) : impl_RunWithin.A a (k : Int) (t + 1) (-1, 0) = 0 := by
  rw [rw_As, ls_congr (g := fun _ => 0) _ (fun u hu => ?_), ls_zero]
  rw [rw_m]
  have : wt a (-1) = 0 := by
    unfold wt
    rw [List.count_eq_zero]
    intro hm
    have := mem_nn a h _ hm
    omega
  rw [this]
  simp
theorem rw_stepA (a : Ar 6) (h : dieB a = true) (k : Nat) (hk : 0 < k) (t j r : Nat) (hj : j < (ddS a.l 6).length) (h1 : 1 ≤ r) (h2 : r < k) :
    impl_RunWithin.A a (k : Int) (t + 1) (rwK a k (j * k + r)) = (wt a ((ddS a.l 6).getD j 0) : Int) * rwF a k (impl_RunWithin.A a (k : Int) t) j r := by
  rw [rwK_at a hj h2, rw_As, ← rw_F a h k hk _ (rw_A0 a k t) j r hj h1 (by omega), ← ls_mul]
  refine ls_congr _ fun u hu => ?_
  rw [rw_m]
  have := rw_rn a h k hk u hu ((ddS a.l 6).getD j 0)
  by_cases hr : (r : Int) = impl_RunWithin.rn u ((ddS a.l 6).getD j 0)
  · rw [if_pos ⟨by omega, hr⟩, if_pos hr, Int.mul_comm]
  · rw [if_neg (fun h => hr h.2), if_neg hr]; simp
theorem rw_stepD (a : Ar 6) (h : dieB a = true) (k : Nat) (hk : 0 < k) (t : Nat) :
    impl_RunWithin.D a (k : Int) (t + 1) = 6 * impl_RunWithin.D a (k : Int) t + sumN (ddS a.l 6).length (fun j => (wt a ((ddS a.l 6).getD j 0) : Int) * rwF a k (impl_RunWithin.A a (k : Int) t) j k) := by
  rw [impl_RunWithin.D, sm_ls]
  congr 1
  generalize hm : (ddS a.l 6).length = m
  have e1 : ls (fun u => impl_RunWithin.A a (k : Int) t u * impl_RunWithin.c a (k : Int) u 6) (impl_RunWithin.U a (k : Int)) = ls (fun u => sumN m (fun j => (wt a ((ddS a.l 6).getD j 0) : Int) * (if (k : Int) = impl_RunWithin.rn u ((ddS a.l 6).getD j 0) then impl_RunWithin.A a (k : Int) t u else 0))) (impl_RunWithin.U a (k : Int)) := by
    refine ls_congr _ fun u hu => ?_
    rw [rw_c a h, hm, ← sumN_mul]
    refine sumN_congr _ _ _ fun j hj => ?_
    have := rw_rn a h k hk u hu ((ddS a.l 6).getD j 0)
    by_cases hc : (k : Int) ≤ impl_RunWithin.rn u ((ddS a.l 6).getD j 0)
    · rw [if_pos hc, if_pos (by omega), Int.mul_one, Int.mul_comm]
    · rw [if_neg hc, if_neg (by omega)]; simp
  rw [e1]
  have e2 : ∀ (n : Nat) (f : Nat → Int × Int → Int) (U : List (Int × Int)), ls (fun u => sumN n (fun j => f j u)) U = sumN n (fun j => ls (f j) U) := by
    intro n f U
    induction n with
    | zero => exact ls_zero U
    | succ n ih => simp only [sumN]; rw [ls_add, ih]
  rw [e2]
  refine sumN_congr _ _ _ fun j hj => ?_
  rw [ls_mul, rw_F a h k hk _ (rw_A0 a k t) j k (by omega) (by omega) (Nat.le_refl _)]
/-! all that there is grows by 6 at most -/
theorem rw_mass (a : Ar 6) (k : Int) (u : Int × Int) (U : List (Int × Int)) (hU : U.Nodup) : ∀ i : Nat, impl_RunWithin.c a k u i + ls (fun key => impl_RunWithin.m a k key u i) U ≤ i
  | 0 => by
    rw [impl_RunWithin.c, ls_congr (f := fun key => impl_RunWithin.m a k key u 0) (g := fun _ => 0) U (fun key _ => rfl), ls_zero]; simp
  | i + 1 => by
    have ih := rw_mass a k u U hU i
    rw [impl_RunWithin.c]
    have e : ls (fun key => impl_RunWithin.m a k key u (i + 1)) U = ls (fun key => impl_RunWithin.m a k key u i) U + ls (fun key => if ¬ k ≤ impl_RunWithin.rn u (a.get (i : Int)) ∧ key = (a.get (i : Int), impl_RunWithin.rn u (a.get (i : Int))) then 1 else 0) U := by
      rw [← ls_add]
      exact ls_congr _ fun key _ => rfl
    rw [e]
    by_cases hc : k ≤ impl_RunWithin.rn u (a.get (i : Int))
    · rw [if_pos hc, ls_congr (f := fun key => if ¬ k ≤ impl_RunWithin.rn u (a.get (i : Int)) ∧ key = (a.get (i : Int), impl_RunWithin.rn u (a.get (i : Int))) then 1 else 0) (g := fun _ => 0) _ (fun key _ => if_neg (fun h => h.1 hc)), ls_zero]
      omega
    · rw [if_neg hc]
      have h1 := (ls_one (a.get (i : Int), impl_RunWithin.rn u (a.get (i : Int))) U hU).1
      have e2 : ls (fun key => if ¬ k ≤ impl_RunWithin.rn u (a.get (i : Int)) ∧ key = (a.get (i : Int), impl_RunWithin.rn u (a.get (i : Int))) then 1 else 0) U = ls (fun key => if key = (a.get (i : Int), impl_RunWithin.rn u (a.get (i : Int))) then 1 else 0) U := by
        refine ls_congr _ fun key _ => ?_
        by_cases hk : key = (a.get (i : Int), impl_RunWithin.rn u (a.get (i : Int)))
        · rw [if_pos ⟨hc, hk⟩, if_pos hk]
        · rw [if_neg (fun h => hk h.2), if_neg hk]
      rw [e2]
      omega
theorem rw_bound (a : Ar 6) (h : dieB a = true) (k : Nat) (hk : 0 < k) : ∀ t : Nat, (∀ u, 0 ≤ impl_RunWithin.A a (k : Int) t u) ∧ 0 ≤ impl_RunWithin.D a (k : Int) t ∧ impl_RunWithin.D a (k : Int) t + ls (impl_RunWithin.A a (k : Int) t) (impl_RunWithin.U a (k : Int)) ≤ 6 ^ t
  | 0 => by
    have h1 := (ls_one (-1, 0) _ (rw_nodup a h k hk)).1
    refine ⟨fun u => ?_, by simp [impl_RunWithin.D], ?_⟩
    · unfold impl_RunWithin.A upd; split <;> simp
    · rw [impl_RunWithin.D, ls_congr (f := impl_RunWithin.A a (k : Int) 0) (g := fun u => if u = (-1, 0) then 1 else 0) _ (fun u _ => rfl)]
      omega
  | t + 1 => by
    obtain ⟨h1, h2, h3⟩ := rw_bound a h k hk t
    have hU := rw_nodup a h k hk
    have hA : ∀ key, impl_RunWithin.A a (k : Int) (t + 1) key = ls (fun u => impl_RunWithin.A a (k : Int) t u * impl_RunWithin.m a (k : Int) key u 6) (impl_RunWithin.U a (k : Int)) := fun key => rw_As a (k : Int) t key
    refine ⟨fun key => ?_, ?_, ?_⟩
    · rw [hA]
      exact ls_nn _ fun u _ => Int.mul_nonneg (h1 u) (impl_RunWithin.m_le a (k : Int) key u 6).1
    · rw [impl_RunWithin.D, sm_ls]
      have := ls_nn (f := fun u => impl_RunWithin.A a (k : Int) t u * impl_RunWithin.c a (k : Int) u 6) (impl_RunWithin.U a (k : Int)) fun u _ => Int.mul_nonneg (h1 u) (impl_RunWithin.c_le a (k : Int) u 6).1
      omega
    · rw [impl_RunWithin.D, sm_ls, ls_congr (f := impl_RunWithin.A a (k : Int) (t + 1)) _ (fun key _ => hA key), ls_comm]
      have e : ls (fun u => impl_RunWithin.A a (k : Int) t u * impl_RunWithin.c a (k : Int) u 6) (impl_RunWithin.U a (k : Int)) + ls (fun u => ls (fun key => impl_RunWithin.A a (k : Int) t u * impl_RunWithin.m a (k : Int) key u 6) (impl_RunWithin.U a (k : Int))) (impl_RunWithin.U a (k : Int)) ≤ ls (fun u => 6 * impl_RunWithin.A a (k : Int) t u) (impl_RunWithin.U a (k : Int)) := by
        rw [← ls_add]
        refine ls_le _ fun u _ => ?_
        rw [ls_mul, ← Int.mul_add]
        have := Int.mul_le_mul_of_nonneg_left (rw_mass a (k : Int) u _ hU 6) (h1 u)
        omega
      rw [ls_mul] at e
      rw [Int.pow_succ]
      omega
theorem rw_small (a : Ar 6) (h : dieB a = true) (k : Nat) (hk : 0 < k) (t : Nat) (ht : t ≤ 12) : (0 ≤ impl_RunWithin.D a (k : Int) t ∧ impl_RunWithin.D a (k : Int) t ≤ 2176782336) ∧ (∀ u, 0 ≤ impl_RunWithin.A a (k : Int) t u) ∧ (ls (impl_RunWithin.A a (k : Int) t) (impl_RunWithin.U a (k : Int)) ≤ 2176782336) ∧ ∀ u ∈ impl_RunWithin.U a (k : Int), impl_RunWithin.A a (k : Int) t u ≤ 2176782336 := by
  obtain ⟨h1, h2, h3⟩ := rw_bound a h k hk t
  have hp6 : (6 : Int) ^ t ≤ 2176782336 := by
    have : ((6 ^ t : Nat) : Int) ≤ ((6 ^ 12 : Nat) : Int) := by
      exact_mod_cast Nat.pow_le_pow_right (by omega) (by omega)
    simpa using this
  have h4 := ls_nn (f := impl_RunWithin.A a (k : Int) t) (impl_RunWithin.U a (k : Int)) (fun u _ => h1 u)
  refine ⟨⟨h2, by omega⟩, h1, by omega, fun u hu => ?_⟩
  have := ls_mem (f := impl_RunWithin.A a (k : Int) t) (impl_RunWithin.U a (k : Int)) (fun u _ => h1 u) u hu
  omega
theorem rw_G (a : Ar 6) (h : dieB a = true) (k : Nat) (hk : 1 ≤ k) (hk2 : k ≤ 12) (n : Nat) (hn : n ≤ 12) : impl_RunWithin.G a (k : Int) (n : Int) := by
  refine ⟨⟨by omega, by omega, by omega, by omega⟩, rw_nodup a h k hk, fun u hu => ?_, fun u hu i hi hc => ?_, fun t ht => ?_⟩
  · rw [rw_U] at hu
    rcases List.mem_cons.1 hu with rfl | hu
    · simp
    · obtain ⟨s, hs, rfl⟩ := List.mem_map.1 hu
      obtain ⟨_, h2, _⟩ := rw_split hk (List.mem_range.1 hs)
      simp only [rwK]
      omega
  · obtain ⟨r1, r2⟩ := rw_rn a h k hk u hu (a.get (i : Int))
    obtain ⟨j, hj⟩ := List.getElem?_of_mem ((dd_mem a _).2 (rw_get a h i (List.mem_range.1 hi)).2)
    obtain ⟨hl, he⟩ := List.getElem?_eq_some_iff.1 hj
    obtain ⟨r, hr⟩ : ∃ r : Nat, impl_RunWithin.rn u (a.get (i : Int)) = (r : Int) := ⟨(impl_RunWithin.rn u (a.get (i : Int))).toNat, by omega⟩
    rw [hr] at hc ⊢
    rw [rw_U]
    refine List.mem_cons_of_mem _ (List.mem_map.2 ⟨j * k + r, List.mem_range.2 (rw_join hl (by omega)).1, ?_⟩)
    rw [rwK_at a hl (by omega), getD_nat _ _ _ hl, he]
  · obtain ⟨⟨g1, g2⟩, g3, g4, g5⟩ := rw_small a h k hk t (by
      have := List.mem_range.1 ht
      rw [Int.toNat_natCast] at this
      omega)
    exact ⟨⟨g1, by omega⟩, fun u hu => ⟨g3 u, by have := g5 u hu; omega⟩⟩
theorem cut_l0 (K : Nat) : ∀ (k : Nat) (a b : Int), 0 < a → 0 ≤ b → b < k → ∃ g, 0 < g ∧ spec_l2Cut.l0 K k a b = some g ∧ impl_fraction.l0 K k a b = some g := by
  intro k
  induction k with
  | zero => intro a b h0 h1 h2; omega
  | succ k ih =>
    intro a b h0 h1 h2
    rw [spec_l2Cut.l0, impl_fraction.l0]
    by_cases h : b = 0
    · subst h; exact ⟨a, h0, by simp, by simp⟩
    · rw [if_pos (show 0 < b by omega), if_neg h, if_pos h, if_pos h]
      have hb : 0 ≤ a.tmod b := Int.tmod_nonneg _ (by omega)
      have hc : a.tmod b < b := Int.tmod_lt_of_pos _ (by omega)
      obtain ⟨g, h3, h4, h5⟩ := ih b (a.tmod b) (by omega) hb (by omega)
      rw [h4, h5]
      exact ⟨g, h3, rfl, rfl⟩
theorem cutz_l0 (K : Nat) (k : Nat) (a b : Int) (ha : 0 ≤ a) (hb : 0 ≤ b) (h : 0 < a ∨ 0 < b) (hk : b + 1 < k) : ∃ g, 0 < g ∧ spec_l2Cut.l0 K k a b = some g ∧ impl_fraction.l0 K k a b = some g := by
  rcases Int.lt_or_eq_of_le ha with h0 | h0
  · exact cut_l0 K k a b h0 hb (by omega)
  · have hb' : 0 < b := by omega
    match k, hk with
    | 0, hk => omega
    | k + 1, hk =>
      rw [spec_l2Cut.l0, impl_fraction.l0]
      have hne : b ≠ 0 := by omega
      have h1 : (0 : Int).tmod b = 0 := Int.zero_tmod b
      subst h0
      rw [if_pos hb', if_neg hne, if_pos hne, if_pos hne, h1]
      exact cut_l0 K k b 0 hb' (by omega) (by omega)
theorem cutz_eq (K : Nat) (a b : Int) (ha : 0 ≤ a) (hb : 0 ≤ b) (h : 0 < a ∨ 0 < b) (hK : b + 1 < K) : ∃ r, spec_l2Cut.f K a b = some r ∧ impl_fraction.f K a b = some r := by
  obtain ⟨g, h1, h2, h3⟩ := cutz_l0 K K a b ha hb h hK
  unfold spec_l2Cut.f impl_fraction.f
  rw [h2, h3]
  simp only [some_bind]
  have : spec_l1Most.f K g 1 = some g := by
    unfold spec_l1Most.f
    by_cases h : 1 < g
    · rw [if_pos h]
    · rw [if_neg h, show g = 1 by omega]
  rw [this]
  simp only [some_bind]
  have hg : g ≠ 0 := by omega
  rw [if_pos hg, if_pos hg]
  exact ⟨_, rfl, rfl⟩
theorem eqA2 (K : Nat) (hK : 3 ≤ K) (a : Ar 2) : laws_eqIntA2.f K a a = some true := by
  obtain ⟨k, rfl⟩ := Nat.exists_eq_add_of_le hK
  rw [show 3 + k = k + 1 + 1 + 1 by omega]
  simp [laws_eqIntA2.f, laws_eqIntA2.l0, wrap64]

theorem toA6 (K : Nat) (hK : 8 ≤ K) (a : Ar 6) : laws_toIntA6.f K a = some a := by
  obtain ⟨k, rfl⟩ := Nat.exists_eq_add_of_le hK
  obtain ⟨x, y, z, u, v, w, rfl⟩ := Ar.cases6 a
  have e : 8 + k = k + 1 + 1 + 1 + 1 + 1 + 1 + 1 + 1 := by omega
  unfold laws_toIntA6.f
  rw [e]
  simp only [laws_toIntA6.l0, show (0 : Int) < 6 by decide, show wrap64 (0 + 1) = 1 by decide +kernel, show wrap64 (1 + 1) = 2 by decide +kernel, show wrap64 (2 + 1) = 3 by decide +kernel, show wrap64 (3 + 1) = 4 by decide +kernel, show wrap64 (4 + 1) = 5 by decide +kernel, show wrap64 (5 + 1) = 6 by decide +kernel, if_true, show (0 : Int) ≤ 0 ∧ True by decide]
  rfl
theorem rwF_small (a : Ar 6) (h : dieB a = true) (k : Nat) (hk : 0 < k) (t : Nat) (ht : t ≤ 12) (j ρ : Nat) (hj : j < (ddS a.l 6).length) (h1 : 1 ≤ ρ) (h2 : ρ ≤ k) : 0 ≤ rwF a k (impl_RunWithin.A a (k : Int) t) j ρ ∧ rwF a k (impl_RunWithin.A a (k : Int) t) j ρ ≤ 2176782336 := by
  obtain ⟨_, g3, g4, _⟩ := rw_small a h k hk t ht
  rw [← rw_F a h k hk _ (rw_A0 a k t) j ρ hj h1 h2]
  constructor
  · refine ls_nn _ fun u _ => ?_
    split
    · exact g3 u
    · exact Int.le_refl _
  · refine Int.le_trans (ls_le _ fun u _ => ?_) g4
    split
    · exact Int.le_refl _
    · exact g3 u
theorem rw_l20 (K : Nat) (W : List Int) (k j n : Nat) (st : Int) (hk : 0 < k) (hn : W.length = n) (hn2 : n ≤ 100) (hst : 0 ≤ st ∧ st ≤ 2176782336) (hW : ∀ s, s < n → 0 ≤ W.getD s 0 ∧ W.getD s 0 ≤ 2176782336) : ∀ (q s : Nat), s ≤ n → n - s < q → spec_RunWithin.l20 K (k : Int) W (j : Int) q (st + sumN s (fun s => if s / k = j then 0 else W.getD s 0)) (s : Int) = some (st + sumN n (fun s => if s / k = j then 0 else W.getD s 0)) := by
  intro q
  induction q with
  | zero => intro s h1 h2; omega
  | succ q ih =>
    intro s h1 h2
    rw [spec_RunWithin.l20, hn]
    by_cases hs : s < n
    · have hih := ih (s + 1) (by omega) (by omega)
      rw [sumN] at hih
      have hsum := sumN_range s (fun s => if s / k = j then 0 else W.getD s 0) 2176782336 (fun i hi => by
        have := hW i (by omega)
        split
        · omega
        · exact this)
      have hws := hW s hs
      have hsB : (s : Int) * 2176782336 ≤ 100 * 2176782336 := by omega
      have c1 : (s : Int) < (n : Int) := by omega
      have c2 : (0 : Int) ≤ (s : Int) ∧ (s : Int) < (n : Int) := by omega
      have ck : (k : Int) ≠ 0 := by omega
      have hd : s / k ≤ s := Nat.div_le_self _ _
      have c3 : -9223372036854775808 ≤ ((s / k : Nat) : Int) ∧ ((s / k : Nat) : Int) ≤ 9223372036854775807 := by
        generalize s / k = z at *
        omega
      have c4 : -9223372036854775808 ≤ st + sumN s (fun s => if s / k = j then 0 else W.getD s 0) + W.getD s 0 ∧ st + sumN s (fun s => if s / k = j then 0 else W.getD s 0) + W.getD s 0 ≤ 9223372036854775807 := by omega
      rw [if_pos c1, if_pos ck, show (s : Int).tdiv (k : Int) = ((s / k : Nat) : Int) from rfl, w64 c3.1 c3.2, w1' s (by omega)]
      by_cases hc : s / k = j
      · rw [if_pos (by rw [hc])]
        rw [if_pos hc, Int.add_zero] at hih
        exact hih
      · rw [if_neg (show ¬ ((s / k : Nat) : Int) = (j : Int) from fun e => hc (Int.ofNat.inj e)), if_pos c2, Int.toNat_natCast]
        rw [if_neg hc, ← Int.add_assoc] at hih
        rw [w64 c4.1 c4.2]
        exact hih
    · have : s = n := by omega
      rw [this, if_neg (by omega)]
theorem rw_ix (j k r : Nat) (h : j * k + r ≤ 100) (h1 : 1 ≤ r) : (j : Int) * (k : Int) = ((j * k : Nat) : Int) ∧ wrap64 ((j * k : Nat) : Int) = ((j * k : Nat) : Int) ∧ wrap64 (((j * k : Nat) : Int) + (r : Int)) = ((j * k + r : Nat) : Int) ∧ wrap64 (((j * k + r : Nat) : Int) - 1) = ((j * k + (r - 1) : Nat) : Int) ∧ wrap64 ((r : Int) + 1) = ((r + 1 : Nat) : Int) := by
  refine ⟨(Int.natCast_mul j k).symm, ?_⟩
  generalize j * k = y at *
  refine ⟨w64 (by omega) (by omega), ?_, ?_, w1' r (by omega)⟩
  · rw [w64 (by omega) (by omega)]; omega
  · rw [w64 (by omega) (by omega)]; omega
theorem rw_l21 (K : Nat) (a : Ar 6) (h : dieB a = true) (k : Nat) (hk : 0 < k) (hk2 : k ≤ 12) (t : Nat) (ht : t ≤ 11) (W : List Int) (hWl : W.length = rwN a k) (hW : ∀ s, s < rwN a k → W.getD s 0 = impl_RunWithin.A a (k : Int) t (rwK a k s)) (j : Nat) (hj : j < (ddS a.l 6).length) (dn : Int) (hdn : 0 ≤ dn ∧ dn ≤ 1000000000000) :
    ∀ (q r : Nat) (nx : List Int), 1 ≤ r → r ≤ k → k + 1 - r < q → nx.length = rwN a k → (∀ s, s < rwN a k → nx.getD s 0 = if s < j * k + r then impl_RunWithin.A a (k : Int) (t + 1) (rwK a k s) else 0) →
    ∃ nx', spec_RunWithin.l21 K (k : Int) W (j : Int) (wt a ((ddS a.l 6).getD j 0) : Int) (rwF a k (impl_RunWithin.A a (k : Int) t) j 1) q dn (r : Int) nx = some (dn + (wt a ((ddS a.l 6).getD j 0) : Int) * rwF a k (impl_RunWithin.A a (k : Int) t) j k, nx') ∧ nx'.length = rwN a k ∧ ∀ s, s < rwN a k → nx'.getD s 0 = if s < (j + 1) * k then impl_RunWithin.A a (k : Int) (t + 1) (rwK a k s) else 0 := by
  intro q
  induction q with
  | zero => intro r nx h1 h2 h3; omega
  | succ q ih =>
    intro r nx h1 h2 h3 h4 h5
    have hsN : rwN a k ≤ 72 := by
      unfold rwN
      have := Nat.mul_le_mul (ddS_len a.l 6) hk2
      omega
    have hjk := (rw_join (m := (ddS a.l 6).length) (k := k) (r := 0) hj hk).1
    have hjN : j * k + k ≤ rwN a k := by
      unfold rwN
      have := Nat.mul_le_mul_right k (show j + 1 ≤ (ddS a.l 6).length from hj)
      rw [Nat.succ_mul] at this
      exact this
    have cW : (1 : Int) < (r : Int) → (0 : Int) ≤ ((j * k + (r - 1) : Nat) : Int) ∧ ((j * k + (r - 1) : Nat) : Int) < (W.length : Int) := by intro _; omega
    have cN : r < k → (0 : Int) ≤ ((j * k + r : Nat) : Int) ∧ ((j * k + r : Nat) : Int) < (nx.length : Int) := by intro _; omega
    have cr : (r : Int) ≤ (k : Int) := by omega
    obtain ⟨e0, e1, e2, e3, e4⟩ := rw_ix j k r (by omega) h1
    rw [spec_RunWithin.l21, e0, e1, e2, e3, e4]
    clear e0 e1 e2 e3 e4
    have hwt := wt_le a ((ddS a.l 6).getD j 0)
    generalize hw : wt a ((ddS a.l 6).getD j 0) = x at *
    have hFr := rwF_small a h k hk t (by omega) j r hj h1 h2
    have hfrom : rwF a k (impl_RunWithin.A a (k : Int) t) j r = if (1 : Int) < (r : Int) then W.getD (j * k + (r - 1)) 0 else rwF a k (impl_RunWithin.A a (k : Int) t) j 1 := by
      by_cases hr : 1 < r
      · rw [if_pos (by omega), hW _ (by omega)]
        unfold rwF
        rw [if_pos hr]
      · rw [if_neg (by omega), show r = 1 by omega]
    have hmul : 0 ≤ (x : Int) * rwF a k (impl_RunWithin.A a (k : Int) t) j r ∧ (x : Int) * rwF a k (impl_RunWithin.A a (k : Int) t) j r ≤ 13060694016 := by
      refine ⟨Int.mul_nonneg (by omega) hFr.1, ?_⟩
      have := Int.mul_le_mul (show (x : Int) ≤ 6 by omega) hFr.2 hFr.1 (by omega)
      omega
    have hlt : -9223372036854775808 ≤ (x : Int) * rwF a k (impl_RunWithin.A a (k : Int) t) j r ∧ (x : Int) * rwF a k (impl_RunWithin.A a (k : Int) t) j r ≤ 9223372036854775807 := by omega
    have hlt2 : -9223372036854775808 ≤ dn + (x : Int) * rwF a k (impl_RunWithin.A a (k : Int) t) j r ∧ dn + (x : Int) * rwF a k (impl_RunWithin.A a (k : Int) t) j r ≤ 9223372036854775807 := by omega
    rw [if_pos cr]
    by_cases hrk : r = k
    · -- the end of the row
      have hend : ∀ (d : Int), d = dn + (x : Int) * rwF a k (impl_RunWithin.A a (k : Int) t) j k → ∃ nx', spec_RunWithin.l21 K (k : Int) W (j : Int) (x : Int) (rwF a k (impl_RunWithin.A a (k : Int) t) j 1) q d ((r + 1 : Nat) : Int) nx = some (dn + (x : Int) * rwF a k (impl_RunWithin.A a (k : Int) t) j k, nx') ∧ nx'.length = rwN a k ∧ ∀ s, s < rwN a k → nx'.getD s 0 = if s < (j + 1) * k then impl_RunWithin.A a (k : Int) (t + 1) (rwK a k s) else 0 := by
        rintro d rfl
        obtain ⟨q, rfl⟩ : ∃ q', q = q' + 1 := ⟨q - 1, by omega⟩
        rw [spec_RunWithin.l21, if_neg (by omega)]
        refine ⟨nx, rfl, h4, fun s hs => ?_⟩
        rw [h5 s hs, Nat.succ_mul, hrk]
      have hrk' : (r : Int) = (k : Int) := by omega
      by_cases hr : (1 : Int) < (r : Int)
      · rw [if_pos hr] at hfrom
        rw [if_pos hr, if_pos (cW hr), if_pos hrk', Int.toNat_natCast, ← hfrom, w64 hlt.1 hlt.2, w64 hlt2.1 hlt2.2]
        exact hend _ (by rw [hrk])
      · rw [if_neg hr] at hfrom
        rw [if_neg hr, if_pos hrk', ← hfrom, w64 hlt.1 hlt.2, w64 hlt2.1 hlt2.2, hfrom]
        exact hend _ (by rw [← hfrom, hrk])
    · have hA' := rw_stepA a h k hk t j r hj h1 (by omega)
      rw [hw] at hA'
      have hz : nx.getD (j * k + r) 0 = 0 := by rw [h5 _ (by omega), if_neg (by omega)]
      have hrk' : ¬ (r : Int) = (k : Int) := by omega
      have hgo := ih (r + 1) (nx.set (j * k + r) (impl_RunWithin.A a (k : Int) (t + 1) (rwK a k (j * k + r)))) (by omega) (by omega) (by omega) (by rw [List.length_set]; exact h4) (fun s hs => by
        by_cases hsr : s = j * k + r
        · subst hsr
          rw [if_pos (by omega), getD_nat _ _ _ (by rw [List.length_set]; omega), List.getElem_set_self]
        · rw [getD_set_ne _ _ _ _ (fun e => hsr e.symm), h5 s hs]
          by_cases h6 : s < j * k + r
          · rw [if_pos h6, if_pos (by omega)]
          · rw [if_neg h6, if_neg (by omega)])
      have ew3 : wrap64 (nx.getD (j * k + r) 0 + (x : Int) * rwF a k (impl_RunWithin.A a (k : Int) t) j r) = impl_RunWithin.A a (k : Int) (t + 1) (rwK a k (j * k + r)) := by rw [hz, Int.zero_add, hA', w64 hlt.1 hlt.2]
      by_cases hr : (1 : Int) < (r : Int)
      · rw [if_pos hr] at hfrom
        rw [if_pos hr, if_pos (cW hr), if_neg hrk', if_pos (cN (by clear ew3; omega)), Int.toNat_natCast, Int.toNat_natCast, ← hfrom, w64 hlt.1 hlt.2, ew3]
        exact hgo
      · rw [if_neg hr] at hfrom
        rw [← hfrom] at hgo ⊢
        rw [if_neg hr, if_neg hrk', if_pos (cN (by clear ew3; omega)), Int.toNat_natCast, w64 hlt.1 hlt.2, ew3]
        exact hgo
theorem rw_l19 (K : Nat) (hK : 1000 ≤ K) (a : Ar 6) (h : dieB a = true) (k : Nat) (hk : 0 < k) (hk2 : k ≤ 12) (t : Nat) (ht : t ≤ 11) (W : List Int) (hWl : W.length = rwN a k) (hW : ∀ s, s < rwN a k → W.getD s 0 = impl_RunWithin.A a (k : Int) t (rwK a k s)) :
    ∀ (q j : Nat) (nx : List Int), j ≤ (ddS a.l 6).length → (ddS a.l 6).length - j < q → nx.length = rwN a k → (∀ s, s < rwN a k → nx.getD s 0 = if s < j * k then impl_RunWithin.A a (k : Int) (t + 1) (rwK a k s) else 0) →
    ∃ nx', spec_RunWithin.l19 K a (k : Int) (ddS a.l 6) (impl_RunWithin.A a (k : Int) t (-1, 0)) W q (6 * impl_RunWithin.D a (k : Int) t + sumN j (fun j => (wt a ((ddS a.l 6).getD j 0) : Int) * rwF a k (impl_RunWithin.A a (k : Int) t) j k)) (j : Int) nx = some (impl_RunWithin.D a (k : Int) (t + 1), nx') ∧ nx'.length = rwN a k ∧ ∀ s, s < rwN a k → nx'.getD s 0 = impl_RunWithin.A a (k : Int) (t + 1) (rwK a k s) := by
  intro q
  induction q with
  | zero => intro j nx h1 h2; omega
  | succ q ih =>
    intro j nx h1 h2 h3 h4
    obtain ⟨⟨s1, s2⟩, s3, s4, s5⟩ := rw_small a h k hk t (by omega)
    have hsN : rwN a k ≤ 72 := by
      unfold rwN
      have := Nat.mul_le_mul (ddS_len a.l 6) hk2
      omega
    have hl6 := ddS_len a.l 6
    rw [spec_RunWithin.l19]
    by_cases hj : j < (ddS a.l 6).length
    · have hWb : ∀ s, s < rwN a k → 0 ≤ W.getD s 0 ∧ W.getD s 0 ≤ 2176782336 := by
        intro s hs
        rw [hW s hs]
        refine ⟨s3 _, s5 _ ?_⟩
        rw [rw_U]
        exact List.mem_cons_of_mem _ (List.mem_map.2 ⟨s, List.mem_range.2 hs, rfl⟩)
      have hst := s5 (-1, 0) (by rw [rw_U]; exact List.mem_cons_self)
      have h20 := rw_l20 K W k j (rwN a k) (impl_RunWithin.A a (k : Int) t (-1, 0)) hk hWl (by omega) ⟨s3 _, hst⟩ hWb K 0 (by omega) (by omega)
      have hF1 : impl_RunWithin.A a (k : Int) t (-1, 0) + sumN (rwN a k) (fun s => if s / k = j then 0 else W.getD s 0) = rwF a k (impl_RunWithin.A a (k : Int) t) j 1 := by
        unfold rwF
        rw [if_neg (by omega)]
        congr 1
        refine sumN_congr _ _ _ fun s hs => ?_
        rw [hW s hs]
      rw [hF1, sumN, Int.add_zero] at h20
      have hsum := sumN_range j (fun j => (wt a ((ddS a.l 6).getD j 0) : Int) * rwF a k (impl_RunWithin.A a (k : Int) t) j k) 13060694016 (fun i hi => by
        have hFr := rwF_small a h k hk t (by omega) i k (by omega) hk (Nat.le_refl _)
        have hwt := wt_le a ((ddS a.l 6).getD i 0)
        refine ⟨Int.mul_nonneg (by omega) hFr.1, ?_⟩
        have := Int.mul_le_mul (show (wt a ((ddS a.l 6).getD i 0) : Int) ≤ 6 by omega) hFr.2 hFr.1 (by omega)
        omega)
      obtain ⟨nx1, i1, i2, i3⟩ := rw_l21 K a h k hk hk2 t ht W hWl hW j hj (6 * impl_RunWithin.D a (k : Int) t + sumN j (fun j => (wt a ((ddS a.l 6).getD j 0) : Int) * rwF a k (impl_RunWithin.A a (k : Int) t) j k)) ⟨by omega, by omega⟩ K 1 nx (by omega) (by omega) (by omega) h3 (fun s hs => by
        rw [h4 s hs]
        by_cases hs1 : s < j * k
        · rw [if_pos hs1, if_pos (by omega)]
        · rw [if_neg hs1]
          by_cases hs2 : s < j * k + 1
          · rw [if_pos hs2, show s = j * k + 0 by omega, rwK_at a hj hk]
            exact (rw_A0 a k (t + 1) _ (dd_nn a h j hj)).symm
          · rw [if_neg hs2])
      obtain ⟨nx2, j1, j2, j3⟩ := ih (j + 1) nx1 (by omega) (by omega) i2 i3
      refine ⟨nx2, ?_, j2, j3⟩
      rw [if_pos (by omega), if_pos (by omega), Int.toNat_natCast, (weight_eq K (by omega) a _).1, some_bind, show spec_RunWithin.l20 K (k : Int) W (j : Int) K (impl_RunWithin.A a (k : Int) t (-1, 0)) 0 = _ from h20, some_bind, show spec_RunWithin.l21 K (k : Int) W (j : Int) (wt a ((ddS a.l 6).getD j 0) : Int) (rwF a k (impl_RunWithin.A a (k : Int) t) j 1) K _ 1 nx = _ from i1, some_bind, w1' j (by omega)]
      rw [sumN, ← Int.add_assoc] at j1
      exact j1
    · have hjm : j = (ddS a.l 6).length := by omega
      refine ⟨nx, ?_, h3, fun s hs => ?_⟩
      · rw [if_neg (by omega), rw_stepD a h k hk t, hjm]
      · rw [h4 s hs, if_pos (by rw [hjm]; exact hs)]
theorem rw_l14 (K : Nat) (hK : 1000 ≤ K) (a : Ar 6) (h : dieB a = true) (k : Nat) (hk : 0 < k) (hk2 : k ≤ 12) (n : Nat) (hn : n ≤ 12) : ∀ (q t : Nat) (W : List Int), t ≤ n → n - t < q → W.length = rwN a k → (∀ s, s < rwN a k → W.getD s 0 = impl_RunWithin.A a (k : Int) t (rwK a k s)) →
    spec_RunWithin.l14 K a (k : Int) (n : Int) (ddS a.l 6) q (impl_RunWithin.D a (k : Int) t) (impl_RunWithin.A a (k : Int) t (-1, 0)) (t : Int) W = some (impl_RunWithin.D a (k : Int) n) := by
  intro q
  induction q with
  | zero => intro t W h1 h2; omega
  | succ q ih =>
    intro t W h1 h2 h3 h4
    rw [spec_RunWithin.l14]
    by_cases ht : t < n
    · obtain ⟨⟨s1, s2⟩, s3, s4, s5⟩ := rw_small a h k hk t (by omega)
      have hsN : rwN a k ≤ 72 := by
        unfold rwN
        have := Nat.mul_le_mul (ddS_len a.l 6) hk2
        omega
      have hl6 := ddS_len a.l 6
      have c1 : (t : Int) < (n : Int) := by omega
      have c2 : -9223372036854775808 ≤ 6 * impl_RunWithin.D a (k : Int) t ∧ 6 * impl_RunWithin.D a (k : Int) t ≤ 9223372036854775807 := by omega
      have c3 : -9223372036854775808 ≤ ((rwN a k : Nat) : Int) ∧ ((rwN a k : Nat) : Int) ≤ 9223372036854775807 := by omega
      obtain ⟨nx, i1, i2, i3⟩ := rw_l19 K hK a h k hk hk2 t (by omega) W h3 h4 K 0 (List.replicate (rwN a k) 0) (by omega) (by omega) (by simp) (fun s hs => by
        rw [if_neg (by omega), getD_nat _ _ _ (by simpa using hs)]
        simp)
      have hih := ih (t + 1) nx (by omega) (by omega) i2 i3
      rw [rw_start a h k t] at hih
      rw [sumN, Int.add_zero] at i1
      have e1 : ((ddS a.l 6).length : Int) * (k : Int) = ((rwN a k : Nat) : Int) := (Int.natCast_mul _ k).symm
      rw [if_pos c1, e1, w64 c3.1 c3.2, Int.toNat_natCast, w64 c2.1 c2.2, show spec_RunWithin.l19 K a (k : Int) (ddS a.l 6) (impl_RunWithin.A a (k : Int) t (-1, 0)) W K (6 * impl_RunWithin.D a (k : Int) t) 0 (List.replicate (rwN a k) 0) = _ from i1, some_bind, w1' t (by clear i1 hih; omega)]
      exact hih
    · have : t = n := by omega
      rw [this, if_neg (by omega)]
theorem rw_pow (t : Nat) (ht : t ≤ 12) : (6 : Int) ^ t ≤ 2176782336 := by
  have : ((6 ^ t : Nat) : Int) ≤ ((6 ^ 12 : Nat) : Int) := by
    exact_mod_cast Nat.pow_le_pow_right (by omega) (by omega)
  simpa using this
theorem RunWithin_spec (K : Nat) (hK : 100000000000 ≤ K) (a : Ar 6) (hd : dieB a = true) (k n : Nat) (hk : 1 ≤ k ∧ k ≤ 12) (hn : n ≤ 12) : spec_RunWithin.l14 K a (k : Int) (n : Int) (ddS a.l 6) K 0 1 0 (List.replicate (rwN a k) 0) = some (impl_RunWithin.D a (k : Int) n) := by
  have h14 := rw_l14 K (by omega) a hd k (by omega) (by omega) n (by omega) K 0 (List.replicate (rwN a k) 0) (by omega) (by omega) (by simp) (fun s hs => by
          rw [getD_nat _ _ _ (by simpa using hs), List.getElem_replicate]
          unfold impl_RunWithin.A upd
          rw [if_neg (fun e => ?_)]
          have h1 := dd_nn a hd (s / k) (rw_split (by omega) hs).1
          have h2 := congrArg Prod.fst e
          simp only [rwK] at h2
          omega)
  exact h14
theorem RunWithin_no (K : Nat) (hK : 100000000000 ≤ K) (a : Ar 6) (k n : Int) (h : dieB a = false ∨ ¬ (1 ≤ k ∧ k ≤ 12) ∨ ¬ (0 ≤ n ∧ n ≤ 12)) : spec_RunWithin.f K a k n = some ((⟨[0, 0], rfl⟩ : Ar 2), false) ∧ impl_RunWithin.f K a k n = some ((⟨[0, 0], rfl⟩ : Ar 2), false) := by
  unfold spec_RunWithin.f impl_RunWithin.f spec_l8Rolls.f impl_isRolls.f
  rw [die_spec _ (by omega), die_impl _ (by omega), in_within]
  simp only [some_bind, in_eq]
  cases hd : dieB a with
  | false => exact ⟨by simp, by simp⟩
  | true =>
    rw [hd] at h
    by_cases hk : 1 ≤ k ∧ k ≤ 12
    · have hn : ¬ (0 ≤ n ∧ n ≤ 12) := by
        rcases h with h | h | h
        · cases h
        · exact absurd hk h
        · exact h
      rw [decide_eq_true hk, decide_eq_false hn]
      exact ⟨by simp, by simp⟩
    · rw [decide_eq_false hk]
      by_cases hn : 0 ≤ n ∧ n ≤ 12
      · rw [decide_eq_true hn]; exact ⟨by simp, by simp⟩
      · rw [decide_eq_false hn]; exact ⟨by simp, by simp⟩
theorem RunWithin_impl (K : Nat) (hK : 100000000000 ≤ K) (a : Ar 6) (hd : dieB a = true) (k n : Nat) (hk : 1 ≤ k ∧ k ≤ 12) (hn : n ≤ 12) (s : Ar 2) (c2 : impl_fraction.f K (impl_RunWithin.D a (k : Int) n) ((6 : Int) ^ n) = some s) : impl_RunWithin.f K a (k : Int) (n : Int) = some (s, true) := by
  have hG := rw_G a hd k (by omega) (by omega) n (by omega)
  have hk' : (1 : Int) ≤ (k : Int) ∧ (k : Int) ≤ 12 := by omega
  have hn' : (0 : Int) ≤ (n : Int) ∧ (n : Int) ≤ 12 := by omega
  have hpw := power_eq K (by omega) n (by omega)
  unfold impl_RunWithin.f impl_isRolls.f
  rw [die_impl _ (by omega), hd, in_eq, in_eq, decide_eq_true hk', decide_eq_true hn', hpw]
  simp only [some_bind, if_true]
  rw [if_pos hG, Int.toNat_natCast, c2]
  rfl
theorem RunWithin_sp (K : Nat) (hK : 100000000000 ≤ K) (a : Ar 6) (hd : dieB a = true) (k n : Nat) (hk : 1 ≤ k ∧ k ≤ 12) (hn : n ≤ 12) (s : Ar 2) (c1 : spec_l2Cut.f K (impl_RunWithin.D a (k : Int) n) ((6 : Int) ^ n) = some s) : spec_RunWithin.f K a (k : Int) (n : Int) = some (s, true) := by
  have hsN : rwN a k ≤ 72 := by
    unfold rwN
    have := Nat.mul_le_mul (ddS_len a.l 6) hk.2
    omega
  have hk' : (1 : Int) ≤ (k : Int) ∧ (k : Int) ≤ 12 := by omega
  have hn' : (0 : Int) ≤ (n : Int) ∧ (n : Int) ≤ 12 := by omega
  have hpw := power_eq K (by omega) n (by omega)
  have hnum := numbers_spec K (by omega) a hd
  have c3 : (0 : Int) ≤ ((rwN a k : Nat) : Int) ∧ ((rwN a k : Nat) : Int) ≤ 1073741824 := by omega
  have c4 : -9223372036854775808 ≤ ((rwN a k : Nat) : Int) ∧ ((rwN a k : Nat) : Int) ≤ 9223372036854775807 := by omega
  have e1 : ((ddS a.l 6).length : Int) * (k : Int) = ((rwN a k : Nat) : Int) := (Int.natCast_mul _ k).symm
  have h14 := RunWithin_spec K hK a hd k n hk hn
  have hin : spec_l1In.f K (k : Int) 1 12 = some true := by rw [in_within, in_eq, decide_eq_true hk']
  have hro : spec_l8Rolls.f K a (n : Int) = some true := by
    unfold spec_l8Rolls.f
    rw [die_spec _ (by omega), hd, some_bind, if_pos rfl, in_within, in_eq, decide_eq_true hn', some_bind]
  have hall : spec_l2All.f K (n : Int) = some ((6 : Int) ^ n) := by rw [all_power]; exact hpw
  unfold spec_RunWithin.f
  rw [hro, some_bind, if_pos rfl, hin, some_bind, if_pos rfl, hnum, some_bind, e1, w64 c4.1 c4.2, if_pos c3, Int.toNat_natCast, h14, some_bind, hall, some_bind, c1, some_bind]
theorem RunWithin_same (K : Nat) (hK : 100000000000 ≤ K) (a : Ar 6) (k n : Int) : ∃ r, spec_RunWithin.f K a k n = some r ∧ impl_RunWithin.f K a k n = some r := by
  by_cases h : dieB a = false ∨ ¬ (1 ≤ k ∧ k ≤ 12) ∨ ¬ (0 ≤ n ∧ n ≤ 12)
  · exact ⟨_, RunWithin_no K hK a k n h⟩
  · obtain ⟨hd, hk, hn⟩ : dieB a = true ∧ (1 ≤ k ∧ k ≤ 12) ∧ (0 ≤ n ∧ n ≤ 12) := by
      refine ⟨?_, Classical.not_not.1 fun e => h (.inr (.inl e)), Classical.not_not.1 fun e => h (.inr (.inr e))⟩
      cases hd : dieB a with
      | true => rfl
      | false => exact absurd (.inl hd) h
    clear h
    obtain ⟨k, rfl⟩ : ∃ k' : Nat, k = (k' : Int) := ⟨k.toNat, by omega⟩
    obtain ⟨n, rfl⟩ : ∃ n' : Nat, n = (n' : Int) := ⟨n.toNat, by omega⟩
    have hk0 : 1 ≤ k ∧ k ≤ 12 := by omega
    have hn0 : n ≤ 12 := by omega
    clear hk hn
    obtain ⟨⟨s1, s2⟩, _⟩ := rw_small a hd k hk0.1 n hn0
    have hq := pow_pos n
    have hp6 := rw_pow n hn0
    generalize hp : (6 : Int) ^ n = p at hq hp6
    obtain ⟨s, c1, c2⟩ := cutz_eq K (impl_RunWithin.D a (k : Int) n) p s1 (by omega) (by omega) (by omega)
    exact ⟨(s, true), RunWithin_sp K hK a hd k n hk0 hn0 s (by rw [hp]; exact c1), RunWithin_impl K hK a hd k n hk0 hn0 s (by rw [hp]; exact c2)⟩
theorem RunWithin_pure (a0 : Ar 6) (a1 a2 : Int) (_w0 : ∀ z ∈ a0.l, (Lit.int .i64 z).wf = true) (_w1 : (Lit.int .i64 a1).wf = true) (_w2 : (Lit.int .i64 a2).wf = true) : ∃ K, laws_FnExactRunWithin.f K a0 a1 a2 = some true := by
  obtain ⟨K, hK⟩ : ∃ K : Nat, 100000000000 ≤ K := ⟨_, Nat.le_refl _⟩
  refine ⟨K, ?_⟩
  unfold laws_FnExactRunWithin.f
  obtain ⟨r, h1, h2⟩ := RunWithin_same K hK a0 a1 a2
  have t2 := fun a => toA6 K (by omega) a
  have q2 := fun a => eqA2 K (by omega) a
  simp only [t2, h1, h2, q2, some_bind, if_true, beq_self_eq_true]
end Go.Proofs.Ytnjfmhgmbfemdaa.WRunWithin

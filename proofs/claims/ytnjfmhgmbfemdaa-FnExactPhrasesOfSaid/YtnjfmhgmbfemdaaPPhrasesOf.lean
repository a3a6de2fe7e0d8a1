/- The plain law: what the walk shows to be computed answers true. Conditions: the numbers are 64-bit. -/
import Derived.Test.YtnjfmhgmbfemdaaWPhrasesOf
import Derived.KernelRfl
namespace Go.Proofs.Ytnjfmhgmbfemdaa.WPhrasesOf
open Go.K Go.RowKit
set_option linter.unusedVariables false
set_option linter.unusedSimpArgs false

theorem in_eq (K : Nat) (a lo hi : Int) : impl_within.f K a lo hi = some (decide (lo ≤ a ∧ a ≤ hi)) := by
  unfold impl_within.f
  by_cases h : lo ≤ a <;> simp [h]
theorem in_within : spec_l1In.f = impl_within.f := by kernel_rfl
def faceB (a : Int) : Bool := decide (0 ≤ a ∧ a ≤ 30)
theorem isFace_eq (K : Nat) (_hK : 2000000 ≤ K) (a : Int) : impl_isFace.f K a = some (faceB a) := by
  unfold impl_isFace.f
  rw [in_eq]; rfl
theorem w1 (n : Nat) (h : n ≤ 4000000000000000000) : wrap64 ((n : Int) + 1) = ((n + 1 : Nat) : Int) := by rw [w64 (by omega) (by omega)]; omega
theorem allFace_l0 (K : Nat) (hK : 2000000 ≤ K) (l : List Int) (h : l.length ≤ 1073741824) : ∀ (k n : Nat), n ≤ l.length → l.length - n < k →
    (slices_IndexFunc_int_int__areAll_int_1_isFace.l0 K l k (n : Int) = some (Sum.inl ()) ∧ (l.drop n).all faceB = true) ∨ (∃ i : Int, 0 ≤ i ∧ slices_IndexFunc_int_int__areAll_int_1_isFace.l0 K l k (n : Int) = some (Sum.inr i) ∧ (l.drop n).all faceB = false) := by
  intro k
  induction k with
  | zero => intro n h1 h2; omega
  | succ k ih =>
    intro n h1 h2
    rw [slices_IndexFunc_int_int__areAll_int_1_isFace.l0]
    by_cases hn : (n : Int) < (l.length : Int)
    · have hn' : n < l.length := by omega
      have hnn : ((n : Int)).toNat = n := by omega
      have hd : l.drop n = l[n] :: l.drop (n + 1) := List.drop_eq_getElem_cons hn'
      have hg : l.getD n (0 : Int) = l[n] := by rw [List.getD_eq_getElem?_getD, List.getElem?_eq_getElem hn']; rfl
      rw [if_pos hn, if_pos (by omega), w1 n (by omega), hnn, hg, impl_areAll_int_1__isFace.f, isFace_eq K hK, hd]
      simp only [some_bind, List.all_cons]
      rcases Bool.eq_false_or_eq_true (faceB l[n]) with e | e
      · rw [e]
        simp only [Bool.not_true, Bool.false_eq_true, if_false, Bool.true_and]
        exact ih (n + 1) (by omega) (by omega)
      · rw [e]
        simp only [Bool.not_false, if_true, Bool.false_and]
        exact .inr ⟨_, by omega, rfl, trivial⟩
    · rw [if_neg hn]
      have : n = l.length := by omega
      subst this
      exact .inl ⟨rfl, by simp⟩
theorem allFace_eq (K : Nat) (hK : 2000000 ≤ K) (l : List Int) (h : l.length ≤ 1048576) : impl_areAll_int__isFace.f K l = some (l.all faceB) := by
  unfold impl_areAll_int__isFace.f slices_ContainsFunc_int_int__areAll_int_1_isFace.f slices_IndexFunc_int_int__areAll_int_1_isFace.f
  rcases allFace_l0 K hK l (by omega) K 0 (by omega) (by omega) with ⟨h1, h2⟩ | ⟨i, hi, h1, h2⟩
  · rw [show (0 : Int) = ((0 : Nat) : Int) from rfl, h1]
    simp only [some_bind, List.drop_zero] at h2 ⊢
    rw [h2]; rfl
  · rw [show (0 : Int) = ((0 : Nat) : Int) from rfl, h1]
    simp only [some_bind, List.drop_zero] at h2 ⊢
    rw [h2]
    have : decide (((0 : Nat) : Int) ≤ i) = true := decide_eq_true (by simpa using hi)
    rw [this]; rfl
def dieP (a : Ar 6) : Prop := ((0 ≤ a.get 0 ∧ a.get 0 ≤ 30) ∧ (0 ≤ a.get 1 ∧ a.get 1 ≤ 30) ∧ (0 ≤ a.get 2 ∧ a.get 2 ≤ 30) ∧ (0 ≤ a.get 3 ∧ a.get 3 ≤ 30) ∧ (0 ≤ a.get 4 ∧ a.get 4 ≤ 30) ∧ (0 ≤ a.get 5 ∧ a.get 5 ≤ 30)) ∧ (a.get 0 ≤ a.get 1 ∧ a.get 1 ≤ a.get 2 ∧ a.get 2 ≤ a.get 3 ∧ a.get 3 ≤ a.get 4 ∧ a.get 4 ≤ a.get 5)
instance (a : Ar 6) : Decidable (dieP a) := by unfold dieP; infer_instance
def dieB (a : Ar 6) : Bool := decide (dieP a)
theorem die_get (x y z u v w : Int) : (Ar.get (⟨[x, y, z, u, v, w], rfl⟩ : Ar 6) 0 = x ∧ Ar.get (⟨[x, y, z, u, v, w], rfl⟩ : Ar 6) 1 = y ∧ Ar.get (⟨[x, y, z, u, v, w], rfl⟩ : Ar 6) 2 = z) ∧ (Ar.get (⟨[x, y, z, u, v, w], rfl⟩ : Ar 6) 3 = u ∧ Ar.get (⟨[x, y, z, u, v, w], rfl⟩ : Ar 6) 4 = v ∧ Ar.get (⟨[x, y, z, u, v, w], rfl⟩ : Ar 6) 5 = w) := ⟨⟨rfl, rfl, rfl⟩, rfl, rfl, rfl⟩
set_option maxHeartbeats 4000000 in
theorem die_spec (K : Nat) (hK : 2000000 ≤ K) (a : Ar 6) : spec_l2Die.f K a = some (dieB a) := by
  obtain ⟨k, rfl⟩ := Nat.exists_eq_add_of_le (show 8 ≤ K by omega)
  obtain ⟨x, y, z, u, v, w, rfl⟩ := Ar.cases6 a
  have e : 8 + k = k + 1 + 1 + 1 + 1 + 1 + 1 + 1 + 1 := by omega
  unfold spec_l2Die.f dieB dieP
  obtain ⟨⟨g0, g1, g2⟩, g3, g4, g5⟩ := die_get x y z u v w
  rw [e]
  simp only [spec_l2Die.l0, in_within, in_eq, some_bind, show (0 : Int) < 6 by decide, show wrap64 (0 + 1) = 1 by decide +kernel, show wrap64 (1 + 1) = 2 by decide +kernel, show wrap64 (2 + 1) = 3 by decide +kernel, show wrap64 (3 + 1) = 4 by decide +kernel, show wrap64 (4 + 1) = 5 by decide +kernel, show wrap64 (5 + 1) = 6 by decide +kernel, show wrap64 (1 - 1) = 0 by decide +kernel, show wrap64 (2 - 1) = 1 by decide +kernel, show wrap64 (3 - 1) = 2 by decide +kernel, show wrap64 (4 - 1) = 3 by decide +kernel, show wrap64 (5 - 1) = 4 by decide +kernel, g0, g1, g2, g3, g4, g5, decide_eq_true_eq]
  simp
  repeat' split
  all_goals simp_all
  all_goals omega
set_option maxHeartbeats 4000000 in
theorem die_impl (K : Nat) (hK : 2000000 ≤ K) (a : Ar 6) : impl_IsDie.f K a = some (dieB a) := by
  obtain ⟨x, y, z, u, v, w, rfl⟩ := Ar.cases6 a
  unfold impl_IsDie.f dieB dieP
  rw [allFace_eq K hK _ (by simp)]
  obtain ⟨k, rfl⟩ := Nat.exists_eq_add_of_le (show 8 ≤ K by omega)
  have e : 8 + k = k + 1 + 1 + 1 + 1 + 1 + 1 + 1 + 1 := by omega
  obtain ⟨⟨g0, g1, g2⟩, g3, g4, g5⟩ := die_get x y z u v w
  unfold slices_IsSorted_int_int.f
  rw [e]
  simp [slices_IsSorted_int_int.l0, cmp_Less_int.f, cmp_isNaN_int.f, some_bind, show wrap64 (6 - 1) = 5 by decide +kernel, show wrap64 5 = 5 by decide +kernel, show wrap64 (5 - 1) = 4 by decide +kernel, show wrap64 (4 - 1) = 3 by decide +kernel, show wrap64 (3 - 1) = 2 by decide +kernel, show wrap64 (2 - 1) = 1 by decide +kernel, show wrap64 (1 - 1) = 0 by decide +kernel, show wrap64 4 = 4 by decide +kernel, show wrap64 3 = 3 by decide +kernel, show wrap64 2 = 2 by decide +kernel, show wrap64 1 = 1 by decide +kernel, show wrap64 0 = 0 by decide +kernel, g0, g1, g2, g3, g4, g5, faceB]
  repeat' split
  all_goals simp_all
  all_goals omega
/-- The different numbers of the first j, in their order. -/
def ddS (l : List Int) : Nat → List Int
  | 0 => []
  | j + 1 => if 0 < j ∧ l.getD j 0 = l.getD (j - 1) 0 then ddS l j else ddS l j ++ [l.getD j 0]
theorem ddS_len (l : List Int) : ∀ j, (ddS l j).length ≤ j
  | 0 => by simp [ddS]
  | j + 1 => by
    have := ddS_len l j
    rw [ddS]
    split
    · omega
    · rw [List.length_append, List.length_singleton]; omega
theorem ddS_prop (l : List Int) (n : Nat) (hm : ∀ i, i + 1 < n → l.getD i 0 ≤ l.getD (i + 1) 0) : ∀ j, j + 1 ≤ n → ∃ xs, ddS l (j + 1) = xs ++ [l.getD j 0] ∧ (∀ x ∈ xs, x < l.getD j 0) ∧ (ddS l (j + 1)).Pairwise (· < ·) := by
  intro j
  induction j with
  | zero =>
    intro h
    exact ⟨[], by simp [ddS], by simp, by simp [ddS]⟩
  | succ j ih =>
    intro h
    obtain ⟨xs, h1, h2, h3⟩ := ih (by omega)
    rw [ddS]
    by_cases hc : l.getD (j + 1) 0 = l.getD j 0
    · rw [if_pos ⟨by omega, by rw [Nat.add_sub_cancel]; exact hc⟩, hc]
      exact ⟨xs, h1, h2, h3⟩
    · rw [if_neg (fun h => hc (by have := h.2; rw [Nat.add_sub_cancel] at this; exact this))]
      have hlt : l.getD j 0 < l.getD (j + 1) 0 := by have := hm j (by omega); omega
      have hall : ∀ x ∈ ddS l (j + 1), x < l.getD (j + 1) 0 := by
        intro x hx
        rw [h1] at hx
        rcases List.mem_append.1 hx with hx | hx
        · have := h2 x hx; omega
        · rw [List.mem_singleton.1 hx]; exact hlt
      refine ⟨ddS l (j + 1), rfl, hall, ?_⟩
      rw [List.pairwise_append]
      exact ⟨h3, by simp, fun x hx y hy => by rw [List.mem_singleton.1 hy]; exact hall x hx⟩
theorem put_l0 (K : Nat) (xs : List Int) (x : Int) (hl : xs.length ≤ 100) (m : Nat) (hm : m ≤ xs.length) (h1 : ∀ i, i < m → xs.getD i 0 < x) (h2 : m = xs.length ∨ ¬ xs.getD m 0 < x) : ∀ (k n : Nat), n ≤ m → m - n < k → spec_l1Put.l0 K xs x k (n : Int) = some (m : Int) := by
  intro k
  induction k with
  | zero => intro n h3 h4; omega
  | succ k ih =>
    intro n h3 h4
    rw [spec_l1Put.l0]
    by_cases hn : n = m
    · rw [hn]
      rcases h2 with h2 | h2
      · rw [if_neg (by omega)]
      · by_cases h5 : m < xs.length
        · rw [if_pos (by omega), if_pos (by omega), Int.toNat_natCast, if_neg h2]
        · rw [if_neg (by omega)]
    · rw [if_pos (by omega), if_pos (by omega), Int.toNat_natCast, if_pos (h1 n (by omega)), w1' n (by omega)]
      exact ih (n + 1) (by omega) (by omega)
theorem getD_mem (xs : List Int) (i : Nat) (h : i < xs.length) : xs.getD i 0 ∈ xs := by rw [getD_nat _ _ _ h]; exact List.getElem_mem h
theorem put_new (K : Nat) (hK : 200 ≤ K) (xs : List Int) (x : Int) (hl : xs.length ≤ 100) (h : ∀ y ∈ xs, y < x) : spec_l1Put.f K xs x = some (xs ++ [x]) := by
  have h0 := put_l0 K xs x hl xs.length (Nat.le_refl _) (fun i hi => h _ (getD_mem xs i hi)) (.inl rfl) K 0 (by omega) (by omega)
  unfold spec_l1Put.f
  rw [show spec_l1Put.l0 K xs x K 0 = _ from h0, some_bind, if_neg (by omega), if_pos (by omega), Int.toNat_natCast, List.take_length, List.drop_length, List.drop_zero, List.nil_append, if_pos (by simp; omega), if_pos (by simp; omega), if_pos (by omega), if_pos (by simp; omega), List.append_nil]
theorem put_old (K : Nat) (hK : 200 ≤ K) (ys : List Int) (x : Int) (hl : ys.length < 100) (h : ∀ y ∈ ys, y < x) : spec_l1Put.f K (ys ++ [x]) x = some (ys ++ [x]) := by
  have hlen : (ys ++ [x]).length = ys.length + 1 := by simp
  have hg : (ys ++ [x]).getD ys.length 0 = x := by rw [getD_nat _ _ _ (by omega)]; simp
  have h0 := put_l0 K (ys ++ [x]) x (by omega) ys.length (by omega) (fun i hi => by
    rw [getD_nat _ _ _ (by omega), List.getElem_append_left hi]
    exact h _ (List.getElem_mem hi)) (.inr (by rw [hg]; omega)) K 0 (by omega) (by omega)
  unfold spec_l1Put.f
  rw [show spec_l1Put.l0 K (ys ++ [x]) x K 0 = _ from h0, some_bind, if_pos (by omega), if_pos (by omega), Int.toNat_natCast, hg, if_pos rfl]
theorem ar_getD (a : Ar 6) (n : Nat) : a.get (n : Int) = a.l.getD n 0 := by
  unfold Ar.get
  rw [Int.toNat_natCast]
theorem die_mono (a : Ar 6) (h : dieB a = true) : ∀ i, i + 1 < 6 → a.l.getD i 0 ≤ a.l.getD (i + 1) 0 := by
  have h := of_decide_eq_true h
  obtain ⟨_, h1, h2, h3, h4, h5⟩ := h
  intro i hi
  rcases (show i = 0 ∨ i = 1 ∨ i = 2 ∨ i = 3 ∨ i = 4 by omega) with rfl | rfl | rfl | rfl | rfl
  · exact h1
  · exact h2
  · exact h3
  · exact h4
  · exact h5
theorem numbers_spec (K : Nat) (hK : 200 ≤ K) (a : Ar 6) (h : dieB a = true) : spec_l8Numbers.f K a = some (ddS a.l 6) := by
  have key : ∀ (k n : Nat), n ≤ 6 → 6 - n < k → spec_l8Numbers.l0 K a k (n : Int) (ddS a.l n) = some (ddS a.l 6) := by
    intro k
    induction k with
    | zero => intro n h1 h2; omega
    | succ k ih =>
      intro n h1 h2
      rw [spec_l8Numbers.l0]
      by_cases hn : n < 6
      · have hp : spec_l1Put.f K (ddS a.l n) (a.get (n : Int)) = some (ddS a.l (n + 1)) := by
          rw [ar_getD, ddS]
          have hlen := ddS_len a.l n
          by_cases h0 : n = 0
          · subst h0
            rw [if_neg (by omega)]
            exact put_new K hK _ _ (by omega) (by simp [ddS])
          · obtain ⟨j, rfl⟩ : ∃ j, n = j + 1 := ⟨n - 1, by omega⟩
            obtain ⟨xs, p1, p2, p3⟩ := ddS_prop a.l 6 (die_mono a h) j (by omega)
            have hxl : xs.length < 100 := by rw [p1] at hlen; simp at hlen; omega
            by_cases hc : a.l.getD (j + 1) 0 = a.l.getD j 0
            · rw [if_pos ⟨by omega, by rw [Nat.add_sub_cancel]; exact hc⟩, hc, p1]
              exact put_old K hK xs _ hxl p2
            · rw [if_neg (fun h => hc (by have := h.2; rw [Nat.add_sub_cancel] at this; exact this))]
              have hlt : a.l.getD j 0 < a.l.getD (j + 1) 0 := by have := die_mono a h j (by omega); omega
              apply put_new K hK _ _ (by omega)
              intro x hx
              rw [p1] at hx
              rcases List.mem_append.1 hx with hx | hx
              · have := p2 x hx; omega
              · rw [List.mem_singleton.1 hx]; exact hlt
        rw [if_pos (by omega), if_pos (by omega), hp, some_bind, w1' n (by omega)]
        exact ih (n + 1) (by omega) (by omega)
      · rw [if_neg (by omega)]
        have : n = 6 := by omega
        rw [this]
  unfold spec_l8Numbers.f
  rw [show spec_l8Numbers.l0 K a K 0 ([] : List Int) = _ from key K 0 (by omega) (by omega)]
  rfl
theorem take_succ_getD (l : List Int) (n : Nat) (h : n < l.length) : l.take (n + 1) = l.take n ++ [l.getD n 0] := by
  rw [List.take_succ_eq_append_getElem h, getD_nat _ _ _ h]
theorem getD_set_ne (v : List Int) (m p : Nat) (x : Int) (h : m ≠ p) : (v.set m x).getD p 0 = v.getD p 0 := by
  rw [List.getD_eq_getElem?_getD, List.getD_eq_getElem?_getD, List.getElem?_set_ne h]
theorem getD_td (v : List Int) (n i j : Nat) (hv : v.length = n) : ((v.take n).drop i).getD j 0 = v.getD (i + j) 0 := by
  rw [← hv, List.take_length, List.getD_eq_getElem?_getD, List.getElem?_drop, List.getD_eq_getElem?_getD]
theorem compact_l3 (K : Nat) (l : List Int) (hl : l.length = 6) (i0 : Nat) (hi0 : 1 ≤ i0) : ∀ (k m j : Nat) (v : List Int), 7 - j < k → 1 ≤ j → i0 + j ≤ 6 → m ≤ i0 + j - 1 → v.length = 6 → (∀ p, i0 + j - 1 ≤ p → v.getD p 0 = l.getD p 0) → v.take m = ddS l (i0 + j) →
    ∃ (m' : Nat) (v' : List Int), slices_Compact_int_int.l3 K l (i0 : Int) k (m : Int) (j : Int) v = some ((m' : Int), v') ∧ m' ≤ 6 ∧ v'.length = 6 ∧ v'.take m' = ddS l 6 := by
  intro k
  induction k with
  | zero => intro m j v h1; omega
  | succ k ih =>
    intro m j v h1 h2 h3 h4 h5 h6 h7
    have hlen : ((v.take l.length).drop i0).length = 6 - i0 := by rw [List.length_drop, List.length_take, h5, hl]; omega
    rw [slices_Compact_int_int.l3]
    simp only [Int.toNat_natCast, hlen]
    rw [if_pos (show 0 ≤ (i0 : Int) ∧ (i0 : Int) ≤ (l.length : Int) ∧ (l.length : Int) ≤ (v.length : Int) by omega)]
    by_cases hj : i0 + j < 6
    · obtain ⟨q, rfl⟩ : ∃ q, j = q + 1 := ⟨j - 1, by omega⟩
      rw [if_pos (show ((q + 1 : Nat) : Int) < ((6 - i0 : Nat) : Int) by omega), if_pos (show 0 ≤ ((q + 1 : Nat) : Int) ∧ ((q + 1 : Nat) : Int) < ((6 - i0 : Nat) : Int) by omega), w1p q (by omega), if_pos (show 0 ≤ (q : Int) ∧ (q : Int) < ((6 - i0 : Nat) : Int) by omega), Int.toNat_natCast, getD_td v l.length i0 (q + 1) (by omega), getD_td v l.length i0 q (by omega), h6 (i0 + (q + 1)) (by omega), h6 (i0 + q) (by omega), w1' (q + 1) (by omega), w1' m (by omega)]
      have hd : ddS l (i0 + (q + 1) + 1) = if 0 < i0 + (q + 1) ∧ l.getD (i0 + (q + 1)) 0 = l.getD (i0 + (q + 1) - 1) 0 then ddS l (i0 + (q + 1)) else ddS l (i0 + (q + 1)) ++ [l.getD (i0 + (q + 1)) 0] := rfl
      by_cases hc : l.getD (i0 + (q + 1)) 0 = l.getD (i0 + q) 0
      · rw [if_pos hc]
        rw [if_pos ⟨by omega, by rw [show i0 + (q + 1) - 1 = i0 + q by omega]; exact hc⟩] at hd
        exact ih m (q + 1 + 1) v (by omega) (by omega) (by omega) (by omega) h5 (fun p hp => h6 p (by omega)) (by rw [h7, ← hd]; rfl)
      · rw [if_neg hc, if_pos (show 0 ≤ (m : Int) ∧ (m : Int) < (v.length : Int) by omega)]
        rw [if_neg (fun h => hc (by have := h.2; rw [show i0 + (q + 1) - 1 = i0 + q by omega] at this; exact this))] at hd
        refine ih (m + 1) (q + 1 + 1) (v.set m (l.getD (i0 + (q + 1)) 0)) (by omega) (by omega) (by omega) (by omega) (by rw [List.length_set]; exact h5) (fun p hp => ?_) ?_
        · rw [getD_set_ne _ _ _ _ (by omega)]
          exact h6 p (by omega)
        · rw [take_succ_getD _ _ (by rw [List.length_set]; omega), List.take_set_of_le (Nat.le_refl _), h7]
          rw [show i0 + (q + 1 + 1) = i0 + (q + 1) + 1 by omega, hd]
          congr 2
          rw [getD_nat _ _ _ (by rw [List.length_set]; omega), List.getElem_set_self]
    · rw [if_neg (show ¬ (j : Int) < ((6 - i0 : Nat) : Int) by omega)]
      exact ⟨m, v, rfl, by omega, h5, by rw [h7, show i0 + j = 6 by omega]⟩
theorem putAt_take (v z : List Int) (m : Nat) (h : m ≤ v.length) : (putAt v m z).take m = v.take m := by
  unfold putAt
  rw [List.append_assoc, List.take_append_of_le_length (by rw [List.length_take]; omega), List.take_take, Nat.min_self]
theorem compact_eq (K : Nat) (hK : 200 ≤ K) (l : List Int) (hl : l.length = 6) : slices_Compact_int_int.f K l = some (ddS l 6) := by
  have key : ∀ (k n : Nat), 1 ≤ n → n ≤ 6 → 6 - n < k → l.take n = ddS l n → (slices_Compact_int_int.l2 K l k (n : Int) = some (Sum.inl ()) ∧ l = ddS l 6) ∨ slices_Compact_int_int.l2 K l k (n : Int) = some (Sum.inr (ddS l 6)) := by
    intro k
    induction k with
    | zero => intro n h1 h2 h3; omega
    | succ k ih =>
      intro n h1 h2 h3 h4
      rw [slices_Compact_int_int.l2]
      by_cases hn : n < 6
      · obtain ⟨j, rfl⟩ : ∃ j, n = j + 1 := ⟨n - 1, by omega⟩
        rw [if_pos (by omega), if_pos (by omega), w1p j (by omega), if_pos (by omega), Int.toNat_natCast, Int.toNat_natCast]
        have hd : ddS l (j + 1 + 1) = if 0 < j + 1 ∧ l.getD (j + 1) 0 = l.getD (j + 1 - 1) 0 then ddS l (j + 1) else ddS l (j + 1) ++ [l.getD (j + 1) 0] := rfl
        by_cases hc : l.getD (j + 1) 0 = l.getD j 0
        · rw [if_pos hc, if_pos (by omega)]
          rw [if_pos ⟨by omega, by rw [Nat.add_sub_cancel]; exact hc⟩] at hd
          obtain ⟨m', v', i1, i2, i3, i4⟩ := compact_l3 K l hl (j + 1) (by omega) K (j + 1) 1 l (by omega) (by omega) (by omega) (by omega) hl (fun _ _ => rfl) (by rw [h4, ← hd])
          rw [show slices_Compact_int_int.l3 K l ((j + 1 : Nat) : Int) K ((j + 1 : Nat) : Int) 1 l = _ from i1]
          simp only [some_bind, Int.toNat_natCast, List.drop_zero]
          have hpl : (putAt v' m' (List.replicate (v'.length - m') 0)).length = 6 := by
            unfold putAt
            simp only [List.length_append, List.length_take, List.length_replicate, List.length_drop]
            omega
          rw [if_pos (by omega), if_pos (by rw [hpl]; omega), putAt_take _ _ _ (by omega), i4]
          exact .inr rfl
        · rw [if_neg hc, w1' (j + 1) (by omega)]
          rw [if_neg (fun h => hc (by have := h.2; rw [Nat.add_sub_cancel] at this; exact this))] at hd
          exact ih (j + 1 + 1) (by omega) (by omega) (by omega) (by rw [take_succ_getD _ _ (by omega), h4, hd])
      · rw [if_neg (by omega)]
        have : n = 6 := by omega
        subst this
        rw [← hl, List.take_length, hl] at h4
        exact .inl ⟨rfl, h4⟩
  unfold slices_Compact_int_int.f
  rw [if_neg (by omega)]
  rcases key K 1 (by omega) (by omega) (by omega) (by rw [take_succ_getD _ _ (by omega)]; simp [ddS]) with ⟨h1, h2⟩ | h1
  · rw [show slices_Compact_int_int.l2 K l K 1 = _ from h1, some_bind]
    rw [← h2]
  · rw [show slices_Compact_int_int.l2 K l K 1 = _ from h1, some_bind]
theorem numbers_impl (K : Nat) (hK : 200 ≤ K) (a : Ar 6) : impl_numbers.f K a = some (ddS a.l 6) := by
  unfold impl_numbers.f slices_Clone_int_int.f
  rw [if_pos (by rw [a.h]; omega), some_bind, compact_eq K hK _ a.h, some_bind]
def marksS (a : Int) : Nat → List Int
  | 0 => []
  | n + 1 => a :: marksS (a + 1) n
theorem marksS_length : ∀ (n : Nat) (a : Int), (marksS a n).length = n
  | 0, _ => rfl
  | n + 1, a => by simp [marksS, marksS_length n]
theorem marksS_get : ∀ (n : Nat) (a : Int) (i : Nat), i < n → (marksS a n)[i]? = some (a + i)
  | 0, _, i, h => by omega
  | n + 1, a, 0, _ => by simp [marksS]
  | n + 1, a, i + 1, h => by
    simp only [marksS, List.getElem?_cons_succ]
    rw [marksS_get n (a + 1) i (by omega)]
    congr 1
    omega
theorem markS_l0 (K : Nat) (l : List Int) (N : Nat) (a : Int) (h0 : 0 ≤ a) (h : N ≤ 1073741824) (ha : a ≤ 1073741824) : ∀ (k n : Nat) (out : List Int), out.length = N → out.take n = (marksS a N).take n → n ≤ N → N - n < k → laws_markIntS.l0 K l k (a + n) (n : Int) out = some (a + N, marksS a N) := by
  intro k
  induction k with
  | zero => intro n out h1 h2 h3 h4; omega
  | succ k ih =>
    intro n out h1 h2 h3 h4
    rw [laws_markIntS.l0]
    by_cases hn : (n : Int) < (out.length : Int)
    · have hn' : n < N := by omega
      rw [if_pos hn, if_pos (by omega), w1 n (by omega)]
      rw [show wrap64 (a + (n : Int) + 1) = a + ((n + 1 : Nat) : Int) by rw [w64 (by omega) (by omega)]; omega]
      refine ih (n + 1) _ (by simp [h1]) ?_ (by omega) (by omega)
      have hnn : ((n : Int)).toNat = n := by omega
      rw [hnn, List.take_add_one, List.take_add_one, List.take_set_of_le (Nat.le_refl n), h2]
      rw [List.getElem?_set_self (by omega), marksS_get N a n hn']
    · rw [if_neg hn]
      have : n = N := by omega
      subst this
      have h5 : out = marksS a n := by
        have e1 : out.take n = out := by rw [← h1]; exact List.take_length
        have e2 : (marksS a n).take n = marksS a n := by
          conv => lhs; rw [← marksS_length n a]
          rw [marksS_length]; exact List.take_of_length_le (by rw [marksS_length]; omega)
        rw [e1, e2] at h2
        exact h2
      rw [h5]
theorem heldS_l0 (K : Nat) (N : Nat) (a : Int) (h0 : 0 ≤ a) (h : N ≤ 1073741824) (ha : a ≤ 1073741824) : ∀ (k n : Nat), n ≤ N → N - n < k → laws_heldIntS.l0 K (marksS a N) k (a + n) (n : Int) = some (Sum.inl (a + N)) := by
  intro k
  induction k with
  | zero => intro n h3 h4; omega
  | succ k ih =>
    intro n h3 h4
    rw [laws_heldIntS.l0, marksS_length]
    by_cases hn : (n : Int) < (N : Int)
    · have hn' : n < N := by omega
      have hnn : ((n : Int)).toNat = n := by omega
      rw [if_pos hn, if_pos (by omega), w1 n (by omega), hnn, List.getD_eq_getElem?_getD, marksS_get N a n hn', Option.getD_some, if_pos rfl]
      rw [show wrap64 (a + (n : Int) + 1) = a + ((n + 1 : Nat) : Int) by rw [w64 (by omega) (by omega)]; omega]
      exact ih (n + 1) (by omega) (by omega)
    · rw [if_neg hn]
      have : n = N := by omega
      subst this
      rfl
theorem markS (K : Nat) (l : List Int) (a : Int) (h0 : 0 ≤ a) (ha : a ≤ 1073741824) (h : l.length ≤ 100000000) (hK : 200000000 ≤ K) : laws_markIntS.f K l a = some (a + l.length, marksS a l.length) := by
  unfold laws_markIntS.f
  have := markS_l0 K l l.length a h0 (by omega) ha K 0 l rfl (by simp) (by omega) (by omega)
  simp only [Int.natCast_zero, Int.add_zero] at this
  rw [this]; rfl
theorem heldS (K : Nat) (N : Nat) (a : Int) (h0 : 0 ≤ a) (ha : a ≤ 1073741824) (h : N ≤ 100000000) (hK : 200000000 ≤ K) : laws_heldIntS.f K (marksS a N) a = some (a + N) := by
  unfold laws_heldIntS.f
  have := heldS_l0 K N a h0 (by omega) ha K 0 (by omega) (by omega)
  simp only [Int.natCast_zero, Int.add_zero] at this
  rw [this]; rfl
theorem eqS_l0 (K : Nat) (l : List Int) (h : l.length ≤ 1073741824) : ∀ (k n : Nat), n ≤ l.length → l.length - n < k → laws_eqIntS.l0 K l l k (n : Int) = some (Sum.inl ()) := by
  intro k
  induction k with
  | zero => intro n h1 h2; omega
  | succ k ih =>
    intro n h1 h2
    rw [laws_eqIntS.l0]
    by_cases hn : (n : Int) < (l.length : Int)
    · rw [if_pos hn, if_pos (by omega), if_pos (by omega), if_pos rfl, w1 n (by omega)]
      exact ih (n + 1) (by omega) (by omega)
    · rw [if_neg hn]
theorem eqS (K : Nat) (l : List Int) (h : l.length ≤ 1048576) (hK : 2000000 ≤ K) : laws_eqIntS.f K l l = some true := by
  unfold laws_eqIntS.f
  rw [if_pos rfl, show (0 : Int) = ((0 : Nat) : Int) from rfl, eqS_l0 K l (by omega) K 0 (by omega) (by omega)]
  rfl
theorem toA6 (K : Nat) (hK : 8 ≤ K) (a : Ar 6) : laws_toIntA6.f K a = some a := by
  obtain ⟨k, rfl⟩ := Nat.exists_eq_add_of_le hK
  obtain ⟨x, y, z, u, v, w, rfl⟩ := Ar.cases6 a
  have e : 8 + k = k + 1 + 1 + 1 + 1 + 1 + 1 + 1 + 1 := by omega
  unfold laws_toIntA6.f
  rw [e]
  simp only [laws_toIntA6.l0, show (0 : Int) < 6 by decide, show wrap64 (0 + 1) = 1 by decide +kernel, show wrap64 (1 + 1) = 2 by decide +kernel, show wrap64 (2 + 1) = 3 by decide +kernel, show wrap64 (3 + 1) = 4 by decide +kernel, show wrap64 (4 + 1) = 5 by decide +kernel, show wrap64 (5 + 1) = 6 by decide +kernel, if_true, show (0 : Int) ≤ 0 ∧ True by decide]
  rfl
theorem getD_pre {α : Type} (P : List α) (r : α) (rs : List α) (z : α) : (P ++ r :: rs).getD P.length z = r := by
  rw [List.getD_eq_getElem?_getD, List.getElem?_append_right (Nat.le_refl _)]; simp
theorem set_pre {α : Type} (P : List α) (r m : α) (rs : List α) : (P ++ r :: rs).set P.length m = (P ++ [m]) ++ rs := by
  rw [List.set_append_right _ _ (Nat.le_refl _)]; simp
def mkSS : Int → List (List Int) → List (List Int)
  | _, [] => []
  | a, l :: ls => marksS a l.length :: mkSS (a + l.length) ls
def totS : List (List Int) → Nat
  | [] => 0
  | l :: ls => l.length + totS ls
theorem totS_le (c : Nat) : ∀ ls : List (List Int), (∀ l ∈ ls, l.length ≤ c) → totS ls ≤ c * ls.length
  | [], _ => by simp [totS]
  | l :: ls, h => by
    have h1 := h l (by simp)
    have h2 := totS_le c ls (fun x hx => h x (by simp [hx]))
    rw [totS, List.length_cons, Nat.mul_add]
    omega
theorem markSS_l0 (K : Nat) (hK : 200000000 ≤ K) (L : List (List Int)) : ∀ (rest P : List (List Int)) (k : Nat) (a : Int), rest.length < k → 0 ≤ a → a + totS rest ≤ 1000000 → P.length + rest.length ≤ 1000000 → laws_markIntSS.l0 K L k a (P.length : Int) (P ++ rest) = some (a + totS rest, P ++ mkSS a rest) := by
  intro rest
  induction rest with
  | nil =>
    intro P k a h1 h2 h3 h4
    obtain ⟨k, rfl⟩ : ∃ q, k = q + 1 := ⟨k - 1, by omega⟩
    rw [laws_markIntSS.l0, if_neg (by simp)]
    simp [totS, mkSS]
  | cons r rs ih =>
    intro P k a h1 h2 h3 h4
    rw [List.length_cons] at h1 h4
    obtain ⟨k, rfl⟩ : ∃ q, k = q + 1 := ⟨k - 1, by omega⟩
    rw [totS] at h3
    have hl : (P ++ r :: rs).length = P.length + rs.length + 1 := by simp; omega
    rw [laws_markIntSS.l0, if_pos (by omega), if_pos (by omega), Int.toNat_natCast, getD_pre, markS K r a h2 (by omega) (by omega) hK, some_bind, set_pre, w1' P.length (by omega)]
    have := ih (P ++ [marksS a r.length]) k (a + r.length) (by omega) (by omega) (by omega) (by simp; omega)
    rw [show (P ++ [marksS a r.length]).length = P.length + 1 by simp] at this
    dsimp only
    rw [this]
    simp only [totS, mkSS, List.append_assoc, List.singleton_append]
    congr 2
    omega
theorem mkSS_len : ∀ (ls : List (List Int)) (a : Int), (mkSS a ls).length = ls.length
  | [], _ => rfl
  | l :: ls, a => by rw [mkSS, List.length_cons, mkSS_len ls, List.length_cons]
theorem heldSS_l0 (K : Nat) (hK : 200000000 ≤ K) : ∀ (rest P : List (List Int)) (k : Nat) (a : Int), rest.length < k → 0 ≤ a → a + totS rest ≤ 1000000 → P.length + rest.length ≤ 1000000 → laws_heldIntSS.l0 K (P ++ mkSS a rest) k a (P.length : Int) = some (Sum.inl (a + totS rest)) := by
  intro rest
  induction rest with
  | nil =>
    intro P k a h1 h2 h3 h4
    obtain ⟨k, rfl⟩ : ∃ q, k = q + 1 := ⟨k - 1, by omega⟩
    rw [laws_heldIntSS.l0, if_neg (by simp [mkSS])]
    simp [totS]
  | cons r rs ih =>
    intro P k a h1 h2 h3 h4
    rw [List.length_cons] at h1 h4
    obtain ⟨k, rfl⟩ : ∃ q, k = q + 1 := ⟨k - 1, by omega⟩
    rw [totS] at h3
    have hl : (P ++ mkSS a (r :: rs)).length = P.length + rs.length + 1 := by rw [List.length_append, mkSS_len]; simp; omega
    rw [laws_heldIntSS.l0, if_pos (by omega), if_pos (by omega), Int.toNat_natCast]
    rw [mkSS, getD_pre, heldS K r.length a h2 (by omega) (by omega) hK, some_bind, if_neg (by omega), w1' P.length (by omega)]
    have := ih (P ++ [marksS a r.length]) k (a + r.length) (by omega) (by omega) (by omega) (by simp; omega)
    rw [show (P ++ [marksS a r.length]).length = P.length + 1 by simp, List.append_assoc, List.singleton_append] at this
    rw [this, totS]
    congr 2
    omega
theorem eqSS_l0 (K : Nat) (hK : 200000000 ≤ K) (L : List (List Int)) (hL : L.length ≤ 1000000) (hl : ∀ l ∈ L, l.length ≤ 100) : ∀ (k n : Nat), n ≤ L.length → L.length - n < k → laws_eqIntSS.l0 K L L k (n : Int) = some (Sum.inl ()) := by
  intro k
  induction k with
  | zero => intro n h1 h2; omega
  | succ k ih =>
    intro n h1 h2
    rw [laws_eqIntSS.l0]
    by_cases hn : n < L.length
    · have hm : L.getD n [] ∈ L := by rw [getD_nat _ _ _ hn]; exact List.getElem_mem hn
      have := hl _ hm
      rw [if_pos (by omega), if_pos (by omega), if_pos (by omega), Int.toNat_natCast, eqS K _ (by omega) (by omega), some_bind, if_pos rfl, w1' n (by omega)]
      exact ih (n + 1) (by omega) (by omega)
    · rw [if_neg (by omega)]
theorem marksSS (K : Nat) (hK : 200000000 ≤ K) (L : List (List Int)) (hL : L.length ≤ 1000) (hl : ∀ l ∈ L, l.length ≤ 100) : ∃ m s, laws_markIntSS.f K L 1 = some (m, s) ∧ laws_heldIntSS.f K s 1 = some m ∧ 0 ≤ m ∧ laws_eqIntSS.f K L L = some true := by
  have ht := totS_le 100 L hl
  have h1 := markSS_l0 K hK L L [] K 1 (by omega) (by omega) (by omega) (by simp; omega)
  have h2 := heldSS_l0 K hK L [] K 1 (by omega) (by omega) (by omega) (by simp; omega)
  have h3 := eqSS_l0 K hK L (by omega) hl K 0 (by omega) (by omega)
  rw [List.nil_append, List.nil_append] at h1
  rw [List.nil_append] at h2
  refine ⟨1 + totS L, mkSS 1 L, ?_, ?_, by omega, ?_⟩
  · unfold laws_markIntSS.f
    rw [show laws_markIntSS.l0 K L K 1 0 L = _ from h1]
    rfl
  · unfold laws_heldIntSS.f
    rw [show laws_heldIntSS.l0 K (mkSS 1 L) K 1 0 = _ from h2]
    rfl
  · unfold laws_eqIntSS.f
    rw [if_pos rfl, show laws_eqIntSS.l0 K L L K 0 = _ from h3]
    rfl
/-! the phrases -/
def nxC (D : List Int) (c : List Int) : List (List Int) := D.map fun d => c ++ [d]
theorem nx_len (D : List Int) : ∀ L : List (List Int), (L.flatMap (nxC D)).length = L.length * D.length
  | [] => by simp
  | c :: L => by
    rw [List.flatMap_cons, List.length_append, nx_len D L, List.length_cons, Nat.add_mul]
    unfold nxC
    rw [List.length_map]
    omega
theorem po_in (K : Nat) (D : List Int) (hD : D.length ≤ 6) (L : List (List Int)) (q : Nat) (hq : q < L.length) (hc : (L.getD q []).length ≤ 100) : ∀ (r n k : Nat) (out : List (List Int)), n + r = D.length → r < k → out.length + r ≤ 1000000 →
    spec_PhrasesOf.l12 K D L (q : Int) k (n : Int) out = some (out ++ nxC (D.drop n) (L.getD q [])) ∧ impl_PhrasesOf.l15 K L (q : Int) D k (n : Int) out = some (out ++ nxC (D.drop n) (L.getD q [])) := by
  intro r
  induction r with
  | zero =>
    intro n k out h1 h2 h3
    obtain ⟨k, rfl⟩ : ∃ j, k = j + 1 := ⟨k - 1, by omega⟩
    rw [spec_PhrasesOf.l12, impl_PhrasesOf.l15, if_neg (by omega), if_neg (by omega), List.drop_of_length_le (by omega)]
    simp [nxC]
  | succ r ih =>
    intro n k out h1 h2 h3
    obtain ⟨k, rfl⟩ : ∃ j, k = j + 1 := ⟨k - 1, by omega⟩
    have hn : n < D.length := by omega
    have hd : nxC (D.drop n) (L.getD q []) = (L.getD q [] ++ [D.getD n 0]) :: nxC (D.drop (n + 1)) (L.getD q []) := by
      unfold nxC
      rw [List.drop_eq_getElem_cons hn, List.map_cons, getD_nat _ _ _ hn]
    have hc1 : (([] : List Int) ++ L.getD q []).length ≤ 100 := by rw [List.nil_append]; exact hc
    rw [spec_PhrasesOf.l12, impl_PhrasesOf.l15]
    unfold spec_l1Own.f slices_Clone_int_int.f
    simp only [Int.toNat_natCast]
    rw [if_pos (show (n : Int) < (D.length : Int) by omega), if_pos (show (0 : Int) ≤ (q : Int) ∧ (q : Int) < (L.length : Int) by omega), if_pos (show (n : Int) < (D.length : Int) by omega), if_pos (show ([] : List Int).length + (L.getD q []).length ≤ 1073741824 by simp only [List.length_nil]; omega), if_pos (show (L.getD q []).length ≤ 1073741824 by omega)]
    simp only [some_bind, List.nil_append]
    rw [if_pos (show (0 : Int) ≤ (n : Int) ∧ (n : Int) < (D.length : Int) by omega), if_pos (show (L.getD q []).length + [D.getD n 0].length ≤ 1073741824 by simp only [List.length_singleton]; omega), if_pos (show out.length + [L.getD q [] ++ [D.getD n 0]].length ≤ 1073741824 by simp only [List.length_singleton]; omega), if_pos (show (0 : Int) ≤ (n : Int) ∧ (n : Int) < (D.length : Int) by omega), if_pos (show (L.getD q []).length + [D.getD n 0].length ≤ 1073741824 by simp only [List.length_singleton]; omega), if_pos (show out.length + [L.getD q [] ++ [D.getD n 0]].length ≤ 1073741824 by simp only [List.length_singleton]; omega), w1' n (by omega), hd]
    have := ih (n + 1) k (out ++ [L.getD q [] ++ [D.getD n 0]]) (by omega) (by omega) (by simp; omega)
    rw [List.append_assoc, List.singleton_append] at this
    exact this
theorem po_mid (K : Nat) (hK : 2000000 ≤ K) (a : Ar 6) (D : List Int) (hN : impl_numbers.f K a = some D) (hD : D.length ≤ 6) (L : List (List Int)) (hc : ∀ c ∈ L, c.length ≤ 100) (hL : L.length ≤ 1000) : ∀ (r n k : Nat) (out : List (List Int)), n + r = L.length → r < k → out.length + 6 * r ≤ 100000 →
    spec_PhrasesOf.l11 K D L k (n : Int) out = some (out ++ (L.drop n).flatMap (nxC D)) ∧ impl_PhrasesOf.l14 K a L k (n : Int) out = some (out ++ (L.drop n).flatMap (nxC D)) := by
  intro r
  induction r with
  | zero =>
    intro n k out h1 h2 h3
    obtain ⟨k, rfl⟩ : ∃ j, k = j + 1 := ⟨k - 1, by omega⟩
    rw [spec_PhrasesOf.l11, impl_PhrasesOf.l14, if_neg (by omega), if_neg (by omega), List.drop_of_length_le (by omega)]
    simp
  | succ r ih =>
    intro n k out h1 h2 h3
    obtain ⟨k, rfl⟩ : ∃ j, k = j + 1 := ⟨k - 1, by omega⟩
    have hn : n < L.length := by omega
    have hm : L.getD n [] ∈ L := by rw [getD_nat _ _ _ hn]; exact List.getElem_mem hn
    obtain ⟨p1, p2⟩ := po_in K D hD L n hn (hc _ hm) D.length 0 K out (by omega) (by omega) (by omega)
    rw [List.drop_zero] at p1 p2
    have hl : (nxC D (L.getD n [])).length ≤ 6 := by unfold nxC; rw [List.length_map]; exact hD
    have hd : (L.drop n).flatMap (nxC D) = nxC D (L.getD n []) ++ (L.drop (n + 1)).flatMap (nxC D) := by
      rw [List.drop_eq_getElem_cons hn, List.flatMap_cons, getD_nat _ _ _ hn]
    rw [spec_PhrasesOf.l11, impl_PhrasesOf.l14, if_pos (by omega), if_pos (by omega), if_pos (by omega), hN, some_bind]
    rw [show spec_PhrasesOf.l12 K D L (n : Int) K 0 out = _ from p1, show impl_PhrasesOf.l15 K L (n : Int) D K 0 out = _ from p2, some_bind, some_bind, w1' n (by omega), hd]
    have := ih (n + 1) k (out ++ nxC D (L.getD n [])) (by omega) (by omega) (by rw [List.length_append]; omega)
    rw [List.append_assoc] at this
    exact this
theorem po_out (K : Nat) (hK : 2000000 ≤ K) (a : Ar 6) (D : List Int) (hN : impl_numbers.f K a = some D) (hD : D.length ≤ 6) (T : Nat) (hT : T ≤ 3) : ∀ (r t k : Nat) (L : List (List Int)), t + r = T → r < k → L.length ≤ 6 ^ t → (∀ c ∈ L, c.length ≤ t) →
    ∃ R : List (List Int), spec_PhrasesOf.l8 K (T : Int) D k (t : Int) L = some R ∧ impl_PhrasesOf.l10 K a (T : Int) k (t : Int) L = some R ∧ R.length ≤ 6 ^ T ∧ (∀ c ∈ R, c.length ≤ T) := by
  intro r
  induction r with
  | zero =>
    intro t k L h1 h2 h3 h4
    obtain ⟨k, rfl⟩ : ∃ j, k = j + 1 := ⟨k - 1, by omega⟩
    have : t = T := by omega
    subst this
    rw [spec_PhrasesOf.l8, impl_PhrasesOf.l10, if_neg (by omega), if_neg (by omega)]
    exact ⟨L, rfl, rfl, h3, h4⟩
  | succ r ih =>
    intro t k L h1 h2 h3 h4
    obtain ⟨k, rfl⟩ : ∃ j, k = j + 1 := ⟨k - 1, by omega⟩
    have h6 : 6 ^ t ≤ 216 := by
      rcases (show t = 0 ∨ t = 1 ∨ t = 2 ∨ t = 3 by omega) with rfl | rfl | rfl | rfl <;> decide
    obtain ⟨p1, p2⟩ := po_mid K hK a D hN hD L (fun c hc => by have := h4 c hc; omega) (by omega) L.length 0 K [] (by omega) (by omega) (by simp; omega)
    rw [List.drop_zero, List.nil_append] at p1 p2
    rw [spec_PhrasesOf.l8, impl_PhrasesOf.l10, if_pos (by omega), if_pos (by omega), show spec_PhrasesOf.l11 K D L K 0 [] = _ from p1, show impl_PhrasesOf.l14 K a L K 0 [] = _ from p2, some_bind, some_bind, w1' t (by omega)]
    refine ih (t + 1) k _ (by omega) (by omega) ?_ ?_
    · rw [nx_len, Nat.pow_succ]
      exact Nat.mul_le_mul h3 hD
    · intro c hc
      obtain ⟨x, hx, hc⟩ := List.mem_flatMap.1 hc
      unfold nxC at hc
      obtain ⟨d, _, rfl⟩ := List.mem_map.1 hc
      have := h4 x hx
      rw [List.length_append, List.length_singleton]
      omega
theorem PhrasesOf_same (K : Nat) (hK : 2000000 ≤ K) (a : Ar 6) (x : Int) : ∃ R b, spec_PhrasesOf.f K a x = some (R, b) ∧ impl_PhrasesOf.f K a x = some (R, b) ∧ R.length ≤ 216 ∧ (∀ c ∈ R, c.length ≤ 3) := by
  unfold spec_PhrasesOf.f impl_PhrasesOf.f
  rw [die_spec K hK, die_impl K hK, in_within, in_eq]
  simp only [some_bind]
  cases hd : dieB a with
  | false => exact ⟨[], false, rfl, rfl, by simp, by simp⟩
  | true =>
    simp only [if_true]
    by_cases h : 1 ≤ x ∧ x ≤ 3
    · obtain ⟨n, rfl⟩ : ∃ n : Nat, x = n := ⟨x.toNat, by omega⟩
      rw [decide_eq_true h, numbers_spec K (by omega) a hd]
      simp only [if_true, some_bind]
      obtain ⟨R, r1, r2, r3, r4⟩ := po_out K hK a (ddS a.l 6) (numbers_impl K (by omega) a) (ddS_len a.l 6) n (by omega) n 0 K [[]] (by omega) (by omega) (by simp) (by simp)
      rw [show spec_PhrasesOf.l8 K (n : Int) (ddS a.l 6) K 0 [([] : List Int)] = _ from r1, show impl_PhrasesOf.l10 K a (n : Int) K 0 [([] : List Int)] = _ from r2]
      have h6 : 6 ^ n ≤ 216 := by
        rcases (show n = 1 ∨ n = 2 ∨ n = 3 by omega) with rfl | rfl | rfl <;> decide
      exact ⟨R, true, rfl, rfl, by omega, fun c hc => by have := r4 c hc; omega⟩
    · rw [decide_eq_false h]
      exact ⟨[], false, rfl, rfl, by simp, by simp⟩
theorem PhrasesOf_pure (a0 : Ar 6) (a1 : Int) (_w0 : ∀ z ∈ a0.l, (Lit.int .i64 z).wf = true) (_w1 : (Lit.int .i64 a1).wf = true) : ∃ K, laws_FnExactPhrasesOf.f K a0 a1 = some true := by
  obtain ⟨K, hK⟩ : ∃ K : Nat, 200000000 ≤ K := ⟨_, Nat.le_refl _⟩
  refine ⟨K, ?_⟩
  unfold laws_FnExactPhrasesOf.f
  obtain ⟨R, b, h1, h2, h3, h4⟩ := PhrasesOf_same K (by omega) a0 a1
  obtain ⟨m, s, m1, m2, m3, m4⟩ := marksSS K hK R (by omega) (fun l hl => by have := h4 l hl; omega)
  have t2 := fun a => toA6 K (by omega) a
  have i1 : ¬ m < 0 := by omega
  simp only [t2, h1, h2, m1, m2, m4, i1, some_bind, if_true, if_false, beq_self_eq_true]
end Go.Proofs.Ytnjfmhgmbfemdaa.WPhrasesOf

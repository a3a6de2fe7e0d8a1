/- The plain law: what the walk shows to be computed answers true. Conditions: the numbers are 64-bit. -/
import Derived.Test.YtfiabgkolhpbkaaWTurnLetters
import Derived.KernelRfl
namespace Go.Proofs.Ytfiabgkolhpbkaa.WTurnLetters
open Go.K Go.RowKit
set_option linter.unusedVariables false
set_option linter.unusedSimpArgs false

theorem in_eq (K : Nat) (a lo hi : Int) : impl_within.f K a lo hi = some (decide (lo ≤ a ∧ a ≤ hi)) := by
  unfold impl_within.f
  by_cases h : lo ≤ a <;> simp [h]
theorem in_within : spec_l1In.f = impl_within.f := by kernel_rfl
theorem w1 (n : Nat) (h : n ≤ 4000000000000000000) : wrap64 ((n : Int) + 1) = ((n + 1 : Nat) : Int) := by rw [w64 (by omega) (by omega)]; omega
theorem toS_l0 (K : Nat) (l : List Int) (h : l.length ≤ 1073741824) : ∀ (k n : Nat) (out : List Int), out.length = l.length → out.take n = l.take n → n ≤ l.length → l.length - n < k → laws_toIntS.l0 K l k (n : Int) out = some l := by
  intro k
  induction k with
  | zero => intro n out h1 h2 h3 h4; omega
  | succ k ih =>
    intro n out h1 h2 h3 h4
    rw [laws_toIntS.l0]
    by_cases hn : (n : Int) < (l.length : Int)
    · have hn' : n < l.length := by omega
      rw [if_pos hn, if_pos (by omega), if_pos (by omega), w1 n (by omega)]
      refine ih (n + 1) _ (by simp [h1]) ?_ (by omega) (by omega)
      have hnn : ((n : Int)).toNat = n := by omega
      rw [hnn, List.take_add_one, List.take_add_one, List.take_set_of_le (Nat.le_refl n), h2]
      rw [List.getElem?_set_self (by omega)]
      congr 1
      rw [List.getD_eq_getElem?_getD, List.getElem?_eq_getElem hn']
      rfl
    · rw [if_neg hn]
      have : n = l.length := by omega
      subst this
      rw [← h1, List.take_length, h1, List.take_length] at h2
      rw [h2]
theorem toS (K : Nat) (l : List Int) (h : l.length ≤ 1048576) (hK : 2000000 ≤ K) : laws_toIntS.f K l = some l := by
  unfold laws_toIntS.f
  rw [if_pos (by omega), show (0 : Int) = ((0 : Nat) : Int) from rfl, toS_l0 K l (by omega) K 0 _ (by simp) (by simp) (by omega) (by omega)]
  rfl
theorem eqS_l0 (K : Nat) (l : List Int) (h : l.length ≤ 1073741824) : ∀ (k n : Nat), n ≤ l.length → l.length - n < k → laws_eqIntS.l0 K l l k (n : Int) = some (Sum.inl ()) := by
  intro k
  induction k with
  | zero => intro n h1 h2; omega
  | succ k ih =>
    intro n h1 h2
    rw [laws_eqIntS.l0]
    by_cases hn : (n : Int) < (l.length : Int)
    · rw [if_pos hn, if_pos (by omega), if_pos (by omega), if_pos rfl, w1 n (by omega)]
      exact ih (n + 1) (by omega) (by omega)
    · rw [if_neg hn]
theorem eqS (K : Nat) (l : List Int) (h : l.length ≤ 1048576) (hK : 2000000 ≤ K) : laws_eqIntS.f K l l = some true := by
  unfold laws_eqIntS.f
  rw [if_pos rfl, show (0 : Int) = ((0 : Nat) : Int) from rfl, eqS_l0 K l (by omega) K 0 (by omega) (by omega)]
  rfl
def marksS (a : Int) : Nat → List Int
  | 0 => []
  | n + 1 => a :: marksS (a + 1) n
theorem marksS_length : ∀ (n : Nat) (a : Int), (marksS a n).length = n
  | 0, _ => rfl
  | n + 1, a => by simp [marksS, marksS_length n]
theorem marksS_get : ∀ (n : Nat) (a : Int) (i : Nat), i < n → (marksS a n)[i]? = some (a + i)
  | 0, _, i, h => by omega
  | n + 1, a, 0, _ => by simp [marksS]
  | n + 1, a, i + 1, h => by
    simp only [marksS, List.getElem?_cons_succ]
    rw [marksS_get n (a + 1) i (by omega)]
    congr 1
    omega
theorem markS_l0 (K : Nat) (l : List Int) (N : Nat) (a : Int) (h0 : 0 ≤ a) (h : N ≤ 1073741824) (ha : a ≤ 1073741824) : ∀ (k n : Nat) (out : List Int), out.length = N → out.take n = (marksS a N).take n → n ≤ N → N - n < k → laws_markIntS.l0 K l k (a + n) (n : Int) out = some (a + N, marksS a N) := by
  intro k
  induction k with
  | zero => intro n out h1 h2 h3 h4; omega
  | succ k ih =>
    intro n out h1 h2 h3 h4
    rw [laws_markIntS.l0]
    by_cases hn : (n : Int) < (out.length : Int)
    · have hn' : n < N := by omega
      rw [if_pos hn, if_pos (by omega), w1 n (by omega)]
      rw [show wrap64 (a + (n : Int) + 1) = a + ((n + 1 : Nat) : Int) by rw [w64 (by omega) (by omega)]; omega]
      refine ih (n + 1) _ (by simp [h1]) ?_ (by omega) (by omega)
      have hnn : ((n : Int)).toNat = n := by omega
      rw [hnn, List.take_add_one, List.take_add_one, List.take_set_of_le (Nat.le_refl n), h2]
      rw [List.getElem?_set_self (by omega), marksS_get N a n hn']
    · rw [if_neg hn]
      have : n = N := by omega
      subst this
      have h5 : out = marksS a n := by
        have e1 : out.take n = out := by rw [← h1]; exact List.take_length
        have e2 : (marksS a n).take n = marksS a n := by
          conv => lhs; rw [← marksS_length n a]
          rw [marksS_length]; exact List.take_of_length_le (by rw [marksS_length]; omega)
        rw [e1, e2] at h2
        exact h2
      rw [h5]
theorem heldS_l0 (K : Nat) (N : Nat) (a : Int) (h0 : 0 ≤ a) (h : N ≤ 1073741824) (ha : a ≤ 1073741824) : ∀ (k n : Nat), n ≤ N → N - n < k → laws_heldIntS.l0 K (marksS a N) k (a + n) (n : Int) = some (Sum.inl (a + N)) := by
  intro k
  induction k with
  | zero => intro n h3 h4; omega
  | succ k ih =>
    intro n h3 h4
    rw [laws_heldIntS.l0, marksS_length]
    by_cases hn : (n : Int) < (N : Int)
    · have hn' : n < N := by omega
      have hnn : ((n : Int)).toNat = n := by omega
      rw [if_pos hn, if_pos (by omega), w1 n (by omega), hnn, List.getD_eq_getElem?_getD, marksS_get N a n hn', Option.getD_some, if_pos rfl]
      rw [show wrap64 (a + (n : Int) + 1) = a + ((n + 1 : Nat) : Int) by rw [w64 (by omega) (by omega)]; omega]
      exact ih (n + 1) (by omega) (by omega)
    · rw [if_neg hn]
      have : n = N := by omega
      subst this
      rfl
theorem markS (K : Nat) (l : List Int) (a : Int) (h0 : 0 ≤ a) (ha : a ≤ 1073741824) (h : l.length ≤ 100000000) (hK : 200000000 ≤ K) : laws_markIntS.f K l a = some (a + l.length, marksS a l.length) := by
  unfold laws_markIntS.f
  have := markS_l0 K l l.length a h0 (by omega) ha K 0 l rfl (by simp) (by omega) (by omega)
  simp only [Int.natCast_zero, Int.add_zero] at this
  rw [this]; rfl
theorem heldS (K : Nat) (N : Nat) (a : Int) (h0 : 0 ≤ a) (ha : a ≤ 1073741824) (h : N ≤ 100000000) (hK : 200000000 ≤ K) : laws_heldIntS.f K (marksS a N) a = some (a + N) := by
  unfold laws_heldIntS.f
  have := heldS_l0 K N a h0 (by omega) ha K 0 (by omega) (by omega)
  simp only [Int.natCast_zero, Int.add_zero] at this
  rw [this]; rfl
theorem ar_get_set {n : Nat} (a : Ar n) (i j v : Int) (h0 : 0 ≤ i) (h1 : i < n) (h2 : 0 ≤ j) : (a.set i v).get j = if j = i then v else a.get j := by
  unfold Ar.get Ar.set
  simp only [List.getD_eq_getElem?_getD]
  by_cases h : j = i
  · subst h
    rw [if_pos rfl, List.getElem?_set_self (by rw [a.h]; omega)]
    rfl
  · rw [if_neg h, List.getElem?_set_ne (by omega)]
theorem let_in (K : Nat) (m q : Int) : impl_within.f K q 0 (m - 1) = some (decide (0 ≤ q ∧ q < m)) := by
  rw [in_eq]
  congr 1
  rw [decide_eq_decide]
  omega
theorem let_more (K : Nat) (l : List Int) (hl : l.length ≤ 24) (m : Nat) (hm : m ≤ 4) (hw : wrap64 (wrap64 ((l.length : Int).tdiv 6) - 1) = (m : Int) - 1) (j : Int) (hj : 0 ≤ j ∧ j < 4) : ∀ (k n : Nat) (c : Ar 4), n ≤ l.length → l.length - n < k → (∀ i : Int, 0 ≤ i → i < 4 → 0 ≤ c.get i ∧ c.get i ≤ n) → 6 < c.get j →
    spec_l10Letters.l0 K l k (n : Int) c = some (Sum.inr false) ∨ ∃ c', spec_l10Letters.l0 K l k (n : Int) c = some (Sum.inl c') ∧ 6 < c'.get j := by
  intro k
  induction k with
  | zero => intro n c h1 h2; omega
  | succ k ih =>
    intro n c h1 h2 h3 h4
    rw [spec_l10Letters.l0]
    by_cases hn : n < l.length
    · have c1 : (n : Int) < (l.length : Int) := by omega
      have c2 : (0 : Int) ≤ (n : Int) ∧ (n : Int) < (l.length : Int) := by omega
      have f1 : l.length - (n + 1) < k := by omega
      have b1 : n ≤ 4000000000000000000 := by omega
      have b2 : n ≤ 24 := by omega
      rw [if_pos c1, if_pos c2, hw, in_within, let_in, some_bind]
      generalize l.getD ((n : Int)).toNat 0 = q
      by_cases hq : 0 ≤ q ∧ q < (m : Int)
      · have hq4 : 0 ≤ q ∧ q < 4 := by omega
        have hc := h3 q hq4.1 hq4.2
        have e : wrap64 (c.get q + 1) = c.get q + 1 := by clear hw; exact w64 (by omega) (by omega)
        rw [if_pos (decide_eq_true hq), if_pos hq4, w1 n b1, e]
        refine ih (n + 1) _ hn f1 ?_ ?_
        · intro i hi0 hi1
          rw [ar_get_set _ _ _ _ hq4.1 hq4.2 hi0]
          have := h3 i hi0 hi1
          by_cases hiq : i = q
          · rw [if_pos hiq]; clear hw e; omega
          · rw [if_neg hiq]; clear hw e; omega
        · rw [ar_get_set _ _ _ _ hq4.1 hq4.2 hj.1]
          by_cases hiq : j = q
          · rw [if_pos hiq]; subst hiq; clear hw e; omega
          · rw [if_neg hiq]; exact h4
      · rw [decide_eq_false hq]
        exact .inl rfl
    · have c1 : ¬ (n : Int) < (l.length : Int) := by omega
      rw [if_neg c1]
      exact .inr ⟨c, rfl, h4⟩
def cs4 (c : Ar 4) : Int := c.get 0 + c.get 1 + c.get 2 + c.get 3
theorem let_l0 (K : Nat) (l : List Int) (hl : l.length ≤ 24) (m : Nat) (hm : 1 ≤ m ∧ m ≤ 4) (hw : wrap64 (wrap64 ((l.length : Int).tdiv 6) - 1) = (m : Int) - 1) : ∀ (k n : Nat) (c : Ar 4) (cl : List Int) (out : List (Ar 6)), n ≤ l.length → l.length - n < k → cl.length = m → out.length = m → (∀ i : Nat, i < m → c.get (i : Int) = cl.getD i 0) → (∀ i : Int, 0 ≤ i → i < 4 → (0 ≤ c.get i ∧ c.get i ≤ 6 ∧ c.get i ≤ n) ∧ ((m : Int) ≤ i → c.get i = 0)) → cs4 c = n →
    (∃ o c', impl_fromLetters.l0 K l k (n : Int) out cl = some (Sum.inl o) ∧ spec_l10Letters.l0 K l k (n : Int) c = some (Sum.inl c') ∧ spec_l10Pool.l0 K l k (n : Int) out c = some o ∧ o.length = m ∧ (∀ i : Int, 0 ≤ i → i < 4 → (0 ≤ c'.get i ∧ c'.get i ≤ 6) ∧ ((m : Int) ≤ i → c'.get i = 0)) ∧ cs4 c' = l.length) ∨
    (impl_fromLetters.l0 K l k (n : Int) out cl = some (Sum.inr ([], false)) ∧ (spec_l10Letters.l0 K l k (n : Int) c = some (Sum.inr false) ∨ ∃ c' j, (0 ≤ j ∧ j < (m : Int)) ∧ spec_l10Letters.l0 K l k (n : Int) c = some (Sum.inl c') ∧ 6 < c'.get j)) := by
  intro k
  induction k with
  | zero => intro n c cl out h1 h2; omega
  | succ k ih =>
    intro n c cl out h1 h2 h3 h4 h5 h6 h7
    have hfull := fun j hj q => let_more K l hl m hm.2 hw j hj q
    by_cases hn : n < l.length
    · have c1 : (n : Int) < (l.length : Int) := by omega
      have c2 : (0 : Int) ≤ (n : Int) ∧ (n : Int) < (l.length : Int) := by omega
      have f1 : l.length - (n + 1) < k := by omega
      have b1 : n ≤ 4000000000000000000 := by omega
      have b2 : n ≤ 24 := by omega
      rw [impl_fromLetters.l0, spec_l10Letters.l0, spec_l10Pool.l0]
      rw [if_pos c1, if_pos c2, if_pos c1, if_pos c2, if_pos c1, if_pos c2, hw, in_within, let_in, some_bind, some_bind]
      generalize l.getD ((n : Int)).toNat 0 = q
      by_cases hq : 0 ≤ q ∧ q < (m : Int)
      · obtain ⟨p, rfl⟩ : ∃ p : Nat, q = p := ⟨q.toNat, by clear hw; omega⟩
        have hp : p < m := by clear hw; omega
        have hq4 : (0 : Int) ≤ (p : Int) ∧ (p : Int) < 4 := by clear hw; omega
        have hcl : (0 : Int) ≤ (p : Int) ∧ (p : Int) < (cl.length : Int) := by clear hw; omega
        have hol : (0 : Int) ≤ (p : Int) ∧ (p : Int) < (out.length : Int) := by clear hw; omega
        have hc := (h6 p hq4.1 hq4.2).1
        have hcp := h5 p hp
        have e : wrap64 (c.get (p : Int) + 1) = c.get (p : Int) + 1 := by clear hw; exact w64 (by omega) (by omega)
        simp only [if_pos (decide_eq_true hq), if_pos hq4, if_pos hcl]
        rw [show ((p : Int)).toNat = p from rfl, ← hcp, w1 n b1, e]
        have hset : ∀ i : Int, 0 ≤ i → i < 4 → (c.set (p : Int) (c.get (p : Int) + 1)).get i = if i = (p : Int) then c.get (p : Int) + 1 else c.get i := fun i hi0 _ => ar_get_set _ _ _ _ hq4.1 hq4.2 hi0
        by_cases h6c : c.get (p : Int) = 6
        · rw [if_pos h6c]
          right
          refine ⟨rfl, ?_⟩
          rcases hfull (p : Int) hq4 k (n + 1) (c.set (p : Int) (c.get (p : Int) + 1)) hn f1 (by
            intro i hi0 hi1
            rw [hset i hi0 hi1]
            have := (h6 i hi0 hi1).1
            by_cases hiq : i = (p : Int)
            · rw [if_pos hiq]; clear hw e; omega
            · rw [if_neg hiq]; clear hw e; omega) (by rw [hset _ hq4.1 hq4.2, if_pos rfl]; clear hw e; omega) with h | ⟨c', h8, h9⟩
          · exact .inl h
          · exact .inr ⟨c', p, hq, h8, h9⟩
        · have hlt6 : (0 : Int) ≤ c.get (p : Int) ∧ c.get (p : Int) < 6 := by clear hw e; omega
          simp only [if_neg h6c, if_pos hol, if_pos hlt6]
          refine ih (n + 1) _ _ _ hn f1 (by rw [List.length_set]; exact h3) (by rw [List.length_set]; exact h4) ?_ ?_ ?_
          · intro i hi
            rw [hset i (by omega) (by clear hw e; omega)]
            rw [List.getD_eq_getElem?_getD]
            by_cases hip : i = p
            · subst hip
              rw [if_pos rfl, List.getElem?_set_self (by omega)]; rfl
            · rw [if_neg (by omega), List.getElem?_set_ne (fun h => hip h.symm), ← List.getD_eq_getElem?_getD]
              exact h5 i hi
          · intro i hi0 hi1
            rw [hset i hi0 hi1]
            have := h6 i hi0 hi1
            by_cases hiq : i = (p : Int)
            · rw [if_pos hiq]; clear hw e; exact ⟨⟨by omega, by omega, by omega⟩, fun h => by omega⟩
            · rw [if_neg hiq]; exact ⟨⟨this.1.1, this.1.2.1, by clear hw e; omega⟩, this.2⟩
          · unfold cs4 at h7 ⊢
            rw [hset 0 (by decide) (by decide), hset 1 (by decide) (by decide), hset 2 (by decide) (by decide), hset 3 (by decide) (by decide)]
            clear hset e hw ih hfull h6 h5 hc hcp
            rcases (show p = 0 ∨ p = 1 ∨ p = 2 ∨ p = 3 by omega) with rfl | rfl | rfl | rfl <;> simp <;> omega
      · rw [decide_eq_false hq]
        exact .inr ⟨rfl, .inl rfl⟩
    · have c1 : ¬ (n : Int) < (l.length : Int) := by omega
      have hnl : n = l.length := by omega
      rw [impl_fromLetters.l0, spec_l10Letters.l0, spec_l10Pool.l0, if_neg c1, if_neg c1, if_neg c1]
      exact .inl ⟨out, c, rfl, rfl, rfl, h4, fun i hi0 hi1 => ⟨⟨(h6 i hi0 hi1).1.1, (h6 i hi0 hi1).1.2.1⟩, (h6 i hi0 hi1).2⟩, by rw [h7, hnl]⟩
theorem let_l1 (K : Nat) (l : List Int) (m : Nat) (hm : m ≤ 4) (hw : wrap64 ((l.length : Int).tdiv 6) = (m : Int)) (c : Ar 4) : ∀ (k n : Nat), n ≤ m → m - n < k →
    (spec_l10Letters.l1 K l c k (n : Int) = some (Sum.inl ()) ∧ ∀ j : Nat, n ≤ j → j < m → c.get (j : Int) = 6) ∨ (spec_l10Letters.l1 K l c k (n : Int) = some (Sum.inr false) ∧ ∃ j : Nat, j < m ∧ c.get (j : Int) ≠ 6) := by
  intro k
  induction k with
  | zero => intro n h1 h2; omega
  | succ k ih =>
    intro n h1 h2
    rw [spec_l10Letters.l1, hw]
    by_cases hn : n < m
    · have c1 : (n : Int) < (m : Int) := by clear hw; omega
      have c2 : (0 : Int) ≤ (n : Int) ∧ (n : Int) < 4 := by clear hw; omega
      have f1 : m - (n + 1) < k := by clear hw; omega
      have b1 : n ≤ 4000000000000000000 := by clear hw; omega
      rw [if_pos c1, if_pos c2]
      by_cases h6 : c.get (n : Int) = 6
      · rw [if_pos h6, w1 n b1]
        rcases ih (n + 1) hn f1 with ⟨h3, h4⟩ | ⟨h3, h4⟩
        · refine .inl ⟨h3, fun j hj1 hj2 => ?_⟩
          by_cases hjn : j = n
          · rw [hjn]; exact h6
          · exact h4 j (by clear hw; omega) hj2
        · exact .inr ⟨h3, h4⟩
      · rw [if_neg h6]
        exact .inr ⟨rfl, n, hn, h6⟩
    · have c1 : ¬ (n : Int) < (m : Int) := by clear hw; omega
      rw [if_neg c1]
      exact .inl ⟨rfl, fun j hj1 hj2 => by clear hw; omega⟩
theorem FromLetters_same (K : Nat) (hK : 2000000 ≤ K) (l : List Int) (hlen : l.length ≤ 1048576) : ∃ o b, spec_FromLetters.f K l = some (o, b) ∧ impl_FromLetters.f K l = some (o, b) ∧ o.length ≤ 1000 := by
  unfold spec_FromLetters.f impl_FromLetters.f spec_l10Letters.f impl_fromLetters.f spec_l10Pool.f
  by_cases h6 : (l.length : Int).tmod 6 = 0
  · obtain ⟨m, hm⟩ : ∃ m : Nat, l.length = 6 * m := by
      rw [Int.tmod_eq_emod_of_nonneg (by omega)] at h6
      exact ⟨l.length / 6, by omega⟩
    rw [if_pos h6, if_pos h6, in_within, in_eq, some_bind]
    by_cases hr : 1 ≤ m ∧ m ≤ 4
    · have ht : wrap64 ((l.length : Int).tdiv 6) = (m : Int) := by
        have e : (l.length : Int).tdiv 6 = (m : Int) := by
          rw [Int.tdiv_eq_ediv_of_nonneg (by omega)]; omega
        rw [e]; exact w64 (by omega) (by omega)
      have hw : wrap64 (wrap64 ((l.length : Int).tdiv 6) - 1) = (m : Int) - 1 := by rw [ht]; clear ht; exact w64 (by omega) (by omega)
      have d1 : decide (6 ≤ (l.length : Int) ∧ (l.length : Int) ≤ 24) = true := decide_eq_true (by clear ht hw; omega)
      have d2 : decide (1 ≤ (m : Int) ∧ (m : Int) ≤ 4) = true := decide_eq_true (by clear ht hw; omega)
      have c0 : (0 : Int) ≤ (m : Int) ∧ (m : Int) ≤ 1073741824 := by clear ht hw; omega
      have f1 : l.length ≤ 24 := by clear ht hw; omega
      have f2 : l.length - 0 < K := by clear ht hw; omega
      have f3 : m - 0 < K := by clear ht hw; omega
      have hL := let_l0 K l f1 m hr hw K 0 ⟨[0, 0, 0, 0], rfl⟩ (List.replicate m 0) (List.replicate m (Ar.zero 6)) (Nat.zero_le _) f2 (List.length_replicate) (List.length_replicate) (by
        intro i hi
        rw [List.getD_eq_getElem?_getD, List.getElem?_replicate, if_pos hi]
        rcases (show i = 0 ∨ i = 1 ∨ i = 2 ∨ i = 3 by clear ht hw; omega) with rfl | rfl | rfl | rfl <;> rfl) (by
        intro i hi0 hi1
        rcases (show i = 0 ∨ i = 1 ∨ i = 2 ∨ i = 3 by clear ht hw; omega) with rfl | rfl | rfl | rfl <;> exact ⟨by decide, fun _ => rfl⟩) rfl
      rw [show ((0 : Nat) : Int) = 0 from rfl] at hL
      rw [d1, if_pos rfl, ht, in_eq, d2, some_bind]
      simp only [if_true, some_bind, if_pos c0, Int.toNat_natCast]
      rcases hL with ⟨o, c', i1, i2, i3, i4, i5, i6⟩ | ⟨i1, i2⟩
      · have hall : ∀ j : Nat, j < m → c'.get (j : Int) = 6 := by
          have q0 := i5 0 (by decide) (by decide)
          have q1 := i5 1 (by decide) (by decide)
          have q2 := i5 2 (by decide) (by decide)
          have q3 := i5 3 (by decide) (by decide)
          unfold cs4 at i6
          clear ht hw i1 i2 i3 d1 d2 i5
          intro j hj
          rcases (show j = 0 ∨ j = 1 ∨ j = 2 ∨ j = 3 by omega) with rfl | rfl | rfl | rfl
          · show c'.get 0 = 6; omega
          · show c'.get 1 = 6; omega
          · show c'.get 2 = 6; omega
          · show c'.get 3 = 6; omega
        have hl1 : spec_l10Letters.l1 K l c' K 0 = some (Sum.inl ()) := by
          rcases let_l1 K l m hr.2 ht c' K 0 (Nat.zero_le _) f3 with ⟨h3, _⟩ | ⟨_, j, hj, hne⟩
          · exact h3
          · exact absurd (hall j hj) hne
        refine ⟨o, true, ?_, ?_, by rw [i4]; clear ht hw; omega⟩
        · simp only [i2, some_bind, hl1, if_true, i3]
        · simp only [i1, some_bind]
      · refine ⟨[], false, ?_, ?_, by simp⟩
        · rcases i2 with h | ⟨c', j, hj, h8, h9⟩
          · simp only [h, some_bind, Bool.false_eq_true, if_false]
          · have hl1 : spec_l10Letters.l1 K l c' K 0 = some (Sum.inr false) := by
              rcases let_l1 K l m hr.2 ht c' K 0 (Nat.zero_le _) f3 with ⟨_, h4⟩ | ⟨h3, _⟩
              · have := h4 j.toNat (Nat.zero_le _) (by clear ht hw; omega)
                rw [show ((j.toNat : Nat) : Int) = j by clear ht hw; omega] at this
                omega
              · exact h3
            simp only [h8, some_bind, hl1, Bool.false_eq_true, if_false]
        · simp only [i1, some_bind]
    · have d1 : decide (6 ≤ (l.length : Int) ∧ (l.length : Int) ≤ 24) = false := decide_eq_false (by omega)
      have d2 : decide (1 ≤ wrap64 ((l.length : Int).tdiv 6) ∧ wrap64 ((l.length : Int).tdiv 6) ≤ 4) = false := by
        apply decide_eq_false
        have e : (l.length : Int).tdiv 6 = (m : Int) := by
          rw [Int.tdiv_eq_ediv_of_nonneg (by omega)]; omega
        rw [e, w64 (n := (m : Int)) (by omega) (by omega)]
        omega
      refine ⟨[], false, ?_, ?_, by simp⟩
      · rw [d1]; rfl
      · rw [in_eq, d2]; rfl
  · rw [if_neg h6, if_neg h6]
    exact ⟨[], false, rfl, rfl, by simp⟩
theorem rev_l0 (K : Nat) (l x : List Int) (hx : x.length ≤ 1000) : ∀ (k t : Nat) (s : List Int), s.length = x.length → x.length < k + t → 2 * t ≤ x.length + 1 → (∀ p, p < x.length → s[p]? = if p < t ∨ x.length - t ≤ p then x[x.length - 1 - p]? else x[p]?) →
    slices_Reverse_int_int.l0 K l k (t : Int) ((x.length : Int) - 1 - t) s = some x.reverse := by
  intro k
  induction k with
  | zero => intro t s h1 h2 h3; omega
  | succ k ih =>
    intro t s h1 h2 h3 h4
    rw [slices_Reverse_int_int.l0]
    by_cases hn : 2 * t + 1 < x.length
    · have c1 : (t : Int) < (x.length : Int) - 1 - t := by omega
      have c2 : (0 : Int) ≤ (x.length : Int) - 1 - t ∧ (x.length : Int) - 1 - t < (s.length : Int) := by omega
      have c3 : (0 : Int) ≤ (t : Int) ∧ (t : Int) < (s.length : Int) := by omega
      have e1 : wrap64 ((x.length : Int) - 1 - t - 1) = (x.length : Int) - 1 - ((t + 1 : Nat) : Int) := by rw [w64 (by omega) (by omega)]; omega
      have e2 : ((x.length : Int) - 1 - t).toNat = x.length - 1 - t := by omega
      rw [if_pos c1, if_pos c2, if_pos c3, if_pos (by rw [List.length_set]; exact c2), w1' t (by omega), e1, e2, Int.toNat_natCast]
      have g1 : s[t]? = x[t]? := by rw [h4 t (by omega), if_neg (by omega)]
      have g2 : s[x.length - 1 - t]? = x[x.length - 1 - t]? := by rw [h4 _ (by omega), if_neg (by omega)]
      refine ih (t + 1) _ (by simp [h1]) (by omega) (by omega) ?_
      intro p hp
      rw [List.getElem?_set, List.getElem?_set]
      simp only [List.length_set, h1]
      by_cases hp1 : x.length - 1 - t = p
      · subst hp1
        rw [if_pos rfl, if_pos (by omega), if_pos (by omega), show x.length - 1 - (x.length - 1 - t) = t by omega, List.getD_eq_getElem?_getD, g1, List.getElem?_eq_getElem (show t < x.length by omega)]
        rfl
      · rw [if_neg hp1]
        by_cases hp2 : t = p
        · subst hp2
          rw [if_pos rfl, if_pos (by omega), if_pos (by omega), List.getD_eq_getElem?_getD, g2, List.getElem?_eq_getElem (show x.length - 1 - t < x.length by omega)]
          rfl
        · rw [if_neg hp2, h4 p hp]
          by_cases hp3 : p < t ∨ x.length - t ≤ p
          · rw [if_pos hp3, if_pos (by omega)]
          · rw [if_neg hp3, if_neg (by omega)]
    · rw [if_neg (by omega)]
      congr 1
      apply List.ext_getElem?
      intro p
      by_cases hp : p < x.length
      · rw [h4 p hp, List.getElem?_reverse hp]
        by_cases hp3 : p < t ∨ x.length - t ≤ p
        · rw [if_pos hp3]
        · rw [if_neg hp3, show x.length - 1 - p = p by omega]
      · rw [List.getElem?_eq_none (by omega), List.getElem?_eq_none (by simp; omega)]
theorem rev_eq (K : Nat) (l : List Int) (hl : l.length ≤ 1000) (hK : 2000 ≤ K) : slices_Reverse_int_int.f K l = some ((), l.reverse) := by
  unfold slices_Reverse_int_int.f
  have e : wrap64 ((l.length : Int) - 1) = (l.length : Int) - 1 - ((0 : Nat) : Int) := by rw [w64 (by omega) (by omega)]; omega
  have := rev_l0 K l l hl K 0 l rfl (by omega) (by omega) (fun p hp => by rw [if_neg (by omega)])
  rw [e]
  rw [show slices_Reverse_int_int.l0 K l K 0 ((l.length : Int) - 1 - ((0 : Nat) : Int)) l = _ from this]
  rfl
theorem turn_l0 (K : Nat) (l : List Int) (hl : l.length ≤ 1000) : ∀ (k n : Nat) (out : List Int), n ≤ l.length → n < k → out.length + n ≤ 2000 → spec_TurnLetters.l0 K l k ((n : Int) - 1) out = some (out ++ (l.take n).reverse) := by
  intro k
  induction k with
  | zero => intro n out h1 h2; omega
  | succ k ih =>
    intro n out h1 h2 h3
    rw [spec_TurnLetters.l0]
    by_cases hn : n = 0
    · subst hn
      rw [if_neg (by decide)]
      simp
    · obtain ⟨p, rfl⟩ : ∃ p, n = p + 1 := ⟨n - 1, by omega⟩
      have e : ((p + 1 : Nat) : Int) - 1 = (p : Int) := by omega
      have e2 : wrap64 ((p : Int) - 1) = (p : Int) - 1 := w64 (by omega) (by omega)
      rw [e, if_pos (by omega), if_pos (by omega), if_pos (by simp; omega), e2, Int.toNat_natCast, ih p _ (by omega) (by omega) (by simp; omega), getD_nat _ _ _ (by omega)]
      congr 1
      rw [List.take_succ_eq_append_getElem (by omega), List.reverse_append]
      simp
theorem let_bool (K : Nat) (hK : 2000000 ≤ K) (l : List Int) (h : l.length ≤ 1048576) : ∃ o b, impl_fromLetters.f K l = some (o, b) ∧ spec_l10Letters.f K l = some b ∧ (b = true → l.length ≤ 24) := by
  obtain ⟨o, b, h1, h2, h3⟩ := FromLetters_same K hK l h
  have e : impl_FromLetters.f K l = impl_fromLetters.f K l := by
    unfold impl_FromLetters.f
    cases impl_fromLetters.f K l <;> rfl
  rw [e] at h2
  refine ⟨o, b, h2, ?_, fun hb => ?_⟩
  · unfold spec_FromLetters.f at h1
    obtain ⟨c, hc, h1⟩ := bind_some h1
    rw [hc]
    by_cases hcc : c = true
    · rw [if_pos hcc] at h1
      obtain ⟨d, hd, h1⟩ := bind_some h1
      have := some_some h1
      rw [hcc]; injection this with _ hb; rw [hb]
    · rw [if_neg hcc] at h1
      have := some_some h1
      injection this with _ hb
      rw [← hb, bf hcc]
  · subst hb
    unfold impl_fromLetters.f at h2
    by_cases hc : (l.length : Int).tmod 6 = 0
    · rw [if_pos hc, in_eq, some_bind] at h2
      have hn : (0 : Int) ≤ l.length := by omega
      have e1 : (l.length : Int).tdiv 6 = (l.length : Int) / 6 := Int.tdiv_eq_ediv_of_nonneg hn
      have e2 : (l.length : Int).tmod 6 = (l.length : Int) % 6 := Int.tmod_eq_emod_of_nonneg hn
      rw [e1, w64 (by omega) (by omega)] at h2
      rw [e2] at hc
      by_cases hd : 1 ≤ (l.length : Int) / 6 ∧ (l.length : Int) / 6 ≤ 4
      · omega
      · rw [decide_eq_false hd] at h2
        have := some_some h2
        injection this with _ hb
        cases hb
    · rw [if_neg hc] at h2
      have := some_some h2
      injection this with _ hb
      cases hb
theorem TurnLetters_same (K : Nat) (hK : 2000000 ≤ K) (l : List Int) (h : l.length ≤ 1048576) : ∃ o b, spec_TurnLetters.f K l = some (o, b) ∧ impl_TurnLetters.f K l = some (o, b) ∧ o.length ≤ 1000 := by
  obtain ⟨o, b, h1, h2, h3⟩ := let_bool K hK l h
  unfold spec_TurnLetters.f impl_TurnLetters.f slices_Clone_int_int.f
  rw [h1, h2]
  simp only [some_bind]
  cases b with
  | false => exact ⟨[], false, rfl, rfl, by simp⟩
  | true =>
    have hl := h3 rfl
    have e : wrap64 ((l.length : Int) - 1) = (l.length : Int) - 1 := w64 (by omega) (by omega)
    simp only [if_true, if_pos (show l.length ≤ 1073741824 by omega), some_bind, rev_eq K l (by omega) (by omega), e, turn_l0 K l (by omega) K l.length [] (by omega) (by omega) (by simp; omega)]
    exact ⟨l.reverse, true, by simp, rfl, by simp; omega⟩
theorem TurnLetters_pure (l0 : List Int) (_m : l0.length ≤ maxLen) (_w : ∀ z ∈ l0, (Lit.int .i64 z).wf = true) : ∃ K, laws_FnExactTurnLetters.f K l0 = some true := by
  refine ⟨200000000, ?_⟩
  unfold laws_FnExactTurnLetters.f
  by_cases h : (1048576 : Int) < l0.length
  · rw [if_pos h]
  · rw [if_neg h]
    have h' : l0.length ≤ 1048576 := by omega
    obtain ⟨r, b, h1, h2, h3⟩ := TurnLetters_same 200000000 (by omega) l0 h'
    have m1 := markS 200000000 l0 1 (by omega) (by omega) (by omega) (by omega)
    have m2 := markS 200000000 r 1 (by omega) (by omega) (by omega) (by omega)
    have m3 := heldS 200000000 r.length 1 (by omega) (by omega) (by omega) (by omega)
    have i1 : ¬ (1 : Int) + l0.length < 0 := by omega
    have i2 : ¬ (1 : Int) + r.length < 0 := by omega
    have t1 := toS 200000000 l0 h' (by omega)
    have q1 := eqS 200000000 l0 h' (by omega)
    have q2 := eqS 200000000 r (by omega) (by omega)
    simp only [t1, h1, h2, q1, q2, m1, m2, m3, some_bind, i1, i2, if_true, if_false, beq_self_eq_true]
end Go.Proofs.Ytfiabgkolhpbkaa.WTurnLetters

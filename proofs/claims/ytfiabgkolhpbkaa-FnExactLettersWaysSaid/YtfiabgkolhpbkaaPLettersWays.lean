/- The plain law: what the walk shows to be computed answers true. Conditions: the numbers are 64-bit. -/
import Derived.Test.YtfiabgkolhpbkaaWLettersWays
import Derived.KernelRfl
namespace Go.Proofs.Ytfiabgkolhpbkaa.WLettersWays
open Go.K Go.RowKit
set_option linter.unusedVariables false
set_option linter.unusedSimpArgs false

theorem in_eq (K : Nat) (a lo hi : Int) : impl_within.f K a lo hi = some (decide (lo ≤ a ∧ a ≤ hi)) := by
  unfold impl_within.f
  by_cases h : lo ≤ a <;> simp [h]
theorem in_within : spec_l1In.f = impl_within.f := by kernel_rfl
theorem w1 (n : Nat) (h : n ≤ 4000000000000000000) : wrap64 ((n : Int) + 1) = ((n + 1 : Nat) : Int) := by rw [w64 (by omega) (by omega)]; omega
theorem toS_l0 (K : Nat) (l : List Int) (h : l.length ≤ 1073741824) : ∀ (k n : Nat) (out : List Int), out.length = l.length → out.take n = l.take n → n ≤ l.length → l.length - n < k → laws_toIntS.l0 K l k (n : Int) out = some l := by
  intro k
  induction k with
  | zero => intro n out h1 h2 h3 h4; omega
  | succ k ih =>
    intro n out h1 h2 h3 h4
    rw [laws_toIntS.l0]
    by_cases hn : (n : Int) < (l.length : Int)
    · have hn' : n < l.length := by omega
      rw [if_pos hn, if_pos (by omega), if_pos (by omega), w1 n (by omega)]
      refine ih (n + 1) _ (by simp [h1]) ?_ (by omega) (by omega)
      have hnn : ((n : Int)).toNat = n := by omega
      rw [hnn, List.take_add_one, List.take_add_one, List.take_set_of_le (Nat.le_refl n), h2]
      rw [List.getElem?_set_self (by omega)]
      congr 1
      rw [List.getD_eq_getElem?_getD, List.getElem?_eq_getElem hn']
      rfl
    · rw [if_neg hn]
      have : n = l.length := by omega
      subst this
      rw [← h1, List.take_length, h1, List.take_length] at h2
      rw [h2]
theorem toS (K : Nat) (l : List Int) (h : l.length ≤ 1048576) (hK : 2000000 ≤ K) : laws_toIntS.f K l = some l := by
  unfold laws_toIntS.f
  rw [if_pos (by omega), show (0 : Int) = ((0 : Nat) : Int) from rfl, toS_l0 K l (by omega) K 0 _ (by simp) (by simp) (by omega) (by omega)]
  rfl
theorem all_power : spec_l2All.f = impl_power.f := by kernel_rfl
theorem pow_lt (n : Nat) (h : n ≤ 22) : (6 : Int) ^ n ≤ 131621703842267136 := by
  have : (6 : Nat) ^ n ≤ 6 ^ 22 := Nat.pow_le_pow_right (by omega) h
  have h2 : ((6 ^ n : Nat) : Int) ≤ ((6 ^ 22 : Nat) : Int) := by exact_mod_cast this
  simpa using h2
theorem pow_pos (n : Nat) : (1 : Int) ≤ 6 ^ n := by
  have : 1 ≤ (6 : Nat) ^ n := Nat.one_le_pow _ _ (by omega)
  have h2 : ((1 : Nat) : Int) ≤ ((6 ^ n : Nat) : Int) := by exact_mod_cast this
  simpa using h2
theorem power_l0 (K : Nat) (n : Nat) (hn : n ≤ 22) : ∀ (k i : Nat), i ≤ n → n - i < k → impl_power.l0 K (n : Int) k ((6 : Int) ^ i) (i : Int) = some ((6 : Int) ^ n) := by
  intro k
  induction k with
  | zero => intro i h1 h2; omega
  | succ k ih =>
    intro i h1 h2
    rw [impl_power.l0]
    by_cases h : (i : Int) < (n : Int)
    · have hp := pow_lt (i + 1) (by omega)
      have hq := pow_pos (i + 1)
      have e : (6 : Int) ^ i * 6 = 6 ^ (i + 1) := (Int.pow_succ 6 i).symm
      rw [if_pos h, e, w64 (n := (6 : Int) ^ (i + 1)) (by omega) (by omega), w64 (n := (i : Int) + 1) (by omega) (by omega), show (i : Int) + 1 = ((i + 1 : Nat) : Int) by omega]
      exact ih (i + 1) (by omega) (by omega)
    · rw [if_neg h, show i = n by omega]
theorem power_eq (K : Nat) (hK : 30 ≤ K) (n : Nat) (hn : n ≤ 22) : impl_power.f K (n : Int) = some ((6 : Int) ^ n) := by
  unfold impl_power.f
  rw [show impl_power.l0 K (n : Int) K 1 0 = some ((6 : Int) ^ n) from power_l0 K n hn K 0 (by omega) (by omega)]
  rfl
theorem order_l3 (K : Nat) (l : List Int) (hl : l.length ≤ 4) (x : Nat) (hx : x < l.length) : ∀ (k n m : Nat), n ≤ l.length → l.length - n < k → m ≤ n → (x < n → m + 1 ≤ n) → ∃ r, spec_l10Order.l3 K l (x : Int) k (m : Int) (n : Int) = some r ∧ impl_orderOf.l3 K l (x : Int) k (m : Int) (n : Int) = some r ∧ (r = Sum.inr (Ar.zero 4, false) ∨ ∃ c : Nat, r = Sum.inl (c : Int) ∧ c < 4) := by
  intro k
  induction k with
  | zero => intro n m h1 h2; omega
  | succ k ih =>
    intro n m h1 h2 h3 h4
    rw [spec_l10Order.l3, impl_orderOf.l3]
    by_cases hn : n < l.length
    · have c1 : (n : Int) < (l.length : Int) := by omega
      have c2 : (0 : Int) ≤ (n : Int) ∧ (n : Int) < (l.length : Int) := by omega
      have c3 : (0 : Int) ≤ (x : Int) ∧ (x : Int) < (l.length : Int) := by omega
      have f1 : l.length - (n + 1) < k := by omega
      have b1 : n ≤ 4000000000000000000 := by omega
      have b2 : m ≤ 4000000000000000000 := by omega
      have g1 : m ≤ n + 1 := by omega
      have g2 : m + 1 ≤ n + 1 := by omega
      have e0 : wrap64 ((m : Int) + 0) = (m : Int) := by rw [Int.add_zero]; exact w64 (by omega) (by omega)
      rw [if_pos c1, if_pos c1]
      simp only [if_pos c2]
      by_cases hnx : n = x
      · subst hnx
        have hlt : ¬ l.getD n 0 < l.getD n 0 := Int.lt_irrefl _
        rw [if_pos rfl, if_pos rfl, if_pos c3, show ((n : Int)).toNat = n from rfl, if_neg hlt, decide_eq_false hlt, impl_truth.f, if_neg (by decide), some_bind, e0, w1 n b1]
        exact ih (n + 1) m hn f1 g1 (fun _ => g2)
      · have h5 : ¬ (n : Int) = (x : Int) := by omega
        have g3 : x < n + 1 → m + 1 ≤ n + 1 := fun _ => g2
        have g4 : x < n + 1 → m + 1 + 1 ≤ n + 1 := fun h => by have := h4 (by omega); omega
        rw [if_neg h5, if_neg h5, if_pos c3, show ((n : Int)).toNat = n from rfl, show ((x : Int)).toNat = x from rfl]
        by_cases he : l.getD n 0 = l.getD x 0
        · rw [if_pos he, if_pos he]
          exact ⟨_, rfl, rfl, .inl rfl⟩
        · rw [if_neg he, if_neg he]
          by_cases hlt : l.getD x 0 < l.getD n 0
          · rw [if_pos hlt, decide_eq_true hlt, impl_truth.f, if_pos rfl, some_bind, w1 m b2, w1 n b1]
            exact ih (n + 1) (m + 1) hn f1 g2 g4
          · rw [if_neg hlt, decide_eq_false hlt, impl_truth.f, if_neg (by decide), some_bind, e0, w1 n b1]
            exact ih (n + 1) m hn f1 g1 g3
    · have c1 : ¬ (n : Int) < (l.length : Int) := by omega
      rw [if_neg c1, if_neg c1]
      have := h4 (by omega)
      exact ⟨_, rfl, rfl, .inr ⟨m, rfl, by omega⟩⟩
theorem order_l2 (K : Nat) (hK : 1000 ≤ K) (l : List Int) (hl : l.length ≤ 4) : ∀ (k n : Nat) (o : Ar 4), n ≤ l.length → l.length - n < k → ∃ r, spec_l10Order.l2 K l k (n : Int) o = some r ∧ impl_orderOf.l2 K l k (n : Int) o = some r := by
  intro k
  induction k with
  | zero => intro n o h1 h2; omega
  | succ k ih =>
    intro n o h1 h2
    rw [spec_l10Order.l2, impl_orderOf.l2]
    by_cases hn : n < l.length
    · have c1 : (n : Int) < (l.length : Int) := by omega
      have c2 : (0 : Int) ≤ (n : Int) ∧ (n : Int) < (l.length : Int) := by omega
      have f1 : l.length - (n + 1) < k := by omega
      have b1 : n ≤ 4000000000000000000 := by omega
      obtain ⟨r, r1, r2, r3⟩ := order_l3 K l hl n hn K 0 0 (by omega) (by omega) (by omega) (by omega)
      rw [show ((0 : Nat) : Int) = 0 from rfl] at r1 r2
      rw [if_pos c1, if_pos c1, if_pos c2, r1, r2, some_bind, some_bind]
      rcases r3 with rfl | ⟨c, rfl, hc⟩
      · exact ⟨_, rfl, rfl⟩
      · have c3 : (0 : Int) ≤ (c : Int) ∧ (c : Int) < 4 := by omega
        simp only [if_pos c3, w1 n b1]
        exact ih (n + 1) _ hn f1
    · have c1 : ¬ (n : Int) < (l.length : Int) := by omega
      rw [if_neg c1, if_neg c1]
      exact ⟨_, rfl, rfl⟩
theorem order_f (K : Nat) (hK : 1000 ≤ K) (l : List Int) (hl : l.length ≤ 4) : ∃ r, spec_l10Order.f K l = some r ∧ impl_orderOf.f K l = some r := by
  obtain ⟨r, r1, r2⟩ := order_l2 K hK l hl K 0 ⟨[(-1), (-1), (-1), (-1)], rfl⟩ (by omega) (by omega)
  unfold spec_l10Order.f impl_orderOf.f
  rw [show spec_l10Order.l2 K l K 0 (⟨[(-1), (-1), (-1), (-1)], rfl⟩ : Ar 4) = some r from r1, show impl_orderOf.l2 K l K 0 (⟨[(-1), (-1), (-1), (-1)], rfl⟩ : Ar 4) = some r from r2]
  simp only [some_bind]
  rcases r with r | r <;> exact ⟨_, rfl, rfl⟩
theorem roll_roll : spec_l2Roll.f = impl_rollAt.f := by kernel_rfl
theorem roll_l0 (K : Nat) (l : List (Ar 6)) (h8 : l.length ≤ 8) : ∀ (k n : Nat) (v : Int) (out : List Int), n ≤ l.length → n < k → 0 ≤ v → v ≤ 1000000 → out.length = l.length → ∃ o, impl_rollAt.l0 K l k v ((n : Int) - 1) out = some o ∧ o.length = l.length := by
  intro k
  induction k with
  | zero => intro n v out h1 h2; omega
  | succ k ih =>
    intro n v out h1 h2 h3 h4 h5
    rw [impl_rollAt.l0]
    by_cases hn : n = 0
    · subst hn
      rw [if_neg (by decide)]
      exact ⟨out, rfl, h5⟩
    · obtain ⟨p, rfl⟩ : ∃ p, n = p + 1 := ⟨n - 1, by omega⟩
      have e : ((p + 1 : Nat) : Int) - 1 = (p : Int) := by omega
      have c0 : (0 : Int) ≤ (p : Int) := by omega
      have c1 : (0 : Int) ≤ (p : Int) ∧ (p : Int) < (l.length : Int) := by omega
      have c2 : (0 : Int) ≤ v.tmod 6 ∧ v.tmod 6 < 6 := by
        have := Int.tmod_nonneg (a := v) 6 h3
        have := Int.tmod_lt_of_pos v (b := 6) (by omega)
        omega
      have c3 : (0 : Int) ≤ (p : Int) ∧ (p : Int) < (out.length : Int) := by omega
      have d0 : 0 ≤ v.tdiv 6 := Int.tdiv_nonneg h3 (by omega)
      have d1 : v.tdiv 6 ≤ v := Int.tdiv_le_self _ h3
      have f1 : p ≤ l.length := by omega
      have f2 : p < k := by omega
      have f3 : v.tdiv 6 ≤ 1000000 := by omega
      have e1 : wrap64 (v.tdiv 6) = v.tdiv 6 := w64 (by omega) (by omega)
      have e2 : wrap64 ((p : Int) - 1) = (p : Int) - 1 := by clear e1; exact w64 (by omega) (by omega)
      rw [e, if_pos c0, if_pos c1, if_pos c2, if_pos c3, e1, e2]
      exact ih p _ _ f1 f2 d0 f3 (by rw [List.length_set]; exact h5)
theorem outcome_range (l : List (Ar 6)) (hl : l.length ≤ 4) : (6 : Int) ^ l.length ≤ 1296 := by
  rcases (show l.length = 0 ∨ l.length = 1 ∨ l.length = 2 ∨ l.length = 3 ∨ l.length = 4 by omega) with e | e | e | e | e <;> rw [e] <;> decide
def ordL (n : Nat) : List (Ar 4) := match impl_orders.f 300 (n : Int) with
  | some l => l
  | none => []
def goodO (n : Nat) (l : List Int) : Bool := match impl_orderOf.f 200000000 l with
  | some r => !r.2 || decide (r.1 ∈ ordL n)
  | none => false
set_option maxRecDepth 100000 in
theorem ord_impl : ∀ i : Fin 4, impl_orders.f 200000000 ((i.val + 1 : Nat) : Int) = some (ordL (i.val + 1)) := by decide +kernel
set_option maxRecDepth 100000 in
theorem ord_spec : ∀ i : Fin 4, spec_l10Orders.f 200000000 ((i.val + 1 : Nat) : Int) = some (ordL (i.val + 1)) := by decide +kernel
set_option maxRecDepth 100000 in
theorem ord_few : ∀ i : Fin 4, (ordL (i.val + 1)).length ≤ 24 ∧ (ordL (i.val + 1)).Nodup := by decide +kernel
set_option maxRecDepth 100000 in
theorem ord_c1 : ∀ a : Fin 1, goodO 1 [(a.val : Int)] = true := by decide +kernel
set_option maxRecDepth 100000 in
theorem ord_c2 : ∀ a b : Fin 2, goodO 2 [(a.val : Int), (b.val : Int)] = true := by decide +kernel
set_option maxRecDepth 100000 in
theorem ord_c3 : ∀ a b c : Fin 3, goodO 3 [(a.val : Int), (b.val : Int), (c.val : Int)] = true := by decide +kernel
set_option maxRecDepth 100000 in
theorem ord_c4 : ∀ a b c d : Fin 4, goodO 4 [(a.val : Int), (b.val : Int), (c.val : Int), (d.val : Int)] = true := by decide +kernel
theorem pat_l3 (K : Nat) (l m : List Int) (hlm : l.length = m.length) (hq : ∀ i k : Nat, i < l.length → k < l.length → (l.getD k 0 = l.getD i 0 ↔ m.getD k 0 = m.getD i 0)) (hlt : ∀ i k : Nat, i < l.length → k < l.length → (l.getD i 0 < l.getD k 0 ↔ m.getD i 0 < m.getD k 0)) (x : Nat) (hx : x < l.length) (hl : l.length ≤ 4) : ∀ (k n : Nat) (c : Int), n ≤ l.length → impl_orderOf.l3 K l (x : Int) k c (n : Int) = impl_orderOf.l3 K m (x : Int) k c (n : Int) := by
  intro k
  induction k with
  | zero => intro n c h1; rfl
  | succ k ih =>
    intro n c h1
    rw [impl_orderOf.l3, impl_orderOf.l3, ← hlm]
    by_cases hn : n < l.length
    · have e1 := propext (hq x n hx hn)
      have e2 : decide (l.getD x 0 < l.getD n 0) = decide (m.getD x 0 < m.getD n 0) := by rw [decide_eq_decide]; exact hlt x n hx hn
      simp only [if_pos (show (n : Int) < (l.length : Int) by omega), if_pos (show (0 : Int) ≤ (n : Int) ∧ (n : Int) < (l.length : Int) by omega), Int.toNat_natCast, w1' n (by omega), e1, e2]
      simp only [fun c => ih (n + 1) c (by omega)]
    · rw [if_neg (by omega), if_neg (by omega)]
theorem pat_l2 (K : Nat) (l m : List Int) (hlm : l.length = m.length) (hq : ∀ i k : Nat, i < l.length → k < l.length → (l.getD k 0 = l.getD i 0 ↔ m.getD k 0 = m.getD i 0)) (hlt : ∀ i k : Nat, i < l.length → k < l.length → (l.getD i 0 < l.getD k 0 ↔ m.getD i 0 < m.getD k 0)) (hl : l.length ≤ 4) : ∀ (k n : Nat) (o : Ar 4), n ≤ l.length → impl_orderOf.l2 K l k (n : Int) o = impl_orderOf.l2 K m k (n : Int) o := by
  intro k
  induction k with
  | zero => intro n o h1; rfl
  | succ k ih =>
    intro n o h1
    rw [impl_orderOf.l2, impl_orderOf.l2, ← hlm]
    by_cases hn : n < l.length
    · rw [if_pos (by omega), if_pos (by omega), if_pos (by omega), if_pos (by omega)]
      have := pat_l3 K l m hlm hq hlt n hn hl K 0 0 (by omega)
      rw [show impl_orderOf.l3 K l (n : Int) K 0 0 = _ from this, w1' n (by omega)]
      simp only [fun o => ih (n + 1) o (by omega)]
      rfl
    · rw [if_neg (by omega), if_neg (by omega)]
def rankL (l : List Int) : List Int := l.map fun x => ((l.countP fun y => decide (y < x) : Nat) : Int)
theorem countP_lt_len (l : List Int) (x : Int) (hx : x ∈ l) : (l.countP fun y => decide (y < x)) < l.length := by
  have h1 : (l.countP fun y => decide (y < x)) ≤ l.length := List.countP_le_length
  rcases Nat.lt_or_ge (l.countP fun y => decide (y < x)) l.length with h | h
  · exact h
  · have : (l.countP fun y => decide (y < x)) = l.length := by omega
    rw [List.countP_eq_length] at this
    have := this x hx
    simp at this
theorem countP_mono (l : List Int) (x y : Int) (hxy : x ≤ y) : (l.countP fun z => decide (z < x)) ≤ (l.countP fun z => decide (z < y)) := by
  apply List.countP_mono_left
  intro z _ hz
  simp only [decide_eq_true_eq] at hz ⊢
  omega
theorem countP_strict : ∀ (l : List Int) (x y : Int), x < y → x ∈ l → (l.countP fun z => decide (z < x)) < (l.countP fun z => decide (z < y))
  | [], x, y, _, h => by simp at h
  | a :: l, x, y, hxy, h => by
    rw [List.countP_cons, List.countP_cons]
    have hm := countP_mono l x y (by omega)
    rcases List.mem_cons.1 h with rfl | h
    · have h1 : ¬ x < x := by omega
      simp only [h1, decide_false, hxy, decide_true, Bool.false_eq_true, if_false, if_true]
      omega
    · have := countP_strict l x y hxy h
      by_cases h1 : a < x
      · have h2 : a < y := by omega
        simp only [h1, h2, decide_true, if_true]; omega
      · simp only [h1, decide_false, Bool.false_eq_true, if_false]; omega
theorem rank_get (l : List Int) (i : Nat) (hi : i < l.length) : (rankL l).getD i 0 = ((l.countP fun y => decide (y < l.getD i 0) : Nat) : Int) := by
  unfold rankL
  rw [getD_nat _ _ _ (by simpa using hi), getD_nat _ _ _ hi]
  simp
theorem order_rank (K : Nat) (l : List Int) (hl : l.length ≤ 4) : impl_orderOf.f K l = impl_orderOf.f K (rankL l) := by
  have hlm : l.length = (rankL l).length := by simp [rankL]
  have hmem : ∀ i, i < l.length → l.getD i 0 ∈ l := fun i hi => by rw [getD_nat _ _ _ hi]; exact List.getElem_mem _
  have hlt : ∀ i k : Nat, i < l.length → k < l.length → (l.getD i 0 < l.getD k 0 ↔ (rankL l).getD i 0 < (rankL l).getD k 0) := by
    intro i k hi hk
    rw [rank_get l i hi, rank_get l k hk]
    constructor
    · intro h
      have := countP_strict l _ _ h (hmem i hi)
      omega
    · intro h
      rcases Int.lt_or_le (l.getD i 0) (l.getD k 0) with h1 | h1
      · exact h1
      · have := countP_mono l _ _ h1; omega
  have hq : ∀ i k : Nat, i < l.length → k < l.length → (l.getD k 0 = l.getD i 0 ↔ (rankL l).getD k 0 = (rankL l).getD i 0) := by
    intro i k hi hk
    have a1 := hlt i k hi hk
    have a2 := hlt k i hk hi
    omega
  unfold impl_orderOf.f
  have := pat_l2 K l (rankL l) hlm hq hlt hl K 0 ⟨[(-1), (-1), (-1), (-1)], rfl⟩ (by omega)
  rw [show impl_orderOf.l2 K l K 0 (⟨[(-1), (-1), (-1), (-1)], rfl⟩ : Ar 4) = _ from this]
  rfl
theorem order_good (l : List Int) (n : Nat) (hn : l.length = n + 1) (h4 : n < 4) : goodO (n + 1) l = true := by
  have e : goodO (n + 1) l = goodO (n + 1) (rankL l) := by
    unfold goodO
    rw [order_rank 200000000 l (by omega)]
  rw [e]
  have hb : ∀ x ∈ rankL l, ∃ q : Fin (n + 1), x = (q.val : Int) := by
    intro x hx
    simp only [rankL, List.mem_map] at hx
    obtain ⟨y, hy, rfl⟩ := hx
    exact ⟨⟨_, by rw [← hn]; exact countP_lt_len l y hy⟩, rfl⟩
  have hr : (rankL l).length = n + 1 := by simp [rankL, hn]
  generalize rankL l = m at *
  rcases (show n = 0 ∨ n = 1 ∨ n = 2 ∨ n = 3 by omega) with rfl | rfl | rfl | rfl
  · match m, hr, hb with
    | [x], _, hb =>
      obtain ⟨a, rfl⟩ := hb x (by simp)
      exact ord_c1 a
  · match m, hr, hb with
    | [x, y], _, hb =>
      obtain ⟨a, rfl⟩ := hb x (by simp)
      obtain ⟨b, rfl⟩ := hb y (by simp)
      exact ord_c2 a b
  · match m, hr, hb with
    | [x, y, z], _, hb =>
      obtain ⟨a, rfl⟩ := hb x (by simp)
      obtain ⟨b, rfl⟩ := hb y (by simp)
      obtain ⟨c, rfl⟩ := hb z (by simp)
      exact ord_c3 a b c
  · match m, hr, hb with
    | [x, y, z, u], _, hb =>
      obtain ⟨a, rfl⟩ := hb x (by simp)
      obtain ⟨b, rfl⟩ := hb y (by simp)
      obtain ⟨c, rfl⟩ := hb z (by simp)
      obtain ⟨d, rfl⟩ := hb u (by simp)
      exact ord_c4 a b c d
theorem order_in (l : List Int) (n : Nat) (hn : l.length = n + 1) (h4 : n < 4) : ∃ r : Ar 4 × Bool, spec_l10Order.f 200000000 l = some r ∧ impl_orderOf.f 200000000 l = some r ∧ (r.2 = true → r.1 ∈ ordL (n + 1)) := by
  obtain ⟨r, r1, r2⟩ := order_f 200000000 (by omega) l (by omega)
  refine ⟨r, r1, r2, fun h => ?_⟩
  have := order_good l n hn h4
  unfold goodO at this
  rw [r2] at this
  simpa [h] using this
/-! the place of an order -/
theorem idx_l0 (K : Nat) (L : List (Ar 4)) (o : Ar 4) (i : Nat) (hi : L[i]? = some o) (hd : L.Nodup) (hl : L.length ≤ 24) : ∀ (k n : Nat), n ≤ i → i - n < k → slices_Index_impl_Order_impl_Order.l0 K L o k (n : Int) = some (Sum.inr (i : Int)) := by
  obtain ⟨hil, hie⟩ := List.getElem?_eq_some_iff.1 hi
  intro k
  induction k with
  | zero => intro n h1 h2; omega
  | succ k ih =>
    intro n h1 h2
    rw [slices_Index_impl_Order_impl_Order.l0, if_pos (by omega), if_pos (by omega), Int.toNat_natCast, w1' n (by omega), getD_nat _ _ _ (by omega)]
    by_cases hni : n = i
    · subst hni
      rw [if_pos hie.symm]
    · have hne : ¬ o = L[n] := by
        intro e
        rw [← hie] at e
        exact hni ((List.getElem_inj (h₀ := hil) (h₁ := (by omega : n < L.length)) hd).1 e).symm
      rw [if_neg hne]
      exact ih (n + 1) (by omega) (by omega)
theorem idx_eq (K : Nat) (L : List (Ar 4)) (o : Ar 4) (i : Nat) (hi : L[i]? = some o) (hd : L.Nodup) (hl : L.length ≤ 24) (hK : 100 ≤ K) : slices_Index_impl_Order_impl_Order.f K L o = some (i : Int) := by
  obtain ⟨hil, hie⟩ := List.getElem?_eq_some_iff.1 hi
  unfold slices_Index_impl_Order_impl_Order.f
  rw [show slices_Index_impl_Order_impl_Order.l0 K L o K 0 = some (Sum.inr (i : Int)) from idx_l0 K L o i hi hd hl K 0 (Nat.zero_le _) (by omega)]
  rfl
theorem inc_l3 (K : Nat) (L : List (Ar 4)) (o : Ar 4) (i : Nat) (hi : L[i]? = some o) (hd : L.Nodup) (hl : L.length ≤ 24) : ∀ (k n : Nat) (s : List Int), n ≤ L.length → L.length - n < k → s.length = L.length → spec_l10Ways.l3 K L (o, true) k (n : Int) s = some (if n ≤ i then s.set i (wrap64 (s.getD i 0 + 1)) else s) := by
  obtain ⟨hil, hie⟩ := List.getElem?_eq_some_iff.1 hi
  intro k
  induction k with
  | zero => intro n s h1 h2; omega
  | succ k ih =>
    intro n s h1 h2 h3
    rw [spec_l10Ways.l3]
    by_cases hn : n < L.length
    · rw [if_pos (by omega), if_pos rfl, if_pos (by omega), Int.toNat_natCast, getD_nat _ _ _ hn, w1' n (by omega)]
      by_cases hni : n = i
      · subst hni
        rw [if_pos hie, if_pos (by omega), ih (n + 1) _ (by omega) (by omega) (by simpa using h3), if_neg (by omega), if_pos (by omega)]
      · have hne : ¬ L[n] = (o, true).1 := by
          intro e
          rw [← hie] at e
          exact hni ((List.getElem_inj (h₀ := hn) (h₁ := hil) hd).1 e)
        rw [if_neg hne, ih (n + 1) _ (by omega) (by omega) h3]
        by_cases hlt : n ≤ i
        · rw [if_pos hlt, if_pos (by omega)]
        · rw [if_neg hlt, if_neg (by omega)]
    · rw [if_neg (by omega), if_neg (by omega)]
theorem inc_no (K : Nat) (L : List (Ar 4)) (o : Ar 4) (hl : L.length ≤ 24) : ∀ (k n : Nat) (s : List Int), n ≤ L.length → L.length - n < k → spec_l10Ways.l3 K L (o, false) k (n : Int) s = some s := by
  intro k
  induction k with
  | zero => intro n s h1 h2; omega
  | succ k ih =>
    intro n s h1 h2
    rw [spec_l10Ways.l3]
    by_cases hn : n < L.length
    · rw [if_pos (by omega), if_neg (by simp), w1' n (by omega)]
      exact ih (n + 1) s (by omega) (by omega)
    · rw [if_neg (by omega)]
theorem roll_some (K : Nat) (hK : 1000 ≤ K) (l : List (Ar 6)) (h4 : l.length ≤ 4) (v : Int) (h0 : 0 ≤ v) (h1 : v ≤ 1000000) : ∃ o, impl_rollAt.f K l v = some o ∧ o.length = l.length := by
  obtain ⟨o, o1, o2⟩ := roll_l0 K l (by omega) K l.length v (List.replicate l.length 0) (Nat.le_refl _) (by omega) h0 (by omega) (by simp)
  have c : (0 : Int) ≤ (l.length : Int) ∧ (l.length : Int) ≤ 1073741824 := by omega
  have e2 : wrap64 ((l.length : Int) - 1) = (l.length : Int) - 1 := w64 (by omega) (by omega)
  refine ⟨o, ?_, o2⟩
  unfold impl_rollAt.f
  rw [if_pos c, e2, Int.toNat_natCast, o1]
  rfl
theorem ways_same (l : List (Ar 6)) (n : Nat) (hn : l.length = n + 1) (h4 : n < 4) : ∃ o, spec_l10Ways.f 200000000 l = some o ∧ impl_orderWays.f 200000000 l = some o ∧ o.length ≤ 24 := by
  have f1 := ord_impl ⟨n, h4⟩
  have f2 := ord_spec ⟨n, h4⟩
  obtain ⟨f3, f4⟩ := ord_few ⟨n, h4⟩
  have key : ∀ (k m : Nat) (s : List Int), (m : Int) ≤ 6 ^ l.length → (6 : Int) ^ l.length - m < k → s.length = (ordL (n + 1)).length → ∃ o, spec_l10Ways.l2 200000000 l (ordL (n + 1)) k (m : Int) s = some o ∧ impl_orderWays.l0 200000000 l (ordL (n + 1)) (6 ^ l.length) k (m : Int) s = some o ∧ o.length = (ordL (n + 1)).length := by
    have hr := outcome_range l (by omega)
    intro k
    induction k with
    | zero => intro m s h1 h2; omega
    | succ k ih =>
      intro m s h1 h2 h3
      rw [spec_l10Ways.l2, impl_orderWays.l0, all_power, power_eq 200000000 (by omega) l.length (by omega), some_bind]
      by_cases hm : (m : Int) < 6 ^ l.length
      · obtain ⟨o, o1, o2⟩ := roll_some 200000000 (by omega) l (by omega) (m : Int) (by omega) (by omega)
        obtain ⟨r, r1, r2, r3⟩ := order_in o n (by omega) h4
        have rr : spec_l2Roll.f 200000000 l (m : Int) = some o := by rw [roll_roll]; exact o1
        have f5 : (m : Int) + 1 ≤ 6 ^ l.length := by omega
        have f6 : (6 : Int) ^ l.length - ((m + 1 : Nat) : Int) < k := by omega
        rw [if_pos hm, if_pos hm, rr, o1]
        simp only [some_bind, r1, r2]
        rw [w1' m (by omega)]
        obtain ⟨ro, rb⟩ := r
        cases rb with
        | false =>
          have hin := inc_no 200000000 (ordL (n + 1)) ro f3 200000000 0 s (by omega) (by have : (ordL (n + 1)).length ≤ 24 := f3; omega)
          rw [show spec_l10Ways.l3 200000000 (ordL (n + 1)) (ro, false) 200000000 0 s = _ from hin, if_neg (by simp), some_bind]
          exact ih (m + 1) s (by omega) f6 h3
        | true =>
          obtain ⟨i, hi, hie⟩ := List.getElem_of_mem (r3 rfl)
          have hi? : (ordL (n + 1))[i]? = some ro := by rw [List.getElem?_eq_getElem hi, hie]
          have hin := inc_l3 200000000 _ ro i hi? f4 f3 200000000 0 s (by omega) (by have : (ordL (n + 1)).length ≤ 24 := f3; omega) h3
          rw [show spec_l10Ways.l3 200000000 (ordL (n + 1)) (ro, true) 200000000 0 s = _ from hin, if_pos rfl, some_bind, idx_eq 200000000 _ ro i hi? f4 f3 (by omega), some_bind, if_pos (by omega), if_pos (by omega), Int.toNat_natCast]
          exact ih (m + 1) _ (by omega) f6 (by simpa using h3)
      · rw [if_neg hm, if_neg hm]
        exact ⟨s, rfl, rfl, h3⟩
  have hr := outcome_range l (by omega)
  obtain ⟨o, o1, o2, o3⟩ := key 200000000 0 (List.replicate (ordL (n + 1)).length 0) (by have := pow_pos l.length; omega) (by omega) (by simp)
  have hc : (0 : Int) ≤ ((ordL (n + 1)).length : Int) ∧ ((ordL (n + 1)).length : Int) ≤ 1073741824 := by
    have : (ordL (n + 1)).length ≤ 24 := f3
    omega
  refine ⟨o, ?_, ?_, by have : (ordL (n + 1)).length ≤ 24 := f3; omega⟩
  · unfold spec_l10Ways.f
    rw [hn, show spec_l10Orders.f 200000000 ((n + 1 : Nat) : Int) = some (ordL (n + 1)) from f2, some_bind, if_pos hc, Int.toNat_natCast, show spec_l10Ways.l2 200000000 l (ordL (n + 1)) 200000000 0 (List.replicate (ordL (n + 1)).length 0) = some o from o1]
    rfl
  · unfold impl_orderWays.f
    rw [power_eq 200000000 (by omega) l.length (by omega)]
    rw [hn] at o2 ⊢
    rw [show impl_orders.f 200000000 ((n + 1 : Nat) : Int) = some (ordL (n + 1)) from f1, some_bind, if_pos hc, some_bind, Int.toNat_natCast, show impl_orderWays.l0 200000000 l (ordL (n + 1)) (6 ^ (n + 1)) 200000000 0 (List.replicate (ordL (n + 1)).length 0) = some o from o2]
    rfl
theorem eqS_l0 (K : Nat) (l : List Int) (h : l.length ≤ 1073741824) : ∀ (k n : Nat), n ≤ l.length → l.length - n < k → laws_eqIntS.l0 K l l k (n : Int) = some (Sum.inl ()) := by
  intro k
  induction k with
  | zero => intro n h1 h2; omega
  | succ k ih =>
    intro n h1 h2
    rw [laws_eqIntS.l0]
    by_cases hn : (n : Int) < (l.length : Int)
    · rw [if_pos hn, if_pos (by omega), if_pos (by omega), if_pos rfl, w1 n (by omega)]
      exact ih (n + 1) (by omega) (by omega)
    · rw [if_neg hn]
theorem eqS (K : Nat) (l : List Int) (h : l.length ≤ 1048576) (hK : 2000000 ≤ K) : laws_eqIntS.f K l l = some true := by
  unfold laws_eqIntS.f
  rw [if_pos rfl, show (0 : Int) = ((0 : Nat) : Int) from rfl, eqS_l0 K l (by omega) K 0 (by omega) (by omega)]
  rfl
def marksS (a : Int) : Nat → List Int
  | 0 => []
  | n + 1 => a :: marksS (a + 1) n
theorem marksS_length : ∀ (n : Nat) (a : Int), (marksS a n).length = n
  | 0, _ => rfl
  | n + 1, a => by simp [marksS, marksS_length n]
theorem marksS_get : ∀ (n : Nat) (a : Int) (i : Nat), i < n → (marksS a n)[i]? = some (a + i)
  | 0, _, i, h => by omega
  | n + 1, a, 0, _ => by simp [marksS]
  | n + 1, a, i + 1, h => by
    simp only [marksS, List.getElem?_cons_succ]
    rw [marksS_get n (a + 1) i (by omega)]
    congr 1
    omega
theorem markS_l0 (K : Nat) (l : List Int) (N : Nat) (a : Int) (h0 : 0 ≤ a) (h : N ≤ 1073741824) (ha : a ≤ 1073741824) : ∀ (k n : Nat) (out : List Int), out.length = N → out.take n = (marksS a N).take n → n ≤ N → N - n < k → laws_markIntS.l0 K l k (a + n) (n : Int) out = some (a + N, marksS a N) := by
  intro k
  induction k with
  | zero => intro n out h1 h2 h3 h4; omega
  | succ k ih =>
    intro n out h1 h2 h3 h4
    rw [laws_markIntS.l0]
    by_cases hn : (n : Int) < (out.length : Int)
    · have hn' : n < N := by omega
      rw [if_pos hn, if_pos (by omega), w1 n (by omega)]
      rw [show wrap64 (a + (n : Int) + 1) = a + ((n + 1 : Nat) : Int) by rw [w64 (by omega) (by omega)]; omega]
      refine ih (n + 1) _ (by simp [h1]) ?_ (by omega) (by omega)
      have hnn : ((n : Int)).toNat = n := by omega
      rw [hnn, List.take_add_one, List.take_add_one, List.take_set_of_le (Nat.le_refl n), h2]
      rw [List.getElem?_set_self (by omega), marksS_get N a n hn']
    · rw [if_neg hn]
      have : n = N := by omega
      subst this
      have h5 : out = marksS a n := by
        have e1 : out.take n = out := by rw [← h1]; exact List.take_length
        have e2 : (marksS a n).take n = marksS a n := by
          conv => lhs; rw [← marksS_length n a]
          rw [marksS_length]; exact List.take_of_length_le (by rw [marksS_length]; omega)
        rw [e1, e2] at h2
        exact h2
      rw [h5]
theorem heldS_l0 (K : Nat) (N : Nat) (a : Int) (h0 : 0 ≤ a) (h : N ≤ 1073741824) (ha : a ≤ 1073741824) : ∀ (k n : Nat), n ≤ N → N - n < k → laws_heldIntS.l0 K (marksS a N) k (a + n) (n : Int) = some (Sum.inl (a + N)) := by
  intro k
  induction k with
  | zero => intro n h3 h4; omega
  | succ k ih =>
    intro n h3 h4
    rw [laws_heldIntS.l0, marksS_length]
    by_cases hn : (n : Int) < (N : Int)
    · have hn' : n < N := by omega
      have hnn : ((n : Int)).toNat = n := by omega
      rw [if_pos hn, if_pos (by omega), w1 n (by omega), hnn, List.getD_eq_getElem?_getD, marksS_get N a n hn', Option.getD_some, if_pos rfl]
      rw [show wrap64 (a + (n : Int) + 1) = a + ((n + 1 : Nat) : Int) by rw [w64 (by omega) (by omega)]; omega]
      exact ih (n + 1) (by omega) (by omega)
    · rw [if_neg hn]
      have : n = N := by omega
      subst this
      rfl
theorem markS (K : Nat) (l : List Int) (a : Int) (h0 : 0 ≤ a) (ha : a ≤ 1073741824) (h : l.length ≤ 100000000) (hK : 200000000 ≤ K) : laws_markIntS.f K l a = some (a + l.length, marksS a l.length) := by
  unfold laws_markIntS.f
  have := markS_l0 K l l.length a h0 (by omega) ha K 0 l rfl (by simp) (by omega) (by omega)
  simp only [Int.natCast_zero, Int.add_zero] at this
  rw [this]; rfl
theorem heldS (K : Nat) (N : Nat) (a : Int) (h0 : 0 ≤ a) (ha : a ≤ 1073741824) (h : N ≤ 100000000) (hK : 200000000 ≤ K) : laws_heldIntS.f K (marksS a N) a = some (a + N) := by
  unfold laws_heldIntS.f
  have := heldS_l0 K N a h0 (by omega) ha K 0 (by omega) (by omega)
  simp only [Int.natCast_zero, Int.add_zero] at this
  rw [this]; rfl
theorem ar_get_set {n : Nat} (a : Ar n) (i j v : Int) (h0 : 0 ≤ i) (h1 : i < n) (h2 : 0 ≤ j) : (a.set i v).get j = if j = i then v else a.get j := by
  unfold Ar.get Ar.set
  simp only [List.getD_eq_getElem?_getD]
  by_cases h : j = i
  · subst h
    rw [if_pos rfl, List.getElem?_set_self (by rw [a.h]; omega)]
    rfl
  · rw [if_neg h, List.getElem?_set_ne (by omega)]
theorem let_in (K : Nat) (m q : Int) : impl_within.f K q 0 (m - 1) = some (decide (0 ≤ q ∧ q < m)) := by
  rw [in_eq]
  congr 1
  rw [decide_eq_decide]
  omega
theorem let_more (K : Nat) (l : List Int) (hl : l.length ≤ 24) (m : Nat) (hm : m ≤ 4) (hw : wrap64 (wrap64 ((l.length : Int).tdiv 6) - 1) = (m : Int) - 1) (j : Int) (hj : 0 ≤ j ∧ j < 4) : ∀ (k n : Nat) (c : Ar 4), n ≤ l.length → l.length - n < k → (∀ i : Int, 0 ≤ i → i < 4 → 0 ≤ c.get i ∧ c.get i ≤ n) → 6 < c.get j →
    spec_l10Letters.l0 K l k (n : Int) c = some (Sum.inr false) ∨ ∃ c', spec_l10Letters.l0 K l k (n : Int) c = some (Sum.inl c') ∧ 6 < c'.get j := by
  intro k
  induction k with
  | zero => intro n c h1 h2; omega
  | succ k ih =>
    intro n c h1 h2 h3 h4
    rw [spec_l10Letters.l0]
    by_cases hn : n < l.length
    · have c1 : (n : Int) < (l.length : Int) := by omega
      have c2 : (0 : Int) ≤ (n : Int) ∧ (n : Int) < (l.length : Int) := by omega
      have f1 : l.length - (n + 1) < k := by omega
      have b1 : n ≤ 4000000000000000000 := by omega
      have b2 : n ≤ 24 := by omega
      rw [if_pos c1, if_pos c2, hw, in_within, let_in, some_bind]
      generalize l.getD ((n : Int)).toNat 0 = q
      by_cases hq : 0 ≤ q ∧ q < (m : Int)
      · have hq4 : 0 ≤ q ∧ q < 4 := by omega
        have hc := h3 q hq4.1 hq4.2
        have e : wrap64 (c.get q + 1) = c.get q + 1 := by clear hw; exact w64 (by omega) (by omega)
        rw [if_pos (decide_eq_true hq), if_pos hq4, w1 n b1, e]
        refine ih (n + 1) _ hn f1 ?_ ?_
        · intro i hi0 hi1
          rw [ar_get_set _ _ _ _ hq4.1 hq4.2 hi0]
          have := h3 i hi0 hi1
          by_cases hiq : i = q
          · rw [if_pos hiq]; clear hw e; omega
          · rw [if_neg hiq]; clear hw e; omega
        · rw [ar_get_set _ _ _ _ hq4.1 hq4.2 hj.1]
          by_cases hiq : j = q
          · rw [if_pos hiq]; subst hiq; clear hw e; omega
          · rw [if_neg hiq]; exact h4
      · rw [decide_eq_false hq]
        exact .inl rfl
    · have c1 : ¬ (n : Int) < (l.length : Int) := by omega
      rw [if_neg c1]
      exact .inr ⟨c, rfl, h4⟩
def cs4 (c : Ar 4) : Int := c.get 0 + c.get 1 + c.get 2 + c.get 3
theorem let_l0 (K : Nat) (l : List Int) (hl : l.length ≤ 24) (m : Nat) (hm : 1 ≤ m ∧ m ≤ 4) (hw : wrap64 (wrap64 ((l.length : Int).tdiv 6) - 1) = (m : Int) - 1) : ∀ (k n : Nat) (c : Ar 4) (cl : List Int) (out : List (Ar 6)), n ≤ l.length → l.length - n < k → cl.length = m → out.length = m → (∀ i : Nat, i < m → c.get (i : Int) = cl.getD i 0) → (∀ i : Int, 0 ≤ i → i < 4 → (0 ≤ c.get i ∧ c.get i ≤ 6 ∧ c.get i ≤ n) ∧ ((m : Int) ≤ i → c.get i = 0)) → cs4 c = n →
    (∃ o c', impl_fromLetters.l0 K l k (n : Int) out cl = some (Sum.inl o) ∧ spec_l10Letters.l0 K l k (n : Int) c = some (Sum.inl c') ∧ spec_l10Pool.l0 K l k (n : Int) out c = some o ∧ o.length = m ∧ (∀ i : Int, 0 ≤ i → i < 4 → (0 ≤ c'.get i ∧ c'.get i ≤ 6) ∧ ((m : Int) ≤ i → c'.get i = 0)) ∧ cs4 c' = l.length) ∨
    (impl_fromLetters.l0 K l k (n : Int) out cl = some (Sum.inr ([], false)) ∧ (spec_l10Letters.l0 K l k (n : Int) c = some (Sum.inr false) ∨ ∃ c' j, (0 ≤ j ∧ j < (m : Int)) ∧ spec_l10Letters.l0 K l k (n : Int) c = some (Sum.inl c') ∧ 6 < c'.get j)) := by
  intro k
  induction k with
  | zero => intro n c cl out h1 h2; omega
  | succ k ih =>
    intro n c cl out h1 h2 h3 h4 h5 h6 h7
    have hfull := fun j hj q => let_more K l hl m hm.2 hw j hj q
    by_cases hn : n < l.length
    · have c1 : (n : Int) < (l.length : Int) := by omega
      have c2 : (0 : Int) ≤ (n : Int) ∧ (n : Int) < (l.length : Int) := by omega
      have f1 : l.length - (n + 1) < k := by omega
      have b1 : n ≤ 4000000000000000000 := by omega
      have b2 : n ≤ 24 := by omega
      rw [impl_fromLetters.l0, spec_l10Letters.l0, spec_l10Pool.l0]
      rw [if_pos c1, if_pos c2, if_pos c1, if_pos c2, if_pos c1, if_pos c2, hw, in_within, let_in, some_bind, some_bind]
      generalize l.getD ((n : Int)).toNat 0 = q
      by_cases hq : 0 ≤ q ∧ q < (m : Int)
      · obtain ⟨p, rfl⟩ : ∃ p : Nat, q = p := ⟨q.toNat, by clear hw; omega⟩
        have hp : p < m := by clear hw; omega
        have hq4 : (0 : Int) ≤ (p : Int) ∧ (p : Int) < 4 := by clear hw; omega
        have hcl : (0 : Int) ≤ (p : Int) ∧ (p : Int) < (cl.length : Int) := by clear hw; omega
        have hol : (0 : Int) ≤ (p : Int) ∧ (p : Int) < (out.length : Int) := by clear hw; omega
        have hc := (h6 p hq4.1 hq4.2).1
        have hcp := h5 p hp
        have e : wrap64 (c.get (p : Int) + 1) = c.get (p : Int) + 1 := by clear hw; exact w64 (by omega) (by omega)
        simp only [if_pos (decide_eq_true hq), if_pos hq4, if_pos hcl]
        rw [show ((p : Int)).toNat = p from rfl, ← hcp, w1 n b1, e]
        have hset : ∀ i : Int, 0 ≤ i → i < 4 → (c.set (p : Int) (c.get (p : Int) + 1)).get i = if i = (p : Int) then c.get (p : Int) + 1 else c.get i := fun i hi0 _ => ar_get_set _ _ _ _ hq4.1 hq4.2 hi0
        by_cases h6c : c.get (p : Int) = 6
        · rw [if_pos h6c]
          right
          refine ⟨rfl, ?_⟩
          rcases hfull (p : Int) hq4 k (n + 1) (c.set (p : Int) (c.get (p : Int) + 1)) hn f1 (by
            intro i hi0 hi1
            rw [hset i hi0 hi1]
            have := (h6 i hi0 hi1).1
            by_cases hiq : i = (p : Int)
            · rw [if_pos hiq]; clear hw e; omega
            · rw [if_neg hiq]; clear hw e; omega) (by rw [hset _ hq4.1 hq4.2, if_pos rfl]; clear hw e; omega) with h | ⟨c', h8, h9⟩
          · exact .inl h
          · exact .inr ⟨c', p, hq, h8, h9⟩
        · have hlt6 : (0 : Int) ≤ c.get (p : Int) ∧ c.get (p : Int) < 6 := by clear hw e; omega
          simp only [if_neg h6c, if_pos hol, if_pos hlt6]
          refine ih (n + 1) _ _ _ hn f1 (by rw [List.length_set]; exact h3) (by rw [List.length_set]; exact h4) ?_ ?_ ?_
          · intro i hi
            rw [hset i (by omega) (by clear hw e; omega)]
            rw [List.getD_eq_getElem?_getD]
            by_cases hip : i = p
            · subst hip
              rw [if_pos rfl, List.getElem?_set_self (by omega)]; rfl
            · rw [if_neg (by omega), List.getElem?_set_ne (fun h => hip h.symm), ← List.getD_eq_getElem?_getD]
              exact h5 i hi
          · intro i hi0 hi1
            rw [hset i hi0 hi1]
            have := h6 i hi0 hi1
            by_cases hiq : i = (p : Int)
            · rw [if_pos hiq]; clear hw e; exact ⟨⟨by omega, by omega, by omega⟩, fun h => by omega⟩
            · rw [if_neg hiq]; exact ⟨⟨this.1.1, this.1.2.1, by clear hw e; omega⟩, this.2⟩
          · unfold cs4 at h7 ⊢
            rw [hset 0 (by decide) (by decide), hset 1 (by decide) (by decide), hset 2 (by decide) (by decide), hset 3 (by decide) (by decide)]
            clear hset e hw ih hfull h6 h5 hc hcp
            rcases (show p = 0 ∨ p = 1 ∨ p = 2 ∨ p = 3 by omega) with rfl | rfl | rfl | rfl <;> simp <;> omega
      · rw [decide_eq_false hq]
        exact .inr ⟨rfl, .inl rfl⟩
    · have c1 : ¬ (n : Int) < (l.length : Int) := by omega
      have hnl : n = l.length := by omega
      rw [impl_fromLetters.l0, spec_l10Letters.l0, spec_l10Pool.l0, if_neg c1, if_neg c1, if_neg c1]
      exact .inl ⟨out, c, rfl, rfl, rfl, h4, fun i hi0 hi1 => ⟨⟨(h6 i hi0 hi1).1.1, (h6 i hi0 hi1).1.2.1⟩, (h6 i hi0 hi1).2⟩, by rw [h7, hnl]⟩
theorem let_l1 (K : Nat) (l : List Int) (m : Nat) (hm : m ≤ 4) (hw : wrap64 ((l.length : Int).tdiv 6) = (m : Int)) (c : Ar 4) : ∀ (k n : Nat), n ≤ m → m - n < k →
    (spec_l10Letters.l1 K l c k (n : Int) = some (Sum.inl ()) ∧ ∀ j : Nat, n ≤ j → j < m → c.get (j : Int) = 6) ∨ (spec_l10Letters.l1 K l c k (n : Int) = some (Sum.inr false) ∧ ∃ j : Nat, j < m ∧ c.get (j : Int) ≠ 6) := by
  intro k
  induction k with
  | zero => intro n h1 h2; omega
  | succ k ih =>
    intro n h1 h2
    rw [spec_l10Letters.l1, hw]
    by_cases hn : n < m
    · have c1 : (n : Int) < (m : Int) := by clear hw; omega
      have c2 : (0 : Int) ≤ (n : Int) ∧ (n : Int) < 4 := by clear hw; omega
      have f1 : m - (n + 1) < k := by clear hw; omega
      have b1 : n ≤ 4000000000000000000 := by clear hw; omega
      rw [if_pos c1, if_pos c2]
      by_cases h6 : c.get (n : Int) = 6
      · rw [if_pos h6, w1 n b1]
        rcases ih (n + 1) hn f1 with ⟨h3, h4⟩ | ⟨h3, h4⟩
        · refine .inl ⟨h3, fun j hj1 hj2 => ?_⟩
          by_cases hjn : j = n
          · rw [hjn]; exact h6
          · exact h4 j (by clear hw; omega) hj2
        · exact .inr ⟨h3, h4⟩
      · rw [if_neg h6]
        exact .inr ⟨rfl, n, hn, h6⟩
    · have c1 : ¬ (n : Int) < (m : Int) := by clear hw; omega
      rw [if_neg c1]
      exact .inl ⟨rfl, fun j hj1 hj2 => by clear hw; omega⟩
theorem FromLetters_same (K : Nat) (hK : 2000000 ≤ K) (l : List Int) (hlen : l.length ≤ 1048576) : ∃ o b, spec_FromLetters.f K l = some (o, b) ∧ impl_FromLetters.f K l = some (o, b) ∧ o.length ≤ 1000 := by
  unfold spec_FromLetters.f impl_FromLetters.f spec_l10Letters.f impl_fromLetters.f spec_l10Pool.f
  by_cases h6 : (l.length : Int).tmod 6 = 0
  · obtain ⟨m, hm⟩ : ∃ m : Nat, l.length = 6 * m := by
      rw [Int.tmod_eq_emod_of_nonneg (by omega)] at h6
      exact ⟨l.length / 6, by omega⟩
    rw [if_pos h6, if_pos h6, in_within, in_eq, some_bind]
    by_cases hr : 1 ≤ m ∧ m ≤ 4
    · have ht : wrap64 ((l.length : Int).tdiv 6) = (m : Int) := by
        have e : (l.length : Int).tdiv 6 = (m : Int) := by
          rw [Int.tdiv_eq_ediv_of_nonneg (by omega)]; omega
        rw [e]; exact w64 (by omega) (by omega)
      have hw : wrap64 (wrap64 ((l.length : Int).tdiv 6) - 1) = (m : Int) - 1 := by rw [ht]; clear ht; exact w64 (by omega) (by omega)
      have d1 : decide (6 ≤ (l.length : Int) ∧ (l.length : Int) ≤ 24) = true := decide_eq_true (by clear ht hw; omega)
      have d2 : decide (1 ≤ (m : Int) ∧ (m : Int) ≤ 4) = true := decide_eq_true (by clear ht hw; omega)
      have c0 : (0 : Int) ≤ (m : Int) ∧ (m : Int) ≤ 1073741824 := by clear ht hw; omega
      have f1 : l.length ≤ 24 := by clear ht hw; omega
      have f2 : l.length - 0 < K := by clear ht hw; omega
      have f3 : m - 0 < K := by clear ht hw; omega
      have hL := let_l0 K l f1 m hr hw K 0 ⟨[0, 0, 0, 0], rfl⟩ (List.replicate m 0) (List.replicate m (Ar.zero 6)) (Nat.zero_le _) f2 (List.length_replicate) (List.length_replicate) (by
        intro i hi
        rw [List.getD_eq_getElem?_getD, List.getElem?_replicate, if_pos hi]
        rcases (show i = 0 ∨ i = 1 ∨ i = 2 ∨ i = 3 by clear ht hw; omega) with rfl | rfl | rfl | rfl <;> rfl) (by
        intro i hi0 hi1
        rcases (show i = 0 ∨ i = 1 ∨ i = 2 ∨ i = 3 by clear ht hw; omega) with rfl | rfl | rfl | rfl <;> exact ⟨by decide, fun _ => rfl⟩) rfl
      rw [show ((0 : Nat) : Int) = 0 from rfl] at hL
      rw [d1, if_pos rfl, ht, in_eq, d2, some_bind]
      simp only [if_true, some_bind, if_pos c0, Int.toNat_natCast]
      rcases hL with ⟨o, c', i1, i2, i3, i4, i5, i6⟩ | ⟨i1, i2⟩
      · have hall : ∀ j : Nat, j < m → c'.get (j : Int) = 6 := by
          have q0 := i5 0 (by decide) (by decide)
          have q1 := i5 1 (by decide) (by decide)
          have q2 := i5 2 (by decide) (by decide)
          have q3 := i5 3 (by decide) (by decide)
          unfold cs4 at i6
          clear ht hw i1 i2 i3 d1 d2 i5
          intro j hj
          rcases (show j = 0 ∨ j = 1 ∨ j = 2 ∨ j = 3 by omega) with rfl | rfl | rfl | rfl
          · show c'.get 0 = 6; omega
          · show c'.get 1 = 6; omega
          · show c'.get 2 = 6; omega
          · show c'.get 3 = 6; omega
        have hl1 : spec_l10Letters.l1 K l c' K 0 = some (Sum.inl ()) := by
          rcases let_l1 K l m hr.2 ht c' K 0 (Nat.zero_le _) f3 with ⟨h3, _⟩ | ⟨_, j, hj, hne⟩
          · exact h3
          · exact absurd (hall j hj) hne
        refine ⟨o, true, ?_, ?_, by rw [i4]; clear ht hw; omega⟩
        · simp only [i2, some_bind, hl1, if_true, i3]
        · simp only [i1, some_bind]
      · refine ⟨[], false, ?_, ?_, by simp⟩
        · rcases i2 with h | ⟨c', j, hj, h8, h9⟩
          · simp only [h, some_bind, Bool.false_eq_true, if_false]
          · have hl1 : spec_l10Letters.l1 K l c' K 0 = some (Sum.inr false) := by
              rcases let_l1 K l m hr.2 ht c' K 0 (Nat.zero_le _) f3 with ⟨_, h4⟩ | ⟨h3, _⟩
              · have := h4 j.toNat (Nat.zero_le _) (by clear ht hw; omega)
                rw [show ((j.toNat : Nat) : Int) = j by clear ht hw; omega] at this
                omega
              · exact h3
            simp only [h8, some_bind, hl1, Bool.false_eq_true, if_false]
        · simp only [i1, some_bind]
    · have d1 : decide (6 ≤ (l.length : Int) ∧ (l.length : Int) ≤ 24) = false := decide_eq_false (by omega)
      have d2 : decide (1 ≤ wrap64 ((l.length : Int).tdiv 6) ∧ wrap64 ((l.length : Int).tdiv 6) ≤ 4) = false := by
        apply decide_eq_false
        have e : (l.length : Int).tdiv 6 = (m : Int) := by
          rw [Int.tdiv_eq_ediv_of_nonneg (by omega)]; omega
        rw [e, w64 (n := (m : Int)) (by omega) (by omega)]
        omega
      refine ⟨[], false, ?_, ?_, by simp⟩
      · rw [d1]; rfl
      · rw [in_eq, d2]; rfl
  · rw [if_neg h6, if_neg h6]
    exact ⟨[], false, rfl, rfl, by simp⟩
theorem let_bool (K : Nat) (hK : 2000000 ≤ K) (l : List Int) (h : l.length ≤ 1048576) : ∃ o b, impl_fromLetters.f K l = some (o, b) ∧ spec_l10Letters.f K l = some b ∧ (b = true → l.length ≤ 24) := by
  obtain ⟨o, b, h1, h2, h3⟩ := FromLetters_same K hK l h
  have e : impl_FromLetters.f K l = impl_fromLetters.f K l := by
    unfold impl_FromLetters.f
    cases impl_fromLetters.f K l <;> rfl
  rw [e] at h2
  refine ⟨o, b, h2, ?_, fun hb => ?_⟩
  · unfold spec_FromLetters.f at h1
    obtain ⟨c, hc, h1⟩ := bind_some h1
    rw [hc]
    by_cases hcc : c = true
    · rw [if_pos hcc] at h1
      obtain ⟨d, hd, h1⟩ := bind_some h1
      have := some_some h1
      rw [hcc]; injection this with _ hb; rw [hb]
    · rw [if_neg hcc] at h1
      have := some_some h1
      injection this with _ hb
      rw [← hb, bf hcc]
  · subst hb
    unfold impl_fromLetters.f at h2
    by_cases hc : (l.length : Int).tmod 6 = 0
    · rw [if_pos hc, in_eq, some_bind] at h2
      have hn : (0 : Int) ≤ l.length := by omega
      have e1 : (l.length : Int).tdiv 6 = (l.length : Int) / 6 := Int.tdiv_eq_ediv_of_nonneg hn
      have e2 : (l.length : Int).tmod 6 = (l.length : Int) % 6 := Int.tmod_eq_emod_of_nonneg hn
      rw [e1, w64 (by omega) (by omega)] at h2
      rw [e2] at hc
      by_cases hd : 1 ≤ (l.length : Int) / 6 ∧ (l.length : Int) / 6 ≤ 4
      · omega
      · rw [decide_eq_false hd] at h2
        have := some_some h2
        injection this with _ hb
        cases hb
    · rw [if_neg hc] at h2
      have := some_some h2
      injection this with _ hb
      cases hb
theorem LettersWays_same (l : List Int) (h : l.length ≤ 1048576) : ∃ o b, spec_LettersWays.f 200000000 l = some (o, b) ∧ impl_LettersWays.f 200000000 l = some (o, b) ∧ o.length ≤ 1000 := by
  obtain ⟨p, b, h1, h2, h3⟩ := FromLetters_same 200000000 (by omega) l h
  have e : impl_FromLetters.f 200000000 l = impl_fromLetters.f 200000000 l := by
    unfold impl_FromLetters.f
    cases impl_fromLetters.f 200000000 l <;> rfl
  rw [e] at h2
  obtain ⟨o', b', g1, g2, g3⟩ := let_bool 200000000 (by omega) l h
  rw [h2] at g1
  injection some_some g1 with _ hb
  subst hb
  unfold spec_LettersWays.f impl_LettersWays.f
  rw [h2, g2, some_bind, some_bind]
  cases b with
  | false => exact ⟨[], false, rfl, rfl, by simp⟩
  | true =>
    have hsp : spec_l10Pool.f 200000000 l = some p := by
      unfold spec_FromLetters.f at h1
      rw [g2, some_bind, if_pos rfl] at h1
      obtain ⟨d, hd, h1⟩ := bind_some h1
      injection some_some h1 with h1
      rw [hd, h1]
    have hlen : ∃ n, p.length = n + 1 ∧ n < 4 := by
      have hl := g3 rfl
      have hpl : spec_l10Pool.f 200000000 l = some p := hsp
      unfold spec_l10Pool.f at hpl
      have hn : (0 : Int) ≤ l.length := by omega
      have e1 : (l.length : Int).tdiv 6 = (l.length : Int) / 6 := Int.tdiv_eq_ediv_of_nonneg hn
      rw [e1, w64 (by omega) (by omega)] at hpl
      have hm : 6 ≤ l.length := by
        unfold impl_fromLetters.f at h2
        by_cases hc : (l.length : Int).tmod 6 = 0
        · rw [if_pos hc, in_eq, some_bind, e1, w64 (by omega) (by omega)] at h2
          by_cases hd : 1 ≤ (l.length : Int) / 6 ∧ (l.length : Int) / 6 ≤ 4
          · omega
          · rw [decide_eq_false hd] at h2
            injection some_some h2 with _ hb
            cases hb
        · rw [if_neg hc] at h2
          injection some_some h2 with _ hb
          cases hb
      have key : ∀ (k : Nat) (x : Int) (out : List (Ar 6)) (c : Ar 4) (r : List (Ar 6)), spec_l10Pool.l0 200000000 l k x out c = some r → r.length = out.length := by
        intro k
        induction k with
        | zero => intro x out c r hr; exact none_some hr
        | succ k ih =>
          intro x out c r hr
          rw [spec_l10Pool.l0] at hr
          by_cases hc : x < (l.length : Int)
          · rw [if_pos hc] at hr
            obtain ⟨_, hr⟩ := ite_some hr
            obtain ⟨_, hr⟩ := ite_some hr
            obtain ⟨_, hr⟩ := ite_some hr
            obtain ⟨_, hr⟩ := ite_some hr
            have := ih _ _ _ _ hr
            simpa using this
          · rw [if_neg hc] at hr
            rw [some_some hr]
      obtain ⟨_, hpl⟩ := ite_some hpl
      obtain ⟨q, hq, hpl⟩ := bind_some hpl
      have hqp := some_some hpl
      subst hqp
      have := key _ _ _ _ _ hq
      rw [List.length_replicate] at this
      exact ⟨q.length - 1, by omega, by omega⟩
    obtain ⟨n, hn, h4⟩ := hlen
    obtain ⟨o, o1, o2, o3⟩ := ways_same p n hn h4
    rw [if_pos rfl, hsp, some_bind, o1, some_bind, if_pos rfl, o2, some_bind]
    exact ⟨o, true, rfl, rfl, by omega⟩
theorem LettersWays_pure (l0 : List Int) (_m : l0.length ≤ maxLen) (_w : ∀ z ∈ l0, (Lit.int .i64 z).wf = true) : ∃ K, laws_FnExactLettersWays.f K l0 = some true := by
  refine ⟨200000000, ?_⟩
  unfold laws_FnExactLettersWays.f
  by_cases h : (1048576 : Int) < l0.length
  · rw [if_pos h]
  · rw [if_neg h]
    have h' : l0.length ≤ 1048576 := by omega
    obtain ⟨r, b, h1, h2, h3⟩ := LettersWays_same l0 h'
    have m1 := markS 200000000 l0 1 (by omega) (by omega) (by omega) (by omega)
    have m2 := markS 200000000 r 1 (by omega) (by omega) (by omega) (by omega)
    have m3 := heldS 200000000 r.length 1 (by omega) (by omega) (by omega) (by omega)
    have i1 : ¬ (1 : Int) + l0.length < 0 := by omega
    have i2 : ¬ (1 : Int) + r.length < 0 := by omega
    have t1 := toS 200000000 l0 h' (by omega)
    have q1 := eqS 200000000 l0 h' (by omega)
    have q2 := eqS 200000000 r (by omega) (by omega)
    simp only [t1, h1, h2, q1, q2, m1, m2, m3, some_bind, i1, i2, if_true, if_false, beq_self_eq_true]
end Go.Proofs.Ytfiabgkolhpbkaa.WLettersWays

/- The plain law: what the walk shows to be computed answers true. Conditions: the numbers are 64-bit. -/
import Derived.Test.YtgmalhohckcogaaWLandChance
import Derived.KernelRfl
namespace Go.Proofs.Ytgmalhohckcogaa.WLandChance
open Go.K Go.RowKit
set_option linter.unusedVariables false
set_option linter.unusedSimpArgs false

theorem w1 (n : Nat) (h : n ≤ 4000000000000000000) : wrap64 ((n : Int) + 1) = ((n + 1 : Nat) : Int) := by rw [w64 (by omega) (by omega)]; omega
theorem in_eq (K : Nat) (a lo hi : Int) : impl_within.f K a lo hi = some (decide (lo ≤ a ∧ a ≤ hi)) := by
  unfold impl_within.f
  by_cases h : lo ≤ a <;> simp [h]
theorem in_within : spec_l1In.f = impl_within.f := by kernel_rfl
def faceB (a : Int) : Bool := decide (0 ≤ a ∧ a ≤ 30)
theorem isFace_eq (K : Nat) (_hK : 2000000 ≤ K) (a : Int) : impl_isFace.f K a = some (faceB a) := by
  unfold impl_isFace.f
  rw [in_eq]; rfl
theorem allFace_l0 (K : Nat) (hK : 2000000 ≤ K) (l : List Int) (h : l.length ≤ 1073741824) : ∀ (k n : Nat), n ≤ l.length → l.length - n < k →
    (slices_IndexFunc_int_int__areAll_int_1_isFace.l0 K l k (n : Int) = some (Sum.inl ()) ∧ (l.drop n).all faceB = true) ∨ (∃ i : Int, 0 ≤ i ∧ slices_IndexFunc_int_int__areAll_int_1_isFace.l0 K l k (n : Int) = some (Sum.inr i) ∧ (l.drop n).all faceB = false) := by
  intro k
  induction k with
  | zero => intro n h1 h2; omega
  | succ k ih =>
    intro n h1 h2
    rw [slices_IndexFunc_int_int__areAll_int_1_isFace.l0]
    by_cases hn : (n : Int) < (l.length : Int)
    · have hn' : n < l.length := by omega
      have hnn : ((n : Int)).toNat = n := by omega
      have hd : l.drop n = l[n] :: l.drop (n + 1) := List.drop_eq_getElem_cons hn'
      have hg : l.getD n (0 : Int) = l[n] := by rw [List.getD_eq_getElem?_getD, List.getElem?_eq_getElem hn']; rfl
      rw [if_pos hn, if_pos (by omega), w1 n (by omega), hnn, hg, impl_areAll_int_1__isFace.f, isFace_eq K hK, hd]
      simp only [some_bind, List.all_cons]
      rcases Bool.eq_false_or_eq_true (faceB l[n]) with e | e
      · rw [e]
        simp only [Bool.not_true, Bool.false_eq_true, if_false, Bool.true_and]
        exact ih (n + 1) (by omega) (by omega)
      · rw [e]
        simp only [Bool.not_false, if_true, Bool.false_and]
        exact .inr ⟨_, by omega, rfl, trivial⟩
    · rw [if_neg hn]
      have : n = l.length := by omega
      subst this
      exact .inl ⟨rfl, by simp⟩
theorem allFace_eq (K : Nat) (hK : 2000000 ≤ K) (l : List Int) (h : l.length ≤ 1048576) : impl_areAll_int__isFace.f K l = some (l.all faceB) := by
  unfold impl_areAll_int__isFace.f slices_ContainsFunc_int_int__areAll_int_1_isFace.f slices_IndexFunc_int_int__areAll_int_1_isFace.f
  rcases allFace_l0 K hK l (by omega) K 0 (by omega) (by omega) with ⟨h1, h2⟩ | ⟨i, hi, h1, h2⟩
  · rw [show (0 : Int) = ((0 : Nat) : Int) from rfl, h1]
    simp only [some_bind, List.drop_zero] at h2 ⊢
    rw [h2]; rfl
  · rw [show (0 : Int) = ((0 : Nat) : Int) from rfl, h1]
    simp only [some_bind, List.drop_zero] at h2 ⊢
    rw [h2]
    have : decide (((0 : Nat) : Int) ≤ i) = true := decide_eq_true (by simpa using hi)
    rw [this]; rfl
def dieP (a : Ar 6) : Prop := ((0 ≤ a.get 0 ∧ a.get 0 ≤ 30) ∧ (0 ≤ a.get 1 ∧ a.get 1 ≤ 30) ∧ (0 ≤ a.get 2 ∧ a.get 2 ≤ 30) ∧ (0 ≤ a.get 3 ∧ a.get 3 ≤ 30) ∧ (0 ≤ a.get 4 ∧ a.get 4 ≤ 30) ∧ (0 ≤ a.get 5 ∧ a.get 5 ≤ 30)) ∧ (a.get 0 ≤ a.get 1 ∧ a.get 1 ≤ a.get 2 ∧ a.get 2 ≤ a.get 3 ∧ a.get 3 ≤ a.get 4 ∧ a.get 4 ≤ a.get 5)
instance (a : Ar 6) : Decidable (dieP a) := by unfold dieP; infer_instance
def dieB (a : Ar 6) : Bool := decide (dieP a)
theorem die_get (x y z u v w : Int) : (Ar.get (⟨[x, y, z, u, v, w], rfl⟩ : Ar 6) 0 = x ∧ Ar.get (⟨[x, y, z, u, v, w], rfl⟩ : Ar 6) 1 = y ∧ Ar.get (⟨[x, y, z, u, v, w], rfl⟩ : Ar 6) 2 = z) ∧ (Ar.get (⟨[x, y, z, u, v, w], rfl⟩ : Ar 6) 3 = u ∧ Ar.get (⟨[x, y, z, u, v, w], rfl⟩ : Ar 6) 4 = v ∧ Ar.get (⟨[x, y, z, u, v, w], rfl⟩ : Ar 6) 5 = w) := ⟨⟨rfl, rfl, rfl⟩, rfl, rfl, rfl⟩
set_option maxHeartbeats 4000000 in
theorem die_spec (K : Nat) (hK : 2000000 ≤ K) (a : Ar 6) : spec_l2Die.f K a = some (dieB a) := by
  obtain ⟨k, rfl⟩ := Nat.exists_eq_add_of_le (show 8 ≤ K by omega)
  obtain ⟨x, y, z, u, v, w, rfl⟩ := Ar.cases6 a
  have e : 8 + k = k + 1 + 1 + 1 + 1 + 1 + 1 + 1 + 1 := by omega
  unfold spec_l2Die.f dieB dieP
  obtain ⟨⟨g0, g1, g2⟩, g3, g4, g5⟩ := die_get x y z u v w
  rw [e]
  simp only [spec_l2Die.l0, in_within, in_eq, some_bind, show (0 : Int) < 6 by decide, show wrap64 (0 + 1) = 1 by decide +kernel, show wrap64 (1 + 1) = 2 by decide +kernel, show wrap64 (2 + 1) = 3 by decide +kernel, show wrap64 (3 + 1) = 4 by decide +kernel, show wrap64 (4 + 1) = 5 by decide +kernel, show wrap64 (5 + 1) = 6 by decide +kernel, show wrap64 (1 - 1) = 0 by decide +kernel, show wrap64 (2 - 1) = 1 by decide +kernel, show wrap64 (3 - 1) = 2 by decide +kernel, show wrap64 (4 - 1) = 3 by decide +kernel, show wrap64 (5 - 1) = 4 by decide +kernel, g0, g1, g2, g3, g4, g5, decide_eq_true_eq]
  simp
  repeat' split
  all_goals simp_all
  all_goals omega
set_option maxHeartbeats 4000000 in
theorem die_impl (K : Nat) (hK : 2000000 ≤ K) (a : Ar 6) : impl_IsDie.f K a = some (dieB a) := by
  obtain ⟨x, y, z, u, v, w, rfl⟩ := Ar.cases6 a
  unfold impl_IsDie.f dieB dieP
  rw [allFace_eq K hK _ (by simp)]
  obtain ⟨k, rfl⟩ := Nat.exists_eq_add_of_le (show 8 ≤ K by omega)
  have e : 8 + k = k + 1 + 1 + 1 + 1 + 1 + 1 + 1 + 1 := by omega
  obtain ⟨⟨g0, g1, g2⟩, g3, g4, g5⟩ := die_get x y z u v w
  unfold slices_IsSorted_int_int.f
  rw [e]
  simp [slices_IsSorted_int_int.l0, cmp_Less_int.f, cmp_isNaN_int.f, some_bind, show wrap64 (6 - 1) = 5 by decide +kernel, show wrap64 5 = 5 by decide +kernel, show wrap64 (5 - 1) = 4 by decide +kernel, show wrap64 (4 - 1) = 3 by decide +kernel, show wrap64 (3 - 1) = 2 by decide +kernel, show wrap64 (2 - 1) = 1 by decide +kernel, show wrap64 (1 - 1) = 0 by decide +kernel, show wrap64 4 = 4 by decide +kernel, show wrap64 3 = 3 by decide +kernel, show wrap64 2 = 2 by decide +kernel, show wrap64 1 = 1 by decide +kernel, show wrap64 0 = 0 by decide +kernel, g0, g1, g2, g3, g4, g5, faceB]
  repeat' split
  all_goals simp_all
  all_goals omega
theorem runner_eq (K : Nat) (hK : 2000000 ≤ K) (a : Ar 6) : spec_l7Die.f K a = some (dieB a && decide (0 < a.get 0)) ∧ impl_isRunner.f K a = some (dieB a && decide (0 < a.get 0)) := by
  unfold spec_l7Die.f impl_isRunner.f
  rw [die_spec K hK, die_impl K hK]
  simp only [some_bind]
  cases dieB a <;> simp
theorem all_power : spec_l2All.f = impl_power.f := by kernel_rfl
theorem pow_lt (n : Nat) (h : n ≤ 22) : (6 : Int) ^ n ≤ 131621703842267136 := by
  have : (6 : Nat) ^ n ≤ 6 ^ 22 := Nat.pow_le_pow_right (by omega) h
  have h2 : ((6 ^ n : Nat) : Int) ≤ ((6 ^ 22 : Nat) : Int) := by exact_mod_cast this
  simpa using h2
theorem pow_pos (n : Nat) : (1 : Int) ≤ 6 ^ n := by
  have : 1 ≤ (6 : Nat) ^ n := Nat.one_le_pow _ _ (by omega)
  have h2 : ((1 : Nat) : Int) ≤ ((6 ^ n : Nat) : Int) := by exact_mod_cast this
  simpa using h2
theorem power_l0 (K : Nat) (n : Nat) (hn : n ≤ 22) : ∀ (k i : Nat), i ≤ n → n - i < k → impl_power.l0 K (n : Int) k ((6 : Int) ^ i) (i : Int) = some ((6 : Int) ^ n) := by
  intro k
  induction k with
  | zero => intro i h1 h2; omega
  | succ k ih =>
    intro i h1 h2
    rw [impl_power.l0]
    by_cases h : (i : Int) < (n : Int)
    · have hp := pow_lt (i + 1) (by omega)
      have hq := pow_pos (i + 1)
      have e : (6 : Int) ^ i * 6 = 6 ^ (i + 1) := (Int.pow_succ 6 i).symm
      rw [if_pos h, e, w64 (n := (6 : Int) ^ (i + 1)) (by omega) (by omega), w64 (n := (i : Int) + 1) (by omega) (by omega), show (i : Int) + 1 = ((i + 1 : Nat) : Int) by omega]
      exact ih (i + 1) (by omega) (by omega)
    · rw [if_neg h, show i = n by omega]
theorem power_eq (K : Nat) (hK : 30 ≤ K) (n : Nat) (hn : n ≤ 22) : impl_power.f K (n : Int) = some ((6 : Int) ^ n) := by
  unfold impl_power.f
  rw [show impl_power.l0 K (n : Int) K 1 0 = some ((6 : Int) ^ n) from power_l0 K n hn K 0 (by omega) (by omega)]
  rfl
theorem runner_faces (a : Ar 6) (h : (dieB a = true ∧ 0 < a.get 0)) : ∀ i : Int, 0 ≤ i → i < 6 → 1 ≤ a.get i ∧ a.get i ≤ 30 := by
  obtain ⟨h1, h2⟩ := h
  have h3 := of_decide_eq_true h1
  unfold dieP at h3
  intro i h0 h6
  rcases (show i = 0 ∨ i = 1 ∨ i = 2 ∨ i = 3 ∨ i = 4 ∨ i = 5 by omega) with rfl | rfl | rfl | rfl | rfl | rfl <;> omega
theorem toA6 (K : Nat) (hK : 8 ≤ K) (a : Ar 6) : laws_toIntA6.f K a = some a := by
  obtain ⟨k, rfl⟩ := Nat.exists_eq_add_of_le hK
  obtain ⟨x, y, z, u, v, w, rfl⟩ := Ar.cases6 a
  have e : 8 + k = k + 1 + 1 + 1 + 1 + 1 + 1 + 1 + 1 := by omega
  unfold laws_toIntA6.f
  rw [e]
  simp only [laws_toIntA6.l0, show (0 : Int) < 6 by decide, show wrap64 (0 + 1) = 1 by decide +kernel, show wrap64 (1 + 1) = 2 by decide +kernel, show wrap64 (2 + 1) = 3 by decide +kernel, show wrap64 (3 + 1) = 4 by decide +kernel, show wrap64 (4 + 1) = 5 by decide +kernel, show wrap64 (5 + 1) = 6 by decide +kernel, if_true, show (0 : Int) ≤ 0 ∧ True by decide]
  rfl
theorem eqA2 (K : Nat) (hK : 3 ≤ K) (a : Ar 2) : laws_eqIntA2.f K a a = some true := by
  obtain ⟨k, rfl⟩ := Nat.exists_eq_add_of_le hK
  rw [show 3 + k = k + 1 + 1 + 1 by omega]
  simp [laws_eqIntA2.f, laws_eqIntA2.l0, wrap64]

theorem cut_l0 (K : Nat) : ∀ (k : Nat) (a b : Int), 0 < a → 0 ≤ b → b < k → ∃ g, 0 < g ∧ spec_l2Cut.l0 K k a b = some g ∧ impl_fraction.l0 K k a b = some g := by
  intro k
  induction k with
  | zero => intro a b h0 h1 h2; omega
  | succ k ih =>
    intro a b h0 h1 h2
    rw [spec_l2Cut.l0, impl_fraction.l0]
    by_cases h : b = 0
    · subst h; exact ⟨a, h0, by simp, by simp⟩
    · rw [if_pos (show 0 < b by omega), if_neg h, if_pos h, if_pos h]
      have hb : 0 ≤ a.tmod b := Int.tmod_nonneg _ (by omega)
      have hc : a.tmod b < b := Int.tmod_lt_of_pos _ (by omega)
      obtain ⟨g, h3, h4, h5⟩ := ih b (a.tmod b) (by omega) hb (by omega)
      rw [h4, h5]
      exact ⟨g, h3, rfl, rfl⟩
theorem cutz_l0 (K : Nat) (k : Nat) (a b : Int) (ha : 0 ≤ a) (hb : 0 ≤ b) (h : 0 < a ∨ 0 < b) (hk : b + 1 < k) : ∃ g, 0 < g ∧ spec_l2Cut.l0 K k a b = some g ∧ impl_fraction.l0 K k a b = some g := by
  rcases Int.lt_or_eq_of_le ha with h0 | h0
  · exact cut_l0 K k a b h0 hb (by omega)
  · have hb' : 0 < b := by omega
    match k, hk with
    | 0, hk => omega
    | k + 1, hk =>
      rw [spec_l2Cut.l0, impl_fraction.l0]
      have hne : b ≠ 0 := by omega
      have h1 : (0 : Int).tmod b = 0 := Int.zero_tmod b
      subst h0
      rw [if_pos hb', if_neg hne, if_pos hne, if_pos hne, h1]
      exact cut_l0 K k b 0 hb' (by omega) (by omega)
theorem cutz_eq (K : Nat) (a b : Int) (ha : 0 ≤ a) (hb : 0 ≤ b) (h : 0 < a ∨ 0 < b) (hK : b + 1 < K) : ∃ r, spec_l2Cut.f K a b = some r ∧ impl_fraction.f K a b = some r := by
  obtain ⟨g, h1, h2, h3⟩ := cutz_l0 K K a b ha hb h hK
  unfold spec_l2Cut.f impl_fraction.f
  rw [h2, h3]
  simp only [some_bind]
  have : spec_l1Most.f K g 1 = some g := by
    unfold spec_l1Most.f
    by_cases h : 1 < g
    · rw [if_pos h]
    · rw [if_neg h, show g = 1 by omega]
  rw [this]
  simp only [some_bind]
  have hg : g ≠ 0 := by omega
  rw [if_pos hg, if_pos hg]
  exact ⟨_, rfl, rfl⟩
theorem land_set (S Z : List Int) (v w : Int) (x : Nat) (h : S.length = x) : (S ++ v :: Z).set x w = S ++ w :: Z := by
  subst h
  rw [List.set_append_right _ _ (Nat.le_refl _), Nat.sub_self]
  rfl
theorem land_get (S Z : List Int) (v : Int) (x : Nat) (h : S.length = x) : (S ++ v :: Z).getD x 0 = v := by
  subst h
  rw [List.getD_eq_getElem?_getD, List.getElem?_append_right (Nat.le_refl _), Nat.sub_self]
  rfl
theorem land_get2 (S Z : List Int) (v : Int) (i : Nat) (h : i < S.length) : (S ++ v :: Z).getD i 0 = S.getD i 0 := by
  rw [List.getD_eq_getElem?_getD, List.getD_eq_getElem?_getD, List.getElem?_append_left h]
theorem land_l3 (K : Nat) (hK : 1000 ≤ K) (a : Ar 6) (ha : ∀ i : Int, 0 ≤ i → i < 6 → 1 ≤ a.get i ∧ a.get i ≤ 30) (x : Nat) (hx : 1 ≤ x ∧ x ≤ 8) (S Z : List Int) (hS : S.length = x) (hb : ∀ i : Nat, i < x → 0 ≤ S.getD i 0 ∧ S.getD i 0 ≤ 6 ^ i) (M : Int) (hM : M = 6 ^ (x - 1)) (hM2 : M ≤ 1000000) :
    ∀ (k n : Nat) (acc : Int), n ≤ 6 → 6 - n < k → 0 ≤ acc → acc ≤ n * M → ∃ r, spec_LandChance.l3 K a (x : Int) S k acc (n : Int) = some r ∧ impl_LandChance.l3 K a (x : Int) k (n : Int) (S ++ acc :: Z) = some (S ++ r :: Z) ∧ 0 ≤ r ∧ r ≤ 6 * M := by
  have hM1 : 1 ≤ M := by rw [hM]; exact pow_pos _
  intro k
  induction k with
  | zero => intro n acc h1 h2; omega
  | succ k ih =>
    intro n acc h1 h2 h3 h4
    rw [spec_LandChance.l3, impl_LandChance.l3]
    by_cases hn : (n : Int) < 6
    · have c1 : (0 : Int) ≤ (n : Int) ∧ (n : Int) < 6 := by omega
      have hf := ha (n : Int) (by omega) (by omega)
      have en : ((n + 1 : Nat) : Int) * M = (n : Int) * M + M := by
        rw [show ((n + 1 : Nat) : Int) = (n : Int) + 1 by omega, Int.add_mul, Int.one_mul]
      simp only [if_pos hn, if_pos c1, w1 n (by omega)]
      by_cases hfx : a.get (n : Int) ≤ (x : Int)
      · obtain ⟨f, hff⟩ : ∃ f : Nat, a.get (n : Int) = f := ⟨(a.get (n : Int)).toNat, by omega⟩
        rw [hff] at hf hfx ⊢
        have e1 : wrap64 ((x : Int) - (f : Int)) = ((x - f : Nat) : Int) := by rw [w64 (by omega) (by omega)]; omega
        have e2 : wrap64 ((f : Int) - 1) = ((f - 1 : Nat) : Int) := by rw [w64 (by omega) (by omega)]; omega
        have hlen : ((S ++ acc :: Z).length : Int) = (x : Int) + 1 + (Z.length : Int) := by simp; omega
        have c2 : (0 : Int) ≤ (x : Int) ∧ (x : Int) < ((S ++ acc :: Z).length : Int) := by omega
        have c3 : (0 : Int) ≤ ((x - f : Nat) : Int) ∧ ((x - f : Nat) : Int) < ((S ++ acc :: Z).length : Int) := by omega
        have c4 : (0 : Int) ≤ ((x - f : Nat) : Int) ∧ ((x - f : Nat) : Int) < (S.length : Int) := by omega
        have hg := hb (x - f) (by omega)
        have hp := pow_pos (f - 1)
        have hm : (6 : Int) ^ (x - f) * 6 ^ (f - 1) = M := by rw [hM, ← Int.pow_add]; congr 1; omega
        have hm0 : 0 ≤ S.getD (x - f) 0 * 6 ^ (f - 1) := Int.mul_nonneg hg.1 (by omega)
        have hm1 : S.getD (x - f) 0 * 6 ^ (f - 1) ≤ M := by
          rw [← hm]; exact Int.mul_le_mul_of_nonneg_right hg.2 (by omega)
        have hnM : (n : Int) * M ≤ 6 * M := Int.mul_le_mul_of_nonneg_right (by omega) (by omega)
        simp only [if_pos hfx, e1, e2, if_pos c2, if_pos c3, if_pos c4, all_power, power_eq K (by omega) (f - 1) (by omega), some_bind, Int.toNat_natCast, land_get S Z acc x hS, land_get2 S Z acc (x - f) (by omega)]
        rw [w64 (n := S.getD (x - f) 0 * 6 ^ (f - 1)) (by omega) (by omega), w64 (n := acc + S.getD (x - f) 0 * 6 ^ (f - 1)) (by omega) (by omega), land_set S Z acc _ x hS]
        exact ih (n + 1) _ (by omega) (by omega) (by omega) (by omega)
      · simp only [if_neg hfx]
        exact ih (n + 1) acc (by omega) (by omega) h3 (by omega)
    · have : n = 6 := by omega
      subst this
      rw [if_neg hn, if_neg hn]
      exact ⟨acc, rfl, rfl, h3, h4⟩
theorem land_l2 (K : Nat) (hK : 1000 ≤ K) (a : Ar 6) (ha : ∀ i : Int, 0 ≤ i → i < 6 → 1 ≤ a.get i ∧ a.get i ≤ 30) (g : Nat) (hg : g ≤ 8) :
    ∀ (k x : Nat) (S : List Int), 1 ≤ x → x ≤ g + 1 → g + 1 - x < k → S.length = x → (∀ i : Nat, i < x → 0 ≤ S.getD i 0 ∧ S.getD i 0 ≤ 6 ^ i) → ∃ r, spec_LandChance.l2 K a (g : Int) k (x : Int) S = some r ∧ impl_LandChance.l2 K a (g : Int) k (x : Int) (S ++ List.replicate (g + 1 - x) 0) = some r ∧ r.length = g + 1 ∧ (∀ i : Nat, i < g + 1 → 0 ≤ r.getD i 0 ∧ r.getD i 0 ≤ 6 ^ i) := by
  intro k
  induction k with
  | zero => intro x S h0 h1 h2; omega
  | succ k ih =>
    intro x S h0 h1 h2 h3 h4
    rw [spec_LandChance.l2, impl_LandChance.l2]
    by_cases hx : (x : Int) ≤ (g : Int)
    · have hM2 : (6 : Int) ^ (x - 1) ≤ 1000000 := by
        rcases (show x = 1 ∨ x = 2 ∨ x = 3 ∨ x = 4 ∨ x = 5 ∨ x = 6 ∨ x = 7 ∨ x = 8 by omega) with rfl | rfl | rfl | rfl | rfl | rfl | rfl | rfl <;> decide
      have er : List.replicate (g + 1 - x) (0 : Int) = 0 :: List.replicate (g + 1 - (x + 1)) 0 := by
        rw [show g + 1 - x = (g + 1 - (x + 1)) + 1 by omega, List.replicate_succ]
      obtain ⟨r, r1, r2, r3, r4⟩ := land_l3 K hK a ha x (by omega) S (List.replicate (g + 1 - (x + 1)) 0) h3 h4 _ rfl hM2 K 0 0 (by omega) (by omega) (by omega) (by simp)
      have r1' : spec_LandChance.l3 K a (x : Int) S K 0 0 = some r := r1
      have r2' : impl_LandChance.l3 K a (x : Int) K 0 (S ++ 0 :: List.replicate (g + 1 - (x + 1)) 0) = some (S ++ r :: List.replicate (g + 1 - (x + 1)) 0) := r2
      have c : S.length + [r].length ≤ 1073741824 := by simp; omega
      rw [er]
      simp only [if_pos hx, r1', r2', some_bind, if_pos c, w1 x (by omega)]
      have e6 : (6 : Int) ^ x = 6 * 6 ^ (x - 1) := by
        conv => lhs; rw [show x = (x - 1) + 1 by omega]
        rw [Int.pow_succ, Int.mul_comm]
      obtain ⟨q, q1, q2, q3, q4⟩ := ih (x + 1) (S ++ [r]) (by omega) (by omega) (by omega) (by simp [h3]) (by
        intro i hi
        by_cases hix : i = x
        · subst hix
          have : (S ++ [r]).getD i 0 = r := land_get S [] r i h3
          rw [this, e6]
          exact ⟨r3, r4⟩
        · have : (S ++ [r]).getD i 0 = S.getD i 0 := land_get2 S [] r i (by omega)
          rw [this]
          exact h4 i (by omega))
      rw [List.append_assoc] at q2
      exact ⟨q, q1, q2, q3, q4⟩
    · have : x = g + 1 := by omega
      subst this
      rw [if_neg hx, if_neg hx]
      exact ⟨S, rfl, by simp, h3, h4⟩
theorem LandChance_pure (a0 : Ar 6) (a1 : Int) (_w0 : ∀ z ∈ a0.l, (Lit.int .i64 z).wf = true) (_w1 : (Lit.int .i64 a1).wf = true) : ∃ K, laws_FnExactLandChance.f K a0 a1 = some true := by
  refine ⟨200000000, ?_⟩
  unfold laws_FnExactLandChance.f
  have hs : ∃ r, spec_LandChance.f 200000000 a0 a1 = some r ∧ impl_LandChance.f 200000000 a0 a1 = some r := by
    unfold spec_LandChance.f impl_LandChance.f
    rw [(runner_eq 200000000 (by omega) a0).1, (runner_eq 200000000 (by omega) a0).2, in_within, in_eq]
    simp only [some_bind]
    by_cases hr : (dieB a0 && decide (0 < a0.get 0)) = true
    · have hr' : dieB a0 = true ∧ 0 < a0.get 0 := by simpa using hr
      by_cases ha : 0 ≤ a1 ∧ a1 ≤ 8
      · obtain ⟨g, hg⟩ : ∃ g : Nat, a1 = g := ⟨a1.toNat, by omega⟩
        subst hg
        obtain ⟨r, r1, r2, r3, r4⟩ := land_l2 200000000 (by omega) a0 (runner_faces a0 hr') g (by omega) 200000000 1 [1] (by omega) (by omega) (by omega) rfl (by
          intro i hi
          have : i = 0 := by omega
          subst this
          decide)
        have e1 : wrap64 ((g : Int) + 1) = ((g + 1 : Nat) : Int) := w1 g (by omega)
        have c1 : (0 : Int) ≤ ((g + 1 : Nat) : Int) ∧ ((g + 1 : Nat) : Int) ≤ 1073741824 := by omega
        have c2 : (0 : Int) ≤ 0 ∧ (0 : Int) < ((List.replicate (g + 1) (0 : Int)).length : Int) := by rw [List.length_replicate]; omega
        have c3 : (0 : Int) ≤ (g : Int) ∧ (g : Int) < (r.length : Int) := by omega
        have e2 : (List.replicate (g + 1) (0 : Int)).set ((0 : Int)).toNat 1 = [1] ++ List.replicate (g + 1 - 1) 0 := by
          rw [List.replicate_succ]; rfl
        have r1' : spec_LandChance.l2 200000000 a0 (g : Int) 200000000 1 [1] = some r := r1
        have r2' : impl_LandChance.l2 200000000 a0 (g : Int) 200000000 1 ([1] ++ List.replicate (g + 1 - 1) 0) = some r := r2
        have hv := r4 g (by omega)
        have hq := pow_pos g
        have hq2 : (6 : Int) ^ g ≤ 1679616 := by
          rcases (show g = 0 ∨ g = 1 ∨ g = 2 ∨ g = 3 ∨ g = 4 ∨ g = 5 ∨ g = 6 ∨ g = 7 ∨ g = 8 by omega) with rfl | rfl | rfl | rfl | rfl | rfl | rfl | rfl | rfl <;> decide
        obtain ⟨s, s1, s2⟩ := cutz_eq 200000000 (r.getD g 0) ((6 : Int) ^ g) hv.1 (by omega) (by omega) (by omega)
        simp only [hr, if_true, ha, and_self, decide_true, e1, if_pos c1, Int.toNat_natCast, if_pos c2, e2, r1', r2', some_bind, c3.2, all_power, power_eq 200000000 (by omega) g (by omega), s1, s2]
        exact ⟨_, rfl⟩
      · simp [hr, ha]
    · simp [hr]
  obtain ⟨r, h1, h2⟩ := hs
  have t2 := fun a => toA6 200000000 (by omega) a
  have q2 := fun a => eqA2 200000000 (by omega) a
  simp only [t2, h1, h2, q2, some_bind, if_true, beq_self_eq_true]
end Go.Proofs.Ytgmalhohckcogaa.WLandChance

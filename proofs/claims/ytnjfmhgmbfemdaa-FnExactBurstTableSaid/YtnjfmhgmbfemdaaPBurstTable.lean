/- The plain law: what the walk shows to be computed answers true. Conditions: the numbers are 64-bit. -/
import Derived.Test.YtnjfmhgmbfemdaaWBurstTable
import Derived.KernelRfl
namespace Go.Proofs.Ytnjfmhgmbfemdaa.WBurstTable
open Go.K Go.RowKit
set_option linter.unusedVariables false
set_option linter.unusedSimpArgs false

theorem w1 (n : Nat) (h : n ≤ 4000000000000000000) : wrap64 ((n : Int) + 1) = ((n + 1 : Nat) : Int) := by rw [w64 (by omega) (by omega)]; omega
theorem ar_get_set {n : Nat} (a : Ar n) (i j v : Int) (h0 : 0 ≤ i) (h1 : i < n) (h2 : 0 ≤ j) : (a.set i v).get j = if j = i then v else a.get j := by
  unfold Ar.get Ar.set
  simp only [List.getD_eq_getElem?_getD]
  by_cases h : j = i
  · subst h
    rw [if_pos rfl, List.getElem?_set_self (by rw [a.h]; omega)]
    rfl
  · rw [if_neg h, List.getElem?_set_ne (by omega)]
theorem ar_get_zero {n : Nat} (j : Int) : (Ar.zero n).get j = 0 := by
  unfold Ar.get Ar.zero
  simp only [List.getD_eq_getElem?_getD, List.getElem?_replicate]
  split <;> rfl
theorem in_eq (K : Nat) (a lo hi : Int) : impl_within.f K a lo hi = some (decide (lo ≤ a ∧ a ≤ hi)) := by
  unfold impl_within.f
  by_cases h : lo ≤ a <;> simp [h]
theorem in_within : spec_l1In.f = impl_within.f := by kernel_rfl
def faceB (a : Int) : Bool := decide (0 ≤ a ∧ a ≤ 30)
theorem isFace_eq (K : Nat) (_hK : 2000000 ≤ K) (a : Int) : impl_isFace.f K a = some (faceB a) := by
  unfold impl_isFace.f
  rw [in_eq]; rfl
theorem allFace_l0 (K : Nat) (hK : 2000000 ≤ K) (l : List Int) (h : l.length ≤ 1073741824) : ∀ (k n : Nat), n ≤ l.length → l.length - n < k →
    (slices_IndexFunc_int_int__areAll_int_1_isFace.l0 K l k (n : Int) = some (Sum.inl ()) ∧ (l.drop n).all faceB = true) ∨ (∃ i : Int, 0 ≤ i ∧ slices_IndexFunc_int_int__areAll_int_1_isFace.l0 K l k (n : Int) = some (Sum.inr i) ∧ (l.drop n).all faceB = false) := by
  intro k
  induction k with
  | zero => intro n h1 h2; omega
  | succ k ih =>
    intro n h1 h2
    rw [slices_IndexFunc_int_int__areAll_int_1_isFace.l0]
    by_cases hn : (n : Int) < (l.length : Int)
    · have hn' : n < l.length := by omega
      have hnn : ((n : Int)).toNat = n := by omega
      have hd : l.drop n = l[n] :: l.drop (n + 1) := List.drop_eq_getElem_cons hn'
      have hg : l.getD n (0 : Int) = l[n] := by rw [List.getD_eq_getElem?_getD, List.getElem?_eq_getElem hn']; rfl
      rw [if_pos hn, if_pos (by omega), w1 n (by omega), hnn, hg, impl_areAll_int_1__isFace.f, isFace_eq K hK, hd]
      simp only [some_bind, List.all_cons]
      rcases Bool.eq_false_or_eq_true (faceB l[n]) with e | e
      · rw [e]
        simp only [Bool.not_true, Bool.false_eq_true, if_false, Bool.true_and]
        exact ih (n + 1) (by omega) (by omega)
      · rw [e]
        simp only [Bool.not_false, if_true, Bool.false_and]
        exact .inr ⟨_, by omega, rfl, trivial⟩
    · rw [if_neg hn]
      have : n = l.length := by omega
      subst this
      exact .inl ⟨rfl, by simp⟩
theorem allFace_eq (K : Nat) (hK : 2000000 ≤ K) (l : List Int) (h : l.length ≤ 1048576) : impl_areAll_int__isFace.f K l = some (l.all faceB) := by
  unfold impl_areAll_int__isFace.f slices_ContainsFunc_int_int__areAll_int_1_isFace.f slices_IndexFunc_int_int__areAll_int_1_isFace.f
  rcases allFace_l0 K hK l (by omega) K 0 (by omega) (by omega) with ⟨h1, h2⟩ | ⟨i, hi, h1, h2⟩
  · rw [show (0 : Int) = ((0 : Nat) : Int) from rfl, h1]
    simp only [some_bind, List.drop_zero] at h2 ⊢
    rw [h2]; rfl
  · rw [show (0 : Int) = ((0 : Nat) : Int) from rfl, h1]
    simp only [some_bind, List.drop_zero] at h2 ⊢
    rw [h2]
    have : decide (((0 : Nat) : Int) ≤ i) = true := decide_eq_true (by simpa using hi)
    rw [this]; rfl
def dieP (a : Ar 6) : Prop := ((0 ≤ a.get 0 ∧ a.get 0 ≤ 30) ∧ (0 ≤ a.get 1 ∧ a.get 1 ≤ 30) ∧ (0 ≤ a.get 2 ∧ a.get 2 ≤ 30) ∧ (0 ≤ a.get 3 ∧ a.get 3 ≤ 30) ∧ (0 ≤ a.get 4 ∧ a.get 4 ≤ 30) ∧ (0 ≤ a.get 5 ∧ a.get 5 ≤ 30)) ∧ (a.get 0 ≤ a.get 1 ∧ a.get 1 ≤ a.get 2 ∧ a.get 2 ≤ a.get 3 ∧ a.get 3 ≤ a.get 4 ∧ a.get 4 ≤ a.get 5)
instance (a : Ar 6) : Decidable (dieP a) := by unfold dieP; infer_instance
def dieB (a : Ar 6) : Bool := decide (dieP a)
theorem die_get (x y z u v w : Int) : (Ar.get (⟨[x, y, z, u, v, w], rfl⟩ : Ar 6) 0 = x ∧ Ar.get (⟨[x, y, z, u, v, w], rfl⟩ : Ar 6) 1 = y ∧ Ar.get (⟨[x, y, z, u, v, w], rfl⟩ : Ar 6) 2 = z) ∧ (Ar.get (⟨[x, y, z, u, v, w], rfl⟩ : Ar 6) 3 = u ∧ Ar.get (⟨[x, y, z, u, v, w], rfl⟩ : Ar 6) 4 = v ∧ Ar.get (⟨[x, y, z, u, v, w], rfl⟩ : Ar 6) 5 = w) := ⟨⟨rfl, rfl, rfl⟩, rfl, rfl, rfl⟩
set_option maxHeartbeats 4000000 in
theorem die_spec (K : Nat) (hK : 2000000 ≤ K) (a : Ar 6) : spec_l2Die.f K a = some (dieB a) := by
  obtain ⟨k, rfl⟩ := Nat.exists_eq_add_of_le (show 8 ≤ K by omega)
  obtain ⟨x, y, z, u, v, w, rfl⟩ := Ar.cases6 a
  have e : 8 + k = k + 1 + 1 + 1 + 1 + 1 + 1 + 1 + 1 := by omega
  unfold spec_l2Die.f dieB dieP
  obtain ⟨⟨g0, g1, g2⟩, g3, g4, g5⟩ := die_get x y z u v w
  rw [e]
  simp only [spec_l2Die.l0, in_within, in_eq, some_bind, show (0 : Int) < 6 by decide, show wrap64 (0 + 1) = 1 by decide +kernel, show wrap64 (1 + 1) = 2 by decide +kernel, show wrap64 (2 + 1) = 3 by decide +kernel, show wrap64 (3 + 1) = 4 by decide +kernel, show wrap64 (4 + 1) = 5 by decide +kernel, show wrap64 (5 + 1) = 6 by decide +kernel, show wrap64 (1 - 1) = 0 by decide +kernel, show wrap64 (2 - 1) = 1 by decide +kernel, show wrap64 (3 - 1) = 2 by decide +kernel, show wrap64 (4 - 1) = 3 by decide +kernel, show wrap64 (5 - 1) = 4 by decide +kernel, g0, g1, g2, g3, g4, g5, decide_eq_true_eq]
  simp
  repeat' split
  all_goals simp_all
  all_goals omega
set_option maxHeartbeats 4000000 in
theorem die_impl (K : Nat) (hK : 2000000 ≤ K) (a : Ar 6) : impl_IsDie.f K a = some (dieB a) := by
  obtain ⟨x, y, z, u, v, w, rfl⟩ := Ar.cases6 a
  unfold impl_IsDie.f dieB dieP
  rw [allFace_eq K hK _ (by simp)]
  obtain ⟨k, rfl⟩ := Nat.exists_eq_add_of_le (show 8 ≤ K by omega)
  have e : 8 + k = k + 1 + 1 + 1 + 1 + 1 + 1 + 1 + 1 := by omega
  obtain ⟨⟨g0, g1, g2⟩, g3, g4, g5⟩ := die_get x y z u v w
  unfold slices_IsSorted_int_int.f
  rw [e]
  simp [slices_IsSorted_int_int.l0, cmp_Less_int.f, cmp_isNaN_int.f, some_bind, show wrap64 (6 - 1) = 5 by decide +kernel, show wrap64 5 = 5 by decide +kernel, show wrap64 (5 - 1) = 4 by decide +kernel, show wrap64 (4 - 1) = 3 by decide +kernel, show wrap64 (3 - 1) = 2 by decide +kernel, show wrap64 (2 - 1) = 1 by decide +kernel, show wrap64 (1 - 1) = 0 by decide +kernel, show wrap64 4 = 4 by decide +kernel, show wrap64 3 = 3 by decide +kernel, show wrap64 2 = 2 by decide +kernel, show wrap64 1 = 1 by decide +kernel, show wrap64 0 = 0 by decide +kernel, g0, g1, g2, g3, g4, g5, faceB]
  repeat' split
  all_goals simp_all
  all_goals omega
theorem toA6 (K : Nat) (hK : 8 ≤ K) (a : Ar 6) : laws_toIntA6.f K a = some a := by
  obtain ⟨k, rfl⟩ := Nat.exists_eq_add_of_le hK
  obtain ⟨x, y, z, u, v, w, rfl⟩ := Ar.cases6 a
  have e : 8 + k = k + 1 + 1 + 1 + 1 + 1 + 1 + 1 + 1 := by omega
  unfold laws_toIntA6.f
  rw [e]
  simp only [laws_toIntA6.l0, show (0 : Int) < 6 by decide, show wrap64 (0 + 1) = 1 by decide +kernel, show wrap64 (1 + 1) = 2 by decide +kernel, show wrap64 (2 + 1) = 3 by decide +kernel, show wrap64 (3 + 1) = 4 by decide +kernel, show wrap64 (4 + 1) = 5 by decide +kernel, show wrap64 (5 + 1) = 6 by decide +kernel, if_true, show (0 : Int) ≤ 0 ∧ True by decide]
  rfl
theorem all_power : spec_l2All.f = impl_power.f := by kernel_rfl
theorem pow_lt (n : Nat) (h : n ≤ 22) : (6 : Int) ^ n ≤ 131621703842267136 := by
  have : (6 : Nat) ^ n ≤ 6 ^ 22 := Nat.pow_le_pow_right (by omega) h
  have h2 : ((6 ^ n : Nat) : Int) ≤ ((6 ^ 22 : Nat) : Int) := by exact_mod_cast this
  simpa using h2
theorem pow_pos (n : Nat) : (1 : Int) ≤ 6 ^ n := by
  have : 1 ≤ (6 : Nat) ^ n := Nat.one_le_pow _ _ (by omega)
  have h2 : ((1 : Nat) : Int) ≤ ((6 ^ n : Nat) : Int) := by exact_mod_cast this
  simpa using h2
theorem power_l0 (K : Nat) (n : Nat) (hn : n ≤ 22) : ∀ (k i : Nat), i ≤ n → n - i < k → impl_power.l0 K (n : Int) k ((6 : Int) ^ i) (i : Int) = some ((6 : Int) ^ n) := by
  intro k
  induction k with
  | zero => intro i h1 h2; omega
  | succ k ih =>
    intro i h1 h2
    rw [impl_power.l0]
    by_cases h : (i : Int) < (n : Int)
    · have hp := pow_lt (i + 1) (by omega)
      have hq := pow_pos (i + 1)
      have e : (6 : Int) ^ i * 6 = 6 ^ (i + 1) := (Int.pow_succ 6 i).symm
      rw [if_pos h, e, w64 (n := (6 : Int) ^ (i + 1)) (by omega) (by omega), w64 (n := (i : Int) + 1) (by omega) (by omega), show (i : Int) + 1 = ((i + 1 : Nat) : Int) by omega]
      exact ih (i + 1) (by omega) (by omega)
    · rw [if_neg h, show i = n by omega]
theorem power_eq (K : Nat) (hK : 30 ≤ K) (n : Nat) (hn : n ≤ 22) : impl_power.f K (n : Int) = some ((6 : Int) ^ n) := by
  unfold impl_power.f
  rw [show impl_power.l0 K (n : Int) K 1 0 = some ((6 : Int) ^ n) from power_l0 K n hn K 0 (by omega) (by omega)]
  rfl
theorem powN (n : Nat) : ((6 ^ n : Nat) : Int) = (6 : Int) ^ n := by simp
def Rep (X : Ar 121) (τ : Nat → Nat) : Prop := ∀ p : Nat, X.get (p : Int) = ((τ p : Nat) : Int)
theorem rep_add {X : Ar 121} {τ : Nat → Nat} (h : Rep X τ) (q c : Nat) (hq : q < 121) (hb : τ q + c ≤ 1000000000) : Rep (X.set (q : Int) (wrap64 (X.get (q : Int) + (c : Int)))) (fun p => τ p + if q = p then c else 0) := by
  intro p
  have e : wrap64 (X.get (q : Int) + (c : Int)) = ((τ q + c : Nat) : Int) := by
    rw [h q, w64 (by omega) (by omega)]; omega
  rw [ar_get_set _ _ _ _ (by clear e; omega) (by clear e; omega) (by clear e; omega), e]
  clear e
  dsimp only
  by_cases hp : q = p
  · subst hp
    rw [if_pos rfl, if_pos rfl]
  · rw [if_neg (by omega), if_neg hp, h p]; omega
theorem rep_ext {X Y : Ar 121} {τ : Nat → Nat} (h1 : Rep X τ) (h2 : Rep Y τ) : X = Y := by
  apply Ar.ext
  apply List.ext_getElem
  · rw [X.h, Y.h]
  · intro i hi1 hi2
    have e1 := h1 i
    have e2 := h2 i
    unfold Ar.get at e1 e2
    rw [Int.toNat_natCast, getD_nat _ _ _ hi1] at e1
    rw [Int.toNat_natCast, getD_nat _ _ _ hi2] at e2
    rw [e1, e2]
theorem rep_congr {X : Ar 121} {τ σ : Nat → Nat} (h : Rep X τ) (e : ∀ p, τ p = σ p) : Rep X σ := fun p => by rw [h p, e p]
theorem rep_zero : Rep (Ar.zero 121) (fun _ => 0) := fun p => ar_get_zero _
def bE (b : Nat → Nat) (w p : Nat) : Nat → Nat
  | 0 => 0
  | i + 1 => bE b w p i + if b i ≠ b 5 ∧ w + b i = p then 1 else 0
def bM (b : Nat → Nat) : Nat → Nat
  | 0 => 0
  | i + 1 => bM b i + if b i = b 5 then 1 else 0
def bA (b : Nat → Nat) (w p : Nat) : Nat → Nat
  | 0 => 0
  | i + 1 => bA b w p i + if w + b i = p then 1 else 0
def bC (b : Nat → Nat) : Nat → Nat → Nat → Nat
  | 0, w, p => bA b w p 6
  | l + 1, w, p => bM b 6 * bC b l (w + b 5) p + 6 ^ (l + 1) * bE b w p 6
theorem bME (b : Nat → Nat) (w p : Nat) : ∀ i, bM b i + bE b w p i ≤ i
  | 0 => Nat.le_refl _
  | i + 1 => by
    have := bME b w p i
    rw [bM, bE]
    by_cases h : b i = b 5
    · rw [if_pos h, if_neg (fun h2 => h2.1 h)]; omega
    · rw [if_neg h]; split <;> omega
theorem bA_le (b : Nat → Nat) (w p : Nat) : ∀ i, bA b w p i ≤ i
  | 0 => Nat.le_refl _
  | i + 1 => by
    have := bA_le b w p i
    rw [bA]; split <;> omega
theorem mulsum (M E c Q : Nat) (h : c ≤ Q) (i : Nat) (h2 : M + E ≤ i) : M * c + Q * E ≤ Q * i := by
  have h3 : M * c ≤ M * Q := Nat.mul_le_mul_left _ h
  have h4 : Q * (M + E) ≤ Q * i := Nat.mul_le_mul_left _ h2
  rw [Nat.mul_add, Nat.mul_comm Q M] at h4
  omega
theorem bC_le (b : Nat → Nat) : ∀ l w p, bC b l w p ≤ 6 ^ (l + 1)
  | 0, w, p => bA_le b w p 6
  | l + 1, w, p => by
    rw [bC, Nat.pow_succ 6 (l + 1)]
    exact mulsum _ _ _ _ (bC_le b l _ p) 6 (bME b w p 6)
def Faces (a : Ar 6) (b : Nat → Nat) : Prop := (∀ i : Nat, i < 6 → a.get (i : Int) = ((b i : Nat) : Int) ∧ b i ≤ 30) ∧ a.get 5 = ((b 5 : Nat) : Int)
theorem die_faces (a : Ar 6) (h : dieB a = true) : Faces a (fun i => (a.get (i : Int)).toNat) := by
  have h := of_decide_eq_true h
  obtain ⟨⟨h0, h1, h2, h3, h4, h5⟩, _⟩ := h
  have key : ∀ i : Nat, i < 6 → 0 ≤ a.get (i : Int) ∧ a.get (i : Int) ≤ 30 := by
    intro i hi
    rcases (show i = 0 ∨ i = 1 ∨ i = 2 ∨ i = 3 ∨ i = 4 ∨ i = 5 by omega) with rfl | rfl | rfl | rfl | rfl | rfl
    · exact h0
    · exact h1
    · exact h2
    · exact h3
    · exact h4
    · exact h5
  refine ⟨fun i hi => ?_, ?_⟩
  · have := key i hi
    dsimp only
    omega
  · have := key 5 (by omega)
    dsimp only
    exact (Int.toNat_of_nonneg h5.1).symm
theorem pow6N (K : Nat) (hK : 30 ≤ K) (n : Nat) (hn : n ≤ 22) : impl_power.f K (n : Int) = some ((6 ^ n : Nat) : Int) := by
  rw [power_eq K hK n hn, powN]
theorem six_le (l : Nat) (h : l ≤ 4) : 1 ≤ 6 ^ l ∧ 6 ^ l ≤ 1296 := by
  rcases (show l = 0 ∨ l = 1 ∨ l = 2 ∨ l = 3 ∨ l = 4 by omega) with rfl | rfl | rfl | rfl | rfl <;> decide
theorem burst_zero (K : Nat) (hK : 100 ≤ K) (a : Ar 6) (b : Nat → Nat) (hf : Faces a b) (rec) (w : Nat) (hw : w ≤ 90) (τ : Nat → Nat) (hτ : ∀ p, τ p ≤ 1000000) : ∀ (k i : Nat) (X : Ar 121), i ≤ 6 → 6 - i < k → Rep X (fun p => τ p + bA b w p i) →
    ∃ X', impl_BurstTable_1__BurstTable_1.l0 K (w : Int) 0 a rec k (i : Int) X = some X' ∧ Rep X' (fun p => τ p + bA b w p 6) := by
  intro k
  induction k with
  | zero => intro i X h1 h2; omega
  | succ k ih =>
    intro i X h1 h2 h3
    rw [impl_BurstTable_1__BurstTable_1.l0]
    by_cases hi : i < 6
    · obtain ⟨f1, f2⟩ := hf.1 i hi
      have eW : wrap64 ((w : Int) + ((b i : Nat) : Int)) = ((w + b i : Nat) : Int) := by rw [w64 (by omega) (by omega)]; omega
      have hp := pow6N K (by omega) 0 (by omega)
      have hA := bA_le b w (w + b i) i
      have hT := hτ (w + b i)
      have hadd := rep_add h3 (w + b i) (6 ^ 0) (by clear eW; omega) (by clear eW; simp only [Nat.pow_zero]; omega)
      have hnx : Rep (X.set ((w + b i : Nat) : Int) (wrap64 (X.get ((w + b i : Nat) : Int) + ((6 ^ 0 : Nat) : Int)))) (fun p => τ p + bA b w p (i + 1)) := by
        refine rep_congr hadd (fun p => ?_)
        rw [bA]
        simp only [Nat.pow_zero]
        omega
      obtain ⟨X', j1, j2⟩ := ih (i + 1) _ (by clear eW; omega) (by clear eW; omega) hnx
      rw [if_pos (by clear eW; omega), if_pos (by clear eW; omega), f1, hf.2, eW, show impl_power.f K 0 = _ from hp, w1' i (by clear eW; omega)]
      simp only [some_bind]
      refine ⟨X', ?_, j2⟩
      split
      · rw [if_neg (by decide), if_pos (by clear eW; omega)]; exact j1
      · rw [if_pos (by clear eW; omega)]; exact j1
    · rw [if_neg (by omega)]
      have : i = 6 := by omega
      subst this
      exact ⟨X, rfl, h3⟩
theorem burst_succ (K : Nat) (hK : 100 ≤ K) (a : Ar 6) (b : Nat → Nat) (hf : Faces a b) (l : Nat) (hl : l ≤ 2) (rec) (w : Nat) (hw : w ≤ 90) (τ : Nat → Nat) (B : Nat) (hB : B ≤ 1000000) (hτ : ∀ p, τ p ≤ B)
    (hrec : ∀ (Y : Ar 121) (σ : Nat → Nat), Rep Y σ → (∀ p, σ p ≤ B + 1296) → ∃ Y', rec ((w + b 5 : Nat) : Int) (l : Int) a Y = some ((), Y') ∧ Rep Y' (fun p => σ p + bC b l (w + b 5) p)) : ∀ (k i : Nat) (X : Ar 121), i ≤ 6 → 6 - i < k → Rep X (fun p => τ p + (bM b i * bC b l (w + b 5) p + 6 ^ (l + 1) * bE b w p i)) →
    ∃ X', impl_BurstTable_1__BurstTable_1.l0 K (w : Int) ((l + 1 : Nat) : Int) a rec k (i : Int) X = some X' ∧ Rep X' (fun p => τ p + bC b (l + 1) w p) := by
  have hsix : ∀ p i, i ≤ 6 → bM b i * bC b l (w + b 5) p + 6 ^ (l + 1) * bE b w p i ≤ 1296 := by
    intro p i hi
    have h1 := mulsum _ _ _ _ (bC_le b l (w + b 5) p) i (bME b w p i)
    have h2 := (six_le (l + 2) (by omega)).2
    rw [Nat.pow_succ] at h2
    have h3 : 6 ^ (l + 1) * i ≤ 6 ^ (l + 1) * 6 := Nat.mul_le_mul_left _ hi
    exact Nat.le_trans h1 (Nat.le_trans h3 h2)
  have hq := (six_le (l + 1) (by omega)).2
  intro k
  induction k with
  | zero => intro i X h1 h2; omega
  | succ k ih =>
    intro i X h1 h2 h3
    rw [impl_BurstTable_1__BurstTable_1.l0]
    by_cases hi : i < 6
    · obtain ⟨f1, f2⟩ := hf.1 i hi
      have eW : wrap64 ((w : Int) + ((b i : Nat) : Int)) = ((w + b i : Nat) : Int) := by rw [w64 (by omega) (by omega)]; omega
      have eL : wrap64 (((l + 1 : Nat) : Int) - 1) = (l : Int) := w1p l (by clear eW; omega)
      have hp := pow6N K (by clear eW eL; omega) (l + 1) (by clear eW eL; omega)
      rw [if_pos (by clear eW eL; omega), if_pos (by clear eW eL; omega), f1, hf.2, eW, eL, w1' i (by clear eW eL; omega)]
      by_cases hc : b i = b 5
      · obtain ⟨Y', y1, y2⟩ := hrec X _ h3 (fun p => by have := hτ p; have := hsix p i h1; clear eW eL; omega)
        rw [if_pos (by rw [hc]), if_pos (by clear eW eL; omega), hc, y1, some_bind]
        apply ih (i + 1) Y' (by clear eW eL; omega) (by clear eW eL; omega)
        refine rep_congr y2 (fun p => ?_)
        rw [bM, bE, if_pos hc, if_neg (fun h => h.1 hc), Nat.add_mul, Nat.one_mul]
        simp only [Nat.add_zero]
        clear eW eL
        omega
      · have hadd := rep_add h3 (w + b i) (6 ^ (l + 1)) (by clear eW eL; omega) (by have := hτ (w + b i); have := hsix (w + b i) i h1; clear eW eL; omega)
        rw [if_neg (by clear eW eL; omega), if_pos (by clear eW eL; omega), hp, some_bind]
        apply ih (i + 1) _ (by clear eW eL; omega) (by clear eW eL; omega)
        refine rep_congr hadd (fun p => ?_)
        rw [bM, bE, if_neg hc]
        by_cases hp : w + b i = p
        · rw [if_pos hp, if_pos ⟨hc, hp⟩, Nat.mul_add, Nat.mul_one]; simp only [Nat.add_zero]; clear eW eL; omega
        · rw [if_neg hp, if_neg (fun h => hp h.2)]; simp only [Nat.add_zero]
    · rw [if_neg (by omega)]
      have : i = 6 := by omega
      subst this
      exact ⟨X, rfl, h3⟩
theorem burst_rec (K : Nat) (hK : 100 ≤ K) (a : Ar 6) (b : Nat → Nat) (hf : Faces a b) : ∀ (l k w : Nat) (X : Ar 121) (τ : Nat → Nat), l ≤ 3 → l < k → w + 30 * l ≤ 90 → Rep X τ → (∀ p, τ p + 1296 * l ≤ 1000000) → ∃ X', impl_BurstTable_1__BurstTable_1.r K k (w : Int) (l : Int) a X = some ((), X') ∧ Rep X' (fun p => τ p + bC b l w p) := by
  intro l
  induction l with
  | zero =>
    intro k w X τ h1 h2 h3 h4 h5
    obtain ⟨k, rfl⟩ : ∃ q, k = q + 1 := ⟨k - 1, by omega⟩
    obtain ⟨X', j1, j2⟩ := burst_zero K hK a b hf (impl_BurstTable_1__BurstTable_1.r K k) w (by omega) τ (fun p => by have := h5 p; omega) K 0 X (by omega) (by omega) h4
    refine ⟨X', ?_, j2⟩
    show impl_BurstTable_1__BurstTable_1.g K (impl_BurstTable_1__BurstTable_1.r K k) _ _ a X = _
    unfold impl_BurstTable_1__BurstTable_1.g
    rw [show impl_BurstTable_1__BurstTable_1.l0 K (w : Int) ((0 : Nat) : Int) a (impl_BurstTable_1__BurstTable_1.r K k) K 0 X = _ from j1, some_bind]
  | succ l ih =>
    intro k w X τ h1 h2 h3 h4 h5
    obtain ⟨k, rfl⟩ : ∃ q, k = q + 1 := ⟨k - 1, by omega⟩
    have h30 := (hf.1 5 (by omega)).2
    obtain ⟨X', j1, j2⟩ := burst_succ K hK a b hf l (by omega) (impl_BurstTable_1__BurstTable_1.r K k) w (by omega) τ (1000000 - 1296 * (l + 1)) (by omega) (fun p => by have := h5 p; omega) (fun Y σ y1 y2 => by
      exact ih k (w + b 5) Y σ (by omega) (by omega) (by omega) y1 (fun p => by have := y2 p; have := h5 p; omega)) K 0 X (by omega) (by omega) (by
        refine rep_congr h4 (fun p => ?_)
        simp [bM, bE])
    refine ⟨X', ?_, j2⟩
    show impl_BurstTable_1__BurstTable_1.g K (impl_BurstTable_1__BurstTable_1.r K k) _ _ a X = _
    unfold impl_BurstTable_1__BurstTable_1.g
    rw [show impl_BurstTable_1__BurstTable_1.l0 K (w : Int) ((l + 1 : Nat) : Int) a (impl_BurstTable_1__BurstTable_1.r K k) K 0 X = _ from j1, some_bind]
theorem burst_l12_skip (K : Nat) (hK : 100 ≤ K) (a : Ar 6) (n t : Int) (W T N : Ar 121) (q : Nat) (hq : q < 121) (hW : W.get (q : Int) = 0) : ∀ (k i : Nat), i ≤ 6 → 6 - i < k → spec_BurstTable.l12 K a n t W (q : Int) k (i : Int) T N = some (T, N) := by
  intro k
  induction k with
  | zero => intro i h1 h2; omega
  | succ k ih =>
    intro i h1 h2
    rw [spec_BurstTable.l12]
    by_cases hi : i < 6
    · rw [if_pos (by omega), if_pos (by omega), if_pos hW, w1' i (by omega)]
      exact ih (i + 1) (by omega) (by omega)
    · rw [if_neg (by omega)]
/-- The face loop before the last round. -/
theorem burst_l12 (K : Nat) (hK : 100 ≤ K) (a : Ar 6) (b : Nat → Nat) (hf : Faces a b) (n t : Nat) (ht : t < n) (hn : n ≤ 3) (W : Ar 121) (w v : Nat) (hw : w ≤ 90) (hv : 0 < v) (hv2 : v ≤ 1296) (hW : W.get (w : Int) = ((v : Nat) : Int)) (τ : Nat → Nat) (hτ : ∀ p, τ p ≤ 1000000) : ∀ (k i : Nat) (T N : Ar 121), i ≤ 6 → 6 - i < k → Rep T (fun p => τ p + v * 6 ^ (n - t) * bE b w p i) → Rep N (fun p => if w + b 5 = p then v * bM b i else 0) →
    ∃ T' N', spec_BurstTable.l12 K a (n : Int) (t : Int) W (w : Int) k (i : Int) T N = some (T', N') ∧ Rep T' (fun p => τ p + v * 6 ^ (n - t) * bE b w p 6) ∧ Rep N' (fun p => if w + b 5 = p then v * bM b 6 else 0) := by
  have h6 := (six_le (n - t) (by omega)).2
  have hvv : v * 6 ^ (n - t) ≤ 1296 * 1296 := Nat.mul_le_mul hv2 h6
  intro k
  induction k with
  | zero => intro i T N h1 h2; omega
  | succ k ih =>
    intro i T N h1 h2 h3 h4
    rw [spec_BurstTable.l12]
    by_cases hi : i < 6
    · obtain ⟨f1, f2⟩ := hf.1 i hi
      have eW : wrap64 ((w : Int) + ((b i : Nat) : Int)) = ((w + b i : Nat) : Int) := by rw [w64 (by omega) (by omega)]; omega
      have eL : wrap64 ((n : Int) - (t : Int)) = ((n - t : Nat) : Int) := by clear eW; rw [w64 (by omega) (by omega)]; omega
      have eV : wrap64 (((v : Nat) : Int) * ((6 ^ (n - t) : Nat) : Int)) = ((v * 6 ^ (n - t) : Nat) : Int) := by clear eW eL; rw [← Int.natCast_mul]; exact w64 (by omega) (by omega)
      have hp := pow6N K (by clear eW eL eV; omega) (n - t) (by clear eW eL eV; omega)
      have hbE : bE b w (w + b i) i ≤ 6 := by have := bME b w (w + b i) i; clear eW eL eV; omega
      have hbM : bM b i ≤ 6 := by have := bME b w (w + b i) i; clear eW eL eV; omega
      rw [if_pos (by clear eW eL eV; omega), if_pos (by clear eW eL eV; omega), if_neg (by rw [hW]; clear eW eL eV; omega), if_pos (by clear eW eL eV; omega), f1, hf.2, eW, eL, w1' i (by clear eW eL eV; omega)]
      by_cases hc : b i = b 5
      · have hvm : v * bM b i ≤ 1296 * 6 := Nat.mul_le_mul hv2 hbM
        have hadd := rep_add h4 (w + b i) v (by clear eW eL eV; omega) (by clear eW eL eV; split <;> omega)
        rw [if_pos (by rw [hc]), if_pos (by clear eW eL eV; omega), if_pos (by clear eW eL eV; omega), hW]
        apply ih (i + 1) T _ (by clear eW eL eV; omega) (by clear eW eL eV; omega)
        · refine rep_congr h3 (fun p => ?_)
          rw [bE, if_neg (fun h => h.1 hc), Nat.add_zero]
        · refine rep_congr hadd (fun p => ?_)
          rw [bM, if_pos hc, hc]
          split
          · rw [Nat.mul_add, Nat.mul_one]
          · rfl
      · have hve : v * 6 ^ (n - t) * bE b w (w + b i) i ≤ 1296 * 1296 * 6 := Nat.mul_le_mul hvv hbE
        have hadd := rep_add h3 (w + b i) (v * 6 ^ (n - t)) (by clear eW eL eV; omega) (by have := hτ (w + b i); clear eW eL eV; omega)
        rw [if_neg (by clear eW eL eV; omega), if_pos (by clear eW eL eV; omega), all_power, hp, some_bind, hW, eV]
        apply ih (i + 1) _ N (by clear eW eL eV; omega) (by clear eW eL eV; omega)
        · refine rep_congr hadd (fun p => ?_)
          rw [bE]
          by_cases hp : w + b i = p
          · rw [if_pos hp, if_pos ⟨hc, hp⟩, Nat.mul_add, Nat.mul_one]; clear eW eL eV; omega
          · rw [if_neg hp, if_neg (fun h => hp h.2), Nat.add_zero, Nat.add_zero]
        · refine rep_congr h4 (fun p => ?_)
          rw [bM, if_neg hc, Nat.add_zero]
    · rw [if_neg (by omega)]
      have : i = 6 := by omega
      subst this
      exact ⟨T, N, rfl, h3, h4⟩
/-- The face loop of the last round. -/
theorem burst_l12e (K : Nat) (hK : 100 ≤ K) (a : Ar 6) (b : Nat → Nat) (hf : Faces a b) (n : Nat) (hn : n ≤ 3) (W N : Ar 121) (w v : Nat) (hw : w ≤ 90) (hv : 0 < v) (hv2 : v ≤ 1296) (hW : W.get (w : Int) = ((v : Nat) : Int)) (τ : Nat → Nat) (hτ : ∀ p, τ p ≤ 1000000) : ∀ (k i : Nat) (T : Ar 121), i ≤ 6 → 6 - i < k → Rep T (fun p => τ p + v * bA b w p i) →
    ∃ T', spec_BurstTable.l12 K a (n : Int) (n : Int) W (w : Int) k (i : Int) T N = some (T', N) ∧ Rep T' (fun p => τ p + v * bA b w p 6) := by
  intro k
  induction k with
  | zero => intro i T h1 h2; omega
  | succ k ih =>
    intro i T h1 h2 h3
    rw [spec_BurstTable.l12]
    by_cases hi : i < 6
    · obtain ⟨f1, f2⟩ := hf.1 i hi
      have eW : wrap64 ((w : Int) + ((b i : Nat) : Int)) = ((w + b i : Nat) : Int) := by rw [w64 (by omega) (by omega)]; omega
      have eL : wrap64 ((n : Int) - (n : Int)) = ((0 : Nat) : Int) := by clear eW; rw [w64 (by omega) (by omega)]; omega
      have eV : wrap64 (((v : Nat) : Int) * ((6 ^ 0 : Nat) : Int)) = ((v : Nat) : Int) := by clear eW eL; rw [← Int.natCast_mul, Nat.pow_zero, Nat.mul_one]; exact w64 (by omega) (by omega)
      have hp := pow6N K (by clear eW eL eV; omega) 0 (by clear eW eL eV; omega)
      have hbA := bA_le b w (w + b i) i
      have hva : v * bA b w (w + b i) i ≤ 1296 * 6 := Nat.mul_le_mul hv2 (by clear eW eL eV; omega)
      have hadd := rep_add h3 (w + b i) v (by clear eW eL eV; omega) (by have := hτ (w + b i); clear eW eL eV; omega)
      have hnx : Rep (T.set ((w + b i : Nat) : Int) (wrap64 (T.get ((w + b i : Nat) : Int) + ((v : Nat) : Int)))) (fun p => τ p + v * bA b w p (i + 1)) := by
        refine rep_congr hadd (fun p => ?_)
        rw [bA]
        split
        · rw [Nat.mul_add, Nat.mul_one]; clear eW eL eV; omega
        · rfl
      obtain ⟨T', j1, j2⟩ := ih (i + 1) _ (by clear eW eL eV; omega) (by clear eW eL eV; omega) hnx
      refine ⟨T', ?_, j2⟩
      rw [if_pos (by clear eW eL eV; omega), if_pos (by clear eW eL eV; omega), if_neg (by rw [hW]; clear eW eL eV; omega), if_pos (by clear eW eL eV; omega), f1, hf.2, eW, eL, w1' i (by clear eW eL eV; omega)]
      by_cases hc : b i = b 5
      · rw [if_pos (by rw [hc]), if_neg (by clear eW eL eV; omega), if_pos (by clear eW eL eV; omega), all_power, hp, some_bind, hW, eV]
        exact j1
      · rw [if_neg (by clear eW eL eV; omega), if_pos (by clear eW eL eV; omega), all_power, hp, some_bind, hW, eV]
        exact j1
    · rw [if_neg (by omega)]
      have : i = 6 := by omega
      subst this
      exact ⟨T, rfl, h3⟩
/-- One round: only the one total that has ways counts. -/
theorem burst_l11 (K : Nat) (hK : 300 ≤ K) (a : Ar 6) (n t : Int) (W T T' N N' : Ar 121) (w : Nat) (hw : w < 121) (hW : ∀ q : Nat, q ≠ w → W.get (q : Int) = 0) (hmid : spec_BurstTable.l12 K a n t W (w : Int) K 0 T N = some (T', N')) : ∀ (r q k : Nat), q + r = 121 → r < k → spec_BurstTable.l11 K a n t W k (q : Int) (if q ≤ w then T else T') (if q ≤ w then N else N') = some (T', N') := by
  intro r
  induction r with
  | zero =>
    intro q k h1 h2
    obtain ⟨k, rfl⟩ : ∃ q, k = q + 1 := ⟨k - 1, by omega⟩
    rw [spec_BurstTable.l11, if_neg (show ¬ (q : Int) < 121 by omega), if_neg (show ¬ q ≤ w by omega), if_neg (show ¬ q ≤ w by omega)]
  | succ r ih =>
    intro q k h1 h2
    obtain ⟨k, rfl⟩ : ∃ q, k = q + 1 := ⟨k - 1, by omega⟩
    have := ih (q + 1) k (by omega) (by omega)
    rw [spec_BurstTable.l11, if_pos (show (q : Int) < 121 by omega), w1' q (by omega)]
    by_cases hq : q = w
    · subst hq
      rw [if_neg (show ¬ q + 1 ≤ q by omega), if_neg (show ¬ q + 1 ≤ q by omega)] at this
      rw [if_pos (Nat.le_refl q), if_pos (Nat.le_refl q), hmid, some_bind]
      exact this
    · have hsk := burst_l12_skip K (by omega) a n t W (if q ≤ w then T else T') (if q ≤ w then N else N') q (by omega) (hW q hq) K 0 (by omega) (by omega)
      rw [show spec_BurstTable.l12 K a n t W (q : Int) K 0 (if q ≤ w then T else T') (if q ≤ w then N else N') = _ from hsk, some_bind]
      have e1 : (if q + 1 ≤ w then T else T') = if q ≤ w then T else T' := by
        by_cases h : q ≤ w
        · rw [if_pos h, if_pos (by omega)]
        · rw [if_neg h, if_neg (by omega)]
      have e2 : (if q + 1 ≤ w then N else N') = if q ≤ w then N else N' := by
        by_cases h : q ≤ w
        · rw [if_pos h, if_pos (by omega)]
        · rw [if_neg h, if_neg (by omega)]
      rw [e1, e2] at this
      exact this
theorem burst_l8 (K : Nat) (hK : 300 ≤ K) (a : Ar 6) (b : Nat → Nat) (hf : Faces a b) (n : Nat) (hn : n ≤ 3) : ∀ (r t k : Nat) (v : Nat) (W T : Ar 121) (τ : Nat → Nat), t + r = n → r + 1 < k → 0 < v → v ≤ 6 ^ t → Rep W (fun p => if t * b 5 = p then v else 0) → Rep T τ → (∀ p, τ p + v * bC b r (t * b 5) p = bC b n 0 p) →
    ∃ T', spec_BurstTable.l8 K a (n : Int) k (t : Int) W T = some T' ∧ Rep T' (bC b n 0) := by
  have h30 := (hf.1 5 (by omega)).2
  intro r
  induction r with
  | zero =>
    intro t k v W T τ h1 h2 h3 h4 h5 h6 h7
    obtain ⟨k, rfl⟩ : ∃ q, k = q + 1 + 1 := ⟨k - 2, by omega⟩
    have htn : t = n := by omega
    subst htn
    have hwl : t * b 5 ≤ 3 * 30 := Nat.mul_le_mul hn h30
    have hv := Nat.le_trans h4 (six_le t (by omega)).2
    have hWw : W.get ((t * b 5 : Nat) : Int) = ((v : Nat) : Int) := by rw [h5]; dsimp only; rw [if_pos rfl]
    have hW0 : ∀ q : Nat, q ≠ t * b 5 → W.get (q : Int) = 0 := by intro q hq; rw [h5]; dsimp only; rw [if_neg (fun h => hq h.symm)]; rfl
    have hτ : ∀ p, τ p ≤ 1000000 := fun p => by
      have := h7 p
      have := bC_le b t 0 p
      have := (six_le (t + 1) (by omega)).2
      omega
    obtain ⟨T', j1, j2⟩ := burst_l12e K (by omega) a b hf t hn W (Ar.zero 121) (t * b 5) v (by omega) h3 hv hWw τ hτ K 0 T (by omega) (by omega) (rep_congr h6 (fun p => by simp [bA]))
    have h11 := burst_l11 K hK a (t : Int) (t : Int) W T T' (Ar.zero 121) (Ar.zero 121) (t * b 5) (by omega) hW0 j1 121 0 K (by omega) (by omega)
    rw [if_pos (Nat.zero_le _), if_pos (Nat.zero_le _)] at h11
    rw [spec_BurstTable.l8, if_pos (by omega), show spec_BurstTable.l11 K a (t : Int) (t : Int) W K 0 T (Ar.zero 121) = _ from h11, some_bind, w1' t (by omega)]
    dsimp only
    rw [spec_BurstTable.l8, if_neg (by omega)]
    exact ⟨T', rfl, rep_congr j2 (fun p => h7 p)⟩
  | succ r ih =>
    intro t k v W T τ h1 h2 h3 h4 h5 h6 h7
    obtain ⟨k, rfl⟩ : ∃ q, k = q + 1 := ⟨k - 1, by omega⟩
    have hwl : t * b 5 ≤ 3 * 30 := Nat.mul_le_mul (by omega) h30
    have hv := Nat.le_trans h4 (six_le t (by omega)).2
    have hWw : W.get ((t * b 5 : Nat) : Int) = ((v : Nat) : Int) := by rw [h5]; dsimp only; rw [if_pos rfl]
    have hW0 : ∀ q : Nat, q ≠ t * b 5 → W.get (q : Int) = 0 := by intro q hq; rw [h5]; dsimp only; rw [if_neg (fun h => hq h.symm)]; rfl
    have hτ : ∀ p, τ p ≤ 1000000 := fun p => by
      have := h7 p
      have := bC_le b n 0 p
      have := (six_le (n + 1) (by omega)).2
      omega
    obtain ⟨T', N', j1, j2, j3⟩ := burst_l12 K (by omega) a b hf n t (by omega) hn W (t * b 5) v (by omega) h3 hv hWw τ hτ K 0 T (Ar.zero 121) (by omega) (by omega) (rep_congr h6 (fun p => by simp [bE])) (rep_congr rep_zero (fun p => by simp [bM]))
    have h11 := burst_l11 K hK a (n : Int) (t : Int) W T T' (Ar.zero 121) N' (t * b 5) (by omega) hW0 j1 121 0 K (by omega) (by omega)
    rw [if_pos (Nat.zero_le _), if_pos (Nat.zero_le _)] at h11
    rw [spec_BurstTable.l8, if_pos (by omega), show spec_BurstTable.l11 K a (n : Int) (t : Int) W K 0 T (Ar.zero 121) = _ from h11, some_bind, w1' t (by omega)]
    dsimp only
    have hM : 0 < bM b 6 := by rw [bM, if_pos rfl]; omega
    have hM6 : bM b 6 ≤ 6 := by have := bME b 0 0 6; omega
    have et : (t + 1) * b 5 = t * b 5 + b 5 := by rw [Nat.add_mul, Nat.one_mul]
    refine ih (t + 1) k (v * bM b 6) N' T' _ (by omega) (by omega) (Nat.mul_pos h3 hM) (by rw [Nat.pow_succ]; exact Nat.mul_le_mul h4 hM6) (by rw [et]; exact j3) j2 (fun p => ?_)
    have h8 := h7 p
    rw [bC, Nat.mul_add] at h8
    rw [et, show n - t = r + 1 by omega, Nat.mul_assoc, Nat.mul_assoc]
    omega
theorem eqA121_l0 (K : Nat) (a : Ar 121) : ∀ (k n : Nat), n ≤ 121 → 121 - n < k → laws_eqIntA121.l0 K a a k (n : Int) = some (Sum.inl ()) := by
  intro k
  induction k with
  | zero => intro n h1 h2; omega
  | succ k ih =>
    intro n h1 h2
    rw [laws_eqIntA121.l0]
    by_cases hn : n < 121
    · rw [if_pos (by omega), if_pos (by omega), if_pos rfl, w1' n (by omega)]
      exact ih (n + 1) (by omega) (by omega)
    · rw [if_neg (by omega)]
theorem eqA121 (K : Nat) (hK : 200 ≤ K) (a : Ar 121) : laws_eqIntA121.f K a a = some true := by
  unfold laws_eqIntA121.f
  rw [show laws_eqIntA121.l0 K a a K 0 = _ from eqA121_l0 K a K 0 (by omega) (by omega)]
  rfl
theorem BurstTable_same (K : Nat) (hK : 2000000 ≤ K) (a : Ar 6) (x : Int) : ∃ r, spec_BurstTable.f K a x = some r ∧ impl_BurstTable.f K a x = some r := by
  unfold spec_BurstTable.f impl_BurstTable.f
  rw [die_spec K hK, die_impl K hK, in_within, in_eq]
  simp only [some_bind]
  cases hd : dieB a with
  | false => exact ⟨_, rfl, rfl⟩
  | true =>
    simp only [if_true]
    by_cases h : 0 ≤ x ∧ x ≤ 3
    · obtain ⟨n, rfl⟩ : ∃ n : Nat, x = n := ⟨x.toNat, by omega⟩
      have hf := die_faces a hd
      rw [decide_eq_true h]
      simp only [if_true]
      generalize (fun i : Nat => (a.get (i : Int)).toNat) = b at hf
      obtain ⟨T', t1, t2⟩ := burst_l8 K (by omega) a b hf n (by omega) n 0 K 1 ((Ar.zero 121).set 0 1) (Ar.zero 121) (fun _ => 0) (by omega) (by omega) (by omega) (by simp) (by
        intro p
        rw [ar_get_set _ _ _ _ (by omega) (by decide) (by omega), Nat.zero_mul]
        dsimp only
        by_cases hp : 0 = p
        · rw [if_pos (by omega), if_pos hp]; rfl
        · rw [if_neg (by omega), if_neg hp]; exact ar_get_zero _) rep_zero (fun p => by rw [Nat.zero_mul, Nat.one_mul, Nat.zero_add])
      obtain ⟨X', x1, x2⟩ := burst_rec K (by omega) a b hf n K 0 (Ar.zero 121) (fun _ => 0) (by omega) (by omega) (by omega) rep_zero (fun p => by omega)
      have hX : X' = T' := rep_ext (rep_congr x2 (fun p => by rw [Nat.zero_add])) t2
      unfold impl_BurstTable_1__BurstTable_1.f
      rw [show spec_BurstTable.l8 K a (n : Int) K 0 ((Ar.zero 121).set 0 1) (Ar.zero 121) = _ from t1, show impl_BurstTable_1__BurstTable_1.r K K 0 (n : Int) a (Ar.zero 121) = _ from x1, hX]
      exact ⟨_, rfl, rfl⟩
    · rw [decide_eq_false h]
      exact ⟨_, rfl, rfl⟩
theorem BurstTable_pure (a0 : Ar 6) (a1 : Int) (_w0 : ∀ z ∈ a0.l, (Lit.int .i64 z).wf = true) (_w1 : (Lit.int .i64 a1).wf = true) : ∃ K, laws_FnExactBurstTable.f K a0 a1 = some true := by
  obtain ⟨K, hK⟩ : ∃ K : Nat, 2000000 ≤ K := ⟨_, Nat.le_refl _⟩
  refine ⟨K, ?_⟩
  unfold laws_FnExactBurstTable.f
  obtain ⟨r, h1, h2⟩ := BurstTable_same K hK a0 a1
  have t2 := fun a => toA6 K (by omega) a
  have q2 := fun a => eqA121 K (by omega) a
  simp only [t2, h1, h2, q2, some_bind, if_true, beq_self_eq_true]
end Go.Proofs.Ytnjfmhgmbfemdaa.WBurstTable

/- The plain law: what the walk shows to be computed answers true. Conditions: the numbers are 64-bit. -/
import Derived.Test.YtlcogkfjjlclmaaWShapesLike
import Derived.KernelRfl
namespace Go.Proofs.Ytlcogkfjjlclmaa.WShapesLike
open Go.K Go.RowKit
set_option linter.unusedVariables false
set_option linter.unusedSimpArgs false

theorem in_eq (K : Nat) (a lo hi : Int) : impl_within.f K a lo hi = some (decide (lo ≤ a ∧ a ≤ hi)) := by
  unfold impl_within.f
  by_cases h : lo ≤ a <;> simp [h]
theorem in_within : spec_l1In.f = impl_within.f := by kernel_rfl
abbrev PP := Ar 6 × Ar 6
def mkP (a b : Ar 6) : PP := if lexC b.l a.l < 0 then (b, a) else (a, b)
def Rising (l : List PP) : Prop := l.Pairwise fun x y => pairC x y < 0
theorem pairC_self (x : PP) : pairC x x = 0 := lexC_self _
theorem pairC_lt_trans {x y z : PP} (h1 : pairC x y < 0) (h2 : pairC y z < 0) : pairC x z < 0 := by
  have := pairC_trans (x := x) (y := y) (z := z) (by omega) (by omega)
  by_cases h : pairC x z = 0
  · have := this.2 h; omega
  · omega
/-- Two rising lists with the same members are one. -/
theorem rising_eq : ∀ {a b : List PP}, Rising a → Rising b → (∀ x, x ∈ a ↔ x ∈ b) → a = b
  | [], [], _, _, _ => rfl
  | [], y :: b, _, _, h => absurd ((h y).2 (.head _)) (by simp)
  | x :: a, [], _, _, h => absurd ((h x).1 (.head _)) (by simp)
  | x :: a, y :: b, ha, hb, h => by
    have ha' := List.pairwise_cons.1 ha
    have hb' := List.pairwise_cons.1 hb
    have hxy : x = y := by
      rcases List.mem_cons.1 ((h x).1 (.head _)) with e | hx
      · exact e
      · rcases List.mem_cons.1 ((h y).2 (.head _)) with e | hy
        · exact e.symm
        · have h1 := hb'.1 x hx
          have h2 := ha'.1 y hy
          have := pairC_neg x y
          omega
    subst hxy
    have hns : ∀ {l : List PP}, Rising (x :: l) → x ∉ l := by
      intro l hl hx
      have := (List.pairwise_cons.1 hl).1 x hx
      rw [pairC_self] at this
      omega
    rw [rising_eq ha'.2 hb'.2 (fun z => ?_)]
    constructor
    · intro hz
      rcases List.mem_cons.1 ((h z).1 (.tail _ hz)) with e | hz'
      · subst e; exact absurd hz (hns ha)
      · exact hz'
    · intro hz
      rcases List.mem_cons.1 ((h z).2 (.tail _ hz)) with e | hz'
      · subst e; exact absurd hz (hns hb)
      · exact hz'
theorem before_l0 (K : Nat) (a b : Ar 6) : ∀ (k n : Nat), n ≤ 6 → 6 - n < k → spec_l2Before.l0 K a b k (n : Int) = some (if lexC (a.l.drop n) (b.l.drop n) = 0 then Sum.inl () else Sum.inr (decide (lexC (a.l.drop n) (b.l.drop n) < 0))) := by
  intro k
  induction k with
  | zero => intro n h1 h2; omega
  | succ k ih =>
    intro n h1 h2
    rw [spec_l2Before.l0]
    have hla := a.h
    have hlb := b.h
    by_cases hn : n < 6
    · have d1 : a.l.drop n = a.l[n] :: a.l.drop (n + 1) := List.drop_eq_getElem_cons (by omega)
      have d2 : b.l.drop n = b.l[n] :: b.l.drop (n + 1) := List.drop_eq_getElem_cons (by omega)
      have g1 : a.get (n : Int) = a.l[n] := by unfold Ar.get; rw [Int.toNat_natCast]; exact getD_nat _ _ _ (by omega)
      have g2 : b.get (n : Int) = b.l[n] := by unfold Ar.get; rw [Int.toNat_natCast]; exact getD_nat _ _ _ (by omega)
      have c1 : (n : Int) < 6 := by omega
      have c2 : (0 : Int) ≤ (n : Int) ∧ (n : Int) < 6 := by omega
      have ih' := ih (n + 1) (by omega) (by omega)
      rw [if_pos c1, if_pos c2, g1, g2, w1' n (by omega), d1, d2, lexC]
      generalize lexC (a.l.drop (n + 1)) (b.l.drop (n + 1)) = L at ih' ⊢
      generalize a.l[n] = p at *
      generalize b.l[n] = q at *
      by_cases h3 : p = q
      · have e : (if p < q then (-1 : Int) else if q < p then 1 else L) = L := by rw [if_neg (by omega), if_neg (by omega)]
        rw [if_pos h3, e]
        exact ih'
      · rw [if_neg h3]
        by_cases h4 : p < q
        · have e : (if p < q then (-1 : Int) else if q < p then 1 else L) = -1 := if_pos h4
          rw [e, decide_eq_true h4]; rfl
        · have e : (if p < q then (-1 : Int) else if q < p then 1 else L) = 1 := by rw [if_neg h4, if_pos (by omega)]
          rw [e, decide_eq_false h4]; rfl
    · have : n = 6 := by omega
      subst this
      rw [if_neg (by omega), List.drop_of_length_le (by omega), List.drop_of_length_le (by omega)]
      rfl
theorem before_eq (K : Nat) (hK : 100 ≤ K) (a b : Ar 6) : spec_l2Before.f K a b = some (decide (lexC a.l b.l < 0)) := by
  unfold spec_l2Before.f
  have h := before_l0 K a b K 0 (by omega) (by omega)
  rw [show spec_l2Before.l0 K a b K 0 = _ from h]
  simp only [some_bind, List.drop_zero]
  by_cases hc : lexC a.l b.l = 0
  · rw [if_pos hc, hc]; rfl
  · rw [if_neg hc]
theorem l5Pair_eq (K : Nat) (hK : 100 ≤ K) (a b : Ar 6) : spec_l5Pair.f K a b = some (mkP a b) := by
  unfold spec_l5Pair.f mkP
  rw [before_eq K hK, some_bind]
  by_cases h : lexC b.l a.l < 0
  · rw [if_pos (decide_eq_true h), if_pos h]
  · rw [if_neg (by simpa using h), if_neg h]
theorem lexC_neg6 (a b : Ar 6) : lexC b.l a.l = - lexC a.l b.l := lexC_neg (by rw [a.h, b.h])
theorem pairOf_eq (K : Nat) (hK : 100 ≤ K) (a b : Ar 6) : impl_pairOf.f K a b = some (mkP a b) := by
  unfold impl_pairOf.f mkP
  have := lexC_neg6 a b
  rw [compareDice_eq K hK, some_bind]
  by_cases h : 0 < lexC a.l b.l
  · rw [if_pos h, if_pos (by omega)]
  · rw [if_neg h, if_neg (by omega)]
theorem mkP_comm (a b : Ar 6) : mkP a b = mkP b a := by
  unfold mkP
  have := lexC_neg6 a b
  by_cases h : lexC b.l a.l < 0
  · rw [if_pos h, if_neg (by omega)]
  · rw [if_neg h]
    by_cases h2 : lexC a.l b.l < 0
    · rw [if_pos h2]
    · rw [if_neg h2]
      have h3 := lexC_zero (by rw [a.h, b.h]) (show lexC a.l b.l = 0 by omega)
      rw [Ar.ext h3]
theorem mkP_cases (a b : Ar 6) : mkP a b = (a, b) ∨ mkP a b = (b, a) := by
  unfold mkP
  split
  · exact .inr rfl
  · exact .inl rfl
theorem less_eq (K : Nat) (hK : 100 ≤ K) (x y : PP) : spec_l5Less.f K x y = some (decide (pairC x y < 0)) := by
  unfold spec_l5Less.f pairC
  rw [before_eq K hK, before_eq K hK, lexC_append (by rw [x.1.h, y.1.h]), some_bind, some_bind]
  by_cases h : x.1 = y.1
  · rw [if_pos h, h, if_neg (by rw [lexC_self]; simp)]
  · have : lexC x.1.l y.1.l ≠ 0 := fun e => h (Ar.ext (lexC_zero (by rw [x.1.h, y.1.h]) e))
    rw [if_neg h, if_pos this]
theorem put_l0 (K : Nat) (hK : 100 ≤ K) (l : List PP) (x : PP) (hl : l.length ≤ 1000000) : ∀ (k n : Nat), n ≤ l.length → l.length - n < k → (∀ i (hi : i < l.length), i < n → pairC l[i] x < 0) → ∃ m : Nat, m ≤ l.length ∧ spec_l5Put.l0 K l x k (n : Int) = some (m : Int) ∧ (∀ i (hi : i < l.length), i < m → pairC l[i] x < 0) ∧ ∀ hm : m < l.length, ¬ pairC l[m] x < 0 := by
  intro k
  induction k with
  | zero => intro n h1 h2; omega
  | succ k ih =>
    intro n h1 h2 h3
    rw [spec_l5Put.l0]
    by_cases hn : n < l.length
    · rw [if_pos (by omega), if_pos (by omega), Int.toNat_natCast, getD_nat _ _ _ hn, less_eq K hK, some_bind]
      by_cases hc : pairC l[n] x < 0
      · rw [if_pos (decide_eq_true hc), w1' n (by omega)]
        refine ih (n + 1) (by omega) (by omega) (fun i hi hin => ?_)
        by_cases he : i = n
        · subst he; exact hc
        · exact h3 i hi (by omega)
      · rw [if_neg (by simpa using hc)]
        exact ⟨n, h1, rfl, h3, fun _ => hc⟩
    · rw [if_neg (by omega)]
      exact ⟨n, h1, rfl, h3, fun hm => absurd hm hn⟩
theorem put_ok (K : Nat) (hK : 2000000 ≤ K) (l : List PP) (x : PP) (hl : l.length ≤ 1000000) (hr : Rising l) : ∃ l', spec_l5Put.f K l x = some l' ∧ Rising l' ∧ (∀ y, y ∈ l' ↔ y = x ∨ y ∈ l) ∧ l'.length ≤ l.length + 1 := by
  obtain ⟨m, h1, h2, h3, h4⟩ := put_l0 K (by omega) l x hl K 0 (by omega) (by omega) (fun i _ hi => by omega)
  have hp := List.pairwise_iff_getElem.1 hr
  unfold spec_l5Put.f
  rw [show spec_l5Put.l0 K l x K 0 = _ from h2, some_bind]
  have hnew : (∀ hm : m < l.length, l[m] ≠ x) → Rising (l.take m ++ [x] ++ l.drop m) := by
    intro hne
    unfold Rising
    rw [List.append_assoc, List.pairwise_append]
    refine ⟨hr.sublist (List.take_sublist _ _), ?_, ?_⟩
    · rw [List.singleton_append, List.pairwise_cons]
      refine ⟨fun y hy => ?_, hr.sublist (List.drop_sublist _ _)⟩
      obtain ⟨i, hi⟩ := List.getElem?_of_mem hy
      rw [List.getElem?_drop] at hi
      obtain ⟨hil, rfl⟩ := List.getElem?_eq_some_iff.1 hi
      have hm : m < l.length := by omega
      have e1 := h4 hm
      have e2 : pairC l[m] x ≠ 0 := fun e => hne hm (pairC_zero e)
      have e3 := pairC_neg l[m] x
      have e4 : pairC x l[m] < 0 := by omega
      by_cases hi0 : i = 0
      · subst hi0; exact e4
      · exact pairC_lt_trans e4 (hp m (m + i) hm hil (by omega))
    · intro y hy z hz
      obtain ⟨i, hi⟩ := List.getElem?_of_mem hy
      rw [List.getElem?_take] at hi
      split at hi
      · rename_i him
        obtain ⟨hil, rfl⟩ := List.getElem?_eq_some_iff.1 hi
        have e1 := h3 i hil him
        rcases List.mem_append.1 hz with hz | hz
        · rw [List.mem_singleton.1 hz]; exact e1
        · obtain ⟨j, hj⟩ := List.getElem?_of_mem hz
          rw [List.getElem?_drop] at hj
          obtain ⟨hjl, rfl⟩ := List.getElem?_eq_some_iff.1 hj
          exact hp i (m + j) hil hjl (by omega)
      · cases hi
  have hmem : ∀ y, y ∈ l.take m ++ [x] ++ l.drop m ↔ y = x ∨ y ∈ l := by
    intro y
    conv => rhs; rw [← List.take_append_drop m l]
    simp only [List.mem_append, List.mem_singleton]
    constructor
    · rintro ((h | h) | h)
      · exact .inr (.inl h)
      · exact .inl h
      · exact .inr (.inr h)
    · rintro (h | h | h)
      · exact .inl (.inr h)
      · exact .inl (.inl h)
      · exact .inr h
  have hlen : (l.take m ++ [x] ++ l.drop m).length ≤ l.length + 1 := by simp; omega
  have e1 : ([] : List PP) ++ ((l.take m).drop 0) ++ [x] ++ ((l.take l.length).drop m) = l.take m ++ [x] ++ l.drop m := by simp
  have hgo : (∀ hm : m < l.length, l[m] ≠ x) → ∃ l', (if 0 ≤ (0 : Int) ∧ (0 : Int) ≤ (m : Int) ∧ (m : Int) ≤ (l.length : Int) then (if ([] : List PP).length + ((l.take (m : Int).toNat).drop (0 : Int).toNat).length ≤ 1073741824 then (if (([] : List PP) ++ ((l.take (m : Int).toNat).drop (0 : Int).toNat)).length + [x].length ≤ 1073741824 then (if 0 ≤ (m : Int) ∧ (m : Int) ≤ (l.length : Int) ∧ (l.length : Int) ≤ (l.length : Int) then (if ((([] : List PP) ++ ((l.take (m : Int).toNat).drop (0 : Int).toNat)) ++ [x]).length + ((l.take l.length).drop (m : Int).toNat).length ≤ 1073741824 then (some (((([] : List PP) ++ ((l.take (m : Int).toNat).drop (0 : Int).toNat)) ++ [x]) ++ ((l.take l.length).drop (m : Int).toNat))) else none) else none) else none) else none) else none) = some l' ∧ Rising l' ∧ (∀ y, y ∈ l' ↔ y = x ∨ y ∈ l) ∧ l'.length ≤ l.length + 1 := by
    intro hne
    rw [if_pos (by omega), if_pos (by simp; omega), if_pos (by simp; omega), if_pos (by omega), if_pos (by simp; omega), Int.toNat_natCast, show (0 : Int).toNat = 0 from rfl, e1]
    exact ⟨_, rfl, hnew hne, hmem, hlen⟩
  by_cases hm : m < l.length
  · rw [if_pos (by omega), if_pos (by omega), Int.toNat_natCast, getD_nat _ _ _ hm]
    by_cases he : l[m] = x
    · rw [if_pos he]
      refine ⟨l, rfl, hr, fun y => ⟨.inr, ?_⟩, by omega⟩
      rintro (rfl | h)
      · rw [← he]; exact List.getElem_mem hm
      · exact h
    · rw [if_neg he]
      have := hgo (fun _ => he)
      rw [Int.toNat_natCast] at this
      exact this
  · rw [if_neg (by omega)]
    exact hgo (fun h => absurd h hm)
theorem w1 (n : Nat) (h : n ≤ 4000000000000000000) : wrap64 ((n : Int) + 1) = ((n + 1 : Nat) : Int) := by rw [w64 (by omega) (by omega)]; omega
theorem ar_get_set {n : Nat} (a : Ar n) (i j v : Int) (h0 : 0 ≤ i) (h1 : i < n) (h2 : 0 ≤ j) : (a.set i v).get j = if j = i then v else a.get j := by
  unfold Ar.get Ar.set
  simp only [List.getD_eq_getElem?_getD]
  by_cases h : j = i
  · subst h
    rw [if_pos rfl, List.getElem?_set_self (by rw [a.h]; omega)]
    rfl
  · rw [if_neg h, List.getElem?_set_ne (by omega)]
theorem ar_get_zero {n : Nat} (j : Int) : (Ar.zero n).get j = 0 := by
  unfold Ar.get Ar.zero
  simp only [List.getD_eq_getElem?_getD, List.getElem?_replicate]
  split <;> rfl
def faceB (a : Int) : Bool := decide (0 ≤ a ∧ a ≤ 30)
theorem isFace_eq (K : Nat) (_hK : 2000000 ≤ K) (a : Int) : impl_isFace.f K a = some (faceB a) := by
  unfold impl_isFace.f
  rw [in_eq]; rfl
theorem allFace_l0 (K : Nat) (hK : 2000000 ≤ K) (l : List Int) (h : l.length ≤ 1073741824) : ∀ (k n : Nat), n ≤ l.length → l.length - n < k →
    (slices_IndexFunc_int_int__areAll_int_1_isFace.l0 K l k (n : Int) = some (Sum.inl ()) ∧ (l.drop n).all faceB = true) ∨ (∃ i : Int, 0 ≤ i ∧ slices_IndexFunc_int_int__areAll_int_1_isFace.l0 K l k (n : Int) = some (Sum.inr i) ∧ (l.drop n).all faceB = false) := by
  intro k
  induction k with
  | zero => intro n h1 h2; omega
  | succ k ih =>
    intro n h1 h2
    rw [slices_IndexFunc_int_int__areAll_int_1_isFace.l0]
    by_cases hn : (n : Int) < (l.length : Int)
    · have hn' : n < l.length := by omega
      have hnn : ((n : Int)).toNat = n := by omega
      have hd : l.drop n = l[n] :: l.drop (n + 1) := List.drop_eq_getElem_cons hn'
      have hg : l.getD n (0 : Int) = l[n] := by rw [List.getD_eq_getElem?_getD, List.getElem?_eq_getElem hn']; rfl
      rw [if_pos hn, if_pos (by omega), w1 n (by omega), hnn, hg, impl_areAll_int_1__isFace.f, isFace_eq K hK, hd]
      simp only [some_bind, List.all_cons]
      rcases Bool.eq_false_or_eq_true (faceB l[n]) with e | e
      · rw [e]
        simp only [Bool.not_true, Bool.false_eq_true, if_false, Bool.true_and]
        exact ih (n + 1) (by omega) (by omega)
      · rw [e]
        simp only [Bool.not_false, if_true, Bool.false_and]
        exact .inr ⟨_, by omega, rfl, trivial⟩
    · rw [if_neg hn]
      have : n = l.length := by omega
      subst this
      exact .inl ⟨rfl, by simp⟩
theorem allFace_eq (K : Nat) (hK : 2000000 ≤ K) (l : List Int) (h : l.length ≤ 1048576) : impl_areAll_int__isFace.f K l = some (l.all faceB) := by
  unfold impl_areAll_int__isFace.f slices_ContainsFunc_int_int__areAll_int_1_isFace.f slices_IndexFunc_int_int__areAll_int_1_isFace.f
  rcases allFace_l0 K hK l (by omega) K 0 (by omega) (by omega) with ⟨h1, h2⟩ | ⟨i, hi, h1, h2⟩
  · rw [show (0 : Int) = ((0 : Nat) : Int) from rfl, h1]
    simp only [some_bind, List.drop_zero] at h2 ⊢
    rw [h2]; rfl
  · rw [show (0 : Int) = ((0 : Nat) : Int) from rfl, h1]
    simp only [some_bind, List.drop_zero] at h2 ⊢
    rw [h2]
    have : decide (((0 : Nat) : Int) ≤ i) = true := decide_eq_true (by simpa using hi)
    rw [this]; rfl
def dieP (a : Ar 6) : Prop := ((0 ≤ a.get 0 ∧ a.get 0 ≤ 30) ∧ (0 ≤ a.get 1 ∧ a.get 1 ≤ 30) ∧ (0 ≤ a.get 2 ∧ a.get 2 ≤ 30) ∧ (0 ≤ a.get 3 ∧ a.get 3 ≤ 30) ∧ (0 ≤ a.get 4 ∧ a.get 4 ≤ 30) ∧ (0 ≤ a.get 5 ∧ a.get 5 ≤ 30)) ∧ (a.get 0 ≤ a.get 1 ∧ a.get 1 ≤ a.get 2 ∧ a.get 2 ≤ a.get 3 ∧ a.get 3 ≤ a.get 4 ∧ a.get 4 ≤ a.get 5)
instance (a : Ar 6) : Decidable (dieP a) := by unfold dieP; infer_instance
def dieB (a : Ar 6) : Bool := decide (dieP a)
theorem die_get (x y z u v w : Int) : (Ar.get (⟨[x, y, z, u, v, w], rfl⟩ : Ar 6) 0 = x ∧ Ar.get (⟨[x, y, z, u, v, w], rfl⟩ : Ar 6) 1 = y ∧ Ar.get (⟨[x, y, z, u, v, w], rfl⟩ : Ar 6) 2 = z) ∧ (Ar.get (⟨[x, y, z, u, v, w], rfl⟩ : Ar 6) 3 = u ∧ Ar.get (⟨[x, y, z, u, v, w], rfl⟩ : Ar 6) 4 = v ∧ Ar.get (⟨[x, y, z, u, v, w], rfl⟩ : Ar 6) 5 = w) := ⟨⟨rfl, rfl, rfl⟩, rfl, rfl, rfl⟩
set_option maxHeartbeats 4000000 in
theorem die_spec (K : Nat) (hK : 2000000 ≤ K) (a : Ar 6) : spec_l2Die.f K a = some (dieB a) := by
  obtain ⟨k, rfl⟩ := Nat.exists_eq_add_of_le (show 8 ≤ K by omega)
  obtain ⟨x, y, z, u, v, w, rfl⟩ := Ar.cases6 a
  have e : 8 + k = k + 1 + 1 + 1 + 1 + 1 + 1 + 1 + 1 := by omega
  unfold spec_l2Die.f dieB dieP
  obtain ⟨⟨g0, g1, g2⟩, g3, g4, g5⟩ := die_get x y z u v w
  rw [e]
  simp only [spec_l2Die.l0, in_within, in_eq, some_bind, show (0 : Int) < 6 by decide, show wrap64 (0 + 1) = 1 by decide +kernel, show wrap64 (1 + 1) = 2 by decide +kernel, show wrap64 (2 + 1) = 3 by decide +kernel, show wrap64 (3 + 1) = 4 by decide +kernel, show wrap64 (4 + 1) = 5 by decide +kernel, show wrap64 (5 + 1) = 6 by decide +kernel, show wrap64 (1 - 1) = 0 by decide +kernel, show wrap64 (2 - 1) = 1 by decide +kernel, show wrap64 (3 - 1) = 2 by decide +kernel, show wrap64 (4 - 1) = 3 by decide +kernel, show wrap64 (5 - 1) = 4 by decide +kernel, g0, g1, g2, g3, g4, g5, decide_eq_true_eq]
  simp
  repeat' split
  all_goals simp_all
  all_goals omega
set_option maxHeartbeats 4000000 in
theorem die_impl (K : Nat) (hK : 2000000 ≤ K) (a : Ar 6) : impl_IsDie.f K a = some (dieB a) := by
  obtain ⟨x, y, z, u, v, w, rfl⟩ := Ar.cases6 a
  unfold impl_IsDie.f dieB dieP
  rw [allFace_eq K hK _ (by simp)]
  obtain ⟨k, rfl⟩ := Nat.exists_eq_add_of_le (show 8 ≤ K by omega)
  have e : 8 + k = k + 1 + 1 + 1 + 1 + 1 + 1 + 1 + 1 := by omega
  obtain ⟨⟨g0, g1, g2⟩, g3, g4, g5⟩ := die_get x y z u v w
  unfold slices_IsSorted_int_int.f
  rw [e]
  simp [slices_IsSorted_int_int.l0, cmp_Less_int.f, cmp_isNaN_int.f, some_bind, show wrap64 (6 - 1) = 5 by decide +kernel, show wrap64 5 = 5 by decide +kernel, show wrap64 (5 - 1) = 4 by decide +kernel, show wrap64 (4 - 1) = 3 by decide +kernel, show wrap64 (3 - 1) = 2 by decide +kernel, show wrap64 (2 - 1) = 1 by decide +kernel, show wrap64 (1 - 1) = 0 by decide +kernel, show wrap64 4 = 4 by decide +kernel, show wrap64 3 = 3 by decide +kernel, show wrap64 2 = 2 by decide +kernel, show wrap64 1 = 1 by decide +kernel, show wrap64 0 = 0 by decide +kernel, g0, g1, g2, g3, g4, g5, faceB]
  repeat' split
  all_goals simp_all
  all_goals omega
theorem die_faces (a : Ar 6) (h : dieB a = true) : ∀ z ∈ a.l, 0 ≤ z ∧ z ≤ 30 := by
  obtain ⟨x, y, z, u, v, w, rfl⟩ := Ar.cases6 a
  replace h := of_decide_eq_true h
  unfold dieP at h
  obtain ⟨⟨g0, g1, g2⟩, g3, g4, g5⟩ := die_get x y z u v w
  rw [g0, g1, g2, g3, g4, g5] at h
  intro t ht
  simp only [List.mem_cons, List.not_mem_nil, or_false] at ht
  omega
def Tab (m : Int) (B : Int) (t : Ar 121) : Prop := ∀ s : Int, 0 ≤ s → s < 121 → (0 ≤ t.get s ∧ t.get s ≤ B) ∧ (m < s → t.get s = 0)
theorem die_face (a : Ar 6) (h : dieB a = true) (i : Int) (h0 : 0 ≤ i) (h1 : i < 6) : 0 ≤ a.get i ∧ a.get i ≤ 30 := by
  refine die_faces a h _ ?_
  unfold Ar.get
  have hl : i.toNat < a.l.length := by rw [a.h]; omega
  rw [List.getD_eq_getElem?_getD, List.getElem?_eq_getElem hl]
  exact List.getElem_mem hl
theorem table_l12 (K : Nat) (l : List (Ar 6)) (d : Nat) (hd : d < l.length) (hdie : dieB (l.getD d (Ar.zero 6)) = true) (cur : Ar 121) (M m : Int) (hc : Tab m M cur) (hM : 0 ≤ M) (hMM : M ≤ 1000000000000) (hm : m + 30 < 121) (s : Nat) (hs : s < 121) (hpos : 0 < cur.get (s : Int)) :
    ∀ (k n : Nat) (B : Int) (t : Ar 121), n ≤ 6 → 6 - n < k → Tab (m + 30) B t → 0 ≤ B → B + M * (6 - n) ≤ 4000000000000000000 → ∃ r, spec_l2Table.l12 K l (d : Int) cur (s : Int) k (n : Int) t = some r ∧ impl_sums.l12 K l (d : Int) cur (s : Int) k (n : Int) t = some r ∧ Tab (m + 30) (B + M * (6 - n)) r := by
  intro k
  induction k with
  | zero => intro n B t h1 h2; omega
  | succ k ih =>
    intro n B t h1 h2 h3 h4 h5
    rw [spec_l2Table.l12, impl_sums.l12]
    by_cases hn : (n : Int) < 6
    · have c1 : (0 : Int) ≤ (s : Int) ∧ (s : Int) < 121 := by omega
      have c2 : (0 : Int) ≤ (d : Int) ∧ (d : Int) < (l.length : Int) := by omega
      have c3 : (0 : Int) ≤ (n : Int) ∧ (n : Int) < 6 := by omega
      have hdn : ((d : Int)).toNat = d := by omega
      rw [hdn]
      have hf := die_face _ hdie (n : Int) (by omega) (by omega)
      generalize (l.getD d (Ar.zero 6)).get (n : Int) = f at hf ⊢
      have hsm : (s : Int) ≤ m := by
        rcases Int.lt_or_le m (s : Int) with h | h
        · have := (hc s (by omega) (by omega)).2 h; omega
        · exact h
      have e1 : wrap64 ((s : Int) + f) = (s : Int) + f := w64 (by omega) (by omega)
      have c4 : (0 : Int) ≤ (s : Int) + f ∧ (s : Int) + f < 121 := by omega
      have hcs := (hc s (by omega) (by omega)).1
      have hts := (h3 ((s : Int) + f) (by omega) (by omega)).1
      have e2 : M * (6 - (n : Int)) = M + M * (6 - ((n + 1 : Nat) : Int)) := by
        rw [show (6 : Int) - (n : Int) = 1 + (6 - ((n + 1 : Nat) : Int)) by omega, Int.mul_add, Int.mul_one]
      have e3 : 0 ≤ M * (6 - ((n + 1 : Nat) : Int)) := Int.mul_nonneg hM (by omega)
      have e4 : wrap64 (t.get ((s : Int) + f) + cur.get (s : Int)) = t.get ((s : Int) + f) + cur.get (s : Int) := w64 (by omega) (by omega)
      simp only [if_pos hn, if_pos c1, if_pos hpos, if_pos c2, if_pos c3, e1, if_pos c4, e4, w1 n (by omega)]
      rw [e2, ← Int.add_assoc]
      refine ih (n + 1) (B + M) _ (by omega) (by omega) ?_ (by omega) (by omega)
      intro j hj0 hj1
      rw [ar_get_set _ _ _ _ (by omega) (by omega) hj0]
      have hj := h3 j hj0 hj1
      by_cases hjs : j = (s : Int) + f
      · rw [if_pos hjs]
        exact ⟨⟨by omega, by omega⟩, fun h => by omega⟩
      · rw [if_neg hjs]
        exact ⟨⟨hj.1.1, by omega⟩, hj.2⟩
    · have : n = 6 := by omega
      subst this
      rw [if_neg hn, if_neg hn]
      exact ⟨t, rfl, rfl, by simpa using h3⟩
theorem table_skip (K : Nat) (l : List (Ar 6)) (d : Int) (cur : Ar 121) (s : Nat) (hs : s < 121) (hz : cur.get (s : Int) = 0) : ∀ (k n : Nat) (t : Ar 121), n ≤ 6 → 6 - n < k → spec_l2Table.l12 K l d cur (s : Int) k (n : Int) t = some t := by
  intro k
  induction k with
  | zero => intro n t h1 h2; omega
  | succ k ih =>
    intro n t h1 h2
    rw [spec_l2Table.l12]
    by_cases hn : (n : Int) < 6
    · rw [if_pos hn, if_pos (by omega), if_neg (by omega), w1 n (by omega)]
      exact ih (n + 1) t (by omega) (by omega)
    · rw [if_neg hn]
theorem table_l11 (K : Nat) (hK : 1000 ≤ K) (l : List (Ar 6)) (d : Nat) (hd : d < l.length) (hdie : dieB (l.getD d (Ar.zero 6)) = true) (cur : Ar 121) (M m : Int) (hc : Tab m M cur) (hM : 0 ≤ M) (hMM : M ≤ 1000000000000) (hm : m + 30 < 121) :
    ∀ (k s : Nat) (t : Ar 121), s ≤ 121 → 121 - s < k → Tab (m + 30) (M * (6 * s)) t → ∃ r, spec_l2Table.l11 K l (d : Int) cur k (s : Int) t = some r ∧ impl_sums.l11 K l (d : Int) cur k (s : Int) t = some r ∧ Tab (m + 30) (M * 726) r := by
  intro k
  induction k with
  | zero => intro s t h1 h2; omega
  | succ k ih =>
    intro s t h1 h2 h3
    rw [spec_l2Table.l11, impl_sums.l11]
    by_cases hn : (s : Int) < 121
    · have c1 : (0 : Int) ≤ (s : Int) ∧ (s : Int) < 121 := by omega
      have hB : 0 ≤ M * (6 * (s : Int)) := Int.mul_nonneg hM (by omega)
      have hB2 : M * (6 * (s : Int)) ≤ M * 726 := Int.mul_le_mul_of_nonneg_left (by omega) hM
      have e2 : M * (6 * ((s + 1 : Nat) : Int)) = M * (6 * (s : Int)) + M * 6 := by
        rw [← Int.mul_add, show 6 * ((s + 1 : Nat) : Int) = 6 * (s : Int) + 6 by omega]
      simp only [if_pos hn, if_pos c1, w1 s (by omega)]
      by_cases hz : cur.get (s : Int) = 0
      · rw [if_pos hz, show spec_l2Table.l12 K l (d : Int) cur (s : Int) K 0 t = some t from table_skip K l d cur s (by omega) hz K 0 t (by omega) (by omega)]
        simp only [some_bind]
        refine ih (s + 1) t (by omega) (by omega) ?_
        intro j hj0 hj1
        have hj := h3 j hj0 hj1
        rw [e2]
        exact ⟨⟨hj.1.1, by omega⟩, hj.2⟩
      · have hp := (hc s (by omega) (by omega)).1
        obtain ⟨r, r1, r2, r3⟩ := table_l12 K l d hd hdie cur M m hc hM hMM hm s (by omega) (by omega) K 0 (M * (6 * (s : Int))) t (by omega) (by omega) h3 hB (by simp; omega)
        rw [if_neg hz, show spec_l2Table.l12 K l (d : Int) cur (s : Int) K 0 t = some r from r1, show impl_sums.l12 K l (d : Int) cur (s : Int) K 0 t = some r from r2]
        simp only [some_bind]
        refine ih (s + 1) r (by omega) (by omega) ?_
        rw [e2]
        simpa using r3
    · have : s = 121 := by omega
      subst this
      rw [if_neg hn, if_neg hn]
      exact ⟨t, rfl, rfl, by simpa using h3⟩
theorem table_l8 (K : Nat) (hK : 1000 ≤ K) (l : List (Ar 6)) (hl : l.length ≤ 4) (hd : ∀ a ∈ l, dieB a = true) :
    ∀ (k d : Nat) (t : Ar 121), d ≤ l.length → l.length - d < k → Tab (30 * d) (726 ^ d) t → ∃ r, spec_l2Table.l8 K l k (d : Int) t = some r ∧ impl_sums.l8 K l k (d : Int) t = some r ∧ Tab 120 1000000000000 r := by
  intro k
  induction k with
  | zero => intro d t h1 h2; omega
  | succ k ih =>
    intro d t h1 h2 h3
    have hp : (726 : Int) ^ d ≤ 300000000000 ∧ 0 ≤ (726 : Int) ^ d := by
      rcases (show d = 0 ∨ d = 1 ∨ d = 2 ∨ d = 3 ∨ d = 4 by omega) with rfl | rfl | rfl | rfl | rfl <;> decide
    rw [spec_l2Table.l8, impl_sums.l8]
    by_cases hn : (d : Int) < (l.length : Int)
    · have hn' : d < l.length := by omega
      have c1 : (0 : Int) ≤ (d : Int) ∧ (d : Int) < (l.length : Int) := by omega
      have hdie : dieB (l.getD d (Ar.zero 6)) = true := by
        rw [List.getD_eq_getElem?_getD, List.getElem?_eq_getElem hn']
        exact hd _ (List.getElem_mem hn')
      obtain ⟨r, r1, r2, r3⟩ := table_l11 K hK l d hn' hdie t ((726 : Int) ^ d) (30 * (d : Int)) h3 hp.2 (by omega) (by omega) K 0 (Ar.zero 121) (by omega) (by omega) (by
        intro j _ _
        rw [ar_get_zero]
        exact ⟨by simp, fun _ => rfl⟩)
      rw [if_pos hn, if_pos hn, if_pos c1, show spec_l2Table.l11 K l (d : Int) t K 0 (Ar.zero 121) = some r from r1, show impl_sums.l11 K l (d : Int) t K 0 (Ar.zero 121) = some r from r2, w1 d (by omega)]
      simp only [some_bind]
      refine ih (d + 1) r (by omega) (by omega) ?_
      rw [Int.pow_succ, show (30 : Int) * ((d + 1 : Nat) : Int) = 30 * (d : Int) + 30 by omega]
      exact r3
    · rw [if_neg hn, if_neg hn]
      refine ⟨t, rfl, rfl, fun j hj0 hj1 => ?_⟩
      have hj := h3 j hj0 hj1
      exact ⟨⟨hj.1.1, by omega⟩, fun h => by omega⟩
theorem table_eq (K : Nat) (hK : 1000 ≤ K) (l : List (Ar 6)) (hl : l.length ≤ 4) (hd : ∀ a ∈ l, dieB a = true) : ∃ r, spec_l2Table.f K l = some r ∧ impl_sums.f K l = some r ∧ Tab 120 1000000000000 r := by
  obtain ⟨r, r1, r2, r3⟩ := table_l8 K hK l hl hd K 0 ((Ar.zero 121).set 0 1) (by omega) (by omega) (by
    intro j hj0 hj1
    rw [ar_get_set _ _ _ _ (by omega) (by omega) hj0, ar_get_zero]
    by_cases h : j = 0
    · rw [if_pos h]; exact ⟨by simp, fun h' => by omega⟩
    · rw [if_neg h]; exact ⟨by simp, fun _ => rfl⟩)
  unfold spec_l2Table.f impl_sums.f
  rw [show spec_l2Table.l8 K l K 0 ((Ar.zero 121).set 0 1) = some r from r1, show impl_sums.l8 K l K 0 ((Ar.zero 121).set 0 1) = some r from r2]
  exact ⟨r, rfl, rfl, r3⟩
def wt (a : Ar 6) (x : Int) : Nat := a.l.count x
theorem wt_le (a : Ar 6) (x : Int) : wt a x ≤ 6 := by
  have := List.count_le_length (a := x) (l := a.l)
  rw [a.h] at this
  exact this
theorem ar_drop (a : Ar 6) (n : Nat) (h : n < 6) : a.l.drop n = a.get (n : Int) :: a.l.drop (n + 1) := by
  have hn : n < a.l.length := by rw [a.h]; exact h
  rw [List.drop_eq_getElem_cons hn]
  congr 1
  unfold Ar.get
  rw [show ((n : Int)).toNat = n by omega, List.getD_eq_getElem?_getD, List.getElem?_eq_getElem hn]
  rfl
def sumN : Nat → (Nat → Int) → Int
  | 0, _ => 0
  | n + 1, g => sumN n g + g n
theorem sumN_congr : ∀ (n : Nat) (g h : Nat → Int), (∀ i, i < n → g i = h i) → sumN n g = sumN n h
  | 0, _, _, _ => rfl
  | n + 1, g, h, e => by rw [sumN, sumN, sumN_congr n g h (fun i hi => e i (by omega)), e n (by omega)]
theorem sumN_add (n : Nat) (g h : Nat → Int) : sumN n (fun i => g i + h i) = sumN n g + sumN n h := by
  induction n with
  | zero => rfl
  | succ n ih => rw [sumN, sumN, sumN, ih]; omega
theorem sumN_zero (n : Nat) : sumN n (fun _ => 0) = 0 := by
  induction n with
  | zero => rfl
  | succ n ih => rw [sumN, ih]; rfl
theorem sumN_range (n : Nat) (g : Nat → Int) (B : Int) (h : ∀ i, i < n → 0 ≤ g i ∧ g i ≤ B) : 0 ≤ sumN n g ∧ sumN n g ≤ n * B := by
  induction n with
  | zero => simp [sumN]
  | succ n ih =>
    obtain ⟨h1, h2⟩ := ih (fun i hi => h i (by omega))
    obtain ⟨h3, h4⟩ := h n (by omega)
    rw [sumN]
    refine ⟨by omega, ?_⟩
    have : ((n + 1 : Nat) : Int) * B = n * B + B := by rw [Int.natCast_add, Int.add_mul]; simp
    omega
/-- A sum over the faces is one over the different numbers. -/
theorem faces_sum (g : Int → Int) (V : List Int) (hV : V.Nodup) : ∀ l : List Int, (∀ x ∈ l, x ∈ V) → (l.map g).sum = sumN V.length (fun j => (l.count (V.getD j 0) : Int) * g (V.getD j 0))
  | [], _ => by
    simp only [List.map_nil, List.sum_nil, List.count_nil, Int.natCast_zero, Int.zero_mul]
    exact (sumN_zero _).symm
  | y :: l, h => by
    have ih := faces_sum g V hV l (fun x hx => h x (.tail _ hx))
    obtain ⟨i, hi⟩ := List.getElem?_of_mem (h y (.head _))
    obtain ⟨hl, he⟩ := List.getElem?_eq_some_iff.1 hi
    have hsingle : ∀ n, sumN n (fun j => if j = i then g y else 0) = if i < n then g y else 0 := by
      intro n
      induction n with
      | zero => rfl
      | succ n ihn =>
        rw [sumN, ihn]
        by_cases h1 : i < n
        · rw [if_pos h1, if_neg (by omega), if_pos (by omega), Int.add_zero]
        · rw [if_neg h1]
          by_cases h2 : n = i
          · rw [if_pos h2, if_pos (by omega), Int.zero_add]
          · rw [if_neg h2, if_neg (by omega)]; rfl
    rw [List.map_cons, List.sum_cons, ih]
    have e : sumN V.length (fun j => ((y :: l).count (V.getD j 0) : Int) * g (V.getD j 0)) = sumN V.length (fun j => (l.count (V.getD j 0) : Int) * g (V.getD j 0) + (if j = i then g y else 0)) := by
      refine sumN_congr _ _ _ fun j hj => ?_
      rw [List.count_cons]
      by_cases hji : j = i
      · subst hji
        rw [getD_nat _ _ _ hj, he]
        simp [Int.add_mul]
      · have : ¬ y = V.getD j 0 := by
          rw [getD_nat _ _ _ hj, ← he]
          intro e
          exact hji ((List.getElem_inj hV).1 e).symm
        rw [if_neg hji, show (y == V.getD j 0) = false by simpa using this]
        simp
    rw [e, sumN_add, hsingle, if_pos hl]
    omega
/-- All sums of one of the first list and one of the second one. -/
def sums2 (L M : List Int) : List Int := L.flatMap fun x => M.map fun y => x + y
theorem sums2_cons (x : Int) (L M : List Int) : sums2 (x :: L) M = M.map (fun y => x + y) ++ sums2 L M := rfl
theorem count_shift (x u : Int) : ∀ M : List Int, (M.map fun y => x + y).count u = M.count (u - x)
  | [] => rfl
  | y :: M => by
    rw [List.map_cons, List.count_cons, List.count_cons, count_shift x u M]
    by_cases h : x + y = u
    · rw [if_pos (by simpa using h), if_pos (by simp; omega)]
    · rw [if_neg (by simpa using h), if_neg (by simp; omega)]
theorem count_sums2 (M : List Int) (u : Int) : ∀ L : List Int, ((sums2 L M).count u : Int) = (L.map fun x => (M.count (u - x) : Int)).sum
  | [] => rfl
  | x :: L => by
    rw [sums2_cons, List.count_append, count_shift, List.map_cons, List.sum_cons, ← count_sums2 M u L]
    omega
theorem range_sum (g : Int → Int) (n : Nat) (L : List Int) (h : ∀ x ∈ L, 0 ≤ x ∧ x < n) : (L.map g).sum = sumN n (fun s => (L.count (s : Int) : Int) * g (s : Int)) := by
  have hV : ((List.range n).map fun s : Nat => (s : Int)).Nodup := by
    unfold List.Nodup
    rw [List.pairwise_map]
    exact List.nodup_range.imp (fun h e => h (by exact_mod_cast e))
  have := faces_sum g ((List.range n).map fun s : Nat => (s : Int)) hV L (fun x hx => by
    obtain ⟨h1, h2⟩ := h x hx
    exact List.mem_map.2 ⟨x.toNat, List.mem_range.2 (by omega), by omega⟩)
  rw [this, List.length_map, List.length_range]
  refine sumN_congr _ _ _ fun s hs => ?_
  have e : ((List.range n).map fun s : Nat => (s : Int)).getD s 0 = (s : Int) := by
    rw [getD_nat _ _ _ (by simpa using hs)]
    simp
  rw [e]
def TabIs (t : Ar 121) (L : List Int) : Prop := ∀ s : Nat, s < 121 → t.get (s : Int) = (L.count (s : Int) : Int)
theorem tabx_l12 (K : Nat) (l : List (Ar 6)) (d : Nat) (hd : d < l.length) (hdie : dieB (l.getD d (Ar.zero 6)) = true) (cur : Ar 121) (s : Nat) (hs : s < 121) (hc : 0 ≤ cur.get (s : Int) ∧ cur.get (s : Int) ≤ 36) (hpos : 0 < cur.get (s : Int) → s ≤ 60) :
    ∀ (k n : Nat) (B : Int) (t : Ar 121), n ≤ 6 → 6 - n < k → 0 ≤ B → B ≤ 1000000 - 36 * (6 - n) → (∀ u : Nat, u < 121 → 0 ≤ t.get (u : Int) ∧ t.get (u : Int) ≤ B) → ∃ r, spec_l2Table.l12 K l (d : Int) cur (s : Int) k (n : Int) t = some r ∧ ∀ u : Nat, u < 121 → r.get (u : Int) = t.get (u : Int) + cur.get (s : Int) * (((l.getD d (Ar.zero 6)).l.drop n).count ((u : Int) - s) : Int) := by
  intro k
  induction k with
  | zero => intro n B t h1 h2; omega
  | succ k ih =>
    intro n B t h1 h2 h3 h4 h5
    by_cases hp : 0 < cur.get (s : Int)
    · rw [spec_l2Table.l12]
      by_cases hn : (n : Int) < 6
      · have c1 : (0 : Int) ≤ (s : Int) ∧ (s : Int) < 121 := by omega
        have c2 : (0 : Int) ≤ (d : Int) ∧ (d : Int) < (l.length : Int) := by omega
        have c3 : (0 : Int) ≤ (n : Int) ∧ (n : Int) < 6 := by omega
        have hsp := hpos hp
        rw [Int.toNat_natCast, ar_drop _ n (by omega)]
        have hf := die_face _ hdie (n : Int) (by omega) (by omega)
        generalize (l.getD d (Ar.zero 6)).get (n : Int) = f at hf ⊢
        have c4 : (0 : Int) ≤ (s : Int) + f ∧ (s : Int) + f < 121 := by omega
        have hts := h5 ((s : Int) + f).toNat (by omega)
        rw [show ((((s : Int) + f).toNat : Nat) : Int) = (s : Int) + f by omega] at hts
        have c5 : -9223372036854775808 ≤ t.get ((s : Int) + f) + cur.get (s : Int) ∧ t.get ((s : Int) + f) + cur.get (s : Int) ≤ 9223372036854775807 := by omega
        obtain ⟨r, i1, i2⟩ := ih (n + 1) (B + 36) (t.set ((s : Int) + f) (t.get ((s : Int) + f) + cur.get (s : Int))) (by omega) (by omega) (by omega) (by omega) (fun u hu => by
          rw [ar_get_set _ _ _ _ (by omega) (by omega) (by omega)]
          have := h5 u hu
          split
          · omega
          · omega)
        refine ⟨r, ?_, fun u hu => ?_⟩
        · rw [if_pos hn, if_pos c1, if_pos hp, if_pos c2, if_pos c3, w64 (n := (s : Int) + f) (by omega) (by omega), if_pos c4, w64 c5.1 c5.2, w1 n (by omega)]
          exact i1
        · rw [i2 u hu, ar_get_set _ _ _ _ (by omega) (by omega) (by omega), List.count_cons]
          by_cases huf : (u : Int) = (s : Int) + f
          · rw [if_pos huf, if_pos (by simp; omega), ← huf, Int.natCast_add, Int.mul_add]
            simp only [Int.natCast_one, Int.mul_one]
            omega
          · rw [if_neg huf, if_neg (by simp; omega)]; simp
      · have : n = 6 := by omega
        subst this
        rw [if_neg hn]
        refine ⟨t, rfl, fun u hu => ?_⟩
        rw [List.drop_of_length_le (by rw [(l.getD d (Ar.zero 6)).h]; omega)]
        simp
    · have hz : cur.get (s : Int) = 0 := by omega
      refine ⟨t, table_skip K l (d : Int) cur s hs hz (k + 1) n t h1 h2, fun u hu => ?_⟩
      rw [hz]; simp
theorem tabx_l11 (K : Nat) (hK : 1000 ≤ K) (l : List (Ar 6)) (d : Nat) (hd : d < l.length) (hdie : dieB (l.getD d (Ar.zero 6)) = true) (cur : Ar 121) (hc : ∀ s : Nat, s < 121 → (0 ≤ cur.get (s : Int) ∧ cur.get (s : Int) ≤ 36) ∧ (0 < cur.get (s : Int) → s ≤ 60)) :
    ∀ (k s : Nat) (t : Ar 121), s ≤ 121 → 121 - s < k → (∀ u : Nat, u < 121 → t.get (u : Int) = sumN s (fun s => cur.get (s : Int) * ((l.getD d (Ar.zero 6)).l.count ((u : Int) - s) : Int))) →
    ∃ r, spec_l2Table.l11 K l (d : Int) cur k (s : Int) t = some r ∧ ∀ u : Nat, u < 121 → r.get (u : Int) = sumN 121 (fun s => cur.get (s : Int) * ((l.getD d (Ar.zero 6)).l.count ((u : Int) - s) : Int)) := by
  intro k
  induction k with
  | zero => intro s t h1 h2; omega
  | succ k ih =>
    intro s t h1 h2 h3
    rw [spec_l2Table.l11]
    by_cases hs : (s : Int) < 121
    · obtain ⟨r, i1, i2⟩ := tabx_l12 K l d hd hdie cur s (by omega) (hc s (by omega)).1 (hc s (by omega)).2 K 0 (121 * 216) t (by omega) (by omega) (by omega) (by omega) (fun u hu => by
        rw [h3 u hu]
        have := sumN_range s (fun s => cur.get (s : Int) * ((l.getD d (Ar.zero 6)).l.count ((u : Int) - s) : Int)) 216 (fun i hi => by
          have h5 := (hc i (by omega)).1
          have h6 : (l.getD d (Ar.zero 6)).l.count ((u : Int) - i) ≤ 6 := wt_le _ _
          refine ⟨Int.mul_nonneg h5.1 (by omega), ?_⟩
          have := Int.mul_le_mul h5.2 (show ((l.getD d (Ar.zero 6)).l.count ((u : Int) - i) : Int) ≤ 6 by omega) (by omega) (by omega)
          omega)
        have h7 : (s : Int) * 216 ≤ 121 * 216 := by omega
        omega)
      obtain ⟨r2, j1, j2⟩ := ih (s + 1) r (by omega) (by omega) (fun u hu => by
        rw [i2 u hu, h3 u hu, List.drop_zero, sumN])
      refine ⟨r2, ?_, j2⟩
      rw [if_pos hs, show spec_l2Table.l12 K l (d : Int) cur (s : Int) K 0 t = _ from i1, some_bind, w1 s (by omega)]
      exact j1
    · have : s = 121 := by omega
      subst this
      rw [if_neg hs]
      exact ⟨t, rfl, h3⟩
theorem die_mem (a : Ar 6) (h : dieB a = true) (x : Int) (hx : x ∈ a.l) : 0 ≤ x ∧ x ≤ 30 := die_faces a h x hx
theorem tab_two (K : Nat) (hK : 1000 ≤ K) (P Q : Ar 6) (hP : dieB P = true) (hQ : dieB Q = true) : ∃ t, spec_l2Table.f K [P, Q] = some t ∧ impl_sums.f K [P, Q] = some t ∧ TabIs t (sums2 P.l Q.l) := by
  obtain ⟨r, e1, e2, _⟩ := table_eq K hK [P, Q] (by simp) (by simp [hP, hQ])
  refine ⟨r, e1, e2, ?_⟩
  unfold spec_l2Table.f at e1
  obtain ⟨k, hk⟩ : ∃ k, K = k + 3 := ⟨K - 3, by omega⟩
  have z0 : ∀ u : Nat, ((Ar.zero 121).set 0 1).get (u : Int) = if u = 0 then 1 else 0 := by
    intro u
    rw [ar_get_set _ _ _ _ (by omega) (by omega) (by omega), ar_get_zero]
    by_cases hu : u = 0
    · rw [if_pos hu, if_pos (by omega)]
    · rw [if_neg hu, if_neg (by omega)]
  obtain ⟨r1, i1, i2⟩ := tabx_l11 K hK [P, Q] 0 (by simp) (by simpa using hP) ((Ar.zero 121).set 0 1) (fun s hs => by
    rw [z0 s]; split <;> omega) K 0 (Ar.zero 121) (by omega) (by omega) (fun u hu => by rw [ar_get_zero]; rfl)
  have e3 : ∀ u : Nat, u < 121 → r1.get (u : Int) = (P.l.count (u : Int) : Int) := by
    intro u hu
    rw [i2 u hu]
    have : sumN 121 (fun s => ((Ar.zero 121).set 0 1).get (s : Int) * ((([P, Q] : List (Ar 6)).getD 0 (Ar.zero 6)).l.count ((u : Int) - s) : Int)) = sumN 121 (fun s => if s = 0 then (P.l.count (u : Int) : Int) else 0) := by
      refine sumN_congr _ _ _ fun s hs => ?_
      rw [z0 s]
      by_cases h0 : s = 0
      · rw [if_pos h0, if_pos h0, h0]; simp
      · rw [if_neg h0, if_neg h0]; simp
    rw [this, show (121 : Nat) = 120 + 1 from rfl]
    have hz : ∀ n, sumN (n + 1) (fun s => if s = 0 then (P.l.count (u : Int) : Int) else 0) = (P.l.count (u : Int) : Int) := by
      intro n
      induction n with
      | zero => simp [sumN]
      | succ n ih => rw [sumN, ih, if_neg (by omega)]; simp
    exact hz 120
  obtain ⟨r2, j1, j2⟩ := tabx_l11 K hK [P, Q] 1 (by simp) (by simpa using hQ) r1 (fun s hs => by
    rw [e3 s hs]
    have h6 : P.l.count (s : Int) ≤ 6 := wt_le _ _
    refine ⟨by omega, fun hp => ?_⟩
    have : (s : Int) ∈ P.l := List.count_pos_iff.1 (by omega)
    have := die_mem P hP _ this
    omega) K 0 (Ar.zero 121) (by omega) (by omega) (fun u hu => by rw [ar_get_zero]; rfl)
  have w01 : wrap64 ((0 : Int) + 1) = ((0 + 1 : Nat) : Int) := w1' 0 (by omega)
  have e4 : spec_l2Table.l8 K [P, Q] K 0 ((Ar.zero 121).set 0 1) = some r2 := by
    conv => lhs; rw [hk]
    rw [spec_l2Table.l8, ← hk, if_pos (by simp), show spec_l2Table.l11 K [P, Q] 0 ((Ar.zero 121).set 0 1) K 0 (Ar.zero 121) = _ from i1, some_bind, w01]
    rw [spec_l2Table.l8, if_pos (by simp), show spec_l2Table.l11 K [P, Q] ((0 + 1 : Nat) : Int) r1 K 0 (Ar.zero 121) = _ from j1, some_bind, w1' (0 + 1) (by omega)]
    rw [spec_l2Table.l8, if_neg (by simp)]
  rw [e4] at e1
  obtain rfl := some_some e1
  intro u hu
  rw [j2 u hu, count_sums2, range_sum _ 121 P.l (fun x hx => by have := die_mem P hP x hx; omega)]
  refine sumN_congr _ _ _ fun s hs => ?_
  rw [e3 s hs]
  rfl
def rwB2 (K : Nat) (rec : ((Ar 121) → (List Int) → (List Int) → Option (List ((Ar 6) × (Ar 6))))) (a0 : Ar 121) (l1 l2 : List Int) (s : Int) (o : List PP) : Option (List PP) := (if (0 : Int) ≤ 0 ∧ 0 < (l1.length : Int) then (if (l2.length : Int) < 6 then (if (0 : Int) ≤ (wrap64 ((l2.length : Int) - 1)) ∧ (wrap64 ((l2.length : Int) - 1)) < (l2.length : Int) then ((spec_l1In.f K (wrap64 (s - (l1.getD (0 : Int).toNat (0 : Int)))) (l2.getD ((wrap64 ((l2.length : Int) - 1)) : Int).toNat (0 : Int)) 30).bind fun t125 => if t125 = true then ((spec_l1Own.f K l2).bind fun t128 => if t128.length + [(wrap64 (s - (l1.getD (0 : Int).toNat (0 : Int))))].length ≤ 1073741824 then ((rec a0 l1 (t128 ++ [(wrap64 (s - (l1.getD (0 : Int).toNat (0 : Int))))])).bind fun t134 => if o.length + t134.length ≤ 1073741824 then (some (o ++ t134)) else none) else none) else (some o)) else none) else (some o)) else none)
def rwB1 (K : Nat) (rec : ((Ar 121) → (List Int) → (List Int) → Option (List ((Ar 6) × (Ar 6))))) (a0 : Ar 121) (l1 l2 : List Int) (s : Int) : Option (List PP) := (if (0 : Int) ≤ 0 ∧ 0 < (l2.length : Int) then (if (l1.length : Int) < 6 then (if (0 : Int) ≤ (wrap64 ((l1.length : Int) - 1)) ∧ (wrap64 ((l1.length : Int) - 1)) < (l1.length : Int) then ((spec_l1In.f K (wrap64 (s - (l2.getD (0 : Int).toNat (0 : Int)))) (l1.getD ((wrap64 ((l1.length : Int) - 1)) : Int).toNat (0 : Int)) 30).bind fun t108 => if t108 = true then ((spec_l1Own.f K l1).bind fun t111 => if t111.length + [(wrap64 (s - (l2.getD (0 : Int).toNat (0 : Int))))].length ≤ 1073741824 then ((rec a0 (t111 ++ [(wrap64 (s - (l2.getD (0 : Int).toNat (0 : Int))))]) l2).bind fun t117 => if ([] : List ((Ar 6) × (Ar 6))).length + t117.length ≤ 1073741824 then (rwB2 K rec a0 l1 l2 s (([] : List ((Ar 6) × (Ar 6))) ++ t117)) else none) else none) else (rwB2 K rec a0 l1 l2 s ([] : List ((Ar 6) × (Ar 6))))) else none) else (rwB2 K rec a0 l1 l2 s ([] : List ((Ar 6) × (Ar 6))))) else none)
def rwLeaf (K : Nat) (l1 l2 : List Int) (x81 : Int) : Option (List PP) := (if x81 < 0 then ((spec_l5Array.f K l1).bind fun t95 => (spec_l5Array.f K l2).bind fun t97 => (spec_l5Pair.f K t95 t97).bind fun t99 => if ([] : List ((Ar 6) × (Ar 6))).length + [t99].length ≤ 1073741824 then (some (([] : List ((Ar 6) × (Ar 6))) ++ [t99])) else none) else (some ([] : List ((Ar 6) × (Ar 6)))))
theorem search_g (K : Nat) (rec : ((Ar 121) → (List Int) → (List Int) → Option (List ((Ar 6) × (Ar 6))))) (a0 : Ar 121) (l1 l2 : List Int) : spec_l5Search.g K rec a0 l1 l2 = (spec_l5Search.l2 K l1 l2 K 0 a0).bind fun x46 => (spec_l5Search.l4 K x46 K (-1) 120).bind fun o => (match o with | .inl x => if (l1.length : Int) = 6 then (if (l2.length : Int) = 6 then rwLeaf K l1 l2 x else (if x < 0 then (some []) else rwB1 K rec a0 l1 l2 x)) else (if x < 0 then (some []) else rwB1 K rec a0 l1 l2 x) | .inr r => some r) := rfl
theorem own_eq (K : Nat) (l : List Int) (h : l.length ≤ 1000) : spec_l1Own.f K l = some l := by
  unfold spec_l1Own.f
  rw [if_pos (by simp; omega), List.nil_append]
theorem B2_eq (K : Nat) (rec : Ar 121 → List Int → List Int → Option (List PP)) (a0 : Ar 121) (l1 l2 : List Int) (s : Int) (o : List PP) (h1 : 1 ≤ l1.length ∧ l1.length ≤ 6) (h2 : 1 ≤ l2.length ∧ l2.length ≤ 6) (hx : 0 ≤ l1.getD 0 0 ∧ l1.getD 0 0 ≤ 30) (hs : 0 ≤ s ∧ s ≤ 120) :
    rwB2 K rec a0 l1 l2 s o = if l2.length < 6 ∧ l2.getD (l2.length - 1) 0 ≤ s - l1.getD 0 0 ∧ s - l1.getD 0 0 ≤ 30 then (rec a0 l1 (l2 ++ [s - l1.getD 0 0])).bind fun t => if o.length + t.length ≤ 1073741824 then some (o ++ t) else none else some o := by
  unfold rwB2
  have c1 : (0 : Int) ≤ 0 ∧ (0 : Int) < (l1.length : Int) := by omega
  have c2 : ((l2.length : Int) < 6) = (l2.length < 6) := by apply propext; omega
  have e1 : wrap64 ((l2.length : Int) - 1) = ((l2.length - 1 : Nat) : Int) := by rw [w64 (by omega) (by omega)]; omega
  have e2 : wrap64 (s - l1.getD (0 : Int).toNat 0) = s - l1.getD 0 0 := w64 (by show _ ≤ s - l1.getD 0 0; omega) (by show s - l1.getD 0 0 ≤ _; omega)
  have c3 : (0 : Int) ≤ ((l2.length - 1 : Nat) : Int) ∧ ((l2.length - 1 : Nat) : Int) < (l2.length : Int) := by clear e1 e2; omega
  have ho := own_eq K l2 (by clear e1 e2; omega)
  have c4 : l2.length + [s - l1.getD 0 0].length ≤ 1073741824 := by clear e1 e2; simp; omega
  rw [if_pos c1, e1, e2, if_pos c3, Int.toNat_natCast, in_within, in_eq, some_bind, ho]
  clear e1 e2
  by_cases h : l2.length < 6
  · rw [if_pos (show (l2.length : Int) < 6 by omega)]
    by_cases hv : l2.getD (l2.length - 1) 0 ≤ s - l1.getD 0 0 ∧ s - l1.getD 0 0 ≤ 30
    · rw [if_pos (decide_eq_true hv), some_bind, if_pos c4, if_pos ⟨h, hv⟩]
    · rw [if_neg (by simpa using hv), if_neg (fun h' => hv h'.2)]
  · rw [if_neg (show ¬ (l2.length : Int) < 6 by omega), if_neg (fun h' => h h'.1)]
theorem B1_eq (K : Nat) (rec : Ar 121 → List Int → List Int → Option (List PP)) (a0 : Ar 121) (l1 l2 : List Int) (s : Int) (h1 : 1 ≤ l1.length ∧ l1.length ≤ 6) (h2 : 1 ≤ l2.length ∧ l2.length ≤ 6) (hx : 0 ≤ l2.getD 0 0 ∧ l2.getD 0 0 ≤ 30) (hs : 0 ≤ s ∧ s ≤ 120) :
    rwB1 K rec a0 l1 l2 s = if l1.length < 6 ∧ l1.getD (l1.length - 1) 0 ≤ s - l2.getD 0 0 ∧ s - l2.getD 0 0 ≤ 30 then (rec a0 (l1 ++ [s - l2.getD 0 0]) l2).bind fun t => if ([] : List PP).length + t.length ≤ 1073741824 then rwB2 K rec a0 l1 l2 s ([] ++ t) else none else rwB2 K rec a0 l1 l2 s [] := by
  unfold rwB1
  have c1 : (0 : Int) ≤ 0 ∧ (0 : Int) < (l2.length : Int) := by omega
  have e1 : wrap64 ((l1.length : Int) - 1) = ((l1.length - 1 : Nat) : Int) := by rw [w64 (by omega) (by omega)]; omega
  have e2 : wrap64 (s - l2.getD (0 : Int).toNat 0) = s - l2.getD 0 0 := w64 (by show _ ≤ s - l2.getD 0 0; omega) (by show s - l2.getD 0 0 ≤ _; omega)
  have c3 : (0 : Int) ≤ ((l1.length - 1 : Nat) : Int) ∧ ((l1.length - 1 : Nat) : Int) < (l1.length : Int) := by clear e1 e2; omega
  have ho := own_eq K l1 (by clear e1 e2; omega)
  have c4 : l1.length + [s - l2.getD 0 0].length ≤ 1073741824 := by clear e1 e2; simp; omega
  rw [if_pos c1, e1, e2, if_pos c3, Int.toNat_natCast, in_within, in_eq, some_bind, ho]
  clear e1 e2
  by_cases h : l1.length < 6
  · rw [if_pos (show (l1.length : Int) < 6 by omega)]
    by_cases hv : l1.getD (l1.length - 1) 0 ≤ s - l2.getD 0 0 ∧ s - l2.getD 0 0 ≤ 30
    · rw [if_pos (decide_eq_true hv), some_bind, if_pos c4, if_pos ⟨h, hv⟩]
    · rw [if_neg (by simpa using hv), if_neg (fun h' => hv h'.2)]
  · rw [if_neg (show ¬ (l1.length : Int) < 6 by omega), if_neg (fun h' => h h'.1)]
/-! what is left -/
def In30 (l : List Int) : Prop := ∀ x ∈ l, 0 ≤ x ∧ x ≤ 30
theorem in30_get {l : List Int} (h : In30 l) {n : Nat} (hn : n < l.length) : 0 ≤ l.getD n 0 ∧ l.getD n 0 ≤ 30 := by
  rw [getD_nat _ _ _ hn]; exact h _ (List.getElem_mem hn)
theorem sums2_take (l1 : List Int) (M : List Int) (n : Nat) (h : n < l1.length) : sums2 (l1.take (n + 1)) M = sums2 (l1.take n) M ++ M.map (fun y => l1.getD n 0 + y) := by
  unfold sums2
  rw [List.take_succ_eq_append_getElem h, List.flatMap_append, getD_nat _ _ _ h]
  simp
theorem search_l3 (K : Nat) (l1 l2 : List Int) (g1 : In30 l1) (g2 : In30 l2) (h2 : l2.length ≤ 6) (i : Nat) (hi : i < l1.length) : ∀ (k n : Nat) (B : Int) (t : Ar 121), n ≤ l2.length → l2.length - n < k → 0 ≤ B → B + (6 - (n : Int)) ≤ 100000 → (∀ u : Nat, u < 121 → -B ≤ t.get (u : Int) ∧ t.get (u : Int) ≤ 100000) →
    ∃ r, spec_l5Search.l3 K l1 l2 (i : Int) k (n : Int) t = some r ∧ ∀ u : Nat, u < 121 → r.get (u : Int) = t.get (u : Int) - (((l2.drop n).map fun y => l1.getD i 0 + y).count (u : Int) : Int) := by
  intro k
  induction k with
  | zero => intro n B t h3 h4; omega
  | succ k ih =>
    intro n B t h3 h4 hB0 hB h5
    rw [spec_l5Search.l3]
    by_cases hn : n < l2.length
    · have f1 := in30_get g1 hi
      have f2 := in30_get g2 hn
      have d2 : l2.drop n = l2.getD n 0 :: l2.drop (n + 1) := by rw [getD_nat _ _ _ hn]; exact List.drop_eq_getElem_cons hn
      rw [Int.toNat_natCast, Int.toNat_natCast, d2]
      have ih' := fun t h => ih (n + 1) (B + 1) t (by omega) (by omega) (by omega) (by omega) h
      generalize l1.getD i 0 = x at *
      generalize l2.getD n 0 = y at *
      obtain ⟨v, hv⟩ : ∃ v : Nat, x + y = (v : Int) := ⟨(x + y).toNat, by omega⟩
      have hv6 : v < 121 := by omega
      have ht := h5 v hv6
      have c1 : (n : Int) < (l2.length : Int) := by omega
      have c2 : (0 : Int) ≤ (i : Int) ∧ (i : Int) < (l1.length : Int) := by omega
      have c3 : (0 : Int) ≤ (n : Int) ∧ (n : Int) < (l2.length : Int) := by omega
      have c4 : (0 : Int) ≤ (v : Int) ∧ (v : Int) < 121 := by omega
      have c5 : -9223372036854775808 ≤ t.get (v : Int) - 1 ∧ t.get (v : Int) - 1 ≤ 9223372036854775807 := by omega
      have hset : ∀ u : Nat, (t.set (v : Int) (t.get (v : Int) - 1)).get (u : Int) = if (u : Int) = (v : Int) then t.get (v : Int) - 1 else t.get (u : Int) := fun u => ar_get_set _ _ _ _ c4.1 c4.2 (by omega)
      obtain ⟨r, r1, r2⟩ := ih' (t.set (v : Int) (t.get (v : Int) - 1)) (fun u hu => by
        rw [hset u]
        have := h5 u hu
        split <;> omega)
      refine ⟨r, ?_, fun u hu => ?_⟩
      · rw [if_pos c1, if_pos c2, if_pos c3, hv, w64 (n := (v : Int)) (by omega) (by omega), if_pos c4, w64 c5.1 c5.2, w1' n (by omega)]
        exact r1
      · rw [r2 u hu, hset u, List.map_cons, List.count_cons, hv]
        by_cases huv : (u : Int) = (v : Int)
        · rw [if_pos huv, if_pos (by simpa using huv.symm), huv]
          omega
        · rw [if_neg huv, if_neg (by simpa using fun e : (v : Int) = (u : Int) => huv e.symm)]
          omega
    · have : n = l2.length := by omega
      subst this
      rw [if_neg (by omega)]
      exact ⟨t, rfl, fun u hu => by simp⟩
theorem sums2_len (M : List Int) : ∀ L : List Int, (sums2 L M).length = L.length * M.length
  | [] => by simp [sums2]
  | x :: L => by rw [sums2_cons, List.length_append, List.length_map, sums2_len M L, List.length_cons, Nat.succ_mul]; omega
theorem search_l2 (K : Nat) (hK : 1000 ≤ K) (l1 l2 : List Int) (g1 : In30 l1) (g2 : In30 l2) (h1 : l1.length ≤ 6) (h2 : l2.length ≤ 6) (a0 : Ar 121) (ha : ∀ u : Nat, u < 121 → 0 ≤ a0.get (u : Int) ∧ a0.get (u : Int) ≤ 36) : ∀ (k i : Nat) (t : Ar 121), i ≤ l1.length → l1.length - i < k → (∀ u : Nat, u < 121 → t.get (u : Int) = a0.get (u : Int) - ((sums2 (l1.take i) l2).count (u : Int) : Int)) →
    ∃ r, spec_l5Search.l2 K l1 l2 k (i : Int) t = some r ∧ ∀ u : Nat, u < 121 → r.get (u : Int) = a0.get (u : Int) - ((sums2 l1 l2).count (u : Int) : Int) := by
  intro k
  induction k with
  | zero => intro i t h3 h4; omega
  | succ k ih =>
    intro i t h3 h4 h5
    rw [spec_l5Search.l2]
    by_cases hi : i < l1.length
    · obtain ⟨r, r1, r2⟩ := search_l3 K l1 l2 g1 g2 h2 i hi K 0 36 t (by omega) (by omega) (by omega) (by omega) (fun u hu => by
        rw [h5 u hu]
        have e1 := ha u hu
        have e2 := List.count_le_length (a := (u : Int)) (l := sums2 (l1.take i) l2)
        rw [sums2_len, List.length_take] at e2
        have e3 : min i l1.length * l2.length ≤ 6 * 6 := Nat.mul_le_mul (by omega) h2
        omega)
      obtain ⟨q, q1, q2⟩ := ih (i + 1) r (by omega) (by omega) (fun u hu => by
        rw [r2 u hu, h5 u hu, sums2_take l1 l2 i hi, List.count_append, List.drop_zero]
        omega)
      refine ⟨q, ?_, q2⟩
      rw [if_pos (by omega), show spec_l5Search.l3 K l1 l2 (i : Int) K 0 t = _ from r1, some_bind, w1' i (by omega)]
      exact q1
    · have : i = l1.length := by omega
      subst this
      rw [if_neg (by omega)]
      rw [List.take_length] at h5
      exact ⟨t, rfl, h5⟩
theorem search_l4 (K : Nat) (t : Ar 121) : ∀ (k c : Nat) (least : Int), c ≤ 121 → c < k → ∃ o, spec_l5Search.l4 K t k least ((c : Int) - 1) = some o ∧ ((∃ u, u < c ∧ t.get (u : Int) < 0) → o = Sum.inr []) ∧ ((∀ u : Nat, u < c → 0 ≤ t.get (u : Int)) → ∃ m, o = Sum.inl m ∧ ((m = least ∧ ∀ u : Nat, u < c → t.get (u : Int) = 0) ∨ ∃ v : Nat, v < c ∧ m = (v : Int) ∧ 0 < t.get (v : Int) ∧ ∀ u : Nat, u < v → t.get (u : Int) = 0)) := by
  intro k
  induction k with
  | zero => intro c least h1 h2; omega
  | succ k ih =>
    intro c least h1 h2
    rw [spec_l5Search.l4]
    by_cases hc : c = 0
    · subst hc
      rw [if_neg (by omega)]
      exact ⟨_, rfl, fun ⟨u, hu, _⟩ => by omega, fun _ => ⟨least, rfl, .inl ⟨rfl, fun u hu => by omega⟩⟩⟩
    · obtain ⟨d, rfl⟩ : ∃ d, c = d + 1 := ⟨c - 1, by omega⟩
      have e : ((d + 1 : Nat) : Int) - 1 = (d : Int) := by omega
      rw [e]
      have e2 : wrap64 ((d : Int) - 1) = (d : Int) - 1 := w64 (by omega) (by omega)
      have c1 : (0 : Int) ≤ (d : Int) := by clear e2; omega
      have c2 : (0 : Int) ≤ (d : Int) ∧ (d : Int) < 121 := by clear e2; omega
      have ihd := fun least => ih d least (by clear e2; omega) (by clear e2; omega)
      rw [if_pos c1, if_pos c2, e2]
      clear e2
      by_cases hneg : t.get (d : Int) < 0
      · rw [if_pos hneg]
        exact ⟨_, rfl, fun _ => rfl, fun h => by have := h d (by omega); omega⟩
      · rw [if_neg hneg]
        by_cases hpos : 0 < t.get (d : Int)
        · rw [if_pos hpos]
          obtain ⟨o, o1, o2, o3⟩ := ihd (d : Int)
          refine ⟨o, o1, fun ⟨u, hu, hu2⟩ => o2 ⟨u, ?_, hu2⟩, fun h => ?_⟩
          · by_cases hud : u = d
            · subst hud; omega
            · omega
          · obtain ⟨m, m1, m2⟩ := o3 (fun u hu => h u (by omega))
            refine ⟨m, m1, .inr ?_⟩
            rcases m2 with ⟨rfl, m3⟩ | ⟨v, v1, v2, v3, v4⟩
            · exact ⟨d, by omega, rfl, hpos, m3⟩
            · exact ⟨v, by omega, v2, v3, v4⟩
        · rw [if_neg hpos]
          obtain ⟨o, o1, o2, o3⟩ := ihd least
          refine ⟨o, o1, fun ⟨u, hu, hu2⟩ => o2 ⟨u, ?_, hu2⟩, fun h => ?_⟩
          · by_cases hud : u = d
            · subst hud; omega
            · omega
          · obtain ⟨m, m1, m2⟩ := o3 (fun u hu => h u (by omega))
            refine ⟨m, m1, ?_⟩
            rcases m2 with ⟨rfl, m3⟩ | ⟨v, v1, v2, v3, v4⟩
            · refine .inl ⟨rfl, fun u hu => ?_⟩
              by_cases hud : u = d
              · subst hud; omega
              · exact m3 u (by omega)
            · exact .inr ⟨v, by omega, v2, v3, v4⟩
theorem die_iff (a : Ar 6) : dieB a = true ↔ In30 a.l ∧ a.l.Pairwise (· ≤ ·) := by
  obtain ⟨x, y, z, u, v, w, rfl⟩ := Ar.cases6 a
  unfold dieB
  rw [decide_eq_true_eq]
  unfold dieP In30
  obtain ⟨⟨e0, e1, e2⟩, e3, e4, e5⟩ := die_get x y z u v w
  rw [e0, e1, e2, e3, e4, e5]
  simp only [List.mem_cons, List.not_mem_nil, or_false, List.pairwise_cons, List.Pairwise.nil, and_true]
  constructor
  · rintro ⟨⟨h0, h1, h2, h3, h4, h5⟩, g1, g2, g3, g4, g5⟩
    refine ⟨fun t ht => ?_, ?_, ?_, ?_, ?_, ?_, ?_⟩
    · rcases ht with rfl | rfl | rfl | rfl | rfl | rfl <;> assumption
    · intro t ht; rcases ht with rfl | rfl | rfl | rfl | rfl <;> omega
    · intro t ht; rcases ht with rfl | rfl | rfl | rfl <;> omega
    · intro t ht; rcases ht with rfl | rfl | rfl <;> omega
    · intro t ht; rcases ht with rfl | rfl <;> omega
    · intro t ht; subst ht; omega
    · intro t ht; exact absurd ht (by simp)
  · rintro ⟨h, g0, g1, g2, g3, g4, _⟩
    refine ⟨⟨h x (by simp), h y (by simp), h z (by simp), h u (by simp), h v (by simp), h w (by simp)⟩, g0 y (by simp), g1 z (by simp), g2 u (by simp), g3 v (by simp), g4 w (by simp)⟩
theorem sums2_append (l r M : List Int) : sums2 (l ++ r) M = sums2 l M ++ sums2 r M := by unfold sums2; rw [List.flatMap_append]
theorem count_append (l2 r2 : List Int) (u : Int) : ∀ l : List Int, (sums2 l (l2 ++ r2)).count u = (sums2 l l2).count u + (sums2 l r2).count u
  | [] => rfl
  | x :: l => by
    rw [sums2_cons, sums2_cons, sums2_cons, List.map_append, List.count_append, List.count_append, List.count_append, List.count_append, count_append l2 r2 u l]
    omega
theorem mem_sums2 {L M : List Int} {u : Int} : u ∈ sums2 L M ↔ ∃ x ∈ L, ∃ y ∈ M, x + y = u := by
  unfold sums2
  simp only [List.mem_flatMap, List.mem_map]
theorem sums2_in {L M : List Int} (h1 : In30 L) (h2 : In30 M) : ∀ u ∈ sums2 L M, 0 ≤ u ∧ u ≤ 60 := by
  intro u hu
  obtain ⟨x, hx, y, hy, rfl⟩ := mem_sums2.1 hu
  have := h1 x hx
  have := h2 y hy
  omega
theorem count_len {A B : List Int} (hA : ∀ x ∈ A, 0 ≤ x ∧ x ≤ 60) (hB : ∀ x ∈ B, 0 ≤ x ∧ x ≤ 60) (h : ∀ u : Nat, u < 121 → A.count (u : Int) = B.count (u : Int)) : A.length = B.length := by
  refine List.Perm.length_eq (List.perm_iff_count.2 fun u => ?_)
  by_cases hu : 0 ≤ u ∧ u ≤ 60
  · obtain ⟨n, rfl⟩ : ∃ n : Nat, u = (n : Int) := ⟨u.toNat, by omega⟩
    exact h n (by omega)
  · rw [List.count_eq_zero.2 (fun hm => hu (hA u hm)), List.count_eq_zero.2 (fun hm => hu (hB u hm))]
/-- Two dice that begin so, and whose sums are those of L. -/
def Sol (L l1 l2 : List Int) (a b : Ar 6) : Prop := dieB a = true ∧ dieB b = true ∧ l1 <+: a.l ∧ l2 <+: b.l ∧ ∀ u : Nat, u < 121 → (sums2 a.l b.l).count (u : Int) = L.count (u : Int)
theorem array_eq (K : Nat) (l : List Int) (h : l.length = 6) : spec_l5Array.f K l = some ⟨l, h⟩ := by
  match l, h with
  | [x, y, z, u, v, w], h => rfl
theorem pre_head {l m : List Int} (h : l <+: m) (hl : 1 ≤ l.length) : m.getD 0 0 = l.getD 0 0 := by
  obtain ⟨r, rfl⟩ := h
  cases l with
  | nil => simp at hl
  | cons x l => rfl
theorem head_le {m : List Int} (h : m.Pairwise (· ≤ ·)) : ∀ y ∈ m, m.getD 0 0 ≤ y := by
  intro y hy
  cases m with
  | nil => simp at hy
  | cons x m =>
    rcases List.mem_cons.1 hy with rfl | hy
    · exact Int.le_refl _
    · exact (List.pairwise_cons.1 h).1 y hy
theorem last_le {l r : List Int} {c : Int} (hl : 1 ≤ l.length) (h : (l ++ c :: r).Pairwise (· ≤ ·)) : l.getD (l.length - 1) 0 ≤ c := by
  rw [List.pairwise_append] at h
  rw [getD_nat _ _ _ (by omega)]
  exact h.2.2 _ (List.getElem_mem _) c (by simp)
theorem rise_snoc {l : List Int} {c : Int} (h : l.Pairwise (· ≤ ·)) (hl : l.getD (l.length - 1) 0 ≤ c) : (l ++ [c]).Pairwise (· ≤ ·) := by
  rw [List.pairwise_append]
  refine ⟨h, by simp, fun x hx y hy => ?_⟩
  rw [List.mem_singleton.1 hy]
  obtain ⟨i, hi⟩ := List.getElem?_of_mem hx
  obtain ⟨hil, rfl⟩ := List.getElem?_eq_some_iff.1 hi
  rw [getD_nat _ _ _ (by omega)] at hl
  by_cases he : i = l.length - 1
  · subst he; exact hl
  · exact Int.le_trans (List.pairwise_iff_getElem.1 h i (l.length - 1) hil (by omega) (by omega)) hl
theorem in30_snoc {l : List Int} {c : Int} (h : In30 l) (hc : 0 ≤ c ∧ c ≤ 30) : In30 (l ++ [c]) := by
  intro x hx
  rcases List.mem_append.1 hx with hx | hx
  · exact h x hx
  · rw [List.mem_singleton.1 hx]; exact hc
theorem search_rs (K f : Nat) (T : Ar 121) (l1 l2 : List Int) : spec_l5Search.r K (f + 1) T l1 l2 = spec_l5Search.g K (spec_l5Search.r K f) T l1 l2 := rfl
theorem search_r (K : Nat) (hK : 2000000 ≤ K) (L : List Int) (T : Ar 121) (hT : TabIs T L) (hL : L.length = 36) (hL2 : ∀ x ∈ L, 0 ≤ x ∧ x ≤ 60) : ∀ (d fuel : Nat) (l1 l2 : List Int), d < fuel → (1 ≤ l1.length ∧ l1.length ≤ 6) → (1 ≤ l2.length ∧ l2.length ≤ 6) → l1.length + l2.length + d = 12 → In30 l1 → In30 l2 → l1.Pairwise (· ≤ ·) → l2.Pairwise (· ≤ ·) →
    ∃ res, spec_l5Search.r K fuel T l1 l2 = some res ∧ res.length ≤ 2 ^ d ∧ ∀ x, x ∈ res ↔ ∃ a b, Sol L l1 l2 a b ∧ x = mkP a b := by
  intro d
  induction d with
  | zero =>
    intro fuel l1 l2 h0 h1 h2 h3 g1 g2 p1 p2
    obtain ⟨f, rfl⟩ : ∃ f, fuel = f + 1 := ⟨fuel - 1, by omega⟩
    have hl1 : l1.length = 6 := by omega
    have hl2 : l2.length = 6 := by omega
    obtain ⟨t, t1, t2⟩ := search_l2 K (by omega) l1 l2 g1 g2 h1.2 h2.2 T (fun u hu => by
      rw [hT u hu]
      have := List.count_le_length (a := (u : Int)) (l := L)
      omega) K 0 T (by omega) (by omega) (fun u hu => by simp [sums2])
    obtain ⟨o, o1, o2, o3⟩ := search_l4 K t K 121 (-1) (by omega) (by omega)
    rw [search_rs, search_g, show spec_l5Search.l2 K l1 l2 K 0 T = _ from t1, some_bind, show spec_l5Search.l4 K t K (-1) 120 = _ from o1, some_bind]
    have hsol : ∀ a b, Sol L l1 l2 a b → a.l = l1 ∧ b.l = l2 := by
      rintro a b ⟨_, _, q1, q2, _⟩
      exact ⟨(q1.eq_of_length (by rw [hl1, a.h])).symm, (q2.eq_of_length (by rw [hl2, b.h])).symm⟩
    have hzero : (∃ a b, Sol L l1 l2 a b) → ∀ u : Nat, u < 121 → t.get (u : Int) = 0 := by
      rintro ⟨a, b, hs⟩ u hu
      obtain ⟨e1, e2⟩ := hsol a b hs
      have h5 := hs.2.2.2.2 u hu
      rw [e1, e2] at h5
      rw [t2 u hu, hT u hu, h5]
      omega
    by_cases hneg : ∃ u, u < 121 ∧ t.get ((u : Nat) : Int) < 0
    · rw [o2 hneg]
      refine ⟨[], rfl, by simp, fun x => ⟨fun h => by simp at h, ?_⟩⟩
      rintro ⟨a, b, hs, _⟩
      obtain ⟨u, hu, hu2⟩ := hneg
      have := hzero ⟨a, b, hs⟩ u hu
      omega
    · obtain ⟨m, rfl, hm⟩ := o3 (fun u hu => by
        by_cases h : 0 ≤ t.get (u : Int)
        · exact h
        · exact absurd ⟨u, hu, by omega⟩ hneg)
      have c1 : (l1.length : Int) = 6 := by omega
      have c2 : (l2.length : Int) = 6 := by omega
      simp only
      rw [if_pos c1, if_pos c2]
      unfold rwLeaf
      rcases hm with ⟨rfl, hz⟩ | ⟨v, v1, rfl, v3, v4⟩
      · rw [if_pos (by omega), array_eq K l1 hl1, array_eq K l2 hl2, some_bind, some_bind, l5Pair_eq K (by omega), some_bind, if_pos (by simp)]
        refine ⟨_, rfl, by simp, fun x => ?_⟩
        simp only [List.nil_append, List.mem_singleton]
        constructor
        · rintro rfl
          refine ⟨⟨l1, hl1⟩, ⟨l2, hl2⟩, ⟨(die_iff _).2 ⟨g1, p1⟩, (die_iff _).2 ⟨g2, p2⟩, List.prefix_refl _, List.prefix_refl _, fun u hu => ?_⟩, rfl⟩
          have := hz u hu
          rw [t2 u hu, hT u hu] at this
          show (sums2 l1 l2).count (u : Int) = _
          omega
        · rintro ⟨a, b, hs, rfl⟩
          obtain ⟨e1, e2⟩ := hsol a b hs
          rw [show a = ⟨l1, hl1⟩ from Ar.ext e1, show b = ⟨l2, hl2⟩ from Ar.ext e2]
      · rw [if_neg (by omega)]
        refine ⟨[], rfl, by simp, fun x => ⟨fun h => by simp at h, ?_⟩⟩
        rintro ⟨a, b, hs, _⟩
        have := hzero ⟨a, b, hs⟩ v v1
        omega
  | succ d ih =>
    intro fuel l1 l2 h0 h1 h2 h3 g1 g2 p1 p2
    obtain ⟨f, rfl⟩ : ∃ f, fuel = f + 1 := ⟨fuel - 1, by omega⟩
    obtain ⟨t, t1, t2⟩ := search_l2 K (by omega) l1 l2 g1 g2 h1.2 h2.2 T (fun u hu => by
      rw [hT u hu]
      have := List.count_le_length (a := (u : Int)) (l := L)
      omega) K 0 T (by omega) (by omega) (fun u hu => by simp [sums2])
    obtain ⟨o, o1, o2, o3⟩ := search_l4 K t K 121 (-1) (by omega) (by omega)
    rw [search_rs, search_g, show spec_l5Search.l2 K l1 l2 K 0 T = _ from t1, some_bind, show spec_l5Search.l4 K t K (-1) 120 = _ from o1, some_bind]
    -- what is left, for a solution
    have hleft : ∀ a b, Sol L l1 l2 a b → ∃ r1 r2, a.l = l1 ++ r1 ∧ b.l = l2 ++ r2 ∧ ∀ u : Nat, u < 121 → t.get (u : Int) = (((sums2 r1 b.l).count (u : Int) + (sums2 l1 r2).count (u : Int) : Nat) : Int) := by
      rintro a b ⟨_, _, ⟨r1, q1⟩, ⟨r2, q2⟩, q3⟩
      refine ⟨r1, r2, q1.symm, q2.symm, fun u hu => ?_⟩
      have e := q3 u hu
      rw [t2 u hu, hT u hu, ← e]
      conv => lhs; rw [← q1]
      rw [sums2_append, List.count_append]
      conv => lhs; rw [← q2, count_append]
      rw [q2]
      omega
    by_cases hneg : ∃ u, u < 121 ∧ t.get ((u : Nat) : Int) < 0
    · rw [o2 hneg]
      refine ⟨[], rfl, by simp, fun x => ⟨fun h => by simp at h, ?_⟩⟩
      rintro ⟨a, b, hs, _⟩
      obtain ⟨u, hu, hu2⟩ := hneg
      obtain ⟨r1, r2, _, _, q⟩ := hleft a b hs
      have := q u hu
      omega
    · obtain ⟨m, rfl, hm⟩ := o3 (fun u hu => by
        by_cases h : 0 ≤ t.get (u : Int)
        · exact h
        · exact absurd ⟨u, hu, by omega⟩ hneg)
      have hX : (if (l1.length : Int) = 6 then (if (l2.length : Int) = 6 then rwLeaf K l1 l2 m else (if m < 0 then (some []) else rwB1 K (spec_l5Search.r K f) T l1 l2 m)) else (if m < 0 then (some []) else rwB1 K (spec_l5Search.r K f) T l1 l2 m)) = if m < 0 then (some []) else rwB1 K (spec_l5Search.r K f) T l1 l2 m := by
        by_cases c1 : (l1.length : Int) = 6
        · rw [if_pos c1, if_neg (by omega)]
        · rw [if_neg c1]
      simp only
      rw [hX]
      rcases hm with ⟨rfl, hz⟩ | ⟨v, v1, rfl, v3, v4⟩
      · rw [if_pos (by omega)]
        refine ⟨[], rfl, by simp, fun x => ⟨fun h => by simp at h, ?_⟩⟩
        rintro ⟨a, b, hs, _⟩
        have e1 : (sums2 l1 l2).length = L.length := by
          refine count_len (sums2_in g1 g2) hL2 fun u hu => ?_
          have := hz u hu
          rw [t2 u hu, hT u hu] at this
          omega
        rw [sums2_len, hL] at e1
        have e2 : l1.length * l2.length ≤ 30 := by
          by_cases h6 : l1.length = 6
          · rw [h6]; omega
          · have := Nat.mul_le_mul (show l1.length ≤ 5 by omega) h2.2
            omega
        omega
      · rw [if_neg (by omega)]
        have hb0 := in30_get g2 (show 0 < l2.length by omega)
        have ha0 := in30_get g1 (show 0 < l1.length by omega)
        rw [B1_eq K _ T l1 l2 (v : Int) h1 h2 hb0 (by omega)]
        -- the second branch
        have hB2 : ∀ o : List PP, o.length ≤ 5000 → ∃ s, rwB2 K (spec_l5Search.r K f) T l1 l2 (v : Int) o = some (o ++ s) ∧ s.length ≤ 2 ^ d ∧ ∀ x, x ∈ s ↔ ((l2.length < 6 ∧ l2.getD (l2.length - 1) 0 ≤ (v : Int) - l1.getD 0 0 ∧ (v : Int) - l1.getD 0 0 ≤ 30) ∧ ∃ a b, Sol L l1 (l2 ++ [(v : Int) - l1.getD 0 0]) a b ∧ x = mkP a b) := by
          intro o ho
          rw [B2_eq K _ T l1 l2 (v : Int) o h1 h2 ha0 (by omega)]
          by_cases hc : l2.length < 6 ∧ l2.getD (l2.length - 1) 0 ≤ (v : Int) - l1.getD 0 0 ∧ (v : Int) - l1.getD 0 0 ≤ 30
          · have hlast := in30_get g2 (show l2.length - 1 < l2.length by omega)
            obtain ⟨s, s1, s2, s3⟩ := ih f l1 (l2 ++ [(v : Int) - l1.getD 0 0]) (by omega) h1 (by simp; omega) (by simp; omega) g1 (in30_snoc g2 (by omega)) p1 (rise_snoc p2 hc.2.1)
            have hd : 2 ^ d ≤ 2 ^ 11 := Nat.pow_le_pow_right (by omega) (by omega)
            rw [if_pos hc, s1, some_bind, if_pos (by omega)]
            exact ⟨s, rfl, s2, fun x => (s3 x).trans ⟨fun h => ⟨hc, h⟩, fun h => h.2⟩⟩
          · rw [if_neg hc]
            exact ⟨[], by simp, by simp, fun x => ⟨fun h => by simp at h, fun h => absurd h.1 hc⟩⟩
        have hB1 : ∃ s s', (if l1.length < 6 ∧ l1.getD (l1.length - 1) 0 ≤ (v : Int) - l2.getD 0 0 ∧ (v : Int) - l2.getD 0 0 ≤ 30 then (spec_l5Search.r K f T (l1 ++ [(v : Int) - l2.getD 0 0]) l2).bind fun t => if ([] : List PP).length + t.length ≤ 1073741824 then rwB2 K (spec_l5Search.r K f) T l1 l2 (v : Int) ([] ++ t) else none else rwB2 K (spec_l5Search.r K f) T l1 l2 (v : Int) []) = some (s ++ s') ∧ s.length ≤ 2 ^ d ∧ s'.length ≤ 2 ^ d ∧ (∀ x, x ∈ s ↔ ((l1.length < 6 ∧ l1.getD (l1.length - 1) 0 ≤ (v : Int) - l2.getD 0 0 ∧ (v : Int) - l2.getD 0 0 ≤ 30) ∧ ∃ a b, Sol L (l1 ++ [(v : Int) - l2.getD 0 0]) l2 a b ∧ x = mkP a b)) ∧ ∀ x, x ∈ s' ↔ ((l2.length < 6 ∧ l2.getD (l2.length - 1) 0 ≤ (v : Int) - l1.getD 0 0 ∧ (v : Int) - l1.getD 0 0 ≤ 30) ∧ ∃ a b, Sol L l1 (l2 ++ [(v : Int) - l1.getD 0 0]) a b ∧ x = mkP a b) := by
          have hd : 2 ^ d ≤ 2 ^ 11 := Nat.pow_le_pow_right (by omega) (by omega)
          by_cases hc : l1.length < 6 ∧ l1.getD (l1.length - 1) 0 ≤ (v : Int) - l2.getD 0 0 ∧ (v : Int) - l2.getD 0 0 ≤ 30
          · have hlast := in30_get g1 (show l1.length - 1 < l1.length by omega)
            obtain ⟨s, s1, s2, s3⟩ := ih f (l1 ++ [(v : Int) - l2.getD 0 0]) l2 (by omega) (by simp; omega) h2 (by simp; omega) (in30_snoc g1 (by omega)) g2 (rise_snoc p1 hc.2.1) p2
            obtain ⟨s', q1, q2, q3⟩ := hB2 ([] ++ s) (by simp; omega)
            rw [if_pos hc, s1, some_bind, if_pos (by simp; omega), q1]
            exact ⟨s, s', rfl, s2, q2, fun x => (s3 x).trans ⟨fun h => ⟨hc, h⟩, fun h => h.2⟩, q3⟩
          · obtain ⟨s', q1, q2, q3⟩ := hB2 [] (by simp)
            rw [if_neg hc, q1]
            exact ⟨[], s', rfl, by simp, q2, fun x => ⟨fun h => by simp at h, fun h => absurd h.1 hc⟩, q3⟩
        obtain ⟨s, s', e1, e2, e3, e4, e5⟩ := hB1
        rw [e1]
        refine ⟨_, rfl, by rw [List.length_append, Nat.pow_succ]; omega, fun x => ?_⟩
        rw [List.mem_append, e4 x, e5 x]
        constructor
        · rintro (⟨_, a, b, hs, rfl⟩ | ⟨_, a, b, hs, rfl⟩)
          · exact ⟨a, b, ⟨hs.1, hs.2.1, (List.prefix_append _ _).trans hs.2.2.1, hs.2.2.2⟩, rfl⟩
          · exact ⟨a, b, ⟨hs.1, hs.2.1, hs.2.2.1, (List.prefix_append _ _).trans hs.2.2.2.1, hs.2.2.2.2⟩, rfl⟩
        · rintro ⟨a, b, hs, rfl⟩
          obtain ⟨r1, r2, q1, q2, q3⟩ := hleft a b hs
          have da := (die_iff a).1 hs.1
          have db := (die_iff b).1 hs.2.1
          have hb : b.l.getD 0 0 = l2.getD 0 0 := pre_head hs.2.2.2.1 h2.1
          have hv := q3 v v1
          have hnot : ∀ w : Int, 0 ≤ w → w < v → w ∉ sums2 r1 b.l ∧ w ∉ sums2 l1 r2 := by
            intro w hw0 hwv
            obtain ⟨n, rfl⟩ : ∃ n : Nat, w = (n : Int) := ⟨w.toNat, by omega⟩
            have h5 := v4 n (by omega)
            have h6 := q3 n (by omega)
            constructor
            · intro hm
              have := List.count_pos_iff.2 hm
              omega
            · intro hm
              have := List.count_pos_iff.2 hm
              omega
          by_cases hm1 : (v : Int) ∈ sums2 r1 b.l
          · left
            obtain ⟨x, hx, y, hy, hxy⟩ := mem_sums2.1 hm1
            cases r1 with
            | nil => simp at hx
            | cons c r1 =>
              have hra : (l1 ++ c :: r1).Pairwise (· ≤ ·) := by rw [← q1]; exact da.2
              have hcr := (List.pairwise_append.1 hra).2.1
              have hcx : c ≤ x := head_le hcr x hx
              have hby : b.l.getD 0 0 ≤ y := head_le db.2 y hy
              have hcm : c ∈ a.l := by rw [q1]; simp
              have hc30 := da.1 c hcm
              have hb0m : b.l.getD 0 0 ∈ b.l := by rw [getD_nat _ _ _ (by rw [b.h]; omega)]; exact List.getElem_mem _
              have hin : c + b.l.getD 0 0 ∈ sums2 (c :: r1) b.l := mem_sums2.2 ⟨c, by simp, _, hb0m, rfl⟩
              have heq : c + b.l.getD 0 0 = v := by
                by_cases hlt : c + b.l.getD 0 0 < v
                · exact absurd hin (hnot _ (by have := db.1 _ hb0m; omega) hlt).1
                · omega
              have hce : (v : Int) - l2.getD 0 0 = c := by rw [← hb]; omega
              have hla := congrArg List.length q1
              rw [a.h, List.length_append, List.length_cons] at hla
              rw [hce]
              refine ⟨⟨by omega, last_le h1.1 hra, hc30.2⟩, a, b, ⟨hs.1, hs.2.1, ⟨r1, by rw [q1]; simp⟩, hs.2.2.2⟩, rfl⟩
          · right
            have hm2 : (v : Int) ∈ sums2 l1 r2 := by
              have := List.count_eq_zero.2 hm1
              exact List.count_pos_iff.1 (by omega)
            obtain ⟨x, hx, y, hy, hxy⟩ := mem_sums2.1 hm2
            cases r2 with
            | nil => simp at hy
            | cons c r2 =>
              have hrb : (l2 ++ c :: r2).Pairwise (· ≤ ·) := by rw [← q2]; exact db.2
              have hcr := (List.pairwise_append.1 hrb).2.1
              have hcy : c ≤ y := head_le hcr y hy
              have hax : l1.getD 0 0 ≤ x := head_le p1 x hx
              have hcm : c ∈ b.l := by rw [q2]; simp
              have hc30 := db.1 c hcm
              have ha0m : l1.getD 0 0 ∈ l1 := by rw [getD_nat _ _ _ (by omega)]; exact List.getElem_mem _
              have hin : l1.getD 0 0 + c ∈ sums2 l1 (c :: r2) := mem_sums2.2 ⟨_, ha0m, c, by simp, rfl⟩
              have heq : l1.getD 0 0 + c = v := by
                by_cases hlt : l1.getD 0 0 + c < v
                · exact absurd hin (hnot _ (by omega) hlt).2
                · omega
              have hce : (v : Int) - l1.getD 0 0 = c := by omega
              have hlb := congrArg List.length q2
              rw [b.h, List.length_append, List.length_cons] at hlb
              rw [hce]
              refine ⟨⟨by omega, last_le h2.1 hrb, hc30.2⟩, a, b, ⟨hs.1, hs.2.1, hs.2.2.1, ⟨r2, by rw [q2]; simp⟩, hs.2.2.2.2⟩, rfl⟩
theorem IsDie_eq (K : Nat) (hK : 2000000 ≤ K) (a : Ar 6) : impl_IsDie.f K a = some (dieB a) := die_impl K hK a
theorem allDie_l0 (K : Nat) (hK : 2000000 ≤ K) (l : List (Ar 6)) (h : l.length ≤ 1073741824) : ∀ (k n : Nat), n ≤ l.length → l.length - n < k →
    (slices_IndexFunc_6_int_6_int__areAll_6_int_1_IsDie.l0 K l k (n : Int) = some (Sum.inl ()) ∧ (l.drop n).all dieB = true) ∨ (∃ i : Int, 0 ≤ i ∧ slices_IndexFunc_6_int_6_int__areAll_6_int_1_IsDie.l0 K l k (n : Int) = some (Sum.inr i) ∧ (l.drop n).all dieB = false) := by
  intro k
  induction k with
  | zero => intro n h1 h2; omega
  | succ k ih =>
    intro n h1 h2
    rw [slices_IndexFunc_6_int_6_int__areAll_6_int_1_IsDie.l0]
    by_cases hn : (n : Int) < (l.length : Int)
    · have hn' : n < l.length := by omega
      have hnn : ((n : Int)).toNat = n := by omega
      have hd : l.drop n = l[n] :: l.drop (n + 1) := List.drop_eq_getElem_cons hn'
      have hg : l.getD n (Ar.zero 6) = l[n] := by rw [List.getD_eq_getElem?_getD, List.getElem?_eq_getElem hn']; rfl
      rw [if_pos hn, if_pos (by omega), w1 n (by omega), hnn, hg, impl_areAll_6_int_1__IsDie.f, IsDie_eq K hK, hd]
      simp only [some_bind, List.all_cons]
      rcases Bool.eq_false_or_eq_true (dieB l[n]) with e | e
      · rw [e]
        simp only [Bool.not_true, Bool.false_eq_true, if_false, Bool.true_and]
        exact ih (n + 1) (by omega) (by omega)
      · rw [e]
        simp only [Bool.not_false, if_true, Bool.false_and]
        exact .inr ⟨_, by omega, rfl, trivial⟩
    · rw [if_neg hn]
      have : n = l.length := by omega
      subst this
      exact .inl ⟨rfl, by simp⟩
theorem allDie_eq (K : Nat) (hK : 2000000 ≤ K) (l : List (Ar 6)) (h : l.length ≤ 1048576) : impl_areAll_6_int__IsDie.f K l = some (l.all dieB) := by
  unfold impl_areAll_6_int__IsDie.f slices_ContainsFunc_6_int_6_int__areAll_6_int_1_IsDie.f slices_IndexFunc_6_int_6_int__areAll_6_int_1_IsDie.f
  rcases allDie_l0 K hK l (by omega) K 0 (by omega) (by omega) with ⟨h1, h2⟩ | ⟨i, hi, h1, h2⟩
  · rw [show (0 : Int) = ((0 : Nat) : Int) from rfl, h1]
    simp only [some_bind, List.drop_zero] at h2 ⊢
    rw [h2]; rfl
  · rw [show (0 : Int) = ((0 : Nat) : Int) from rfl, h1]
    simp only [some_bind, List.drop_zero] at h2 ⊢
    rw [h2]
    have : decide (((0 : Nat) : Int) ≤ i) = true := decide_eq_true (by simpa using hi)
    rw [this]; rfl
theorem capDie_l0 (K : Nat) (hK : 2000000 ≤ K) (l : List (Ar 6)) (h : l.length ≤ 1073741824) : ∀ (k n : Nat), n ≤ l.length → l.length - n < k →
    (spec_l2Pool.l0 K l k (n : Int) = some (Sum.inl ()) ∧ ((l.length : Int) ≤ 4 → (l.drop n).all dieB = true)) ∨ (spec_l2Pool.l0 K l k (n : Int) = some (Sum.inr false) ∧ (l.drop n).all dieB = false) := by
  intro k
  induction k with
  | zero => intro n h1 h2; omega
  | succ k ih =>
    intro n h1 h2
    rw [spec_l2Pool.l0]
    by_cases hn : (n : Int) < (l.length : Int)
    · rw [if_pos hn]
      by_cases hc : (n : Int) ≤ 4
      · have hn' : n < l.length := by omega
        have hnn : ((n : Int)).toNat = n := by omega
        have hd : l.drop n = l[n] :: l.drop (n + 1) := List.drop_eq_getElem_cons hn'
        have hg : l.getD n (Ar.zero 6) = l[n] := by rw [List.getD_eq_getElem?_getD, List.getElem?_eq_getElem hn']; rfl
        rw [if_pos hc, if_pos (by omega), w1 n (by omega), hnn, hg, die_spec K hK, hd]
        simp only [some_bind, List.all_cons]
        rcases Bool.eq_false_or_eq_true (dieB l[n]) with e | e
        · rw [e]
          simp only [if_true, Bool.true_and]
          exact ih (n + 1) (by omega) (by omega)
        · rw [e]
          simp only [Bool.false_eq_true, if_false, Bool.false_and]
          exact .inr ⟨trivial, trivial⟩
      · rw [if_neg hc]
        exact .inl ⟨rfl, fun h => by omega⟩
    · rw [if_neg hn]
      have : n = l.length := by omega
      subst this
      exact .inl ⟨rfl, by simp⟩
def poolB (l : List (Ar 6)) : Bool := decide ((1 : Int) ≤ l.length ∧ (l.length : Int) ≤ 4) && l.all dieB
theorem pool_spec (K : Nat) (hK : 2000000 ≤ K) (l : List (Ar 6)) (h : l.length ≤ 1048576) : spec_l2Pool.f K l = some (poolB l) := by
  unfold spec_l2Pool.f poolB
  rcases capDie_l0 K hK l (by omega) K 0 (by omega) (by omega) with ⟨h1, h2⟩ | ⟨h1, h2⟩
  · rw [show (0 : Int) = ((0 : Nat) : Int) from rfl, h1, in_within]
    simp only [some_bind, List.drop_zero, in_eq] at h2 ⊢
    by_cases hc : (l.length : Int) ≤ 4
    · rw [h2 hc]; simp [hc]
    · simp [hc]
  · rw [show (0 : Int) = ((0 : Nat) : Int) from rfl, h1]
    simp only [some_bind, List.drop_zero] at h2 ⊢
    rw [h2]; simp
theorem pool_impl (K : Nat) (hK : 2000000 ≤ K) (l : List (Ar 6)) (h : l.length ≤ 1048576) : impl_IsPool.f K l = some (poolB l) := by
  unfold impl_IsPool.f poolB
  rw [in_eq, allDie_eq K hK l h]
  simp only [some_bind]
  by_cases hc : (1 : Int) ≤ l.length ∧ (l.length : Int) ≤ 4 <;> simp [hc]
theorem pool_good (l : List (Ar 6)) (h : poolB l = true) : (1 ≤ l.length ∧ l.length ≤ 4) ∧ ∀ a ∈ l, dieB a = true := by
  unfold poolB at h
  simp only [Bool.and_eq_true, decide_eq_true_eq, List.all_eq_true] at h
  exact ⟨by omega, h.2⟩
def LikeS (L : List Int) (a b : Ar 6) : Prop := dieB a = true ∧ dieB b = true ∧ ∀ u : Nat, u < 121 → (sums2 a.l b.l).count (u : Int) = L.count (u : Int)
theorem like_l3 (K : Nat) (hK : 2000000 ≤ K) (f : List PP) (hf : f.length ≤ 5000) : ∀ (k n : Nat) (out : List PP), n ≤ f.length → f.length - n < k → Rising out → out.length + (f.length - n) ≤ 1000000 → ∃ r, spec_l5Like.l3 K f k (n : Int) out = some r ∧ Rising r ∧ (∀ x, x ∈ r ↔ x ∈ out ∨ x ∈ f.drop n) ∧ r.length ≤ out.length + (f.length - n) := by
  intro k
  induction k with
  | zero => intro n out h1 h2; omega
  | succ k ih =>
    intro n out h1 h2 h3 h4
    rw [spec_l5Like.l3]
    by_cases hn : n < f.length
    · obtain ⟨o, o1, o2, o3, o4⟩ := put_ok K hK out (f.getD n ((Ar.zero 6), (Ar.zero 6))) (by omega) h3
      obtain ⟨r, r1, r2, r3, r4⟩ := ih (n + 1) o (by omega) (by omega) o2 (by omega)
      refine ⟨r, ?_, r2, fun x => ?_, by omega⟩
      · rw [if_pos (by omega), if_pos (by omega), Int.toNat_natCast, show spec_l5Put.f K out (f.getD n ((Ar.zero 6), (Ar.zero 6))) = _ from o1, some_bind, w1' n (by omega)]
        exact r1
      · rw [r3 x, o3 x, List.drop_eq_getElem_cons hn, List.mem_cons, getD_nat _ _ _ hn]
        constructor
        · rintro ((h | h) | h)
          · exact .inr (.inl h)
          · exact .inl h
          · exact .inr (.inr h)
        · rintro (h | h | h)
          · exact .inl (.inr h)
          · exact .inl (.inl h)
          · exact .inr h
    · have : n = f.length := by omega
      subst this
      rw [if_neg (by omega)]
      exact ⟨out, rfl, h3, fun x => by simp, by omega⟩
theorem die_head (a : Ar 6) (h : dieB a = true) : (0 ≤ a.get 0 ∧ a.get 0 ≤ 30) ∧ a.get 0 = a.l.getD 0 0 ∧ a.l.getD 0 0 ∈ a.l := by
  have e : a.get 0 = a.l.getD 0 0 := rfl
  have hm : a.l.getD 0 0 ∈ a.l := by rw [getD_nat _ _ _ (by rw [a.h]; omega)]; exact List.getElem_mem _
  exact ⟨by rw [e]; exact ((die_iff a).1 h).1 _ hm, e, hm⟩
theorem sums_min (a b : Ar 6) (ha : dieB a = true) (hb : dieB b = true) : a.get 0 + b.get 0 ∈ sums2 a.l b.l ∧ ∀ u ∈ sums2 a.l b.l, a.get 0 + b.get 0 ≤ u := by
  obtain ⟨_, e1, m1⟩ := die_head a ha
  obtain ⟨_, e2, m2⟩ := die_head b hb
  rw [e1, e2]
  refine ⟨mem_sums2.2 ⟨_, m1, _, m2, rfl⟩, fun u hu => ?_⟩
  obtain ⟨x, hx, y, hy, rfl⟩ := mem_sums2.1 hu
  have h1 := head_le ((die_iff a).1 ha).2 x hx
  have h2 := head_le ((die_iff b).1 hb).2 y hy
  omega
theorem like_first (P Q a b : Ar 6) (hP : dieB P = true) (hQ : dieB Q = true) (h : LikeS (sums2 P.l Q.l) a b) : a.get 0 + b.get 0 = P.get 0 + Q.get 0 := by
  obtain ⟨ha, hb, hc⟩ := h
  obtain ⟨m1, l1⟩ := sums_min a b ha hb
  obtain ⟨m2, l2⟩ := sums_min P Q hP hQ
  have r1 := sums2_in ((die_iff a).1 ha).1 ((die_iff b).1 hb).1 _ m1
  have r2 := sums2_in ((die_iff P).1 hP).1 ((die_iff Q).1 hQ).1 _ m2
  have c1 := hc (a.get 0 + b.get 0).toNat (by omega)
  have c2 := hc (P.get 0 + Q.get 0).toNat (by omega)
  rw [show (((a.get 0 + b.get 0).toNat : Nat) : Int) = a.get 0 + b.get 0 by omega] at c1
  rw [show (((P.get 0 + Q.get 0).toNat : Nat) : Int) = P.get 0 + Q.get 0 by omega] at c2
  have p1 := List.count_pos_iff.2 m1
  have p2 := List.count_pos_iff.2 m2
  have q1 := l2 _ (List.count_pos_iff.1 (by omega : 0 < (sums2 P.l Q.l).count (a.get 0 + b.get 0)))
  have q2 := l1 _ (List.count_pos_iff.1 (by omega : 0 < (sums2 a.l b.l).count (P.get 0 + Q.get 0)))
  omega
theorem pre_one {x : Int} {a : Ar 6} : [x] <+: a.l ↔ a.get 0 = x := by
  obtain ⟨p, q, r, s, t, u, rfl⟩ := Ar.cases6 a
  show [x] <+: [p, q, r, s, t, u] ↔ p = x
  simp only [List.cons_prefix_cons, List.nil_prefix, and_true]
  exact ⟨fun h => h.symm, fun h => h.symm⟩
theorem like_l2 (K : Nat) (hK : 2000000 ≤ K) (P Q : Ar 6) (hP : dieB P = true) (hQ : dieB Q = true) (T : Ar 121) (hT : TabIs T (sums2 P.l Q.l)) : ∀ (k n : Nat) (out : List PP), n ≤ 31 → (n : Int) ≤ P.get 0 + Q.get 0 + 1 → 31 - n < k → Rising out → out.length ≤ 1024 * n → (∀ x, x ∈ out ↔ ∃ a b, LikeS (sums2 P.l Q.l) a b ∧ a.get 0 < n ∧ x = mkP a b) →
    ∃ r, spec_l5Like.l2 K [P, Q] T k (n : Int) out = some r ∧ Rising r ∧ r.length ≤ 1024 * 31 ∧ ∀ x, x ∈ r ↔ ∃ a b, LikeS (sums2 P.l Q.l) a b ∧ x = mkP a b := by
  have hp0 := (die_head P hP).1
  have hq0 := (die_head Q hQ).1
  intro k
  induction k with
  | zero => intro n out h1 hn1 h2; omega
  | succ k ih =>
    intro n out h1 hn1 h2 h3 h4 h5
    have hfw : wrap64 ((([P, Q] : List (Ar 6)).getD (0 : Int).toNat (Ar.zero 6)).get 0 + (([P, Q] : List (Ar 6)).getD (1 : Int).toNat (Ar.zero 6)).get 0) = P.get 0 + Q.get 0 := w64 (n := P.get 0 + Q.get 0) (by omega) (by omega)
    rw [spec_l5Like.l2, hfw]
    clear hfw
    have hend : (¬ (n : Int) ≤ P.get 0 + Q.get 0 ∨ ¬ (n : Int) ≤ 30) → (∀ x, x ∈ out ↔ ∃ a b, LikeS (sums2 P.l Q.l) a b ∧ x = mkP a b) := by
      intro hc x
      rw [h5 x]
      constructor
      · rintro ⟨a, b, hs, _, rfl⟩; exact ⟨a, b, hs, rfl⟩
      · rintro ⟨a, b, hs, rfl⟩
        refine ⟨a, b, hs, ?_, rfl⟩
        have e := like_first P Q a b hP hQ hs
        have ha := (die_head a hs.1).1
        have hb := (die_head b hs.2.1).1
        omega
    by_cases c1 : (n : Int) ≤ P.get 0 + Q.get 0
    · by_cases c2 : (n : Int) ≤ 30
      · have c4 : -9223372036854775808 ≤ P.get 0 + Q.get 0 - (n : Int) ∧ P.get 0 + Q.get 0 - (n : Int) ≤ 9223372036854775807 := by omega
        rw [if_pos c1, if_pos c2, w64 c4.1 c4.2]
        by_cases c3 : 30 < P.get 0 + Q.get 0 - (n : Int)
        · rw [if_pos c3, w1' n (by omega)]
          refine ih (n + 1) out (by omega) (by omega) (by omega) h3 (by omega) (fun x => ?_)
          rw [h5 x]
          constructor
          · rintro ⟨a, b, hs, hlt, rfl⟩; exact ⟨a, b, hs, by omega, rfl⟩
          · rintro ⟨a, b, hs, hlt, rfl⟩
            refine ⟨a, b, hs, ?_, rfl⟩
            have e := like_first P Q a b hP hQ hs
            have hb := (die_head b hs.2.1).1
            omega
        · obtain ⟨f, f1, f2, f3⟩ := search_r K hK (sums2 P.l Q.l) T hT (by rw [sums2_len, P.h, Q.h]) (sums2_in ((die_iff P).1 hP).1 ((die_iff Q).1 hQ).1) 10 K [(n : Int)] [P.get 0 + Q.get 0 - (n : Int)] (by omega) (by simp) (by simp) (by simp)
            (by intro x hx; rw [List.mem_singleton.1 hx]; omega) (by intro x hx; rw [List.mem_singleton.1 hx]; omega) (by simp) (by simp)
          obtain ⟨o, o1, o2, o3, o4⟩ := like_l3 K hK f (by omega) K 0 out (by omega) (by omega) h3 (by omega)
          obtain ⟨r, r1, r2, r3, r4⟩ := ih (n + 1) o (by omega) (by omega) (by omega) o2 (by omega) (fun x => by
            rw [o3 x, h5 x, List.drop_zero, f3 x]
            constructor
            · rintro (⟨a, b, hs, hlt, rfl⟩ | ⟨a, b, hs, rfl⟩)
              · exact ⟨a, b, hs, by omega, rfl⟩
              · exact ⟨a, b, ⟨hs.1, hs.2.1, hs.2.2.2.2⟩, by have := pre_one.1 hs.2.2.1; omega, rfl⟩
            · rintro ⟨a, b, hs, hlt, rfl⟩
              by_cases hlt2 : a.get 0 < n
              · exact .inl ⟨a, b, hs, hlt2, rfl⟩
              · have e := like_first P Q a b hP hQ hs
                exact .inr ⟨a, b, ⟨hs.1, hs.2.1, pre_one.2 (by omega), pre_one.2 (by omega), hs.2.2⟩, rfl⟩)
          refine ⟨r, ?_, r2, r3, r4⟩
          rw [if_neg c3]
          unfold spec_l5Search.f
          rw [f1, some_bind, show spec_l5Like.l3 K f K 0 out = _ from o1, some_bind, w1' n (by omega)]
          exact r1
      · rw [if_pos c1, if_neg c2]
        exact ⟨out, rfl, h3, by omega, hend (.inr c2)⟩
    · rw [if_neg c1]
      exact ⟨out, rfl, h3, by omega, hend (.inl c1)⟩
theorem like_spec (K : Nat) (hK : 2000000 ≤ K) (P Q : Ar 6) (hP : dieB P = true) (hQ : dieB Q = true) : ∃ r, spec_l5Like.f K [P, Q] = some r ∧ Rising r ∧ r.length ≤ 40000 ∧ ∀ x, x ∈ r ↔ ∃ a b, LikeS (sums2 P.l Q.l) a b ∧ x = mkP a b := by
  obtain ⟨T, t1, _, t3⟩ := tab_two K (by omega) P Q hP hQ
  have hp0 := (die_head P hP).1
  have hq0 := (die_head Q hQ).1
  obtain ⟨r, r1, r2, r3, r4⟩ := like_l2 K hK P Q hP hQ T t3 K 0 [] (by omega) (by omega) (by omega) (by simp [Rising]) (by simp) (fun x => by
    constructor
    · intro h; simp at h
    · rintro ⟨a, b, hs, hlt, _⟩
      have := (die_head a hs.1).1
      omega)
  refine ⟨r, ?_, r2, by omega, r4⟩
  unfold spec_l5Like.f
  rw [t1, some_bind, if_pos (by simp), if_pos (by simp), show spec_l5Like.l2 K [P, Q] T K 0 [] = _ from r1, some_bind]
def gA (a : Ar 31) (i : Nat) : Int := a.l.getD i 0
theorem gA_get (a : Ar 31) (i : Nat) : a.get (i : Int) = gA a i := by unfold Ar.get gA; rw [Int.toNat_natCast]
theorem gA_out (a : Ar 31) (i : Nat) (h : 31 ≤ i) : gA a i = 0 := by
  unfold gA
  rw [List.getD_eq_getElem?_getD, List.getElem?_eq_none (by rw [a.h]; exact h)]
  rfl
theorem gA_set (a : Ar 31) (s : Nat) (hs : s < 31) (v : Int) (i : Nat) : gA (a.set (s : Int) v) i = if i = s then v else gA a i := by
  rw [← gA_get, ← gA_get, ar_get_set _ _ _ _ (by omega) (by omega) (by omega)]
  by_cases h : i = s
  · rw [if_pos h, if_pos (by omega)]
  · rw [if_neg h, if_neg (by omega)]
theorem gA_ext {a b : Ar 31} (h : ∀ i, i < 31 → gA a i = gA b i) : a = b := by
  apply Ar.ext
  apply List.ext_getElem (by rw [a.h, b.h])
  intro i h1 h2
  have := h i (by rw [a.h] at h1; exact h1)
  unfold gA at this
  rwa [getD_nat _ _ _ h1, getD_nat _ _ _ h2] at this
/-- The list with counts, up to a face. -/
def dlp (g : Nat → Int) : Nat → List Int
  | 0 => []
  | f + 1 => dlp g f ++ List.replicate (g f).toNat (f : Int)
theorem dlp_len (g : Nat → Int) (hg : ∀ i, 0 ≤ g i) : ∀ f, ((dlp g f).length : Int) = sumN f g
  | 0 => rfl
  | f + 1 => by
    have := hg f
    rw [dlp, List.length_append, List.length_replicate, sumN, ← dlp_len g hg f]
    omega
theorem dlp_count (g : Nat → Int) (hg : ∀ i, 0 ≤ g i) (u : Nat) : ∀ f, ((dlp g f).count (u : Int) : Int) = if u < f then g u else 0
  | 0 => rfl
  | f + 1 => by
    have ih := dlp_count g hg u f
    have := hg f
    rw [dlp, List.count_append, List.count_replicate, Int.natCast_add, ih]
    by_cases h1 : u < f
    · rw [if_pos h1, if_neg (show ¬ (((f : Int) == (u : Int)) = true) by simp; omega), if_pos (show u < f + 1 by omega)]; simp
    · rw [if_neg h1]
      by_cases h2 : u = f
      · subst h2
        rw [if_pos (by simp), if_pos (by omega)]
        omega
      · rw [if_neg (by simp; omega), if_neg (by omega)]; simp
theorem dlp_mem (g : Nat → Int) : ∀ (f : Nat) (x : Int), x ∈ dlp g f → 0 ≤ x ∧ x < f
  | 0, x, h => by simp [dlp] at h
  | f + 1, x, h => by
    rw [dlp, List.mem_append] at h
    rcases h with h | h
    · have := dlp_mem g f x h; omega
    · have := (List.mem_replicate.1 h).2; omega
theorem dlp_rise (g : Nat → Int) : ∀ f, (dlp g f).Pairwise (· ≤ ·)
  | 0 => by simp [dlp]
  | f + 1 => by
    rw [dlp, List.pairwise_append]
    refine ⟨dlp_rise g f, ?_, fun x hx y hy => ?_⟩
    · rw [List.pairwise_replicate]; simp
    · have := dlp_mem g f x hx
      have := (List.mem_replicate.1 hy).2
      omega
def dA (a : Ar 31) : Ar 6 := if h : (dlp (gA a) 31).length = 6 then ⟨dlp (gA a) 31, h⟩ else Ar.zero 6
def NN (a : Ar 31) : Prop := ∀ i, 0 ≤ gA a i
theorem dA_l (a : Ar 31) (h : NN a) (h6 : sumN 31 (gA a) = 6) : (dA a).l = dlp (gA a) 31 := by
  have := dlp_len (gA a) h 31
  unfold dA
  rw [dif_pos (by omega)]
theorem dA_die (a : Ar 31) (h : NN a) (h6 : sumN 31 (gA a) = 6) : dieB (dA a) = true := by
  rw [die_iff, dA_l a h h6]
  exact ⟨fun x hx => by have := dlp_mem _ _ x hx; omega, dlp_rise _ _⟩
/-- The counts of a die. -/
def cA (d : Ar 6) : Ar 31 := ⟨(List.range 31).map fun i : Nat => (d.l.count (i : Int) : Int), by simp⟩
theorem cA_get (d : Ar 6) (i : Nat) (hi : i < 31) : gA (cA d) i = (d.l.count (i : Int) : Int) := by
  unfold gA cA
  rw [getD_nat _ _ _ (by simpa using hi)]
  simp
theorem cA_nn (d : Ar 6) : NN (cA d) := by
  intro i
  by_cases hi : i < 31
  · rw [cA_get d i hi]; omega
  · rw [gA_out _ _ (by omega)]; omega
theorem cA_sum (d : Ar 6) (h : dieB d = true) : sumN 31 (gA (cA d)) = 6 := by
  have h1 := range_sum (fun _ => 1) 31 d.l (fun x hx => by have := ((die_iff d).1 h).1 x hx; omega)
  have h2 : (d.l.map fun _ => (1 : Int)).sum = (d.l.length : Int) := by
    generalize d.l = l
    induction l with
    | nil => rfl
    | cons x l ih => rw [List.map_cons, List.sum_cons, ih, List.length_cons]; omega
  rw [h2, d.h] at h1
  rw [sumN_congr 31 (gA (cA d)) (fun s => (d.l.count (s : Int) : Int) * 1) (fun i hi => by rw [cA_get d i hi, Int.mul_one])]
  exact h1.symm
theorem rise_unique {l m : List Int} (hl : l.Pairwise (· ≤ ·)) (hm : m.Pairwise (· ≤ ·)) (hp : l.Perm m) : l = m :=
  perm_sorted_eq (lt := fun x y : Int => x < y) (fun x y h1 h2 => by omega) hp (hl.imp fun h => by omega) (hm.imp fun h => by omega)
theorem dA_cA (d : Ar 6) (h : dieB d = true) : dA (cA d) = d := by
  apply Ar.ext
  rw [dA_l _ (cA_nn d) (cA_sum d h)]
  obtain ⟨h1, h2⟩ := (die_iff d).1 h
  refine rise_unique (dlp_rise _ _) h2 (List.perm_iff_count.2 fun u => ?_)
  by_cases hu : 0 ≤ u ∧ u ≤ 30
  · obtain ⟨n, rfl⟩ : ∃ n : Nat, u = (n : Int) := ⟨u.toNat, by omega⟩
    have := dlp_count (gA (cA d)) (cA_nn d) n 31
    rw [if_pos (by omega), cA_get d n (by omega)] at this
    omega
  · rw [List.count_eq_zero.2 (fun hm => by have := dlp_mem _ _ u hm; omega), List.count_eq_zero.2 (fun hm => hu (h1 u hm))]
/-- The ways of a sum, by counts. -/
def conv (a b : Nat → Int) (s : Nat) : Int := sumN (s + 1) fun i => a i * b (s - i)
theorem sumN_ext (n m : Nat) (g : Nat → Int) (h : ∀ i, n ≤ i → g i = 0) (hnm : n ≤ m) : sumN m g = sumN n g := by
  induction m with
  | zero => rw [show n = 0 by omega]
  | succ m ih =>
    by_cases hm : n ≤ m
    · rw [sumN, ih hm, h m hm, Int.add_zero]
    · rw [show n = m + 1 by omega]
theorem conv_count (a b : Ar 31) (ha : NN a) (hb : NN b) (h6 : sumN 31 (gA a) = 6) (h6' : sumN 31 (gA b) = 6) (s : Nat) : ((sums2 (dA a).l (dA b).l).count (s : Int) : Int) = conv (gA a) (gA b) s := by
  rw [count_sums2, dA_l a ha h6, dA_l b hb h6', range_sum _ 31 _ (fun x hx => by have := dlp_mem _ _ x hx; omega)]
  unfold conv
  have hterm : ∀ i : Nat, i < 31 → ((dlp (gA a) 31).count (i : Int) : Int) * ((dlp (gA b) 31).count ((s : Int) - (i : Int)) : Int) = if i ≤ s then gA a i * gA b (s - i) else 0 := by
    intro i hi
    rw [dlp_count _ ha, if_pos hi]
    by_cases his : i ≤ s
    · rw [if_pos his, show (s : Int) - (i : Int) = ((s - i : Nat) : Int) by omega, dlp_count _ hb]
      by_cases h31 : s - i < 31
      · rw [if_pos h31]
      · rw [if_neg h31, gA_out b _ (by omega)]
    · rw [if_neg his, List.count_eq_zero.2 (fun hm => by have := dlp_mem _ _ _ hm; omega)]
      simp
  rw [sumN_congr 31 _ _ hterm]
  have e1 : sumN 31 (fun i => if i ≤ s then gA a i * gA b (s - i) else 0) = sumN (31 + (s + 1)) (fun i => if i ≤ s then gA a i * gA b (s - i) else 0) := by
    refine (sumN_ext 31 _ _ (fun i hi => ?_) (by omega)).symm
    split
    · rw [gA_out a i hi, Int.zero_mul]
    · rfl
  have e2 : sumN (31 + (s + 1)) (fun i => if i ≤ s then gA a i * gA b (s - i) else 0) = sumN (s + 1) (fun i => if i ≤ s then gA a i * gA b (s - i) else 0) := by
    refine sumN_ext (s + 1) _ _ (fun i hi => ?_) (by omega)
    rw [if_neg (by omega)]
  rw [e1, e2]
  exact sumN_congr _ _ _ fun i hi => if_pos (by omega)
/-! the program's die -/
theorem die_l3 (K : Nat) (a : Ar 31) (f : Nat) (hf : f < 31) (c : Nat) (hc : gA a f = (c : Int)) (pre : List Int) (hp : pre.length + c ≤ 6) : ∀ (k n : Nat) (out : Ar 6), n ≤ c → c - n < k → out.l = pre ++ List.replicate n (f : Int) ++ List.replicate (6 - pre.length - n) 0 →
    ∃ r, impl_die.l3 K a (f : Int) k ((pre.length + n : Nat) : Int) (n : Int) out = some (((pre.length + c : Nat) : Int), r) ∧ r.l = pre ++ List.replicate c (f : Int) ++ List.replicate (6 - pre.length - c) 0 := by
  intro k
  induction k with
  | zero => intro n out h1 h2; omega
  | succ k ih =>
    intro n out h1 h2 h3
    rw [impl_die.l3, gA_get, hc]
    by_cases hn : n < c
    · obtain ⟨r, r1, r2⟩ := ih (n + 1) (out.set ((pre.length + n : Nat) : Int) (f : Int)) (by omega) (by omega) (by
        show out.l.set (((pre.length + n : Nat) : Int)).toNat (f : Int) = _
        rw [Int.toNat_natCast, h3, List.append_assoc, List.set_append_right _ _ (by omega), Nat.add_sub_cancel_left, List.set_append_right _ _ (by simp), List.length_replicate, Nat.sub_self]
        obtain ⟨q, hq⟩ : ∃ q, 6 - pre.length - n = q + 1 := ⟨6 - pre.length - n - 1, by omega⟩
        rw [hq, List.replicate_succ, List.set_cons_zero, show 6 - pre.length - (n + 1) = q by omega, List.replicate_succ', List.append_assoc, List.append_assoc]
        rfl)
      refine ⟨r, ?_, r2⟩
      rw [if_pos (by omega), if_pos (by omega), w1' n (by omega), w1' (pre.length + n) (by omega)]
      exact r1
    · have : n = c := by omega
      subst this
      rw [if_neg (by omega)]
      exact ⟨out, rfl, h3⟩
theorem sumN_mono (g : Nat → Int) (hg : ∀ i, 0 ≤ g i) (f m : Nat) (h : f ≤ m) : sumN f g ≤ sumN m g := by
  induction m with
  | zero => rw [show f = 0 by omega]; exact Int.le_refl _
  | succ m ih =>
    by_cases hm : f ≤ m
    · have := ih hm
      have := hg m
      rw [sumN]
      omega
    · rw [show f = m + 1 by omega]; exact Int.le_refl _
theorem die_l2 (K : Nat) (hK : 1000 ≤ K) (a : Ar 31) (ha : NN a) (h6 : sumN 31 (gA a) = 6) : ∀ (k f : Nat) (out : Ar 6), f ≤ 31 → 31 - f < k → out.l = dlp (gA a) f ++ List.replicate (6 - (dlp (gA a) f).length) 0 →
    ∃ r, impl_die.l2 K a k (((dlp (gA a) f).length : Nat) : Int) (f : Int) out = some r ∧ r.l = dlp (gA a) 31 := by
  have hmono : ∀ f, f ≤ 31 → sumN f (gA a) ≤ sumN 31 (gA a) := fun f hf => sumN_mono (gA a) ha f 31 hf
  intro k
  induction k with
  | zero => intro f out h1 h2; omega
  | succ k ih =>
    intro f out h1 h2 h3
    rw [impl_die.l2]
    by_cases hf : f < 31
    · obtain ⟨c, hc⟩ : ∃ c : Nat, gA a f = (c : Int) := ⟨(gA a f).toNat, by have := ha f; omega⟩
      have hl := dlp_len (gA a) ha f
      have hs := hmono (f + 1) (by omega)
      rw [sumN] at hs
      have hp : (dlp (gA a) f).length + c ≤ 6 := by omega
      obtain ⟨r, r1, r2⟩ := die_l3 K a f hf c hc (dlp (gA a) f) hp K 0 out (by omega) (by omega) (by rw [h3]; simp)
      have hd : dlp (gA a) (f + 1) = dlp (gA a) f ++ List.replicate c (f : Int) := by rw [dlp, hc, Int.toNat_natCast]
      have hdl : (dlp (gA a) (f + 1)).length = (dlp (gA a) f).length + c := by rw [hd, List.length_append, List.length_replicate]
      obtain ⟨q, q1, q2⟩ := ih (f + 1) r (by omega) (by omega) (by
        rw [r2, hdl, hd, Nat.sub_sub])
      refine ⟨q, ?_, q2⟩
      rw [if_pos (by omega), if_pos (by omega), show impl_die.l3 K a (f : Int) K (((dlp (gA a) f).length : Nat) : Int) 0 out = _ from r1, some_bind, w1' f (by omega), ← hdl]
      exact q1
    · have : f = 31 := by omega
      subst this
      rw [if_neg (by omega)]
      have hl := dlp_len (gA a) ha 31
      refine ⟨out, rfl, ?_⟩
      rw [h3, show 6 - (dlp (gA a) 31).length = 0 by omega]
      simp
theorem die_eq (K : Nat) (hK : 1000 ≤ K) (a : Ar 31) (ha : NN a) (h6 : sumN 31 (gA a) = 6) : impl_die.f K a = some (dA a) := by
  obtain ⟨r, r1, r2⟩ := die_l2 K hK a ha h6 K 0 (Ar.zero 6) (by omega) (by omega) rfl
  unfold impl_die.f
  rw [show impl_die.l2 K a K 0 0 (Ar.zero 6) = _ from r1, some_bind]
  exact congrArg some (Ar.ext (r2.trans (dA_l a ha h6).symm))
def kn (a b : Nat → Int) (s : Nat) : Int := sumN (s - 1) fun i => a (i + 1) * b (s - 1 - i)
theorem sumN_shift (g : Nat → Int) : ∀ n, sumN (n + 1) g = g 0 + sumN n (fun i => g (i + 1))
  | 0 => by simp [sumN]
  | n + 1 => by
    have ih := sumN_shift g n
    rw [sumN, ih, sumN]
    omega
theorem conv_split (a b : Nat → Int) (s : Nat) (hs : 1 ≤ s) : conv a b s = a 0 * b s + kn a b s + a s * b 0 := by
  obtain ⟨q, rfl⟩ : ∃ q, s = q + 1 := ⟨s - 1, by omega⟩
  unfold conv kn
  rw [sumN, sumN_shift, Nat.sub_self, Nat.sub_zero, Nat.add_sub_cancel]
  have : sumN q (fun i => a (i + 1) * b (q + 1 - (i + 1))) = sumN q (fun i => a (i + 1) * b (q - i)) := sumN_congr _ _ _ fun i hi => by rw [show q + 1 - (i + 1) = q - i by omega]
  rw [this]
theorem kn_congr {a b a' b' : Nat → Int} (s : Nat) (h1 : ∀ t, t < s → a t = a' t) (h2 : ∀ t, t < s → b t = b' t) : kn a b s = kn a' b' s := by
  unfold kn
  refine sumN_congr _ _ _ fun i hi => ?_
  rw [h1 _ (by omega), h2 _ (by omega)]
theorem get_le (a : Ar 31) (ha : NN a) (i : Nat) : gA a i ≤ sumN 31 (gA a) := by
  by_cases hi : i < 31
  · have h1 := sumN_mono (gA a) ha (i + 1) 31 (by omega)
    have h2 := sumN_mono (gA a) ha 0 i (by omega)
    rw [sumN] at h1
    simp only [sumN] at h2
    omega
  · rw [gA_out a i (by omega)]
    exact sumN_mono (gA a) ha 0 31 (by omega)
theorem prod_b (x y : Int) (hx : 0 ≤ x ∧ x ≤ 6) (hy : 0 ≤ y ∧ y ≤ 6) : 0 ≤ x * y ∧ x * y ≤ 36 :=
  ⟨Int.mul_nonneg hx.1 hy.1, by have := Int.mul_le_mul hx.2 hy.2 hy.1 (by omega); omega⟩
theorem known_l0 (K : Nat) (a b : Ar 31) (ha : NN a) (hb : NN b) (sa : sumN 31 (gA a) ≤ 6) (sb : sumN 31 (gA b) ≤ 6) (s : Nat) (hs : 1 ≤ s) (hs2 : s ≤ 60) : ∀ (k i : Nat), 1 ≤ i → s ≤ i + 30 → i ≤ s → i ≤ 31 → s + 1 - i < k → impl_factors_known__c.l0 K a b (s : Int) k (sumN (i - 1) fun i => gA a (i + 1) * gA b (s - 1 - i)) (i : Int) = some (kn (gA a) (gA b) s) := by
  intro k
  induction k with
  | zero => intro i h1 h2 h3 h4 h5; omega
  | succ k ih =>
    intro i h1 h2 h3 h4 h5
    rw [impl_factors_known__c.l0]
    by_cases hi : i < s
    · have c1 : (i : Int) < (s : Int) := by omega
      by_cases hi2 : i ≤ 30
      · have c2 : (i : Int) ≤ 30 := by omega
        have c3 : (0 : Int) ≤ (i : Int) ∧ (i : Int) < 31 := by omega
        have c4 : (0 : Int) ≤ ((s - i : Nat) : Int) ∧ ((s - i : Nat) : Int) < 31 := by omega
        have hp := prod_b (gA a i) (gA b (s - i)) ⟨ha i, by have := get_le a ha i; omega⟩ ⟨hb _, by have := get_le b hb (s - i); omega⟩
        have hsum := sumN_range (i - 1) (fun i => gA a (i + 1) * gA b (s - 1 - i)) 36 (fun j hj => prod_b _ _ ⟨ha _, by have := get_le a ha (j + 1); omega⟩ ⟨hb _, by have := get_le b hb (s - 1 - j); omega⟩)
        have hih := ih (i + 1) (by omega) (by omega) (by omega) (by omega) (by omega)
        rw [show i + 1 - 1 = (i - 1) + 1 by omega, sumN, show i - 1 + 1 = i by omega, show s - 1 - (i - 1) = s - i by omega] at hih
        have b1 : ((i - 1 : Nat) : Int) * 36 ≤ 31 * 36 := by omega
        have e1 : wrap64 ((s : Int) - (i : Int)) = ((s - i : Nat) : Int) := by rw [w64 (by omega) (by omega)]; omega
        have c5 : -9223372036854775808 ≤ gA a i * gA b (s - i) ∧ gA a i * gA b (s - i) ≤ 9223372036854775807 := by clear e1; omega
        have c6 : -9223372036854775808 ≤ sumN (i - 1) (fun i => gA a (i + 1) * gA b (s - 1 - i)) + gA a i * gA b (s - i) ∧ sumN (i - 1) (fun i => gA a (i + 1) * gA b (s - 1 - i)) + gA a i * gA b (s - i) ≤ 9223372036854775807 := by clear e1; omega
        rw [if_pos c1, if_pos c2, if_pos c3, e1, if_pos c4, gA_get, gA_get, w64 c5.1 c5.2, w64 c6.1 c6.2, w1' i (by clear e1; omega)]
        exact hih
      · rw [if_pos c1, if_neg (by omega)]
        unfold kn
        rw [show i - 1 = 30 by omega, sumN_ext 30 (s - 1) _ (fun j hj => by rw [gA_out a (j + 1) (by omega), Int.zero_mul]) (by omega)]
    · have : i = s := by omega
      subst this
      rw [if_neg (by omega)]
      rfl
theorem known_eq (K : Nat) (hK : 1000 ≤ K) (y : List PP) (W : Ar 121) (p q : Int) (a b : Ar 31) (ha : NN a) (hb : NN b) (sa : sumN 31 (gA a) ≤ 6) (sb : sumN 31 (gA b) ≤ 6) (s : Nat) (hs : 1 ≤ s) (hs2 : s ≤ 60) : impl_factors_known__c.f K y W a b p q (s : Int) = some (kn (gA a) (gA b) s) := by
  unfold impl_factors_known__c.f
  have hw : wrap64 ((s : Int) - 30) = (s : Int) - 30 := w64 (by omega) (by omega)
  rw [hw]
  clear hw
  obtain ⟨i, hi, h1, h2, h3, h4⟩ : ∃ i : Nat, (if (s : Int) - 30 > 1 then (s : Int) - 30 else 1) = (i : Int) ∧ 1 ≤ i ∧ s ≤ i + 30 ∧ i ≤ s ∧ i ≤ 31 := by
    by_cases h : (s : Int) - 30 > 1
    · exact ⟨s - 30, by rw [if_pos h]; omega, by omega, by omega, by omega, by omega⟩
    · exact ⟨1, by rw [if_neg h]; rfl, by omega, by omega, by omega, by omega⟩
  have h5 := known_l0 K a b ha hb sa sb s hs hs2 K i h1 h2 h3 h4 (by omega)
  have h0 : sumN (i - 1) (fun i => gA a (i + 1) * gA b (s - 1 - i)) = 0 := by
    have hb1 : (if (s : Int) - 30 > 1 then (s : Int) - 30 else 1) = (i : Int) := hi
    rw [sumN_congr _ _ (fun _ => 0) (fun j hj => ?_), sumN_zero]
    have : 31 ≤ s - 1 - j := by
      split at hb1 <;> omega
    rw [gA_out b _ this, Int.mul_zero]
  rw [h0] at h5
  rw [hi, h5, some_bind]
/-! how many -/
def ctS (g : Nat → Nat) : Nat → Nat
  | 0 => g 0
  | l + 1 => ctS g l + g (l + 1)
def cnt : Nat → Nat → Nat
  | 0 => fun _ => 1
  | d + 1 => ctS (cnt d)
structure St (s : Nat) (a b : Ar 31) (lf rt : Nat) : Prop where
  na : NN a
  nb : NN b
  za : ∀ t, s ≤ t → gA a t = 0
  zb : ∀ t, s ≤ t → gA b t = 0
  a0 : 1 ≤ gA a 0
  b0 : 1 ≤ gA b 0
  la : (lf : Int) + sumN 31 (gA a) = 6
  rb : (rt : Int) + sumN 31 (gA b) = 6
structure Cmp (W : Ar 121) (s : Nat) (a b A B : Ar 31) : Prop where
  na : NN A
  nb : NN B
  sa : sumN 31 (gA A) = 6
  sb : sumN 31 (gA B) = 6
  ea : ∀ t, t < s → gA A t = gA a t
  eb : ∀ t, t < s → gA B t = gA b t
  cv : ∀ t : Nat, s ≤ t → t ≤ 60 → conv (gA A) (gA B) t = W.get (t : Int)
theorem sum_upd (g : Nat → Int) (s : Nat) (v : Int) (hs : s < 31) (hz : g s = 0) : sumN 31 (fun i => if i = s then v else g i) = sumN 31 g + v := by
  have : ∀ n, sumN n (fun i => if i = s then v else g i) = sumN n g + if s < n then v else 0 := by
    intro n
    induction n with
    | zero => simp [sumN]
    | succ n ih =>
      rw [sumN, sumN, ih]
      by_cases h1 : s < n
      · rw [if_pos h1, if_neg (by omega), if_pos (by omega)]; omega
      · rw [if_neg h1]
        by_cases h2 : n = s
        · subst h2
          rw [if_pos rfl, if_pos (by omega), hz]
        · rw [if_neg h2, if_neg (by omega)]; omega
  rw [this 31, if_pos hs]
theorem st_set {s : Nat} {a b : Ar 31} {lf rt : Nat} (h : St s a b lf rt) (hs : 1 ≤ s) (hs2 : s ≤ 30) (n m : Nat) (hn : n ≤ lf) (hm : m ≤ rt) : St (s + 1) (a.set (s : Int) (n : Int)) (b.set (s : Int) (m : Int)) (lf - n) (rt - m) := by
  have ga := fun i => gA_set a s (by omega) (n : Int) i
  have gb := fun i => gA_set b s (by omega) (m : Int) i
  refine ⟨fun i => ?_, fun i => ?_, fun t ht => ?_, fun t ht => ?_, ?_, ?_, ?_, ?_⟩
  · rw [ga]; split
    · omega
    · exact h.na i
  · rw [gb]; split
    · omega
    · exact h.nb i
  · rw [ga, if_neg (by omega)]; exact h.za t (by omega)
  · rw [gb, if_neg (by omega)]; exact h.zb t (by omega)
  · rw [ga, if_neg (by omega)]; exact h.a0
  · rw [gb, if_neg (by omega)]; exact h.b0
  · rw [show gA (a.set (s : Int) (n : Int)) = fun i => if i = s then (n : Int) else gA a i from funext ga, sum_upd _ _ _ (by omega) (h.za s (Nat.le_refl _))]
    have := h.la; omega
  · rw [show gA (b.set (s : Int) (m : Int)) = fun i => if i = s then (m : Int) else gA b i from funext gb, sum_upd _ _ _ (by omega) (h.zb s (Nat.le_refl _))]
    have := h.rb; omega
theorem set_back {a : Ar 31} {s : Nat} (hs : s < 31) (hz : gA a s = 0) (v : Int) : (a.set (s : Int) v).set (s : Int) 0 = a := by
  apply gA_ext
  intro i hi
  rw [gA_set _ s hs, gA_set _ s hs]
  by_cases h : i = s
  · rw [if_pos h, h, hz]
  · rw [if_neg h, if_neg h]
theorem cmp_le {W : Ar 121} {s : Nat} {a b A B : Ar 31} {lf rt : Nat} (h : St s a b lf rt) (c : Cmp W s a b A B) (hs2 : s ≤ 30) : gA A s ≤ lf ∧ gA B s ≤ rt := by
  have key : ∀ (X x : Ar 31) (l : Nat), NN X → sumN 31 (gA X) = 6 → (∀ t, t < s → gA X t = gA x t) → (∀ t, s ≤ t → gA x t = 0) → (l : Int) + sumN 31 (gA x) = 6 → gA X s ≤ l := by
    intro X x l h1 h2 h3 h4 h5
    have e1 := sumN_mono (gA X) h1 (s + 1) 31 (by omega)
    rw [sumN] at e1
    have e2 : sumN s (gA X) = sumN s (gA x) := sumN_congr _ _ _ fun i hi => h3 i hi
    have e3 := sumN_ext s 31 (gA x) (fun i hi => h4 i hi) (by omega)
    omega
  exact ⟨key A a lf c.na c.sa c.ea h.za h.la, key B b rt c.nb c.sb c.eb h.zb h.rb⟩
theorem cmp_conv {W : Ar 121} {s : Nat} {a b A B : Ar 31} (c : Cmp W s a b A B) (hs : 1 ≤ s) (hs2 : s ≤ 60) : gA a 0 * gA B s + kn (gA a) (gA b) s + gA A s * gA b 0 = W.get (s : Int) := by
  have := c.cv s (Nat.le_refl _) hs2
  rw [conv_split _ _ _ hs, c.ea 0 (by omega), c.eb 0 (by omega), kn_congr s c.ea c.eb] at this
  exact this
abbrev GRec := (Ar 121) → (Ar 31) → (Ar 31) → Int → Int → (List ((Ar 6) × (Ar 6))) → Int → Option (Unit × ((Ar 31) × (Ar 31) × Int × Int × (List ((Ar 6) × (Ar 6)))))
set_option maxHeartbeats 1000000 in
theorem grow_l0 (K : Nat) (W : Ar 121) (s : Nat) (hs : 1 ≤ s) (hs2 : s ≤ 30) (rec : GRec) (a b : Ar 31) (lf rt : Nat) (h : St s a b lf rt) (hW : 0 ≤ W.get (s : Int) ∧ W.get (s : Int) ≤ 36)
    (hrec : ∀ (a' b' : Ar 31) (lf' rt' : Nat) (found' : List PP), St (s + 1) a' b' lf' rt' → found'.length + cnt (30 - s) lf' ≤ 1073741824 → ∃ new, rec W a' b' (lf' : Int) (rt' : Int) found' ((s + 1 : Nat) : Int) = some ((), (a', b', (lf' : Int), (rt' : Int), found' ++ new)) ∧ new.length ≤ cnt (30 - s) lf' ∧ ∀ x, x ∈ new ↔ ∃ A B, Cmp W (s + 1) a' b' A B ∧ x = mkP (dA A) (dA B)) :
    ∀ (k n : Nat) (found : List PP), n ≤ lf + 1 → lf + 1 - n < k → found.length + (if n ≤ lf then cnt (31 - s) (lf - n) else 0) ≤ 1073741824 →
    ∃ new, impl_factors_grow__c1.l0 K W (s : Int) rec (kn (gA a) (gA b) s) k (n : Int) a b (lf : Int) (rt : Int) found = some (a, b, (lf : Int), (rt : Int), found ++ new) ∧ new.length ≤ (if n ≤ lf then cnt (31 - s) (lf - n) else 0) ∧ ∀ x, x ∈ new ↔ ∃ A B, Cmp W s a b A B ∧ (n : Int) ≤ gA A s ∧ x = mkP (dA A) (dA B) := by
  have hla := h.la
  have hrb := h.rb
  have sa0 : 0 ≤ sumN 31 (gA a) := sumN_mono (gA a) h.na 0 31 (by omega)
  have sb0 : 0 ≤ sumN 31 (gA b) := sumN_mono (gA b) h.nb 0 31 (by omega)
  have hA0 : 1 ≤ gA a 0 ∧ gA a 0 ≤ 6 := ⟨h.a0, by have := get_le a h.na 0; omega⟩
  have hB0 : 1 ≤ gA b 0 ∧ gA b 0 ≤ 6 := ⟨h.b0, by have := get_le b h.nb 0; omega⟩
  have hkn : 0 ≤ kn (gA a) (gA b) s ∧ kn (gA a) (gA b) s ≤ 2000 := by
    have := sumN_range (s - 1) (fun i => gA a (i + 1) * gA b (s - 1 - i)) 36 (fun j hj => prod_b _ _ ⟨h.na _, by have := get_le a h.na (j + 1); omega⟩ ⟨h.nb _, by have := get_le b h.nb (s - 1 - j); omega⟩)
    have h2 : ((s - 1 : Nat) : Int) * 36 ≤ 30 * 36 := by omega
    unfold kn
    omega
  have hcmp : ∀ A B, Cmp W s a b A B → gA a 0 * gA B s + gA A s * gA b 0 = W.get (s : Int) - kn (gA a) (gA b) s ∧ 0 ≤ gA A s ∧ 0 ≤ gA B s ∧ gA A s ≤ lf ∧ gA B s ≤ rt := by
    intro A B c
    have h1 := cmp_conv c hs (by omega)
    have h2 := cmp_le h c hs2
    exact ⟨by omega, c.na s, c.nb s, h2.1, h2.2⟩
  have hA0e : a.get 0 = gA a 0 := rfl
  have hB0e : b.get 0 = gA b 0 := rfl
  have hcnt : ∀ l, cnt (31 - s) l = if l = 0 then cnt (30 - s) 0 else cnt (31 - s) (l - 1) + cnt (30 - s) l := by
    intro l
    rw [show 31 - s = (30 - s) + 1 by omega]
    cases l with
    | zero => rfl
    | succ l => rfl
  intro k
  induction k with
  | zero => intro n found h1 h2; omega
  | succ k ih =>
    intro n found h1 h2 h3
    rw [impl_factors_grow__c1.l0, hA0e, hB0e]
    -- an end without more
    have hend : (∀ A B, Cmp W s a b A B → ¬ (n : Int) ≤ gA A s) → ∃ new, some (a, b, (lf : Int), (rt : Int), found) = some (a, b, (lf : Int), (rt : Int), found ++ new) ∧ new.length ≤ (if n ≤ lf then cnt (31 - s) (lf - n) else 0) ∧ ∀ x, x ∈ new ↔ ∃ A B, Cmp W s a b A B ∧ (n : Int) ≤ gA A s ∧ x = mkP (dA A) (dA B) := by
      intro hno
      refine ⟨[], by simp, by simp, fun x => ⟨fun h => by simp at h, ?_⟩⟩
      rintro ⟨A, B, c, hn, _⟩
      exact absurd hn (hno A B c)
    by_cases hn : n ≤ lf
    · rw [if_pos hn] at h3 ⊢
      rw [if_pos (show (n : Int) ≤ (lf : Int) by omega)]
      have hn6 : (n : Int) ≤ 6 := by omega
      have hnb := prod_b (n : Int) (gA b 0) ⟨by omega, hn6⟩ ⟨by omega, hB0.2⟩
      have c1 : -9223372036854775808 ≤ (n : Int) * gA b 0 ∧ (n : Int) * gA b 0 ≤ 9223372036854775807 := by omega
      have c2 : -9223372036854775808 ≤ W.get (s : Int) - kn (gA a) (gA b) s ∧ W.get (s : Int) - kn (gA a) (gA b) s ≤ 9223372036854775807 := by omega
      rw [w64 c1.1 c1.2, w64 c2.1 c2.2]
      generalize hq : W.get (s : Int) - kn (gA a) (gA b) s = q at *
      by_cases hle : (n : Int) * gA b 0 ≤ q
      · have c3 : -9223372036854775808 ≤ q - (n : Int) * gA b 0 ∧ q - (n : Int) * gA b 0 ≤ 9223372036854775807 := by omega
        have hq0 : 0 ≤ q - (n : Int) * gA b 0 := by omega
        rw [if_pos hle, if_pos (show gA a 0 ≠ 0 by omega), w64 c3.1 c3.2]
        have hm0 : 0 ≤ (q - (n : Int) * gA b 0).tdiv (gA a 0) := Int.tdiv_nonneg hq0 (by omega)
        have hm1 := Int.mul_tdiv_add_tmod (q - (n : Int) * gA b 0) (gA a 0)
        have hm2 := Int.tmod_nonneg (gA a 0) hq0
        have hBm : ∀ B : Int, gA a 0 * B = q - (n : Int) * gA b 0 → (q - (n : Int) * gA b 0).tdiv (gA a 0) = B := by
          intro B e
          rw [← e]
          exact Int.mul_tdiv_cancel_left B (by omega)
        generalize hmm : (q - (n : Int) * gA b 0).tdiv (gA a 0) = m at *
        have hmle : m ≤ gA a 0 * m := by
          have := Int.mul_le_mul_of_nonneg_right hA0.1 hm0
          rw [Int.one_mul] at this
          exact this
        have c4 : -9223372036854775808 ≤ m ∧ m ≤ 9223372036854775807 := by omega
        have c5 : -9223372036854775808 ≤ m * gA a 0 ∧ m * gA a 0 ≤ 9223372036854775807 := by rw [Int.mul_comm]; omega
        have c6 : -9223372036854775808 ≤ (n : Int) * gA b 0 + m * gA a 0 ∧ (n : Int) * gA b 0 + m * gA a 0 ≤ 9223372036854775807 := by rw [Int.mul_comm m]; omega
        rw [w64 c4.1 c4.2, w64 c5.1 c5.2, w64 c6.1 c6.2]
        have hih : ∀ found' : List PP, found'.length + (if n + 1 ≤ lf then cnt (31 - s) (lf - (n + 1)) else 0) ≤ 1073741824 → _ := fun found' hf => ih (n + 1) found' (by omega) (by omega) hf
        have hw1 : wrap64 ((n : Int) + 1) = ((n + 1 : Nat) : Int) := w1' n (by omega)
        have hc := hcnt (lf - n)
        -- what follows, where n itself gives nothing
        have hskip : (∀ A B, Cmp W s a b A B → gA A s ≠ (n : Int)) → ∃ new, impl_factors_grow__c1.l0 K W (s : Int) rec (kn (gA a) (gA b) s) k (wrap64 ((n : Int) + 1)) a b (lf : Int) (rt : Int) found = some (a, b, (lf : Int), (rt : Int), found ++ new) ∧ new.length ≤ cnt (31 - s) (lf - n) ∧ ∀ x, x ∈ new ↔ ∃ A B, Cmp W s a b A B ∧ (n : Int) ≤ gA A s ∧ x = mkP (dA A) (dA B) := by
          intro hno
          rw [hw1]
          clear hw1
          have hlen : (if n + 1 ≤ lf then cnt (31 - s) (lf - (n + 1)) else 0) ≤ cnt (31 - s) (lf - n) := by
            by_cases h5 : n + 1 ≤ lf
            · rw [if_pos h5, hc, if_neg (by omega), show lf - n - 1 = lf - (n + 1) by omega]
              omega
            · rw [if_neg h5]; omega
          obtain ⟨new, n1, n2, n3⟩ := hih found (by omega)
          refine ⟨new, n1, by omega, fun x => ?_⟩
          rw [n3 x]
          constructor
          · rintro ⟨A, B, c, hA, e⟩; exact ⟨A, B, c, by omega, e⟩
          · rintro ⟨A, B, c, hA, e⟩
            have := hno A B c
            exact ⟨A, B, c, by omega, e⟩
        by_cases heq : (n : Int) * gA b 0 + m * gA a 0 = q
        · rw [if_pos heq]
          by_cases hrt : (rt : Int) < m
          · rw [if_pos hrt]
            refine hskip fun A B c e => ?_
            obtain ⟨e1, e2, e3, e4, e5⟩ := hcmp A B c
            have := hBm (gA B s) (by rw [e] at e1; omega)
            omega
          · rw [if_neg hrt, if_pos (by clear hw1; omega)]
            obtain ⟨mn, hmn⟩ : ∃ mn : Nat, m = (mn : Int) := ⟨m.toNat, by clear hw1; omega⟩
            have hst := st_set h hs hs2 n mn hn (by clear hw1; omega)
            have hlen1 : cnt (30 - s) (lf - n) + (if n + 1 ≤ lf then cnt (31 - s) (lf - (n + 1)) else 0) = cnt (31 - s) (lf - n) := by
              rw [hc]
              by_cases h5 : n + 1 ≤ lf
              · rw [if_pos h5, if_neg (by clear hw1; omega), show lf - n - 1 = lf - (n + 1) by clear hw1; omega]; exact Nat.add_comm _ _
              · rw [if_neg h5, if_pos (by clear hw1; omega), show lf - n = 0 by clear hw1; omega]; rfl
            obtain ⟨new1, r1, r2, r3⟩ := hrec _ _ _ _ found hst (by clear hw1; omega)
            obtain ⟨new2, q1, q2, q3⟩ := hih (found ++ new1) (by rw [List.length_append]; clear hw1; omega)
            have c7 : -9223372036854775808 ≤ (lf : Int) - (n : Int) ∧ (lf : Int) - (n : Int) ≤ 9223372036854775807 := by clear hw1; omega
            have c8 : -9223372036854775808 ≤ (rt : Int) - (mn : Int) ∧ (rt : Int) - (mn : Int) ≤ 9223372036854775807 := by clear hw1; omega
            have hlf : (lf : Int) - (n : Int) = ((lf - n : Nat) : Int) := by clear hw1; omega
            have hrt' : (rt : Int) - (mn : Int) = ((rt - mn : Nat) : Int) := by clear hw1; omega
            have hback1 : ((lf - n : Nat) : Int) + (n : Int) = (lf : Int) := by clear hw1; omega
            have hback2 : ((rt - mn : Nat) : Int) + (mn : Int) = (rt : Int) := by clear hw1; omega
            have c9 : -9223372036854775808 ≤ (lf : Int) ∧ (lf : Int) ≤ 9223372036854775807 := by clear hw1; omega
            have c10 : -9223372036854775808 ≤ (rt : Int) ∧ (rt : Int) ≤ 9223372036854775807 := by clear hw1; omega
            have hsw := w1' s (by clear hw1; omega)
            refine ⟨new1 ++ new2, ?_, ?_, fun x => ?_⟩
            · rw [hmn, w64 c7.1 c7.2, w64 c8.1 c8.2, hlf, hrt', hsw, r1, some_bind]
              simp only
              rw [set_back (by clear hw1 hsw; omega) (h.za s (Nat.le_refl _)), set_back (by clear hw1 hsw; omega) (h.zb s (Nat.le_refl _)), hback1, hback2, w64 c9.1 c9.2, w64 c10.1 c10.2, hw1, q1, List.append_assoc]
            · rw [List.length_append]; clear hw1 hsw; omega
            · clear hw1 hsw
              rw [List.mem_append, r3 x, q3 x]
              constructor
              · rintro (⟨A, B, c, e⟩ | ⟨A, B, c, hA, e⟩)
                · have eA := c.ea s (by omega)
                  have eB := c.eb s (by omega)
                  rw [gA_set _ s (by omega), if_pos rfl] at eA eB
                  have ea' : ∀ t, t < s → gA A t = gA a t := fun t ht => by rw [c.ea t (by omega), gA_set _ s (by omega), if_neg (by omega)]
                  have eb' : ∀ t, t < s → gA B t = gA b t := fun t ht => by rw [c.eb t (by omega), gA_set _ s (by omega), if_neg (by omega)]
                  refine ⟨A, B, ⟨c.na, c.nb, c.sa, c.sb, ea', eb', fun t h5 h6 => ?_⟩, by omega, e⟩
                  by_cases hts : t = s
                  · subst hts
                    rw [conv_split _ _ _ hs, ea' 0 (by omega), eb' 0 (by omega), kn_congr t ea' eb', eA, eB]
                    rw [hmn, Int.mul_comm (mn : Int)] at heq
                    omega
                  · exact c.cv t (by omega) h6
                · exact ⟨A, B, c, by omega, e⟩
              · rintro ⟨A, B, c, hA, e⟩
                by_cases hAn : gA A s = (n : Int)
                · left
                  obtain ⟨e1, e2, e3, e4, e5⟩ := hcmp A B c
                  have hBs := hBm (gA B s) (by rw [hAn] at e1; omega)
                  refine ⟨A, B, ⟨c.na, c.nb, c.sa, c.sb, fun t ht => ?_, fun t ht => ?_, fun t h5 h6 => c.cv t (by omega) h6⟩, e⟩
                  · rw [gA_set _ s (by omega)]
                    by_cases hts : t = s
                    · rw [if_pos hts, hts, hAn]
                    · rw [if_neg hts]; exact c.ea t (by omega)
                  · rw [gA_set _ s (by omega)]
                    by_cases hts : t = s
                    · rw [if_pos hts, hts, ← hBs, hmn]
                    · rw [if_neg hts]; exact c.eb t (by omega)
                · exact .inr ⟨A, B, c, by omega, e⟩
        · rw [if_neg heq]
          refine hskip fun A B c e => heq ?_
          obtain ⟨e1, e2, e3, e4, e5⟩ := hcmp A B c
          have e6 : gA a 0 * gA B s = q - (n : Int) * gA b 0 := by rw [e] at e1; clear hw1; omega
          have e7 := hBm (gA B s) e6
          rw [e7, Int.mul_comm (gA B s), e6]
          clear hw1
          omega
      · rw [if_neg hle]
        have := hend fun A B c hA => hle (by
          obtain ⟨e1, e2, e3, e4, e5⟩ := hcmp A B c
          have h5 := Int.mul_le_mul_of_nonneg_right hA (show 0 ≤ gA b 0 by omega)
          have h6 := Int.mul_nonneg (show 0 ≤ gA a 0 by omega) e3
          omega)
        rw [if_pos hn] at this
        exact this
    · rw [if_neg (show ¬ (n : Int) ≤ (lf : Int) by omega)]
      exact hend fun A B c hA => by
        obtain ⟨e1, e2, e3, e4, e5⟩ := hcmp A B c
        omega
theorem kn_range {s : Nat} {a b : Ar 31} {lf rt : Nat} (h : St s a b lf rt) (u : Nat) (hu : u ≤ 60) : 0 ≤ kn (gA a) (gA b) u ∧ kn (gA a) (gA b) u ≤ 3000 := by
  have hla := h.la
  have hrb := h.rb
  have := sumN_range (u - 1) (fun i => gA a (i + 1) * gA b (u - 1 - i)) 36 (fun j hj => prod_b _ _ ⟨h.na _, by have := get_le a h.na (j + 1); omega⟩ ⟨h.nb _, by have := get_le b h.nb (u - 1 - j); omega⟩)
  have h2 : ((u - 1 : Nat) : Int) * 36 ≤ 60 * 36 := by omega
  unfold kn
  omega
theorem grow_r (K : Nat) (hK : 1000 ≤ K) (W : Ar 121) (hW : ∀ s : Nat, 1 ≤ s → s ≤ 60 → 0 ≤ W.get (s : Int) ∧ W.get (s : Int) ≤ 36) : ∀ (d fuel s : Nat) (a b : Ar 31) (lf rt : Nat) (found : List PP), d + s = 61 → d < fuel → 1 ≤ s → St s a b lf rt → found.length + cnt (31 - s) lf ≤ 1073741824 →
    ∃ new, impl_factors_grow__c1.r K fuel W a b (lf : Int) (rt : Int) found (s : Int) = some ((), (a, b, (lf : Int), (rt : Int), found ++ new)) ∧ new.length ≤ cnt (31 - s) lf ∧ ∀ x, x ∈ new ↔ ∃ A B, Cmp W s a b A B ∧ x = mkP (dA A) (dA B) := by
  intro d
  induction d with
  | zero =>
    intro fuel s a b lf rt found h1 h2 h3 h h4
    obtain ⟨fuel, rfl⟩ : ∃ q, fuel = q + 1 := ⟨fuel - 1, by omega⟩
    obtain rfl : s = 61 := by omega
    have hla := h.la
    have hrb := h.rb
    rw [show impl_factors_grow__c1.r K (fuel + 1) W a b (lf : Int) (rt : Int) found ((61 : Nat) : Int) = impl_factors_grow__c1.g K (impl_factors_grow__c1.r K fuel) W a b (lf : Int) (rt : Int) found ((61 : Nat) : Int) from rfl]
    unfold impl_factors_grow__c1.g
    rw [if_pos (by decide)]
    have hc : cnt (31 - 61) lf = 1 := rfl
    rw [hc] at h4 ⊢
    have huniq : ∀ A B, Cmp W 61 a b A B → A = a ∧ B = b := fun A B c => ⟨gA_ext fun i hi => c.ea i (by omega), gA_ext fun i hi => c.eb i (by omega)⟩
    have hno : ¬ (lf = 0 ∧ rt = 0) → ∃ new, some ((), (a, b, (lf : Int), (rt : Int), found)) = some ((), (a, b, (lf : Int), (rt : Int), found ++ new)) ∧ new.length ≤ 1 ∧ ∀ x, x ∈ new ↔ ∃ A B, Cmp W 61 a b A B ∧ x = mkP (dA A) (dA B) := by
      intro hn
      refine ⟨[], by rw [List.append_nil], by decide, fun x => ⟨fun h => by simp at h, ?_⟩⟩
      rintro ⟨A, B, c, _⟩
      obtain ⟨e1, e2⟩ := huniq A B c
      have s1 := c.sa
      have s2 := c.sb
      rw [e1] at s1
      rw [e2] at s2
      exact absurd (show lf = 0 ∧ rt = 0 by omega) hn
    by_cases hl : lf = 0
    · rw [if_pos (by omega)]
      by_cases hr : rt = 0
      · rw [if_pos (by omega), die_eq K hK a h.na (by omega), some_bind, die_eq K hK b h.nb (by omega), some_bind, pairOf_eq K (by omega), some_bind, if_pos (by simp only [List.length_cons, List.length_nil]; omega)]
        refine ⟨[mkP (dA a) (dA b)], rfl, by simp, fun x => ?_⟩
        rw [List.mem_singleton]
        constructor
        · intro e
          refine ⟨a, b, ⟨h.na, h.nb, by omega, by omega, fun t _ => rfl, fun t _ => rfl, fun t h5 h6 => by omega⟩, e⟩
        · rintro ⟨A, B, c, e⟩
          obtain ⟨e1, e2⟩ := huniq A B c
          rw [e, e1, e2]
      · rw [if_neg (by omega)]
        exact hno (by omega)
    · rw [if_neg (by omega)]
      exact hno (by omega)
  | succ d ih =>
    intro fuel s a b lf rt found h1 h2 h3 h h4
    obtain ⟨fuel, rfl⟩ : ∃ q, fuel = q + 1 := ⟨fuel - 1, by omega⟩
    have hla := h.la
    have hrb := h.rb
    have sa0 : 0 ≤ sumN 31 (gA a) := sumN_mono (gA a) h.na 0 31 (by omega)
    have sb0 : 0 ≤ sumN 31 (gA b) := sumN_mono (gA b) h.nb 0 31 (by omega)
    have hk := kn_range h s (by omega)
    have hw := hW s h3 (by omega)
    rw [show impl_factors_grow__c1.r K (fuel + 1) W a b (lf : Int) (rt : Int) found (s : Int) = impl_factors_grow__c1.g K (impl_factors_grow__c1.r K fuel) W a b (lf : Int) (rt : Int) found (s : Int) from rfl]
    unfold impl_factors_grow__c1.g
    rw [if_neg (show ¬ (60 : Int) < (s : Int) by omega), if_pos (show (0 : Int) ≤ (s : Int) ∧ (s : Int) < 121 by omega), known_eq K hK _ _ _ _ a b h.na h.nb (by omega) (by omega) s h3 (by omega), some_bind]
    by_cases hs : s ≤ 30
    · rw [if_neg (show ¬ (30 : Int) < (s : Int) by omega)]
      obtain ⟨new, n1, n2, n3⟩ := grow_l0 K W s h3 hs (impl_factors_grow__c1.r K fuel) a b lf rt h hw (fun a' b' lf' rt' found' h' hf => by
        have := ih fuel (s + 1) a' b' lf' rt' found' (by omega) (by omega) (by omega) h' (by rw [show 31 - (s + 1) = 30 - s by omega]; exact hf)
        rw [show 31 - (s + 1) = 30 - s by omega] at this
        exact this) K 0 found (by omega) (by omega) (by rw [if_pos (by omega)]; exact h4)
      rw [if_pos (by omega)] at n2
      refine ⟨new, ?_, n2, fun x => ?_⟩
      · rw [show impl_factors_grow__c1.l0 K W (s : Int) (impl_factors_grow__c1.r K fuel) (kn (gA a) (gA b) s) K 0 a b (lf : Int) (rt : Int) found = _ from n1, some_bind]
      · rw [n3 x]
        constructor
        · rintro ⟨A, B, c, _, e⟩; exact ⟨A, B, c, e⟩
        · rintro ⟨A, B, c, e⟩; exact ⟨A, B, c, c.na s, e⟩
    · have c1 : -9223372036854775808 ≤ W.get (s : Int) - kn (gA a) (gA b) s ∧ W.get (s : Int) - kn (gA a) (gA b) s ≤ 9223372036854775807 := by omega
      rw [if_pos (show (30 : Int) < (s : Int) by omega), w64 c1.1 c1.2]
      have hcs : cnt (31 - s) lf = cnt (31 - (s + 1)) lf := by rw [show 31 - s = 31 - (s + 1) by omega]
      have hcv : ∀ A B : Ar 31, (∀ t, t < s → gA A t = gA a t) → (∀ t, t < s → gA B t = gA b t) → conv (gA A) (gA B) s = kn (gA a) (gA b) s := by
        intro A B ea eb
        rw [conv_split _ _ _ h3, gA_out A s (by omega), gA_out B s (by omega), kn_congr s ea eb, Int.mul_zero, Int.zero_mul, Int.add_zero, Int.zero_add]
      by_cases hz : W.get (s : Int) - kn (gA a) (gA b) s = 0
      · rw [if_pos hz]
        have h' : St (s + 1) a b lf rt := ⟨h.na, h.nb, fun t ht => h.za t (by omega), fun t ht => h.zb t (by omega), h.a0, h.b0, h.la, h.rb⟩
        obtain ⟨new, n1, n2, n3⟩ := ih fuel (s + 1) a b lf rt found (by omega) (by omega) (by omega) h' (by omega)
        refine ⟨new, ?_, by omega, fun x => ?_⟩
        · rw [w1' s (by omega), n1, some_bind]
        · rw [n3 x]
          constructor
          · rintro ⟨A, B, c, e⟩
            refine ⟨A, B, ⟨c.na, c.nb, c.sa, c.sb, fun t ht => c.ea t (by omega), fun t ht => c.eb t (by omega), fun t h5 h6 => ?_⟩, e⟩
            by_cases hts : t = s
            · rw [hts, hcv A B (fun t ht => c.ea t (by omega)) (fun t ht => c.eb t (by omega))]
              omega
            · exact c.cv t (by omega) h6
          · rintro ⟨A, B, c, e⟩
            refine ⟨A, B, ⟨c.na, c.nb, c.sa, c.sb, fun t ht => ?_, fun t ht => ?_, fun t h5 h6 => c.cv t (by omega) h6⟩, e⟩
            · by_cases hts : t = s
              · rw [hts, gA_out A s (by omega), gA_out a s (by omega)]
              · exact c.ea t (by omega)
            · by_cases hts : t = s
              · rw [hts, gA_out B s (by omega), gA_out b s (by omega)]
              · exact c.eb t (by omega)
      · rw [if_neg hz]
        refine ⟨[], by rw [List.append_nil], Nat.zero_le _, fun x => ⟨fun h => by simp at h, ?_⟩⟩
        rintro ⟨A, B, c, _⟩
        have e1 := c.cv s (Nat.le_refl _) (by omega)
        rw [hcv A B c.ea c.eb] at e1
        exact absurd (show W.get (s : Int) - kn (gA a) (gA b) s = 0 by omega) hz
abbrev zP : PP := ((Ar.zero 6), (Ar.zero 6))
/-- The different ones of the first j, in their order. -/
def ddP (l : List PP) : Nat → List PP
  | 0 => []
  | j + 1 => if 0 < j ∧ l.getD j zP = l.getD (j - 1) zP then ddP l j else ddP l j ++ [l.getD j zP]
theorem w1p (q : Nat) (h : q ≤ 4000000000000000000) : wrap64 (((q + 1 : Nat) : Int) - 1) = (q : Int) := by rw [w64 (by omega) (by omega)]; omega
theorem takeP_succ (l : List PP) (n : Nat) (h : n < l.length) : l.take (n + 1) = l.take n ++ [l.getD n zP] := by
  rw [List.take_succ_eq_append_getElem h, getD_nat _ _ _ h]
theorem getDP_set_ne (v : List PP) (m p : Nat) (x : PP) (h : m ≠ p) : (v.set m x).getD p zP = v.getD p zP := by
  rw [List.getD_eq_getElem?_getD, List.getD_eq_getElem?_getD, List.getElem?_set_ne h]
theorem getDP_td (v : List PP) (n i j : Nat) (hv : v.length = n) : ((v.take n).drop i).getD j zP = v.getD (i + j) zP := by
  rw [← hv, List.take_length, List.getD_eq_getElem?_getD, List.getElem?_drop, List.getD_eq_getElem?_getD]
theorem compactP_l3 (K : Nat) (l : List PP) (N : Nat) (hNN : N ≤ 1000000000) (hl : l.length = N) (i0 : Nat) (hi0 : 1 ≤ i0) : ∀ (k m j : Nat) (v : List PP), N + 1 - j < k → 1 ≤ j → i0 + j ≤ N → m ≤ i0 + j - 1 → v.length = N → (∀ p, i0 + j - 1 ≤ p → v.getD p zP = l.getD p zP) → v.take m = ddP l (i0 + j) →
    ∃ (m' : Nat) (v' : List PP), slices_Compact_impl_Pair_impl_Pair.l3 K l (i0 : Int) k (m : Int) (j : Int) v = some ((m' : Int), v') ∧ m' ≤ N ∧ v'.length = N ∧ v'.take m' = ddP l N := by
  intro k
  induction k with
  | zero => intro m j v h1; omega
  | succ k ih =>
    intro m j v h1 h2 h3 h4 h5 h6 h7
    have hlen : ((v.take l.length).drop i0).length = N - i0 := by rw [List.length_drop, List.length_take, h5, hl]; omega
    rw [slices_Compact_impl_Pair_impl_Pair.l3]
    simp only [Int.toNat_natCast, hlen]
    rw [if_pos (show 0 ≤ (i0 : Int) ∧ (i0 : Int) ≤ (l.length : Int) ∧ (l.length : Int) ≤ (v.length : Int) by omega)]
    by_cases hj : i0 + j < N
    · obtain ⟨q, rfl⟩ : ∃ q, j = q + 1 := ⟨j - 1, by omega⟩
      rw [if_pos (show ((q + 1 : Nat) : Int) < ((N - i0 : Nat) : Int) by omega), if_pos (show 0 ≤ ((q + 1 : Nat) : Int) ∧ ((q + 1 : Nat) : Int) < ((N - i0 : Nat) : Int) by omega), w1p q (by omega), if_pos (show 0 ≤ (q : Int) ∧ (q : Int) < ((N - i0 : Nat) : Int) by omega), Int.toNat_natCast, getDP_td v l.length i0 (q + 1) (by omega), getDP_td v l.length i0 q (by omega), h6 (i0 + (q + 1)) (by omega), h6 (i0 + q) (by omega), w1' (q + 1) (by omega), w1' m (by omega)]
      have hd : ddP l (i0 + (q + 1) + 1) = if 0 < i0 + (q + 1) ∧ l.getD (i0 + (q + 1)) zP = l.getD (i0 + (q + 1) - 1) zP then ddP l (i0 + (q + 1)) else ddP l (i0 + (q + 1)) ++ [l.getD (i0 + (q + 1)) zP] := rfl
      by_cases hc : l.getD (i0 + (q + 1)) zP = l.getD (i0 + q) zP
      · rw [if_pos hc]
        rw [if_pos ⟨by omega, by rw [show i0 + (q + 1) - 1 = i0 + q by omega]; exact hc⟩] at hd
        exact ih m (q + 1 + 1) v (by omega) (by omega) (by omega) (by omega) h5 (fun p hp => h6 p (by omega)) (by rw [h7, ← hd]; rfl)
      · rw [if_neg hc, if_pos (show 0 ≤ (m : Int) ∧ (m : Int) < (v.length : Int) by omega)]
        rw [if_neg (fun h => hc (by have := h.2; rw [show i0 + (q + 1) - 1 = i0 + q by omega] at this; exact this))] at hd
        refine ih (m + 1) (q + 1 + 1) (v.set m (l.getD (i0 + (q + 1)) zP)) (by omega) (by omega) (by omega) (by omega) (by rw [List.length_set]; exact h5) (fun p hp => ?_) ?_
        · rw [getDP_set_ne _ _ _ _ (by omega)]
          exact h6 p (by omega)
        · rw [takeP_succ _ _ (by rw [List.length_set]; omega), List.take_set_of_le (Nat.le_refl _), h7]
          rw [show i0 + (q + 1 + 1) = i0 + (q + 1) + 1 by omega, hd]
          congr 2
          rw [getD_nat _ _ _ (by rw [List.length_set]; omega), List.getElem_set_self]
    · rw [if_neg (show ¬ (j : Int) < ((N - i0 : Nat) : Int) by omega)]
      exact ⟨m, v, rfl, by omega, h5, by rw [h7, show i0 + j = N by omega]⟩
theorem putAtP_take (v z : List PP) (m : Nat) (h : m ≤ v.length) : (putAt v m z).take m = v.take m := by
  unfold putAt
  rw [List.append_assoc, List.take_append_of_le_length (by rw [List.length_take]; omega), List.take_take, Nat.min_self]
theorem compactP_eq (K : Nat) (hK : 2000000000 ≤ K) (l : List PP) (N : Nat) (hNN : N ≤ 1000000000) (hN2 : 2 ≤ N) (hl : l.length = N) : slices_Compact_impl_Pair_impl_Pair.f K l = some (ddP l N) := by
  have key : ∀ (k n : Nat), 1 ≤ n → n ≤ N → N - n < k → l.take n = ddP l n → (slices_Compact_impl_Pair_impl_Pair.l2 K l k (n : Int) = some (Sum.inl ()) ∧ l = ddP l N) ∨ slices_Compact_impl_Pair_impl_Pair.l2 K l k (n : Int) = some (Sum.inr (ddP l N)) := by
    intro k
    induction k with
    | zero => intro n h1 h2 h3; omega
    | succ k ih =>
      intro n h1 h2 h3 h4
      rw [slices_Compact_impl_Pair_impl_Pair.l2]
      by_cases hn : n < N
      · obtain ⟨j, rfl⟩ : ∃ j, n = j + 1 := ⟨n - 1, by omega⟩
        rw [if_pos (by omega), if_pos (by omega), w1p j (by omega), if_pos (by omega), Int.toNat_natCast, Int.toNat_natCast]
        have hd : ddP l (j + 1 + 1) = if 0 < j + 1 ∧ l.getD (j + 1) zP = l.getD (j + 1 - 1) zP then ddP l (j + 1) else ddP l (j + 1) ++ [l.getD (j + 1) zP] := rfl
        by_cases hc : l.getD (j + 1) zP = l.getD j zP
        · rw [if_pos hc, if_pos (by omega)]
          rw [if_pos ⟨by omega, by rw [Nat.add_sub_cancel]; exact hc⟩] at hd
          obtain ⟨m', v', i1, i2, i3, i4⟩ := compactP_l3 K l N hNN hl (j + 1) (by omega) K (j + 1) 1 l (by omega) (by omega) (by omega) (by omega) hl (fun _ _ => rfl) (by rw [h4, ← hd])
          rw [show slices_Compact_impl_Pair_impl_Pair.l3 K l ((j + 1 : Nat) : Int) K ((j + 1 : Nat) : Int) 1 l = _ from i1]
          simp only [some_bind, Int.toNat_natCast, List.drop_zero]
          have hpl : (putAt v' m' (List.replicate (v'.length - m') zP)).length = N := by
            unfold putAt
            simp only [List.length_append, List.length_take, List.length_replicate, List.length_drop]
            omega
          rw [if_pos (by omega), if_pos (by rw [hpl]; omega), putAtP_take _ _ _ (by omega), i4]
          exact .inr rfl
        · rw [if_neg hc, w1' (j + 1) (by omega)]
          rw [if_neg (fun h => hc (by have := h.2; rw [Nat.add_sub_cancel] at this; exact this))] at hd
          exact ih (j + 1 + 1) (by omega) (by omega) (by omega) (by rw [takeP_succ _ _ (by omega), h4, hd])
      · rw [if_neg (by omega)]
        have : n = N := by omega
        subst this
        rw [← hl, List.take_length, hl] at h4
        exact .inl ⟨rfl, h4⟩
  unfold slices_Compact_impl_Pair_impl_Pair.f
  rw [if_neg (by omega)]
  rcases key K 1 (by omega) (by omega) (by omega) (by rw [takeP_succ _ _ (by omega)]; simp [ddP]) with ⟨h1, h2⟩ | h1
  · rw [show slices_Compact_impl_Pair_impl_Pair.l2 K l K 1 = _ from h1, some_bind]
    rw [← h2]
  · rw [show slices_Compact_impl_Pair_impl_Pair.l2 K l K 1 = _ from h1, some_bind]

theorem ddP_len (l : List PP) : ∀ j, (ddP l j).length ≤ j
  | 0 => by simp [ddP]
  | j + 1 => by
    have := ddP_len l j
    rw [ddP]
    split
    · omega
    · rw [List.length_append, List.length_singleton]; omega
theorem ddP_prop (l : List PP) (hl : l.Pairwise fun x y => pairC x y ≤ 0) : ∀ j, j + 1 ≤ l.length → ∃ xs, ddP l (j + 1) = xs ++ [l.getD j zP] ∧ (∀ x ∈ xs, pairC x (l.getD j zP) < 0) ∧ Rising (ddP l (j + 1)) ∧ ∀ x, x ∈ ddP l (j + 1) ↔ x ∈ l.take (j + 1) := by
  have hp := List.pairwise_iff_getElem.1 hl
  intro j
  induction j with
  | zero =>
    intro h
    refine ⟨[], by simp [ddP], by simp, by simp [ddP, Rising], fun x => ?_⟩
    rw [takeP_succ _ _ (by omega)]
    simp [ddP]
  | succ j ih =>
    intro h
    obtain ⟨xs, h1, h2, h3, h4⟩ := ih (by omega)
    rw [takeP_succ l (j + 1) (by omega)]
    rw [ddP]
    by_cases hc : l.getD (j + 1) zP = l.getD j zP
    · rw [if_pos ⟨by omega, by rw [Nat.add_sub_cancel]; exact hc⟩, hc]
      refine ⟨xs, h1, h2, h3, fun x => ?_⟩
      rw [h4 x, List.mem_append, List.mem_singleton]
      constructor
      · exact .inl
      · rintro (h | h)
        · exact h
        · rw [h, takeP_succ l j (by omega)]; simp
    · rw [if_neg (fun h => hc (by have := h.2; rw [Nat.add_sub_cancel] at this; exact this))]
      have hlt : pairC (l.getD j zP) (l.getD (j + 1) zP) < 0 := by
        have e := hp j (j + 1) (by omega) (by omega) (by omega)
        rw [getD_nat _ _ _ (by omega : j < l.length), getD_nat _ _ _ (by omega : j + 1 < l.length)] at hc ⊢
        by_cases h0 : pairC l[j] l[j + 1] = 0
        · exact absurd (pairC_zero h0).symm hc
        · omega
      have hall : ∀ x ∈ ddP l (j + 1), pairC x (l.getD (j + 1) zP) < 0 := by
        intro x hx
        rw [h1] at hx
        rcases List.mem_append.1 hx with hx | hx
        · exact pairC_lt_trans (h2 x hx) hlt
        · rw [List.mem_singleton.1 hx]; exact hlt
      refine ⟨ddP l (j + 1), rfl, hall, ?_, fun x => ?_⟩
      · unfold Rising
        rw [List.pairwise_append]
        exact ⟨h3, by simp, fun x hx y hy => by rw [List.mem_singleton.1 hy]; exact hall x hx⟩
      · rw [List.mem_append, List.mem_append, h4 x]
theorem sorted_ok (K : Nat) (hK : 2000000000 ≤ K) (l : List PP) (hne : l ≠ []) (hl : l.length ≤ 1000000000) : ∃ r, impl_sorted.f K l = some r ∧ Rising r ∧ (∀ x, x ∈ r ↔ x ∈ l) ∧ r.length ≤ l.length := by
  have hperm := sortP_perm l
  have hlen := hperm.length_eq
  have hpos : 0 < l.length := List.length_pos_iff.2 hne
  have hmem : ∀ x, x ∈ sortP l ↔ x ∈ l := fun x => hperm.mem_iff
  unfold impl_sorted.f
  rw [if_pos ⟨by omega, hne, hl⟩]
  by_cases h2 : 2 ≤ l.length
  · obtain ⟨xs, p1, p2, p3, p4⟩ := ddP_prop (sortP l) (sortP_sorted l) (l.length - 1) (by omega)
    rw [show l.length - 1 + 1 = l.length by omega] at p3 p4
    rw [List.take_of_length_le (by omega)] at p4
    refine ⟨_, compactP_eq K hK (sortP l) l.length hl h2 hlen, p3, fun x => (p4 x).trans (hmem x), ddP_len _ _⟩
  · unfold slices_Compact_impl_Pair_impl_Pair.f
    rw [if_pos (by omega)]
    refine ⟨_, rfl, ?_, hmem, by omega⟩
    obtain ⟨x, hx⟩ : ∃ x, sortP l = [x] := List.length_eq_one_iff.1 (by omega)
    rw [hx]
    simp [Rising]
theorem ar6_ext {a b : Ar 6} (h : ∀ i : Nat, i < 6 → a.get (i : Int) = b.get (i : Int)) : a = b := by
  apply Ar.ext
  apply List.ext_getElem (by rw [a.h, b.h])
  intro i h1 h2
  have := h i (by rw [a.h] at h1; exact h1)
  unfold Ar.get at this
  rw [Int.toNat_natCast] at this
  rwa [getD_nat _ _ _ h1, getD_nat _ _ _ h2] at this
/-- A die with every face moved. -/
def shA (a : Ar 6) (k : Int) : Ar 6 := ⟨a.l.map fun x => x + k, by rw [List.length_map, a.h]⟩
theorem shA_get (a : Ar 6) (k : Int) (i : Nat) (hi : i < 6) : (shA a k).get (i : Int) = a.get (i : Int) + k := by
  unfold Ar.get shA
  rw [Int.toNat_natCast, getD_nat _ _ _ (by rw [List.length_map, a.h]; exact hi), getD_nat _ _ _ (by rw [a.h]; exact hi), List.getElem_map]
theorem shA_shA (a : Ar 6) (j k : Int) : shA (shA a j) k = shA a (j + k) := by
  apply ar6_ext
  intro i hi
  rw [shA_get _ _ i hi, shA_get _ _ i hi, shA_get _ _ i hi]
  omega
theorem shA_zero (a : Ar 6) : shA a 0 = a := by
  apply ar6_ext
  intro i hi
  rw [shA_get _ _ i hi]
  omega
def Low (a : Ar 6) : Prop := ∀ i : Nat, i < 6 → -1000 ≤ a.get (i : Int) ∧ a.get (i : Int) ≤ 1000
theorem die_low (a : Ar 6) (h : dieB a = true) : Low a := by
  intro i hi
  have hm : a.get (i : Int) ∈ a.l := by
    unfold Ar.get
    rw [Int.toNat_natCast, getD_nat _ _ _ (by rw [a.h]; exact hi)]; exact List.getElem_mem _
  have := ((die_iff a).1 h).1 _ hm
  omega
theorem shift_l0 (K : Nat) (a : Ar 6) (k : Int) (ha : Low a) (hk : -1000 ≤ k ∧ k ≤ 1000) : ∀ (f n : Nat) (c : Ar 6), n ≤ 6 → 6 - n < f → (∀ i : Nat, i < 6 → c.get (i : Int) = if i < n then a.get (i : Int) + k else a.get (i : Int)) → impl_shifted.l0 K k f (n : Int) c = some (shA a k) := by
  intro f
  induction f with
  | zero => intro n c h1 h2; omega
  | succ f ih =>
    intro n c h1 h2 h3
    rw [impl_shifted.l0]
    by_cases hn : n < 6
    · have e := h3 n hn
      rw [if_neg (by omega)] at e
      have hb := ha n hn
      rw [if_pos (by omega), if_pos (by omega), e, w1' n (by omega), w64 (by omega) (by omega)]
      refine ih (n + 1) _ (by omega) (by omega) (fun i hi => ?_)
      rw [ar_get_set _ _ _ _ (by omega) (by omega) (by omega)]
      by_cases hin : i = n
      · subst hin
        rw [if_pos rfl, if_pos (by omega)]
      · rw [if_neg (by omega), h3 i hi]
        by_cases h5 : i < n
        · rw [if_pos h5, if_pos (by omega)]
        · rw [if_neg h5, if_neg (by omega)]
    · rw [if_neg (by omega)]
      refine congrArg some (ar6_ext fun i hi => ?_)
      rw [h3 i hi, if_pos (by omega), shA_get _ _ i hi]
theorem shift_eq (K : Nat) (hK : 1000 ≤ K) (a : Ar 6) (k : Int) (ha : Low a) (hk : -1000 ≤ k ∧ k ≤ 1000) : impl_shifted.f K a k = some (shA a k) := by
  unfold impl_shifted.f
  rw [show impl_shifted.l0 K k K 0 a = some (shA a k) from shift_l0 K a k ha hk K 0 a (by omega) (by omega) (fun i hi => (if_neg (by omega)).symm)]
  rfl
/-- The die with its first face at nothing. -/
def bsA (a : Ar 6) : Ar 6 := shA a (-(a.get 0))
theorem base_impl (K : Nat) (hK : 1000 ≤ K) (a : Ar 6) (ha : Low a) : impl_base.f K a = some (bsA a) := by
  have h0 := ha 0 (by omega)
  rw [show ((0 : Nat) : Int) = 0 from rfl] at h0
  unfold impl_base.f
  rw [w64 (by omega) (by omega), shift_eq K hK a _ ha (by omega), show (0 : Int) - a.get 0 = -(a.get 0) by omega]
  rfl
theorem base_l0 (K : Nat) (a : Ar 6) (ha : Low a) : ∀ (f n : Nat) (c : Ar 6), n ≤ 6 → 6 - n < f → (∀ i : Nat, i < n → c.get (i : Int) = a.get (i : Int) - a.get 0) → spec_l5Base.l0 K a f (n : Int) c = some (bsA a) := by
  have h0 := ha 0 (by omega)
  rw [show ((0 : Nat) : Int) = 0 from rfl] at h0
  intro f
  induction f with
  | zero => intro n c h1 h2; omega
  | succ f ih =>
    intro n c h1 h2 h3
    rw [spec_l5Base.l0]
    by_cases hn : n < 6
    · have hb := ha n hn
      rw [if_pos (by omega), if_pos (by omega), w1' n (by omega), w64 (by omega) (by omega)]
      refine ih (n + 1) _ (by omega) (by omega) (fun i hi => ?_)
      rw [ar_get_set _ _ _ _ (by omega) (by omega) (by omega)]
      by_cases hin : i = n
      · subst hin
        rw [if_pos rfl]
      · rw [if_neg (by omega), h3 i (by omega)]
    · rw [if_neg (by omega)]
      refine congrArg some (ar6_ext fun i hi => ?_)
      unfold bsA
      rw [h3 i (by omega), shA_get _ _ i hi]
      omega
theorem base_spec (K : Nat) (hK : 1000 ≤ K) (a : Ar 6) (ha : Low a) : spec_l5Base.f K a = some (bsA a) := by
  unfold spec_l5Base.f
  rw [show spec_l5Base.l0 K a K 0 (⟨[0, 0, 0, 0, 0, 0], rfl⟩ : Ar 6) = some (bsA a) from base_l0 K a ha K 0 _ (by omega) (by omega) (fun i hi => by omega)]
  rfl
theorem bounds_eq (K : Nat) (hK : 1000 ≤ K) (P Q : Ar 6) (hP : dieB P = true) (hQ : dieB Q = true) : ∃ t, impl_bounds.f K [P, Q] = some t ∧ t.1 = P.get 0 + Q.get 0 := by
  obtain ⟨k, rfl⟩ : ∃ k, K = k + 1 + 1 + 1 := ⟨K - 3, by omega⟩
  have p0 := die_low P hP 0 (by omega)
  have p5 := die_low P hP 5 (by omega)
  have q0 := die_low Q hQ 0 (by omega)
  have q5 := die_low Q hQ 5 (by omega)
  rw [show ((0 : Nat) : Int) = 0 from rfl] at p0 q0
  rw [show ((5 : Nat) : Int) = 5 from rfl] at p5 q5
  unfold impl_bounds.f
  have hl : (([P, Q] : List (Ar 6)).length : Int) = 2 := rfl
  have e1 : wrap64 (0 + 1) = 1 := by decide +kernel
  have e2 : wrap64 (1 + 1) = 2 := by decide +kernel
  rw [impl_bounds.l0, hl, e1, if_pos (by decide), if_pos (by decide), impl_bounds.l0, hl, e2, if_pos (by decide), if_pos (by decide), impl_bounds.l0, hl, if_neg (by decide)]
  refine ⟨_, rfl, ?_⟩
  show wrap64 (wrap64 (0 + P.get 0) + Q.get 0) = _
  have w0 : wrap64 (P.get 0) = P.get 0 := w64 (by omega) (by omega)
  rw [Int.zero_add, w0, w64 (by omega) (by omega)]
theorem sums2_sh (L M : List Int) (j k : Int) : sums2 (L.map fun x => x + j) (M.map fun x => x + k) = (sums2 L M).map fun x => x + (j + k) := by
  induction L with
  | nil => rfl
  | cons x L ih =>
    rw [List.map_cons, sums2_cons, sums2_cons, List.map_append, ih, List.map_map, List.map_map]
    congr 1
    apply List.map_congr_left
    intro y _
    simp only [Function.comp]
    omega
theorem count_sh (L : List Int) (j u : Int) : (L.map fun x => x + j).count u = L.count (u - j) := by
  induction L with
  | nil => rfl
  | cons x L ih =>
    rw [List.map_cons, List.count_cons, List.count_cons, ih]
    congr 1
    by_cases h : x = u - j
    · rw [if_pos (by simp; omega), if_pos (by simp; omega)]
    · rw [if_neg (by simp; omega), if_neg (by simp; omega)]
theorem count_sums_sh (a b : Ar 6) (j k u : Int) : (sums2 (shA a j).l (shA b k).l).count u = (sums2 a.l b.l).count (u - (j + k)) := by
  rw [show (shA a j).l = a.l.map fun x => x + j from rfl, show (shA b k).l = b.l.map fun x => x + k from rfl, sums2_sh, count_sh]
theorem sums2_nil (L : List Int) : sums2 L [] = [] := by
  induction L with
  | nil => rfl
  | cons x L ih => rw [sums2_cons, ih]; rfl
theorem count_swap (M : List Int) (u : Int) : ∀ L : List Int, (sums2 L M).count u = (sums2 M L).count u
  | [] => by rw [sums2_nil]; rfl
  | x :: L => by
    rw [sums2_cons, List.count_append, count_swap M u L, show x :: L = [x] ++ L from rfl, count_append]
    congr 1
    induction M with
    | nil => rfl
    | cons y M ih =>
      rw [List.map_cons, List.count_cons, ih, sums2_cons, List.count_append, List.map_singleton, List.count_singleton, Int.add_comm y x]
      exact Nat.add_comm _ _
/-- Two dice from nothing with the sums of a list. -/
def BaseS (L : List Int) (m : Int) (a b : Ar 6) : Prop := dieB a = true ∧ dieB b = true ∧ a.get 0 = 0 ∧ b.get 0 = 0 ∧ ∀ u : Int, (sums2 a.l b.l).count u = L.count (u + m)
theorem likeS_all {P Q : Ar 6} (hP : dieB P = true) (hQ : dieB Q = true) {a b : Ar 6} (h : LikeS (sums2 P.l Q.l) a b) (u : Int) : (sums2 a.l b.l).count u = (sums2 P.l Q.l).count u := by
  obtain ⟨ha, hb, hc⟩ := h
  by_cases hu : 0 ≤ u ∧ u ≤ 60
  · have := hc u.toNat (by omega)
    rwa [Int.toNat_of_nonneg hu.1] at this
  · rw [List.count_eq_zero.2 fun hm => hu (sums2_in ((die_iff a).1 ha).1 ((die_iff b).1 hb).1 _ hm), List.count_eq_zero.2 fun hm => hu (sums2_in ((die_iff P).1 hP).1 ((die_iff Q).1 hQ).1 _ hm)]
theorem bsA_die (a : Ar 6) (h : dieB a = true) : dieB (bsA a) = true := by
  obtain ⟨h1, h2⟩ := (die_iff a).1 h
  obtain ⟨⟨h3, h4⟩, h5, h6⟩ := die_head a h
  refine (die_iff _).2 ⟨fun x hx => ?_, ?_⟩
  · obtain ⟨y, hy, rfl⟩ := List.mem_map.1 hx
    have e1 := h1 y hy
    have e2 := head_le h2 y hy
    omega
  · show (a.l.map fun x => x + -(a.get 0)).Pairwise (· ≤ ·)
    rw [List.pairwise_map]
    exact h2.imp fun h => by omega
theorem bsA_head (a : Ar 6) : (bsA a).get 0 = 0 := by
  have := shA_get a (-(a.get 0)) 0 (by omega)
  rw [show ((0 : Nat) : Int) = 0 from rfl] at this
  unfold bsA
  omega
theorem like_base {P Q : Ar 6} (hP : dieB P = true) (hQ : dieB Q = true) {a b : Ar 6} (h : LikeS (sums2 P.l Q.l) a b) : BaseS (sums2 P.l Q.l) (P.get 0 + Q.get 0) (bsA a) (bsA b) := by
  refine ⟨bsA_die a h.1, bsA_die b h.2.1, bsA_head a, bsA_head b, fun u => ?_⟩
  unfold bsA
  rw [count_sums_sh, likeS_all hP hQ h]
  have := like_first P Q a b hP hQ h
  congr 1
  omega
theorem base_like {P Q : Ar 6} {a b : Ar 6} (h : BaseS (sums2 P.l Q.l) (P.get 0 + Q.get 0) a b) (j k : Int) (hjk : j + k = P.get 0 + Q.get 0) (h1 : dieB (shA a j) = true) (h2 : dieB (shA b k) = true) : LikeS (sums2 P.l Q.l) (shA a j) (shA b k) := by
  refine ⟨h1, h2, fun u hu => ?_⟩
  rw [count_sums_sh, h.2.2.2.2]
  congr 1
  omega
theorem bsA_back (a : Ar 6) : shA (bsA a) (a.get 0) = a := by
  unfold bsA
  rw [shA_shA, show -(a.get 0) + a.get 0 = 0 by omega, shA_zero]
theorem like_self (P Q : Ar 6) (hP : dieB P = true) (hQ : dieB Q = true) : LikeS (sums2 P.l Q.l) P Q := ⟨hP, hQ, fun _ _ => rfl⟩
theorem base_swap {L : List Int} {m : Int} {a b : Ar 6} (h : BaseS L m a b) : BaseS L m b a := by
  obtain ⟨h1, h2, h3, h4, h5⟩ := h
  refine ⟨h2, h1, h4, h3, fun u => ?_⟩
  rw [← h5 u]
  exact count_swap a.l u b.l
theorem cpy_get (T : Ar 121) (m u : Nat) (hm : m ≤ 121) (hu : u + m < 121) : ((Ar.zero 121).cpy ((T.l.take 121).drop m)).get (u : Int) = T.get ((m + u : Nat) : Int) := by
  have hT : T.l.take 121 = T.l := List.take_of_length_le (by rw [T.h]; exact Nat.le_refl _)
  unfold Ar.get Ar.cpy
  simp only
  rw [hT, Int.toNat_natCast, Int.toNat_natCast, List.length_drop, T.h, List.getD_eq_getElem?_getD, List.getElem?_append_left (by rw [List.length_take, List.length_drop, T.h]; omega), List.getElem?_take_of_lt (by omega), List.getElem?_drop, ← List.getD_eq_getElem?_getD]
theorem cnt30 : ∀ l, l < 6 → cnt 30 l ≤ 400000 := by decide +kernel
structure Full (W : Ar 121) (A B : Ar 31) : Prop where
  na : NN A
  nb : NN B
  sa : sumN 31 (gA A) = 6
  sb : sumN 31 (gA B) = 6
  cv : ∀ t : Nat, t ≤ 60 → conv (gA A) (gA B) t = W.get (t : Int)
theorem conv_zero (A B : Nat → Int) : conv A B 0 = A 0 * B 0 := by
  unfold conv
  rw [sumN, sumN, Int.zero_add]
theorem sum_one (n : Int) (g : Nat → Int) (h0 : g 0 = n) (hz : ∀ i, 1 ≤ i → g i = 0) : sumN 31 g = n := by
  rw [sumN_ext 1 31 g hz (by omega), sumN, sumN, h0, Int.zero_add]
theorem shapes_l0 (K : Nat) (hK : 1000 ≤ K) (l : List (Ar 6)) (T : Ar 121) (tt : Int × Int) (W : Ar 121) (hWd : W = (Ar.zero 121).cpy ((T.l.take 121).drop (tt.1 : Int).toNat)) (hW0 : 1 ≤ W.get 0 ∧ W.get 0 ≤ 36) (hW : ∀ s : Nat, 1 ≤ s → s ≤ 60 → 0 ≤ W.get (s : Int) ∧ W.get (s : Int) ≤ 36) :
    ∀ (k n : Nat) (a b : Ar 31) (lf rt : Int) (found : List PP), 1 ≤ n → n ≤ 7 → 7 - n < k → (∀ i, 1 ≤ i → gA a i = 0) → (∀ i, 1 ≤ i → gA b i = 0) → found.length + (7 - n) * 400000 ≤ 1073741824 →
    ∃ a' b' lf' rt' new, impl_shapes.l0 K l T tt k (n : Int) a b lf rt found = some (a', b', lf', rt', found ++ new) ∧ new.length ≤ (7 - n) * 400000 ∧ ∀ x, x ∈ new ↔ ∃ A B, Full W A B ∧ (n : Int) ≤ gA A 0 ∧ x = mkP (dA A) (dA B) := by
  intro k
  induction k with
  | zero => intro n a b lf rt found h1 h2 h3; omega
  | succ k ih =>
    intro n a b lf rt found h1 h2 h3 ha hb hf
    rw [impl_shapes.l0, ← hWd]
    have hW0e : W.get 0 = W.get ((0 : Nat) : Int) := rfl
    -- what every whole gives at nothing
    have hfull : ∀ A B, Full W A B → gA A 0 * gA B 0 = W.get 0 ∧ 0 ≤ gA A 0 ∧ gA A 0 ≤ 6 ∧ 0 ≤ gA B 0 ∧ gA B 0 ≤ 6 := by
      intro A B f
      have e := f.cv 0 (by omega)
      rw [conv_zero] at e
      have e1 := get_le A f.na 0
      have e2 := get_le B f.nb 0
      have e3 := f.sa
      have e4 := f.sb
      exact ⟨e, f.na 0, by omega, f.nb 0, by omega⟩
    by_cases hn : n < 7
    · have w1n := w1' n (by omega)
      have hdiv : -9223372036854775808 ≤ (W.get 0).tdiv (n : Int) ∧ (W.get 0).tdiv (n : Int) ≤ 9223372036854775807 ∧ 0 ≤ (W.get 0).tdiv (n : Int) ∧ (W.get 0).tdiv (n : Int) ≤ (n : Int) * (W.get 0).tdiv (n : Int) ∧ (n : Int) * (W.get 0).tdiv (n : Int) ≤ 36 := by
        clear w1n
        have d0 : 0 ≤ (W.get 0).tdiv (n : Int) := Int.tdiv_nonneg (by omega) (by omega)
        have d1 := Int.mul_tdiv_add_tmod (W.get 0) (n : Int)
        have d2 := Int.tmod_nonneg (n : Int) (show 0 ≤ W.get 0 by omega)
        have d3 := Int.mul_le_mul_of_nonneg_right (show (1 : Int) ≤ (n : Int) by omega) d0
        rw [Int.one_mul] at d3
        exact ⟨by omega, by omega, d0, d3, by omega⟩
      have hB : ∀ B : Int, (n : Int) * B = W.get 0 → (W.get 0).tdiv (n : Int) = B := by
        intro B e
        rw [← e]
        exact Int.mul_tdiv_cancel_left B (by omega)
      rw [if_pos (show (n : Int) ≤ 6 by omega), if_pos (show (n : Int) ≠ 0 by omega), w1n]
      clear w1n
      generalize (W.get 0).tdiv (n : Int) = m at *
      obtain ⟨m1, m2, m3, m4, m5⟩ := hdiv
      have wm : wrap64 m = m := w64 m1 m2
      have wnm : wrap64 ((n : Int) * m) = (n : Int) * m := w64 (by omega) (by omega)
      rw [wm, wnm]
      clear wm wnm
      have hskip : (∀ A B, Full W A B → gA A 0 ≠ (n : Int)) → ∃ a' b' lf' rt' new, impl_shapes.l0 K l T tt k ((n + 1 : Nat) : Int) a b lf rt found = some (a', b', lf', rt', found ++ new) ∧ new.length ≤ (7 - n) * 400000 ∧ ∀ x, x ∈ new ↔ ∃ A B, Full W A B ∧ (n : Int) ≤ gA A 0 ∧ x = mkP (dA A) (dA B) := by
        intro hno
        have hlen : (7 - (n + 1)) * 400000 ≤ (7 - n) * 400000 := Nat.mul_le_mul_right _ (by omega)
        obtain ⟨a', b', lf', rt', new, n1, n2, n3⟩ := ih (n + 1) a b lf rt found (by omega) (by omega) (by omega) ha hb (Nat.le_trans (Nat.add_le_add_left hlen _) hf)
        refine ⟨a', b', lf', rt', new, n1, Nat.le_trans n2 hlen, fun x => ?_⟩
        rw [n3 x]
        constructor
        · rintro ⟨A, B, c, hA, e⟩; exact ⟨A, B, c, by omega, e⟩
        · rintro ⟨A, B, c, hA, e⟩
          have := hno A B c
          exact ⟨A, B, c, by omega, e⟩
      by_cases heq : (n : Int) * m = W.get 0
      · rw [if_pos heq]
        by_cases h6 : 6 < m
        · rw [if_pos h6]
          refine hskip fun A B c e => ?_
          obtain ⟨e1, e2, e3, e4, e5⟩ := hfull A B c
          rw [e] at e1
          have := hB _ e1
          omega
        · rw [if_neg h6]
          have hm1 : 1 ≤ m := by
            rcases Int.lt_or_le m 1 with h | h
            · have : m = 0 := by omega
              rw [this] at heq
              simp at heq
              omega
            · exact h
          obtain ⟨mn, rfl⟩ : ∃ q : Nat, m = (q : Int) := ⟨m.toNat, by omega⟩
          have ga := fun i => gA_set a 0 (by omega) (n : Int) i
          have gb := fun i => gA_set b 0 (by omega) (mn : Int) i
          rw [show ((0 : Nat) : Int) = 0 from rfl] at ga gb
          have hst : St 1 (a.set 0 (n : Int)) (b.set 0 (mn : Int)) (6 - n) (6 - mn) := by
            refine ⟨fun i => ?_, fun i => ?_, fun t ht => ?_, fun t ht => ?_, ?_, ?_, ?_, ?_⟩
            · rw [ga]; split
              · omega
              · rw [ha i (by omega)]; exact Int.le_refl _
            · rw [gb]; split
              · omega
              · rw [hb i (by omega)]; exact Int.le_refl _
            · rw [ga, if_neg (by omega), ha t ht]
            · rw [gb, if_neg (by omega), hb t ht]
            · rw [ga, if_pos rfl]; omega
            · rw [gb, if_pos rfl]; omega
            · rw [sum_one (n : Int) _ (by rw [ga, if_pos rfl]) (fun i hi => by rw [ga, if_neg (by omega), ha i hi])]; omega
            · rw [sum_one (mn : Int) _ (by rw [gb, if_pos rfl]) (fun i hi => by rw [gb, if_neg (by omega), hb i hi])]; omega
          have hcn := cnt30 (6 - n) (by omega)
          obtain ⟨new1, r1, r2, r3⟩ := grow_r K hK W hW 60 K 1 _ _ _ _ found (by omega) (by omega) (by omega) hst (by rw [show 31 - 1 = 30 from rfl]; omega)
          rw [show 31 - 1 = 30 from rfl] at r2
          have wl : wrap64 (6 - (n : Int)) = ((6 - n : Nat) : Int) := by rw [w64 (by omega) (by omega)]; omega
          have wr : wrap64 (6 - (mn : Int)) = ((6 - mn : Nat) : Int) := by rw [w64 (by omega) (by omega)]; omega
          rw [wl, wr]
          clear wl wr
          obtain ⟨a', b', lf', rt', new2, q1, q2, q3⟩ := ih (n + 1) (a.set 0 (n : Int)) (b.set 0 (mn : Int)) ((6 - n : Nat) : Int) ((6 - mn : Nat) : Int) (found ++ new1) (by omega) (by omega) (by omega) hst.za hst.zb (by rw [List.length_append]; omega)
          refine ⟨a', b', lf', rt', new1 ++ new2, ?_, by rw [List.length_append]; omega, fun x => ?_⟩
          · unfold impl_factors_grow__c1.f
            rw [show impl_factors_grow__c1.r K K W (a.set 0 (n : Int)) (b.set 0 (mn : Int)) ((6 - n : Nat) : Int) ((6 - mn : Nat) : Int) found 1 = _ from r1, some_bind]
            simp only
            rw [q1, List.append_assoc]
          · rw [List.mem_append, r3 x, q3 x]
            constructor
            · rintro (⟨A, B, c, e⟩ | ⟨A, B, c, hA, e⟩)
              · have eA := c.ea 0 (by omega)
                have eB := c.eb 0 (by omega)
                rw [ga, if_pos rfl] at eA
                rw [gb, if_pos rfl] at eB
                refine ⟨A, B, ⟨c.na, c.nb, c.sa, c.sb, fun t ht => ?_⟩, by omega, e⟩
                by_cases ht0 : t = 0
                · rw [ht0, conv_zero, eA, eB, heq]; rfl
                · exact c.cv t (by omega) ht
              · exact ⟨A, B, c, by omega, e⟩
            · rintro ⟨A, B, c, hA, e⟩
              by_cases hAn : gA A 0 = (n : Int)
              · left
                obtain ⟨e1, e2, e3, e4, e5⟩ := hfull A B c
                rw [hAn] at e1
                have hBm := hB _ e1
                refine ⟨A, B, ⟨c.na, c.nb, c.sa, c.sb, fun t ht => ?_, fun t ht => ?_, fun t h5 h6 => c.cv t h6⟩, e⟩
                · rw [show t = 0 by omega, ga, if_pos rfl, hAn]
                · rw [show t = 0 by omega, gb, if_pos rfl, ← hBm]
              · exact .inr ⟨A, B, c, by omega, e⟩
      · rw [if_neg heq]
        refine hskip fun A B c e => heq ?_
        obtain ⟨e1, e2, e3, e4, e5⟩ := hfull A B c
        rw [e] at e1
        rw [hB _ e1, e1]
    · have : n = 7 := by omega
      subst this
      rw [if_neg (by decide)]
      refine ⟨a, b, lf, rt, [], by rw [List.append_nil], Nat.zero_le _, fun x => ⟨fun h => by simp at h, ?_⟩⟩
      rintro ⟨A, B, c, hA, _⟩
      obtain ⟨e1, e2, e3, e4, e5⟩ := hfull A B c
      omega
theorem head_zero (a : Ar 6) (h : dieB a = true) (h0 : (0 : Int) ∈ a.l) : a.get 0 = 0 := by
  obtain ⟨⟨h1, h2⟩, e, h3⟩ := die_head a h
  have := head_le ((die_iff a).1 h).2 0 h0
  omega
theorem full_base (P Q : Ar 6) (hP : dieB P = true) (hQ : dieB Q = true) (W : Ar 121) (hW : ∀ u : Nat, u ≤ 60 → W.get (u : Int) = ((sums2 P.l Q.l).count ((u : Int) + (P.get 0 + Q.get 0)) : Int)) (A B : Ar 31) (c : Full W A B) (h1 : 1 ≤ gA A 0) (h2 : 1 ≤ gA B 0) : BaseS (sums2 P.l Q.l) (P.get 0 + Q.get 0) (dA A) (dA B) := by
  have dA1 := dA_die A c.na c.sa
  have dB1 := dA_die B c.nb c.sb
  have hz : ∀ X : Ar 31, NN X → sumN 31 (gA X) = 6 → 1 ≤ gA X 0 → (0 : Int) ∈ (dA X).l := by
    intro X hX h6 h
    rw [dA_l X hX h6]
    have := dlp_count (gA X) hX 0 31
    rw [if_pos (by omega)] at this
    exact List.count_pos_iff.1 (by rw [show ((0 : Nat) : Int) = 0 from rfl] at this; omega)
  refine ⟨dA1, dB1, head_zero _ dA1 (hz A c.na c.sa h1), head_zero _ dB1 (hz B c.nb c.sb h2), fun u => ?_⟩
  have i1 := (die_iff P).1 hP
  have i2 := (die_iff Q).1 hQ
  obtain ⟨m1, m2⟩ := sums_min P Q hP hQ
  by_cases hu : 0 ≤ u ∧ u ≤ 60
  · obtain ⟨n, rfl⟩ : ∃ n : Nat, u = (n : Int) := ⟨u.toNat, by omega⟩
    have e1 := conv_count A B c.na c.nb c.sa c.sb n
    have e2 := c.cv n (by omega)
    have e3 := hW n (by omega)
    omega
  · rw [List.count_eq_zero.2 fun hm => hu (sums2_in ((die_iff _).1 dA1).1 ((die_iff _).1 dB1).1 _ hm), List.count_eq_zero.2 fun hm => ?_]
    have q1 := m2 _ hm
    have q2 := sums2_in i1.1 i2.1 _ hm
    obtain ⟨q3, _⟩ := die_head P hP
    obtain ⟨q4, _⟩ := die_head Q hQ
    omega
theorem base_full (P Q : Ar 6) (W : Ar 121) (hW : ∀ u : Nat, u ≤ 60 → W.get (u : Int) = ((sums2 P.l Q.l).count ((u : Int) + (P.get 0 + Q.get 0)) : Int)) (a b : Ar 6) (h : BaseS (sums2 P.l Q.l) (P.get 0 + Q.get 0) a b) : Full W (cA a) (cA b) ∧ 1 ≤ gA (cA a) 0 ∧ dA (cA a) = a ∧ dA (cA b) = b := by
  obtain ⟨h1, h2, h3, h4, h5⟩ := h
  have e1 := dA_cA a h1
  have e2 := dA_cA b h2
  refine ⟨⟨cA_nn a, cA_nn b, cA_sum a h1, cA_sum b h2, fun t ht => ?_⟩, ?_, e1, e2⟩
  · rw [← conv_count _ _ (cA_nn a) (cA_nn b) (cA_sum a h1) (cA_sum b h2), e1, e2, hW t ht, h5]
  · rw [cA_get a 0 (by omega)]
    obtain ⟨_, e, hm⟩ := die_head a h1
    rw [← e, h3] at hm
    have := List.count_pos_iff.2 hm
    rw [show ((0 : Nat) : Int) = 0 from rfl]
    omega
theorem gA_zero (i : Nat) : gA (Ar.zero 31) i = 0 := by
  unfold gA
  rw [List.getD_eq_getElem?_getD]
  by_cases h : i < 31
  · rw [List.getElem?_eq_getElem (by rw [(Ar.zero 31).h]; exact h)]; exact List.getElem_replicate _
  · rw [List.getElem?_eq_none (by rw [(Ar.zero 31).h]; omega)]; rfl
theorem shapes_ok (K : Nat) (hK : 2000000000 ≤ K) (P Q : Ar 6) (hP : dieB P = true) (hQ : dieB Q = true) : ∃ r, impl_shapes.f K [P, Q] = some r ∧ Rising r ∧ r.length ≤ 2400000 ∧ ∀ x, x ∈ r ↔ ∃ a b, BaseS (sums2 P.l Q.l) (P.get 0 + Q.get 0) a b ∧ x = mkP a b := by
  obtain ⟨T, _, t2, t3⟩ := tab_two K (by omega) P Q hP hQ
  obtain ⟨tt, b1, b2⟩ := bounds_eq K (by omega) P Q hP hQ
  obtain ⟨p1, _⟩ := die_head P hP
  obtain ⟨q1, _⟩ := die_head Q hQ
  obtain ⟨m1, m2⟩ := sums_min P Q hP hQ
  have hlen : (sums2 P.l Q.l).length = 36 := by rw [sums2_len, P.h, Q.h]
  obtain ⟨m, hm⟩ : ∃ m : Nat, P.get 0 + Q.get 0 = (m : Int) := ⟨(P.get 0 + Q.get 0).toNat, by omega⟩
  have hmt : (tt.1 : Int).toNat = m := by rw [b2, hm]; rfl
  have hW : ∀ u : Nat, u ≤ 60 → ((Ar.zero 121).cpy ((T.l.take 121).drop (tt.1 : Int).toNat)).get (u : Int) = ((sums2 P.l Q.l).count ((u : Int) + (P.get 0 + Q.get 0)) : Int) := by
    intro u hu
    rw [hmt, cpy_get T m u (by omega) (by omega), t3 (m + u) (by omega), hm, show ((m + u : Nat) : Int) = (u : Int) + (m : Int) by omega]
  generalize hWd : (Ar.zero 121).cpy ((T.l.take 121).drop (tt.1 : Int).toNat) = W at hW
  have hW36 : ∀ s : Nat, s ≤ 60 → 0 ≤ W.get (s : Int) ∧ W.get (s : Int) ≤ 36 := by
    intro s hs
    rw [hW s hs]
    have := List.count_le_length (a := (s : Int) + (P.get 0 + Q.get 0)) (l := sums2 P.l Q.l)
    omega
  have hW0 : 1 ≤ W.get 0 ∧ W.get 0 ≤ 36 := by
    have e1 := hW36 0 (by omega)
    have e2 := hW 0 (by omega)
    rw [show ((0 : Nat) : Int) = 0 from rfl] at e1 e2
    rw [Int.zero_add] at e2
    have := List.count_pos_iff.2 m1
    omega
  obtain ⟨a', b', lf', rt', new, n1, n2, n3⟩ := shapes_l0 K (by omega) [P, Q] T tt W hWd.symm hW0 (fun s _ hs => hW36 s hs) K 1 (Ar.zero 31) (Ar.zero 31) 0 0 [] (by omega) (by omega) (by omega) (fun i _ => gA_zero i) (fun i _ => gA_zero i) (by decide)
  rw [List.nil_append] at n1
  have hmem : ∀ x, x ∈ new ↔ ∃ a b, BaseS (sums2 P.l Q.l) (P.get 0 + Q.get 0) a b ∧ x = mkP a b := by
    intro x
    rw [n3 x]
    constructor
    · rintro ⟨A, B, c, hA, e⟩
      refine ⟨dA A, dA B, full_base P Q hP hQ W hW A B c (by omega) ?_, e⟩
      have e0 := c.cv 0 (by omega)
      rw [conv_zero] at e0
      have hb := c.nb 0
      rcases Int.lt_or_le (gA B 0) 1 with h | h
      · rw [show gA B 0 = 0 by omega, Int.mul_zero] at e0
        have : W.get 0 = W.get ((0 : Nat) : Int) := rfl
        omega
      · exact h
    · rintro ⟨a, b, c, e⟩
      obtain ⟨f1, f2, f3, f4⟩ := base_full P Q W hW a b c
      exact ⟨cA a, cA b, f1, by omega, by rw [f3, f4]; exact e⟩
  have hne : new ≠ [] := by
    intro e
    have := (hmem (mkP (bsA P) (bsA Q))).2 ⟨_, _, like_base hP hQ (like_self P Q hP hQ), rfl⟩
    rw [e] at this
    simp at this
  obtain ⟨r, r1, r2, r3, r4⟩ := sorted_ok K hK new hne (by omega)
  refine ⟨r, ?_, r2, by omega, fun x => by rw [r3 x]; exact hmem x⟩
  unfold impl_shapes.f
  rw [t2, some_bind, b1, some_bind, if_pos (by omega), show impl_shapes.l0 K [P, Q] T tt K 1 (Ar.zero 31) (Ar.zero 31) 0 0 [] = _ from n1, some_bind]
  simp only
  rw [r1]
  rfl
def Sh (m : Nat) (x y : PP) (n : Nat) : Prop := ∃ j : Nat, n ≤ j ∧ j ≤ m ∧ dieB (shA x.1 (j : Int)) = true ∧ dieB (shA x.2 ((m : Int) - (j : Int))) = true ∧ y = mkP (shA x.1 (j : Int)) (shA x.2 ((m : Int) - (j : Int)))
theorem pairs_l4 (K : Nat) (hK : 2000000 ≤ K) (tt : Int × Int) (m : Nat) (hm : m ≤ 60) (htt : tt.1 = (m : Int)) (t3 : List PP) (i : Nat) (h1 : Low (t3.getD i zP).1) (h2 : Low (t3.getD i zP).2) : ∀ (k n : Nat) (out : List PP), n ≤ m + 1 → m + 1 - n < k → out.length + (m + 1 - n) ≤ 1073741824 → ∃ new, impl_pairsLike.l4 K tt t3 (i : Int) k (n : Int) out = some (out ++ new) ∧ new.length ≤ m + 1 - n ∧ ∀ y, y ∈ new ↔ Sh m (t3.getD i zP) y n := by
  intro k
  induction k with
  | zero => intro n out h3 h4; omega
  | succ k ih =>
    intro n out h3 h4 h5
    rw [impl_pairsLike.l4, htt, w1' m (by omega), Int.toNat_natCast]
    generalize t3.getD i ((Ar.zero 6), (Ar.zero 6)) = x at *
    by_cases hn : n < m + 1
    · have wn := w1' n (by omega)
      have wm : wrap64 ((m : Int) - (n : Int)) = (m : Int) - (n : Int) := w64 (by omega) (by omega)
      rw [if_pos (show (n : Int) < ((m + 1 : Nat) : Int) by omega), wn, wm]
      clear wn wm
      rw [shift_eq K (by omega) _ _ h1 (by omega), some_bind, shift_eq K (by omega) _ _ h2 (by omega), some_bind, die_impl K hK, some_bind]
      have hskip : ¬ (dieB (shA x.1 (n : Int)) = true ∧ dieB (shA x.2 ((m : Int) - (n : Int))) = true) → ∃ new, impl_pairsLike.l4 K tt t3 (i : Int) k ((n + 1 : Nat) : Int) out = some (out ++ new) ∧ new.length ≤ m + 1 - n ∧ ∀ y, y ∈ new ↔ Sh m x y n := by
        intro hno
        obtain ⟨new, n1, n2, n3⟩ := ih (n + 1) out (by omega) (by omega) (by omega)
        refine ⟨new, n1, by omega, fun y => ?_⟩
        rw [n3 y]
        constructor
        · rintro ⟨j, j1, j2, j3⟩; exact ⟨j, by omega, j2, j3⟩
        · rintro ⟨j, j1, j2, j3, j4, j5⟩
          refine ⟨j, ?_, j2, j3, j4, j5⟩
          rcases Nat.lt_or_ge n j with h | h
          · exact h
          · have : j = n := by omega
            subst this
            exact absurd ⟨j3, j4⟩ hno
      by_cases d1 : dieB (shA x.1 (n : Int)) = true
      · rw [if_pos d1, die_impl K hK, some_bind]
        by_cases d2 : dieB (shA x.2 ((m : Int) - (n : Int))) = true
        · rw [if_pos d2, pairOf_eq K (by omega), some_bind, if_pos (by simp only [List.length_cons, List.length_nil]; omega)]
          obtain ⟨new, n1, n2, n3⟩ := ih (n + 1) (out ++ [mkP (shA x.1 (n : Int)) (shA x.2 ((m : Int) - (n : Int)))]) (by omega) (by omega) (by rw [List.length_append, List.length_cons, List.length_nil]; omega)
          refine ⟨mkP (shA x.1 (n : Int)) (shA x.2 ((m : Int) - (n : Int))) :: new, ?_, ?_, fun y => ?_⟩
          · rw [n1, List.append_assoc]; rfl
          · rw [List.length_cons]; omega
          · rw [List.mem_cons, n3 y]
            constructor
            · rintro (e | ⟨j, j1, j2, j3⟩)
              · exact ⟨n, Nat.le_refl _, by omega, d1, d2, e⟩
              · exact ⟨j, by omega, j2, j3⟩
            · rintro ⟨j, j1, j2, j3, j4, j5⟩
              rcases Nat.lt_or_ge n j with h | h
              · exact .inr ⟨j, h, j2, j3, j4, j5⟩
              · have : j = n := by omega
                subst this
                exact .inl j5
        · rw [if_neg d2]
          exact hskip fun h => d2 h.2
      · rw [if_neg d1]
        exact hskip fun h => d1 h.1
    · rw [if_neg (show ¬ (n : Int) < ((m + 1 : Nat) : Int) by omega)]
      refine ⟨[], by rw [List.append_nil], Nat.zero_le _, fun y => ⟨fun h => by simp at h, ?_⟩⟩
      rintro ⟨j, j1, j2, _⟩
      omega
theorem pairs_l3 (K : Nat) (hK : 2000000 ≤ K) (tt : Int × Int) (m : Nat) (hm : m ≤ 60) (htt : tt.1 = (m : Int)) (t3 : List PP) (h3 : ∀ x ∈ t3, Low x.1 ∧ Low x.2) (hl : t3.length ≤ 10000000) : ∀ (k n : Nat) (out : List PP), n ≤ t3.length → t3.length - n < k → out.length + (t3.length - n) * 61 ≤ 1073741824 → ∃ new, impl_pairsLike.l3 K tt t3 k (n : Int) out = some (out ++ new) ∧ new.length ≤ (t3.length - n) * 61 ∧ ∀ y, y ∈ new ↔ ∃ x ∈ t3.drop n, Sh m x y 0 := by
  intro k
  induction k with
  | zero => intro n out h4 h5; omega
  | succ k ih =>
    intro n out h4 h5 h6
    rw [impl_pairsLike.l3]
    by_cases hn : n < t3.length
    · have wn := w1' n (by omega)
      rw [if_pos (show (n : Int) < (t3.length : Int) by omega), if_pos (show (0 : Int) ≤ (n : Int) ∧ (n : Int) < (t3.length : Int) by omega), wn]
      clear wn
      have hg : t3.getD n zP = t3[n] := getD_nat _ _ _ hn
      have hx := h3 t3[n] (List.getElem_mem hn)
      obtain ⟨new1, r1, r2, r3⟩ := pairs_l4 K hK tt m hm htt t3 n (by rw [hg]; exact hx.1) (by rw [hg]; exact hx.2) K 0 out (by omega) (by omega) (by omega)
      obtain ⟨new2, q1, q2, q3⟩ := ih (n + 1) (out ++ new1) (by omega) (by omega) (by rw [List.length_append]; omega)
      refine ⟨new1 ++ new2, ?_, by rw [List.length_append]; omega, fun y => ?_⟩
      · rw [show impl_pairsLike.l4 K tt t3 (n : Int) K 0 out = _ from r1, some_bind, q1, List.append_assoc]
      · rw [List.mem_append, r3 y, q3 y, List.drop_eq_getElem_cons hn, hg]
        constructor
        · rintro (h | ⟨x, hx, h⟩)
          · exact ⟨_, List.mem_cons_self, h⟩
          · exact ⟨x, List.mem_cons_of_mem _ hx, h⟩
        · rintro ⟨x, hx, h⟩
          rcases List.mem_cons.1 hx with e | hx
          · rw [e] at h; exact .inl h
          · exact .inr ⟨x, hx, h⟩
    · rw [if_neg (show ¬ (n : Int) < (t3.length : Int) by omega)]
      have : n = t3.length := by omega
      subst this
      refine ⟨[], by rw [List.append_nil], Nat.zero_le _, fun y => ⟨fun h => by simp at h, ?_⟩⟩
      rintro ⟨x, hx, _⟩
      simp at hx
theorem pairs_ok (K : Nat) (hK : 2000000000 ≤ K) (P Q : Ar 6) (hP : dieB P = true) (hQ : dieB Q = true) : ∃ r, impl_pairsLike.f K [P, Q] = some r ∧ spec_l5Like.f K [P, Q] = some r ∧ r.length ≤ 40000 ∧ r ≠ [] ∧ ∀ x ∈ r, dieB x.1 = true ∧ dieB x.2 = true := by
  obtain ⟨tt, b1, b2⟩ := bounds_eq K (by omega) P Q hP hQ
  obtain ⟨p1, _⟩ := die_head P hP
  obtain ⟨q1, _⟩ := die_head Q hQ
  obtain ⟨m, hm⟩ : ∃ m : Nat, P.get 0 + Q.get 0 = (m : Int) := ⟨(P.get 0 + Q.get 0).toNat, by omega⟩
  obtain ⟨s, s1, s2, s3, s4⟩ := shapes_ok K hK P Q hP hQ
  obtain ⟨r, r1, r2, r3, r4⟩ := like_spec K (by omega) P Q hP hQ
  have hcase : ∀ x ∈ s, BaseS (sums2 P.l Q.l) (P.get 0 + Q.get 0) x.1 x.2 := by
    intro x hx
    obtain ⟨a, b, h, e⟩ := (s4 x).1 hx
    rcases mkP_cases a b with e' | e'
    · rw [e, e']; exact h
    · rw [e, e']; exact base_swap h
  obtain ⟨new, n1, n2, n3⟩ := pairs_l3 K (by omega) tt m (by omega) (by omega) s (fun x hx => ⟨die_low _ (hcase x hx).1, die_low _ (hcase x hx).2.1⟩) (by omega) K 0 [] (by omega) (by omega) (by rw [List.length_nil]; omega)
  rw [List.nil_append] at n1
  have hmem : ∀ y, y ∈ new ↔ ∃ a b, LikeS (sums2 P.l Q.l) a b ∧ y = mkP a b := by
    intro y
    rw [n3 y, List.drop_zero]
    constructor
    · rintro ⟨x, hx, j, j1, j2, j3, j4, j5⟩
      exact ⟨_, _, base_like (hcase x hx) (j : Int) ((m : Int) - (j : Int)) (by omega) j3 j4, j5⟩
    · rintro ⟨a, b, h, e⟩
      have hb := like_base hP hQ h
      have hf := like_first P Q a b hP hQ h
      obtain ⟨a1, _⟩ := die_head a h.1
      obtain ⟨c1, _⟩ := die_head b h.2.1
      refine ⟨mkP (bsA a) (bsA b), (s4 _).2 ⟨_, _, hb, rfl⟩, ?_⟩
      rcases mkP_cases (bsA a) (bsA b) with e' | e'
      · rw [e']
        refine ⟨(a.get 0).toNat, Nat.zero_le _, by omega, ?_⟩
        have ej : (((a.get 0).toNat : Nat) : Int) = a.get 0 := by omega
        have ek : (m : Int) - a.get 0 = b.get 0 := by omega
        simp only
        rw [ej, ek, bsA_back, bsA_back]
        exact ⟨h.1, h.2.1, e⟩
      · rw [e']
        refine ⟨(b.get 0).toNat, Nat.zero_le _, by omega, ?_⟩
        have ej : (((b.get 0).toNat : Nat) : Int) = b.get 0 := by omega
        have ek : (m : Int) - b.get 0 = a.get 0 := by omega
        simp only
        rw [ej, ek, bsA_back, bsA_back]
        exact ⟨h.2.1, h.1, by rw [e, mkP_comm]⟩
  have hself : mkP P Q ∈ new := (hmem _).2 ⟨P, Q, like_self P Q hP hQ, rfl⟩
  have hne : new ≠ [] := by
    intro e
    rw [e] at hself
    simp at hself
  obtain ⟨q, g1, g2, g3, g4⟩ := sorted_ok K hK new hne (by omega)
  have hqr : q = r := rising_eq g2 r2 fun x => by rw [g3 x, hmem x, r4 x]
  subst hqr
  refine ⟨q, ?_, r1, r3, ?_, fun x hx => ?_⟩
  · unfold impl_pairsLike.f
    rw [b1, some_bind, s1, some_bind, show impl_pairsLike.l3 K tt s K 0 [] = _ from n1, some_bind, g1]
    rfl
  · intro e
    have := (g3 _).2 hself
    rw [e] at this
    simp at this
  · obtain ⟨a, b, h, e⟩ := (r4 x).1 hx
    rcases mkP_cases a b with e' | e'
    · rw [e, e']; exact ⟨h.1, h.2.1⟩
    · rw [e, e']; exact ⟨h.2.1, h.1⟩
theorem toA6 (K : Nat) (hK : 8 ≤ K) (a : Ar 6) : laws_toIntA6.f K a = some a := by
  obtain ⟨k, rfl⟩ := Nat.exists_eq_add_of_le hK
  obtain ⟨x, y, z, u, v, w, rfl⟩ := Ar.cases6 a
  have e : 8 + k = k + 1 + 1 + 1 + 1 + 1 + 1 + 1 + 1 := by omega
  unfold laws_toIntA6.f
  rw [e]
  simp only [laws_toIntA6.l0, show (0 : Int) < 6 by decide, show wrap64 (0 + 1) = 1 by decide +kernel, show wrap64 (1 + 1) = 2 by decide +kernel, show wrap64 (2 + 1) = 3 by decide +kernel, show wrap64 (3 + 1) = 4 by decide +kernel, show wrap64 (4 + 1) = 5 by decide +kernel, show wrap64 (5 + 1) = 6 by decide +kernel, if_true, show (0 : Int) ≤ 0 ∧ True by decide]
  rfl
theorem toA6S_l0 (K : Nat) (hK : 8 ≤ K) (l : List (Ar 6)) (h : l.length ≤ 1073741824) : ∀ (k n : Nat) (out : List (Ar 6)), out.length = l.length → out.take n = l.take n → n ≤ l.length → l.length - n < k → laws_toIntA6S.l0 K l k (n : Int) out = some l := by
  intro k
  induction k with
  | zero => intro n out h1 h2 h3 h4; omega
  | succ k ih =>
    intro n out h1 h2 h3 h4
    rw [laws_toIntA6S.l0]
    by_cases hn : (n : Int) < (l.length : Int)
    · have hn' : n < l.length := by omega
      rw [if_pos hn, if_pos (by omega), toA6 K hK, some_bind, if_pos (by omega), w1 n (by omega)]
      refine ih (n + 1) _ (by simp [h1]) ?_ (by omega) (by omega)
      have hnn : ((n : Int)).toNat = n := by omega
      rw [hnn, List.take_add_one, List.take_add_one, List.take_set_of_le (Nat.le_refl n), h2]
      rw [List.getElem?_set_self (by omega)]
      congr 1
      rw [List.getD_eq_getElem?_getD, List.getElem?_eq_getElem hn']
      rfl
    · rw [if_neg hn]
      have : n = l.length := by omega
      subst this
      rw [← h1, List.take_length, h1, List.take_length] at h2
      rw [h2]
theorem toA6S (K : Nat) (l : List (Ar 6)) (h : l.length ≤ 1048576) (hK : 2000000 ≤ K) : laws_toIntA6S.f K l = some l := by
  unfold laws_toIntA6S.f
  rw [if_pos (by omega), show (0 : Int) = ((0 : Nat) : Int) from rfl, toA6S_l0 K (by omega) l (by omega) K 0 _ (by simp) (by simp) (by omega) (by omega)]
  rfl
theorem sizeA6S (K : Nat) (l : List (Ar 6)) (h : l.length ≤ maxLen) : (laws_szIntA6S.f K l 1048576 = some (-1) ∧ 1048576 < l.length) ∨ (∃ r : Int, 0 ≤ r ∧ laws_szIntA6S.f K l 1048576 = some r ∧ l.length ≤ 1048576) := by
  have hm : l.length ≤ 2 ^ 63 - 1 := h
  unfold laws_szIntA6S.f
  have e : wrap64 (1048576 - (l.length : Int)) = 1048576 - (l.length : Int) := w64 (by omega) (by omega)
  rw [e]
  by_cases hc : (1048576 : Int) - (l.length : Int) < 0
  · rw [if_pos hc]; exact .inl ⟨rfl, by omega⟩
  · rw [if_neg hc]; exact .inr ⟨_, by omega, rfl, by omega⟩
theorem eqA6 (K : Nat) (hK : 8 ≤ K) (a : Ar 6) : laws_eqIntA6.f K a a = some true := by
  obtain ⟨k, rfl⟩ := Nat.exists_eq_add_of_le hK
  rw [show 8 + k = k + 1 + 1 + 1 + 1 + 1 + 1 + 1 + 1 by omega]
  simp [laws_eqIntA6.f, laws_eqIntA6.l0, wrap64]
theorem eqA6S_l0 (K : Nat) (hK : 8 ≤ K) (l : List (Ar 6)) (h : l.length ≤ 1073741824) : ∀ (k n : Nat), n ≤ l.length → l.length - n < k → laws_eqIntA6S.l0 K l l k (n : Int) = some (Sum.inl ()) := by
  intro k
  induction k with
  | zero => intro n h1 h2; omega
  | succ k ih =>
    intro n h1 h2
    rw [laws_eqIntA6S.l0]
    by_cases hn : (n : Int) < (l.length : Int)
    · rw [if_pos hn, if_pos (by omega), if_pos (by omega), eqA6 K hK, some_bind, if_pos rfl, w1 n (by omega)]
      exact ih (n + 1) (by omega) (by omega)
    · rw [if_neg hn]
theorem eqA6S (K : Nat) (l : List (Ar 6)) (h : l.length ≤ 1048576) (hK : 2000000 ≤ K) : laws_eqIntA6S.f K l l = some true := by
  unfold laws_eqIntA6S.f
  rw [if_pos rfl, show (0 : Int) = ((0 : Nat) : Int) from rfl, eqA6S_l0 K (by omega) l (by omega) K 0 (by omega) (by omega)]
  rfl
def twoB (l : List (Ar 6)) : Bool := poolB l && decide ((l.length : Int) = 2)
theorem two_spec (K : Nat) (hK : 2000000 ≤ K) (l : List (Ar 6)) (h : l.length ≤ 1048576) : spec_l5Two.f K l = some (twoB l) := by
  unfold spec_l5Two.f twoB
  rw [pool_spec K hK l h, some_bind]
  cases poolB l <;> rfl
theorem two_impl (K : Nat) (hK : 2000000 ≤ K) (l : List (Ar 6)) (h : l.length ≤ 1048576) : impl_isTwo.f K l = some (twoB l) := by
  unfold impl_isTwo.f twoB
  rw [pool_impl K hK l h, some_bind]
  cases poolB l <;> rfl
theorem two_list (l : List (Ar 6)) (h : twoB l = true) : ∃ P Q, l = [P, Q] ∧ dieB P = true ∧ dieB Q = true := by
  unfold twoB at h
  rw [Bool.and_eq_true, decide_eq_true_eq] at h
  obtain ⟨_, h2⟩ := pool_good l h.1
  match l, h.2 with
  | [P, Q], _ => exact ⟨P, Q, rfl, h2 P (by simp), h2 Q (by simp)⟩
  | [], e => simp at e
  | [_], e => simp at e
  | _ :: _ :: _ :: _, e => simp at e; omega
theorem getD_setP (l : List PP) (d j : Nat) (x : PP) (h : d < l.length) : (l.set d x).getD j ((Ar.zero 6), (Ar.zero 6)) = if j = d then x else l.getD j ((Ar.zero 6), (Ar.zero 6)) := by
  rw [List.getD_eq_getElem?_getD, List.getD_eq_getElem?_getD]
  by_cases hj : j = d
  · subst hj
    rw [if_pos rfl, List.getElem?_set_self h]; rfl
  · rw [if_neg hj, List.getElem?_set_ne (fun e => hj e.symm)]
theorem eqPP (K : Nat) (hK : 8 ≤ K) (x : PP) : laws_eqPair.f K x x = some true := by
  unfold laws_eqPair.f
  rw [eqA6 K hK, some_bind, if_pos rfl, eqA6 K hK, some_bind, if_pos rfl]
theorem eqPPS_l0 (K : Nat) (hK : 8 ≤ K) (l : List PP) (h : l.length ≤ 1073741824) : ∀ (k n : Nat), n ≤ l.length → l.length - n < k → laws_eqPairS.l0 K l l k (n : Int) = some (Sum.inl ()) := by
  intro k
  induction k with
  | zero => intro n h1 h2; omega
  | succ k ih =>
    intro n h1 h2
    rw [laws_eqPairS.l0]
    by_cases hn : (n : Int) < (l.length : Int)
    · rw [if_pos hn, if_pos (by omega), if_pos (by omega), eqPP K hK, some_bind, if_pos rfl, w1' n (by omega)]
      exact ih (n + 1) (by omega) (by omega)
    · rw [if_neg hn]
theorem eqPPS (K : Nat) (l : List PP) (h : l.length ≤ 1048576) (hK : 2000000 ≤ K) : laws_eqPairS.f K l l = some true := by
  unfold laws_eqPairS.f
  rw [if_pos rfl, show (0 : Int) = ((0 : Nat) : Int) from rfl, eqPPS_l0 K (by omega) l (by omega) K 0 (by omega) (by omega)]
  rfl
def MkPP (a : Int) (d : Nat) (l : List PP) : Prop := ∀ j : Nat, j < d → ∀ i : Nat, i < 6 → (l.getD j ((Ar.zero 6), (Ar.zero 6))).1.get (i : Int) = a + 12 * j + i ∧ (l.getD j ((Ar.zero 6), (Ar.zero 6))).2.get (i : Int) = a + 12 * j + 6 + i
theorem markP_l5 (K : Nat) (a : Int) (h0 : 0 ≤ a) (ha : a ≤ 1000000) (d : Nat) (hd : d ≤ 1048576) : ∀ (k n : Nat) (out : List PP), n ≤ 6 → 6 - n < k → d < out.length → MkPP a d out → (∀ i : Nat, i < n → (out.getD d ((Ar.zero 6), (Ar.zero 6))).1.get (i : Int) = a + 12 * d + i) → ∃ out', laws_markPairS.l5 K (d : Int) k (a + 12 * d + n) (n : Int) out = some (a + 12 * d + 6, out') ∧ out'.length = out.length ∧ MkPP a d out' ∧ ∀ i : Nat, i < 6 → (out'.getD d ((Ar.zero 6), (Ar.zero 6))).1.get (i : Int) = a + 12 * d + i := by
  intro k
  induction k with
  | zero => intro n out h1 h2; omega
  | succ k ih =>
    intro n out h1 h2 h3 h4 h5
    rw [laws_markPairS.l5]
    by_cases hn : (n : Int) < 6
    · have c1 : (0 : Int) ≤ (d : Int) ∧ (d : Int) < (out.length : Int) := by omega
      have c2 : (0 : Int) ≤ (n : Int) ∧ (n : Int) < 6 := by omega
      have f1 : n + 1 ≤ 6 := by omega
      have f2 : 6 - (n + 1) < k := by omega
      have f3 : n ≤ 4000000000000000000 := by omega
      have e1 : wrap64 (a + 12 * (d : Int) + (n : Int) + 1) = a + 12 * (d : Int) + ((n + 1 : Nat) : Int) := by rw [w64 (by omega) (by omega)]; omega
      rw [if_pos hn, if_pos c1, if_pos c2, e1, w1' n f3, show ((d : Int)).toNat = d from rfl]
      obtain ⟨o, i1, i2, i3, i4⟩ := ih (n + 1) (out.set d ((out.getD d ((Ar.zero 6), (Ar.zero 6))).1.set (n : Int) (a + 12 * (d : Int) + (n : Int)), (out.getD d ((Ar.zero 6), (Ar.zero 6))).2)) f1 f2 (by rw [List.length_set]; exact h3) (by
        intro j hj
        rw [getD_setP _ _ _ _ h3, if_neg (by omega)]
        exact h4 j hj) (by
        intro i hi
        rw [getD_setP _ _ _ _ h3, if_pos rfl, ar_get_set _ _ _ _ c2.1 c2.2 (by omega)]
        by_cases hin : i = n
        · rw [hin, if_pos rfl]
        · rw [if_neg (by omega)]
          exact h5 i (by omega))
      exact ⟨o, i1, by rw [i2, List.length_set], i3, i4⟩
    · have hnc : n = 6 := by omega
      subst hnc
      rw [if_neg hn]
      exact ⟨out, rfl, rfl, h4, h5⟩
theorem markP_l6 (K : Nat) (a : Int) (h0 : 0 ≤ a) (ha : a ≤ 1000000) (d : Nat) (hd : d ≤ 1048576) : ∀ (k n : Nat) (out : List PP), n ≤ 6 → 6 - n < k → d < out.length → MkPP a d out → (∀ i : Nat, i < 6 → (out.getD d ((Ar.zero 6), (Ar.zero 6))).1.get (i : Int) = a + 12 * d + i) → (∀ i : Nat, i < n → (out.getD d ((Ar.zero 6), (Ar.zero 6))).2.get (i : Int) = a + 12 * d + 6 + i) → ∃ out', laws_markPairS.l6 K (d : Int) k (a + 12 * d + 6 + n) (n : Int) out = some (a + 12 * (d + 1 : Nat), out') ∧ out'.length = out.length ∧ MkPP a (d + 1) out' := by
  intro k
  induction k with
  | zero => intro n out h1 h2; omega
  | succ k ih =>
    intro n out h1 h2 h3 h4 h4b h5
    rw [laws_markPairS.l6]
    by_cases hn : (n : Int) < 6
    · have c1 : (0 : Int) ≤ (d : Int) ∧ (d : Int) < (out.length : Int) := by omega
      have c2 : (0 : Int) ≤ (n : Int) ∧ (n : Int) < 6 := by omega
      have f1 : n + 1 ≤ 6 := by omega
      have f2 : 6 - (n + 1) < k := by omega
      have f3 : n ≤ 4000000000000000000 := by omega
      have e1 : wrap64 (a + 12 * (d : Int) + 6 + (n : Int) + 1) = a + 12 * (d : Int) + 6 + ((n + 1 : Nat) : Int) := by rw [w64 (by omega) (by omega)]; omega
      rw [if_pos hn, if_pos c1, if_pos c2, e1, w1' n f3, show ((d : Int)).toNat = d from rfl]
      obtain ⟨o, i1, i2, i3⟩ := ih (n + 1) (out.set d ((out.getD d ((Ar.zero 6), (Ar.zero 6))).1, (out.getD d ((Ar.zero 6), (Ar.zero 6))).2.set (n : Int) (a + 12 * (d : Int) + 6 + (n : Int)))) f1 f2 (by rw [List.length_set]; exact h3) (by
        intro j hj
        rw [getD_setP _ _ _ _ h3, if_neg (by omega)]
        exact h4 j hj) (by rw [getD_setP _ _ _ _ h3, if_pos rfl]; exact h4b) (by
        intro i hi
        rw [getD_setP _ _ _ _ h3, if_pos rfl, ar_get_set _ _ _ _ c2.1 c2.2 (by omega)]
        by_cases hin : i = n
        · rw [hin, if_pos rfl]
        · rw [if_neg (by omega)]
          exact h5 i (by omega))
      exact ⟨o, i1, by rw [i2, List.length_set], i3⟩
    · have hnc : n = 6 := by omega
      subst hnc
      rw [if_neg hn]
      refine ⟨out, ?_, rfl, ?_⟩
      · congr 2
        omega
      · intro j hj i hi
        by_cases hjd : j = d
        · subst hjd; exact ⟨h4b i hi, h5 i hi⟩
        · exact h4 j (by omega) i hi
theorem markP_l4 (K : Nat) (hK : 10 ≤ K) (a : Int) (h0 : 0 ≤ a) (ha : a ≤ 1000000) (N : Nat) (hN : N ≤ 1048576) : ∀ (k d : Nat) (out : List PP), d ≤ N → N - d < k → out.length = N → MkPP a d out → ∃ out', laws_markPairS.l4 K k (a + 12 * d) (d : Int) out = some (a + 12 * N, out') ∧ out'.length = N ∧ MkPP a N out' := by
  intro k
  induction k with
  | zero => intro d out h1 h2; omega
  | succ k ih =>
    intro d out h1 h2 h3 h4
    rw [laws_markPairS.l4]
    by_cases hn : (d : Int) < (out.length : Int)
    · have f0 : d < out.length := by omega
      have f1 : d + 1 ≤ N := by omega
      have f2 : N - (d + 1) < k := by omega
      have f3 : d ≤ 4000000000000000000 := by omega
      have f4 : d ≤ 1048576 := by omega
      obtain ⟨o, i1, i2, i3, i4⟩ := markP_l5 K a h0 ha d f4 K 0 out (by omega) (by omega) f0 h4 (fun i hi => by omega)
      obtain ⟨p, j1, j2, j3⟩ := markP_l6 K a h0 ha d f4 K 0 o (by omega) (by omega) (by omega) i3 i4 (fun i hi => by omega)
      rw [show ((0 : Nat) : Int) = 0 from rfl, Int.add_zero] at i1 j1
      rw [if_pos hn, i1, some_bind]
      simp only
      rw [j1, some_bind]
      simp only
      rw [w1' d f3]
      exact ih (d + 1) p f1 f2 (by omega) j3
    · have : d = N := by omega
      subst this
      rw [if_neg hn]
      exact ⟨out, rfl, h3, h4⟩
theorem heldP_l5 (K : Nat) (a : Int) (h0 : 0 ≤ a) (ha : a ≤ 1000000) (d : Nat) (hd : d ≤ 1048576) (l : List PP) (hl : d < l.length) (hm : MkPP a l.length l) : ∀ (k n : Nat), n ≤ 6 → 6 - n < k → laws_heldPairS.l5 K l (d : Int) k (a + 12 * d + n) (n : Int) = some (Sum.inl (a + 12 * d + 6)) := by
  intro k
  induction k with
  | zero => intro n h1 h2; omega
  | succ k ih =>
    intro n h1 h2
    rw [laws_heldPairS.l5]
    by_cases hn : (n : Int) < 6
    · have c1 : (0 : Int) ≤ (d : Int) ∧ (d : Int) < (l.length : Int) := by omega
      have c2 : (0 : Int) ≤ (n : Int) ∧ (n : Int) < 6 := by omega
      have f0 : n < 6 := by omega
      have f1 : n + 1 ≤ 6 := by omega
      have f2 : 6 - (n + 1) < k := by omega
      have f3 : n ≤ 4000000000000000000 := by omega
      have e1 : wrap64 (a + 12 * (d : Int) + (n : Int) + 1) = a + 12 * (d : Int) + ((n + 1 : Nat) : Int) := by rw [w64 (by omega) (by omega)]; omega
      rw [if_pos hn, if_pos c1, if_pos c2, e1, w1' n f3, show ((d : Int)).toNat = d from rfl, if_pos (hm d hl n f0).1]
      exact ih (n + 1) f1 f2
    · have hnc : n = 6 := by omega
      subst hnc
      rw [if_neg hn]
      rfl
theorem heldP_l6 (K : Nat) (a : Int) (h0 : 0 ≤ a) (ha : a ≤ 1000000) (d : Nat) (hd : d ≤ 1048576) (l : List PP) (hl : d < l.length) (hm : MkPP a l.length l) : ∀ (k n : Nat), n ≤ 6 → 6 - n < k → laws_heldPairS.l6 K l (d : Int) k (a + 12 * d + 6 + n) (n : Int) = some (Sum.inl (a + 12 * (d + 1 : Nat))) := by
  intro k
  induction k with
  | zero => intro n h1 h2; omega
  | succ k ih =>
    intro n h1 h2
    rw [laws_heldPairS.l6]
    by_cases hn : (n : Int) < 6
    · have c1 : (0 : Int) ≤ (d : Int) ∧ (d : Int) < (l.length : Int) := by omega
      have c2 : (0 : Int) ≤ (n : Int) ∧ (n : Int) < 6 := by omega
      have f0 : n < 6 := by omega
      have f1 : n + 1 ≤ 6 := by omega
      have f2 : 6 - (n + 1) < k := by omega
      have f3 : n ≤ 4000000000000000000 := by omega
      have e1 : wrap64 (a + 12 * (d : Int) + 6 + (n : Int) + 1) = a + 12 * (d : Int) + 6 + ((n + 1 : Nat) : Int) := by rw [w64 (by omega) (by omega)]; omega
      rw [if_pos hn, if_pos c1, if_pos c2, e1, w1' n f3, show ((d : Int)).toNat = d from rfl, if_pos (hm d hl n f0).2]
      exact ih (n + 1) f1 f2
    · have hnc : n = 6 := by omega
      subst hnc
      rw [if_neg hn]
      congr 2
      omega
theorem heldP_l4 (K : Nat) (hK : 10 ≤ K) (a : Int) (h0 : 0 ≤ a) (ha : a ≤ 1000000) (l : List PP) (hN : l.length ≤ 1048576) (hm : MkPP a l.length l) : ∀ (k d : Nat), d ≤ l.length → l.length - d < k → laws_heldPairS.l4 K l k (a + 12 * d) (d : Int) = some (Sum.inl (a + 12 * l.length)) := by
  intro k
  induction k with
  | zero => intro d h1 h2; omega
  | succ k ih =>
    intro d h1 h2
    rw [laws_heldPairS.l4]
    by_cases hn : (d : Int) < (l.length : Int)
    · have f0 : d < l.length := by omega
      have f1 : d + 1 ≤ l.length := by omega
      have f2 : l.length - (d + 1) < k := by omega
      have f3 : d ≤ 4000000000000000000 := by omega
      have f4 : d ≤ 1048576 := by omega
      have i1 := heldP_l5 K a h0 ha d f4 l f0 hm K 0 (by omega) (by omega)
      have j1 := heldP_l6 K a h0 ha d f4 l f0 hm K 0 (by omega) (by omega)
      rw [show ((0 : Nat) : Int) = 0 from rfl, Int.add_zero] at i1 j1
      rw [if_pos hn, i1, some_bind]
      simp only
      rw [j1, some_bind]
      simp only
      rw [w1' d f3]
      exact ih (d + 1) f1 f2
    · have : d = l.length := by omega
      rw [if_neg hn, this]
theorem marksP (K : Nat) (hK : 2000000 ≤ K) (l : List PP) (h : l.length ≤ 1048576) : ∃ m o, laws_markPairS.f K l 1 = some (m, o) ∧ laws_heldPairS.f K o 1 = some m ∧ 0 ≤ m := by
  obtain ⟨o, h1, h2, h3⟩ := markP_l4 K (by omega) 1 (by omega) (by omega) l.length h K 0 l (by omega) (by omega) rfl (fun j hj => by omega)
  have h4 := heldP_l4 K (by omega) 1 (by omega) (by omega) o (by omega) (by rw [h2]; exact h3) K 0 (by omega) (by omega)
  rw [show ((0 : Nat) : Int) = 0 from rfl, Int.mul_zero, Int.add_zero] at h1 h4
  rw [h2] at h4
  refine ⟨1 + 12 * (l.length : Int), o, ?_, ?_, by omega⟩
  · unfold laws_markPairS.f
    rw [h1]; rfl
  · unfold laws_heldPairS.f
    rw [h4]; rfl
theorem markA6_l3 (K : Nat) (d : Nat) : ∀ (k n : Nat) (a : Int) (out : List (Ar 6)), n ≤ 6 → 6 - n < k → 0 ≤ a → a ≤ 1000000000000 → d < out.length → out.length ≤ 1073741824 → ∃ out', laws_markIntA6S.l3 K (d : Int) k (a + n) (n : Int) out = some (a + 6, out') ∧ out'.length = out.length := by
  intro k
  induction k with
  | zero => intro n a out h1 h2; omega
  | succ k ih =>
    intro n a out h1 h2 h3 h4 h5 h6
    rw [laws_markIntA6S.l3]
    by_cases hn : (n : Int) < 6
    · rw [if_pos hn, if_pos (by omega), if_pos (by omega), w1 n (by omega), show wrap64 (a + (n : Int) + 1) = a + ((n + 1 : Nat) : Int) by rw [w64 (by omega) (by omega)]; omega]
      obtain ⟨o, h7, h8⟩ := ih (n + 1) a (out.set ((d : Int)).toNat ((out.getD ((d : Int)).toNat (Ar.zero 6)).set (n : Int) (a + (n : Int)))) (by omega) (by omega) h3 h4 (by simp; omega) (by simp; omega)
      exact ⟨o, h7, by simpa using h8⟩
    · have : n = 6 := by omega
      subst this
      rw [if_neg hn]
      exact ⟨out, rfl, rfl⟩
theorem markA6_l2 (K : Nat) (hK : 10 ≤ K) : ∀ (k d : Nat) (a : Int) (out : List (Ar 6)), d ≤ out.length → out.length - d < k → 0 ≤ a → a ≤ 6 * d + 1000 → out.length ≤ 1073741824 → ∃ m out', laws_markIntA6S.l2 K k a (d : Int) out = some (m, out') ∧ 0 ≤ m := by
  intro k
  induction k with
  | zero => intro d a out h1 h2; omega
  | succ k ih =>
    intro d a out h1 h2 h3 h4 h5
    rw [laws_markIntA6S.l2]
    by_cases hn : (d : Int) < (out.length : Int)
    · obtain ⟨o, h7, h8⟩ := markA6_l3 K d K 0 a out (by omega) (by omega) h3 (by omega) (by omega) h5
      have h7' : laws_markIntA6S.l3 K (d : Int) K a 0 out = some (a + 6, o) := by simpa using h7
      rw [if_pos hn, h7', w1 d (by omega)]
      simp only [some_bind]
      exact ih (d + 1) (a + 6) o (by omega) (by omega) (by omega) (by omega) (by omega)
    · rw [if_neg hn]; exact ⟨a, out, rfl, h3⟩
theorem markA6S (K : Nat) (hK : 2000000 ≤ K) (l : List (Ar 6)) (h : l.length ≤ 1048576) : ∃ m out', laws_markIntA6S.f K l 1 = some (m, out') ∧ 0 ≤ m := by
  obtain ⟨m, o, h1, h2⟩ := markA6_l2 K (by omega) K 0 1 l (by omega) (by omega) (by omega) (by omega) (by omega)
  unfold laws_markIntA6S.f
  rw [show laws_markIntA6S.l2 K K 1 0 l = some (m, o) from h1]
  exact ⟨m, o, rfl, h2⟩
def bsP (y : PP) : PP := mkP (bsA y.1) (bsA y.2)
theorem shs_l0 (K : Nat) (hK : 2000000 ≤ K) (l : List (Ar 6)) (t : List PP) (ht : ∀ x ∈ t, dieB x.1 = true ∧ dieB x.2 = true) (hl : t.length ≤ 1000000) : ∀ (k n : Nat) (out : List PP), n ≤ t.length → t.length - n < k → Rising out → out.length + (t.length - n) ≤ 1000000 → ∃ r, spec_ShapesLike.l0 K l t k (n : Int) out = some r ∧ Rising r ∧ (∀ x, x ∈ r ↔ x ∈ out ∨ ∃ y ∈ t.drop n, x = bsP y) ∧ r.length ≤ out.length + (t.length - n) := by
  intro k
  induction k with
  | zero => intro n out h1 h2; omega
  | succ k ih =>
    intro n out h1 h2 h3 h4
    rw [spec_ShapesLike.l0]
    by_cases hn : n < t.length
    · have c1 : (n : Int) < (t.length : Int) := by omega
      have c2 : (0 : Int) ≤ (n : Int) ∧ (n : Int) < (t.length : Int) := by omega
      have hg : t.getD ((n : Int)).toNat ((Ar.zero 6), (Ar.zero 6)) = t[n] := by rw [Int.toNat_natCast]; exact getD_nat _ _ _ hn
      have hx := ht t[n] (List.getElem_mem hn)
      obtain ⟨o, o1, o2, o3, o4⟩ := put_ok K hK out (bsP t[n]) (by omega) h3
      obtain ⟨r, r1, r2, r3, r4⟩ := ih (n + 1) o (by omega) (by omega) o2 (by omega)
      refine ⟨r, ?_, r2, fun x => ?_, by omega⟩
      · rw [if_pos c1, if_pos c2, hg, base_spec K (by omega) _ (die_low _ hx.1), some_bind, base_spec K (by omega) _ (die_low _ hx.2), some_bind, l5Pair_eq K (by omega), some_bind, show spec_l5Put.f K out (mkP (bsA t[n].1) (bsA t[n].2)) = _ from o1, some_bind, w1' n (by omega)]
        exact r1
      · rw [r3 x, o3 x, List.drop_eq_getElem_cons hn]
        constructor
        · rintro ((h | h) | ⟨y, hy, h⟩)
          · exact .inr ⟨_, List.mem_cons_self, h⟩
          · exact .inl h
          · exact .inr ⟨y, List.mem_cons_of_mem _ hy, h⟩
        · rintro (h | ⟨y, hy, h⟩)
          · exact .inl (.inr h)
          · rcases List.mem_cons.1 hy with e | hy
            · rw [e] at h; exact .inl (.inl h)
            · exact .inr ⟨y, hy, h⟩
    · have : n = t.length := by omega
      subst this
      rw [if_neg (show ¬ ((t.length : Nat) : Int) < (t.length : Int) by omega)]
      exact ⟨out, rfl, h3, fun x => by simp, by omega⟩
theorem shi_l0 (K : Nat) (hK : 2000000 ≤ K) (l : List (Ar 6)) (t : List PP) (ht : ∀ x ∈ t, dieB x.1 = true ∧ dieB x.2 = true) (hl : t.length ≤ 1000000) : ∀ (k n : Nat) (out : List PP), n ≤ t.length → t.length - n < k → out.length + (t.length - n) ≤ 1000000 → impl_ShapesLike.l0 K l t k (n : Int) out = some (out ++ (t.drop n).map bsP) := by
  intro k
  induction k with
  | zero => intro n out h1 h2; omega
  | succ k ih =>
    intro n out h1 h2 h4
    rw [impl_ShapesLike.l0]
    by_cases hn : n < t.length
    · have c1 : (n : Int) < (t.length : Int) := by omega
      have c2 : (0 : Int) ≤ (n : Int) ∧ (n : Int) < (t.length : Int) := by omega
      have hg : t.getD ((n : Int)).toNat ((Ar.zero 6), (Ar.zero 6)) = t[n] := by rw [Int.toNat_natCast]; exact getD_nat _ _ _ hn
      have hx := ht t[n] (List.getElem_mem hn)
      rw [if_pos c1, if_pos c2, hg, base_impl K (by omega) _ (die_low _ hx.1), some_bind, base_impl K (by omega) _ (die_low _ hx.2), some_bind, pairOf_eq K (by omega), some_bind, if_pos (by simp only [List.length_cons, List.length_nil]; omega), w1' n (by omega), ih (n + 1) _ (by omega) (by omega) (by rw [List.length_append, List.length_cons, List.length_nil]; omega), List.drop_eq_getElem_cons hn, List.map_cons, List.append_assoc]
      rfl
    · have : n = t.length := by omega
      subst this
      rw [if_neg (show ¬ ((t.length : Nat) : Int) < (t.length : Int) by omega)]
      simp
theorem ShapesLike_same (K : Nat) (hK : 2000000000 ≤ K) (l : List (Ar 6)) (h : l.length ≤ 1048576) : ∃ r b, spec_ShapesLike.f K l = some (r, b) ∧ impl_ShapesLike.f K l = some (r, b) ∧ r.length ≤ 40000 := by
  unfold spec_ShapesLike.f impl_ShapesLike.f
  rw [two_spec K (by omega) l h, two_impl K (by omega) l h, some_bind, some_bind]
  cases ht : twoB l with
  | false => exact ⟨_, _, rfl, rfl, by decide⟩
  | true =>
    obtain ⟨P, Q, rfl, hP, hQ⟩ := two_list l ht
    obtain ⟨t, r1, r2, r3, r4, r5⟩ := pairs_ok K hK P Q hP hQ
    obtain ⟨r, s1, s2, s3, s4⟩ := shs_l0 K (by omega) [P, Q] t r5 (by omega) K 0 [] (by omega) (by omega) List.Pairwise.nil (by rw [List.length_nil]; omega)
    have i1 := shi_l0 K (by omega) [P, Q] t r5 (by omega) K 0 [] (by omega) (by omega) (by rw [List.length_nil]; omega)
    rw [List.drop_zero, List.nil_append] at i1
    obtain ⟨q, q1, q2, q3, q4⟩ := sorted_ok K hK (t.map bsP) (by rw [Ne, List.map_eq_nil_iff]; exact r4) (by rw [List.length_map]; omega)
    have hqr : q = r := rising_eq q2 s2 fun x => by
      rw [q3 x, s3 x, List.drop_zero, List.mem_map]
      constructor
      · rintro ⟨y, hy, e⟩; exact .inr ⟨y, hy, e.symm⟩
      · rintro (h | ⟨y, hy, e⟩)
        · simp at h
        · exact ⟨y, hy, e.symm⟩
    subst hqr
    have hlen : q.length ≤ 40000 := by rw [List.length_map] at q4; omega
    rw [if_pos rfl, if_pos rfl, r1, r2, some_bind, some_bind, show spec_ShapesLike.l0 K [P, Q] t K 0 [] = _ from s1, show impl_ShapesLike.l0 K [P, Q] t K 0 [] = _ from i1, some_bind, some_bind, q1, some_bind, if_pos (by rw [List.length_nil]; omega), List.nil_append]
    exact ⟨_, _, rfl, rfl, hlen⟩
theorem ShapesLike_pure (l0 : List (Ar 6)) (m : l0.length ≤ maxLen) (_w : ∀ z ∈ l0, ∀ y ∈ z.l, (Lit.int .i64 y).wf = true) : ∃ K, laws_FnExactShapesLike.f K l0 = some true := by
  refine ⟨2000000000, ?_⟩
  unfold laws_FnExactShapesLike.f
  rcases sizeA6S 2000000000 l0 m with ⟨h, _⟩ | ⟨r, hr, h, h'⟩
  · rw [h]; rfl
  · rw [h]
    obtain ⟨q, b, h1, h2, h3⟩ := ShapesLike_same 2000000000 (by omega) l0 h'
    obtain ⟨m1, o1, g1, g2⟩ := markA6S 2000000000 (by omega) l0 h'
    obtain ⟨m2, o2, g3, g4, g5⟩ := marksP 2000000000 (by omega) q (by omega)
    have t1 := toA6S 2000000000 l0 h' (by omega)
    have q1 := eqA6S 2000000000 l0 h' (by omega)
    have q2 := eqPPS 2000000000 q (by omega) (by omega)
    simp only [t1, h1, h2, q1, q2, g1, g3, g4, some_bind, if_true, beq_self_eq_true, show ¬ r < 0 by omega, show ¬ m1 < 0 by omega, show ¬ m2 < 0 by omega, if_false]
end Go.Proofs.Ytlcogkfjjlclmaa.WShapesLike

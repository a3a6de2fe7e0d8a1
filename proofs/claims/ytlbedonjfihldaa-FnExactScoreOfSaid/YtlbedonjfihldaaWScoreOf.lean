/- The walk through the code that the statement reaches: what each function computes. Conditions: none but those in each line. -/
import Derived.Test.YtlbedonjfihldaaProg
import Derived.Test.YtlbedonjfihldaaK
namespace Go.Proofs.Ytlbedonjfihldaa.WScoreOf
open Go.K Go.RowKit
set_option linter.unusedVariables false
set_option linter.unusedSimpArgs false

def cd3 : Cd Int := ⟨3, 1, 8, fun x => [Pt.int x], fun x => Value.int .i64 x, (0 : Int), fun _ => rfl, fun _ => rfl, by decide⟩
theorem cdok3 : CdOk Try.prog cd3 := by
  obtain ⟨i, h1, h2, h3, h4⟩ := info_parts (by kernel_rfl : (Try.prog.info? 3).map (fun i => (i.zero, i.size, i.bytes)) = some (some (cd3.v cd3.z), 1, 8))
  exact ⟨⟨i, h1, h3, h4, h2⟩, by decide⟩
theorem zv25 (w : World) : (zeroValue 25).run Try.prog w = .ok (ag [Pt.int (((0 : Int), (0 : Int)).1), Pt.int (((0 : Int), (0 : Int)).2)]) w := by kernel_rfl
theorem mixed : Try.prog.follows .mixedOrders = true := by kernel_rfl

/-! ### loop.example/g01210/laws.toGoal: function 16 -/
def laws_toGoal.f (K : Nat) (a0 : (Int × Int)) : Option (Int × Int) := some a0
set_option maxRecDepth 100000 in
set_option maxHeartbeats 4000000 in
theorem laws_toGoal.calls {w0 : World} (K : Nat) (a0 : (Int × Int)) (r : (Int × Int)) (H : laws_toGoal.f K a0 = some r) : Calls Try.prog 16 [ag [Pt.int a0.1, Pt.int a0.2]].toArray w0 (Post w0 fun w v => v = ag [Pt.int r.1, Pt.int r.2]) := by
  rw [laws_toGoal.f] at H
  refine s_start Try.func16 rfl Try.ntmps16 rfl ?_
  intro a hF
  have hM := Ms.start w0
  skip
  refine wp_seq ?_
  refine s_region ?_
  refine s_box (ps := [Pt.int a0.1, Pt.int a0.2]) hF hM rfl rfl rfl rfl ?_; intro a w b1 hF hM
  refine s_alloc (ps := [Pt.int (((0 : Int), (0 : Int)).1), Pt.int (((0 : Int), (0 : Int)).2)]) hF hM rfl rfl zv25 rfl ?_; intro a w b2 hF hM
  refine s_nil ?_
  refine then_n ?_
  refine wp_seq ?_
  refine s_region ?_
  refine s_alloc (ps := [Pt.int (((0 : Int), (0 : Int)).1), Pt.int (((0 : Int), (0 : Int)).2)]) hF hM rfl rfl zv25 rfl ?_; intro a w b3 hF hM
  refine s_nil ?_
  refine then_n ?_
  refine wp_seq ?_
  refine s_region ?_
  refine s_val hF rfl rfl rfl (e_fa hF rfl Try.underlying23 rfl Try.sizeOf3 rfl rfl) ?_; intro a hF
  refine s_val hF rfl rfl rfl (e_ld (i := 2) (k := 0) hF hM rfl rfl rfl rfl Try.isAgg3 rfl) ?_; intro a hF
  refine s_val hF rfl rfl rfl (e_fa hF rfl Try.underlying25 rfl Try.sizeOf3 rfl rfl) ?_; intro a hF
  refine s_st (i := 0) (k := 0) (Pt.int a0.1) hF hM rfl rfl rfl rfl rfl rfl rfl rfl Try.sizeOf3 rfl ?_; intro a w hF hM
  refine s_nil ?_
  refine then_n ?_
  refine wp_seq ?_
  refine s_region ?_
  refine s_val hF rfl rfl rfl (e_fa hF rfl Try.underlying23 rfl Try.sizeOf3 rfl rfl) ?_; intro a hF
  refine s_val hF rfl rfl rfl (e_ld (i := 2) (k := 1) hF hM rfl rfl rfl rfl Try.isAgg3 rfl) ?_; intro a hF
  refine s_val hF rfl rfl rfl (e_fa hF rfl Try.underlying25 rfl Try.sizeOf3 rfl rfl) ?_; intro a hF
  refine s_st (i := 0) (k := 1) (Pt.int a0.2) hF hM rfl rfl rfl rfl rfl rfl rfl rfl Try.sizeOf3 rfl ?_; intro a w hF hM
  refine s_nil ?_
  refine then_n ?_
  refine wp_seq ?_
  refine s_region ?_
  refine s_val hF rfl rfl rfl (e_lda (i := 0) 0 2 hF hM rfl rfl rfl rfl Try.isAgg25 Try.sizeOf25 rfl) ?_; intro a hF
  refine s_stw (i := 1) (ps' := [Pt.int a0.1, Pt.int a0.2]) hF hM rfl rfl rfl rfl rfl rfl Try.sizeOf25 rfl ?_; intro a w hF hM
  refine s_nil ?_
  refine then_n ?_
  refine wp_ret ?_
  obtain rfl := some_some H
  refine s_ret [ag [Pt.int a0.1, Pt.int a0.2]] hF Try.results16 ⟨⟨_, rfl, rv_box hM (i := 1) rfl Try.isAgg25 Try.sizeOf25 rfl⟩, trivial⟩ ?_
  exact ⟨_, rfl, hM.frm, rfl⟩

/-! ### loop.example/g01210/laws.toIntS: function 22 -/
def laws_toIntS.l0 (K : Nat) (l0 : (List Int)) : Nat → Int → (List Int) → Option (List Int)
  | 0, _, _ => none
  | k + 1, x12, x13 => if x12 < (l0.length : Int) then (if (0 : Int) ≤ x12 ∧ x12 < (l0.length : Int) then (if (0 : Int) ≤ x12 ∧ x12 < (x13.length : Int) then (laws_toIntS.l0 K l0 k (wrap64 (x12 + 1)) (x13.set (x12 : Int).toNat (l0.getD (x12 : Int).toNat (0 : Int)))) else none) else none) else (some x13)
def laws_toIntS.f (K : Nat) (l0 : (List Int)) : Option (List Int) := if (0 : Int) ≤ (l0.length : Int) ∧ (l0.length : Int) ≤ 1073741824 then ((laws_toIntS.l0 K l0 K 0 (List.replicate (l0.length : Int).toNat (0 : Int))).bind fun x11 => some x11) else none
set_option maxRecDepth 100000 in
set_option maxHeartbeats 4000000 in
theorem laws_toIntS.calls {w0 : World} (K : Nat) (l0 : (List Int)) (u0 : Value) (q0 : SlR cd3 w0 u0 l0) (r : (List Int)) (H : laws_toIntS.f K l0 = some r) : Calls Try.prog 22 [u0].toArray w0 (Post w0 fun w v => Fresh cd3 w0.heap.size w v r) := by
  rw [laws_toIntS.f] at H
  refine s_start Try.func22 rfl Try.ntmps22 rfl ?_
  intro a hF
  have hM := Ms.start w0
  skip
  refine wp_seq ?_
  refine s_region ?_
  refine s_val hF rfl rfl rfl (e_assign hF rfl) ?_; intro a hF
  refine s_nil ?_
  refine then_n ?_
  refine wp_seq ?_
  obtain ⟨c2, H⟩ := ite_some H
  refine s_region ?_
  refine s_val hF rfl rfl rfl (e_move hF rfl) ?_; intro a hF
  refine s_val hF rfl rfl rfl (e_len hF rfl (q0.frm hM.frm).toF Try.underlying33) ?_; intro a hF
  refine s_make (C := cd3) cdok3 hF hM rfl rfl rfl rfl Try.underlying33 c2.1 c2.2 ?_; intro a w v1 hF hM
  refine s_val hF rfl rfl rfl (e_assign hF rfl) ?_; intro a hF
  refine s_nil ?_
  refine then_n ?_
  refine wp_seq ?_
  refine wp_seq ?_
  refine s_region ?_
  refine s_val hF rfl rfl rfl (e_assign hF rfl) ?_; intro a hF
  refine s_nil ?_
  refine then_n ?_
  refine wp_block ?_
  obtain ⟨o17, h18, H⟩ := bind_some H
  refine wp_mono (Q := fun e a w => (e = Exit.exit 0 ∧ ∃ x11 : (List Int), x11 = o17 ∧ Fr 22 a [(3, v1)] ∧ Ms [] w0 w [rowR cd3 v1 x11])) ?_ ?_
  · refine s_loop (fun kq a w => ∃ x12 : Int, ∃ x13 : (List Int), laws_toIntS.l0 K l0 kq x12 x13 = some o17 ∧ Fr 22 a [(0, u0), (3, v1), (4, Value.int .i64 x12)] ∧ Ms [] w0 w [rowR cd3 v1 x13]) K ⟨0, (List.replicate (l0.length : Int).toNat (0 : Int)), h18, hF.sub _ ⟨rfl, rfl, rfl, trivial⟩, hM.pick [0] rfl rfl⟩ ?_ ?_
    · rintro a w ⟨_, _, H, _⟩; exact none_some H
    · rintro k a w ⟨x12, x13, H, hF, hM⟩; rw [laws_toIntS.l0] at H
      refine wp_seq ?_
      refine wp_seq ?_
      refine s_region ?_
      refine s_val hF rfl rfl rfl (e_move hF rfl) ?_; intro a hF
      refine s_val hF rfl rfl rfl (e_move hF rfl) ?_; intro a hF
      refine s_val hF rfl rfl rfl (e_len hF rfl (q0.frm hM.frm).toF Try.underlying33) ?_; intro a hF
      refine s_val hF rfl rfl rfl (e_lss hF rfl rfl) ?_; intro a hF
      refine s_nil ?_
      refine then_n ?_
      rcases ite_cases H with ⟨c14, H⟩ | ⟨c14, H⟩
      ·
        refine s_cond_t hF rfl (decide_eq_true c14) ?_
        refine wp_skip ?_
        refine then_n ?_
        refine wp_seq ?_
        refine wp_block ?_
        obtain ⟨c15, H⟩ := ite_some H
        obtain ⟨c16, H⟩ := ite_some H
        refine s_region ?_
        refine s_val hF rfl rfl rfl (e_move hF rfl) ?_; intro a hF
        refine s_val hF rfl rfl rfl (e_move hF rfl) ?_; intro a hF
        refine s_val hF rfl rfl rfl (e_move hF rfl) ?_; intro a hF
        refine s_val hF rfl rfl rfl (e_move hF rfl) ?_; intro a hF
        refine s_val hF rfl rfl rfl (e_ias cd3 hF rfl rfl (q0.frm hM.frm).toF Try.underlying33 Try.sizeOf3 c15.1 c15.2) ?_; intro a hF
        refine s_val hF rfl rfl rfl (e_lds (m := x12) hF rfl (q0.frm hM.frm) (getD_some (z := (0 : Int)) c15.1 c15.2) rfl rfl Try.isAgg3) ?_; intro a hF
        refine s_val hF rfl rfl rfl (e_ias cd3 hF rfl rfl (hM.sl 0 rfl).toF Try.underlying33 Try.sizeOf3 c16.1 c16.2) ?_; intro a hF
        refine s_sts (i := 0) (l0.getD (x12 : Int).toNat (0 : Int)) hF hM rfl rfl rfl rfl rfl c16.1 c16.2 Try.sizeOf3 ?_; intro a w hF hM
        refine s_nil ?_
        refine blk_n ?_
        refine then_n ?_
        refine s_region ?_
        refine s_val hF rfl rfl rfl (e_move hF rfl) ?_; intro a hF
        refine s_val hF rfl rfl rfl (e_add hF rfl rfl) ?_; intro a hF
        refine s_val hF rfl rfl rfl (e_assign hF rfl) ?_; intro a hF
        refine s_nil ?_
        refine then_n ?_
        exact ⟨(wrap64 (x12 + 1)), (x13.set (x12 : Int).toNat (l0.getD (x12 : Int).toNat (0 : Int))), H, hF.sub _ ⟨rfl, rfl, rfl, trivial⟩, hM.pick [0] rfl rfl⟩
      ·
        refine s_cond_f hF rfl (decide_eq_false c14) ?_
        refine wp_exit ?_
        refine then_x ?_
        refine then_x ?_
        exact ⟨rfl, x13, some_some H, hF.sub _ ⟨rfl, trivial⟩, hM.pick [0] rfl rfl⟩
  · rintro e a w ⟨rfl, x11, rfl, hF, hM⟩
    skip
    refine blk_x ?_
    refine then_n ?_
    refine wp_seq ?_
    refine s_region ?_
    refine s_val hF rfl rfl rfl (e_move hF rfl) ?_; intro a hF
    refine s_val hF rfl rfl rfl (e_assign hF rfl) ?_; intro a hF
    refine s_nil ?_
    refine then_n ?_
    refine wp_ret ?_
    obtain rfl := some_some H
    refine s_ret [v1] hF Try.results22 ⟨rfl, trivial⟩ ?_
    exact ⟨_, rfl, hM.frm, hM.give 0 rfl⟩

/-! ### loop.example/g01210/spec.l1In: function 56 -/
def spec_l1In.f (K : Nat) (a0 : Int) (a1 : Int) (a2 : Int) : Option Bool := if a1 ≤ a0 then (some (decide (a0 ≤ a2))) else (some false)
set_option maxRecDepth 100000 in
set_option maxHeartbeats 4000000 in
theorem spec_l1In.calls {w0 : World} (K : Nat) (a0 : Int) (a1 : Int) (a2 : Int) (r : Bool) (H : spec_l1In.f K a0 a1 a2 = some r) : Calls Try.prog 56 [Value.int .i64 a0, Value.int .i64 a1, Value.int .i64 a2].toArray w0 (Post w0 fun w v => v = Value.bool r) := by
  rw [spec_l1In.f] at H
  refine s_start Try.func56 rfl Try.ntmps56 rfl ?_
  intro a hF
  have hM := Ms.start w0
  skip
  refine wp_seq ?_
  refine s_region ?_
  refine s_val hF rfl rfl rfl (e_assign hF rfl) ?_; intro a hF
  refine s_nil ?_
  refine then_n ?_
  refine wp_seq ?_
  rcases ite_cases H with ⟨c1, H⟩ | ⟨c1, H⟩
  ·
    refine s_region ?_
    refine s_val hF rfl rfl rfl (e_move hF rfl) ?_; intro a hF
    refine s_val hF rfl rfl rfl (e_move hF rfl) ?_; intro a hF
    refine s_val hF rfl rfl rfl (e_geq hF rfl rfl) ?_; intro a hF
    refine s_val hF rfl rfl rfl (e_move hF rfl) ?_; intro a hF
    have hF := hF.topb (decide_eq_true c1)
    refine s_val hF rfl rfl rfl (e_move hF rfl) ?_; intro a hF
    refine s_val hF rfl rfl rfl (e_move hF rfl) ?_; intro a hF
    refine s_val hF rfl rfl rfl (e_leq hF rfl rfl) ?_; intro a hF
    refine s_val hF rfl rfl rfl (e_pick_t hF rfl rfl) ?_; intro a hF
    refine s_val hF rfl rfl rfl (e_assign hF rfl) ?_; intro a hF
    refine s_nil ?_
    refine then_n ?_
    refine wp_ret ?_
    obtain rfl := some_some H
    refine s_ret [Value.bool (decide (a0 ≤ a2))] hF Try.results56 ⟨rfl, trivial⟩ ?_
    exact ⟨_, rfl, hM.frm, rfl⟩
  ·
    refine s_region ?_
    refine s_val hF rfl rfl rfl (e_move hF rfl) ?_; intro a hF
    refine s_val hF rfl rfl rfl (e_move hF rfl) ?_; intro a hF
    refine s_val hF rfl rfl rfl (e_geq hF rfl rfl) ?_; intro a hF
    refine s_val hF rfl rfl rfl (e_move hF rfl) ?_; intro a hF
    have hF := hF.topb (decide_eq_false c1)
    refine s_skip hF rfl rfl rfl ?_; intro a hF
    refine s_skip hF rfl rfl rfl ?_; intro a hF
    refine s_skip hF rfl rfl rfl ?_; intro a hF
    refine s_val hF rfl rfl rfl (e_pick_f hF rfl rfl) ?_; intro a hF
    refine s_val hF rfl rfl rfl (e_assign hF rfl) ?_; intro a hF
    refine s_nil ?_
    refine then_n ?_
    refine wp_ret ?_
    obtain rfl := some_some H
    refine s_ret [Value.bool false] hF Try.results56 ⟨rfl, trivial⟩ ?_
    exact ⟨_, rfl, hM.frm, rfl⟩

/-! ### loop.example/g01210/spec.l6Goal: function 53 -/
def spec_l6Goal.f (K : Nat) (a0 : (Int × Int)) : Option Bool := if a0.1 = 2 then ((spec_l1In.f K a0.2 0 120).bind fun t3 => some t3) else (if a0.1 = 3 then ((spec_l1In.f K a0.2 0 120).bind fun t6 => some t6) else ((spec_l1In.f K a0.1 1 5).bind fun t8 => if t8 = true then (some (decide (a0.2 = 0))) else (some false)))
set_option maxRecDepth 100000 in
set_option maxHeartbeats 4000000 in
theorem spec_l6Goal.calls {w0 : World} (K : Nat) (a0 : (Int × Int)) (r : Bool) (H : spec_l6Goal.f K a0 = some r) : Calls Try.prog 53 [ag [Pt.int a0.1, Pt.int a0.2]].toArray w0 (Post w0 fun w v => v = Value.bool r) := by
  rw [spec_l6Goal.f] at H
  refine s_start Try.func53 rfl Try.ntmps53 rfl ?_
  intro a hF
  have hM := Ms.start w0
  skip
  refine wp_seq ?_
  refine s_region ?_
  refine s_box (ps := [Pt.int a0.1, Pt.int a0.2]) hF hM rfl rfl rfl rfl ?_; intro a w b1 hF hM
  refine s_val hF rfl rfl rfl (e_assign hF rfl) ?_; intro a hF
  refine s_nil ?_
  refine then_n ?_
  refine wp_seq ?_
  refine wp_seq ?_
  rcases ite_cases H with ⟨c2, H⟩ | ⟨c2, H⟩
  ·
    refine s_region ?_
    refine s_val hF rfl rfl rfl (e_fa hF rfl Try.underlying25 rfl Try.sizeOf3 rfl rfl) ?_; intro a hF
    refine s_val hF rfl rfl rfl (e_ld (i := 0) (k := 0) hF hM rfl rfl rfl rfl Try.isAgg3 rfl) ?_; intro a hF
    refine s_val hF rfl rfl rfl (e_eql hF rfl rfl) ?_; intro a hF
    refine s_val hF rfl rfl rfl (e_move hF rfl) ?_; intro a hF
    have hF := hF.topb (decide_eq_true c2)
    refine s_skip hF rfl rfl rfl ?_; intro a hF
    refine s_skip hF rfl rfl rfl ?_; intro a hF
    refine s_skip hF rfl rfl rfl ?_; intro a hF
    refine s_val hF rfl rfl rfl (e_pick_t hF rfl rfl) ?_; intro a hF
    refine s_nil ?_
    refine then_n ?_
    refine s_cond_t hF rfl rfl ?_
    refine wp_seq ?_
    obtain ⟨t3, h4, H⟩ := bind_some H
    refine s_region ?_
    refine s_val hF rfl rfl rfl (e_fa hF rfl Try.underlying25 rfl Try.sizeOf3 rfl rfl) ?_; intro a hF
    refine s_val hF rfl rfl rfl (e_ld (i := 0) (k := 1) hF hM rfl rfl rfl rfl Try.isAgg3 rfl) ?_; intro a hF
    refine s_call hF rfl rfl rfl Try.call56 (spec_l1In.calls K a0.2 0 120 t3 h4) ?_; intro a w v hF hf hR
    subst hR; have hM := hM.grow hf
    refine s_val hF rfl rfl rfl (e_assign hF rfl) ?_; intro a hF
    refine s_nil ?_
    refine then_n ?_
    refine wp_ret ?_
    refine then_r ?_
    obtain rfl := some_some H
    refine s_ret [Value.bool t3] hF Try.results53 ⟨rfl, trivial⟩ ?_
    exact ⟨_, rfl, hM.frm, rfl⟩
  ·
    refine s_region ?_
    refine s_val hF rfl rfl rfl (e_fa hF rfl Try.underlying25 rfl Try.sizeOf3 rfl rfl) ?_; intro a hF
    refine s_val hF rfl rfl rfl (e_ld (i := 0) (k := 0) hF hM rfl rfl rfl rfl Try.isAgg3 rfl) ?_; intro a hF
    refine s_val hF rfl rfl rfl (e_eql hF rfl rfl) ?_; intro a hF
    refine s_val hF rfl rfl rfl (e_move hF rfl) ?_; intro a hF
    have hF := hF.topb (decide_eq_false c2)
    refine s_val hF rfl rfl rfl (e_fa hF rfl Try.underlying25 rfl Try.sizeOf3 rfl rfl) ?_; intro a hF
    refine s_val hF rfl rfl rfl (e_ld (i := 0) (k := 0) hF hM rfl rfl rfl rfl Try.isAgg3 rfl) ?_; intro a hF
    refine s_val hF rfl rfl rfl (e_eql hF rfl rfl) ?_; intro a hF
    refine s_val hF rfl rfl rfl (e_pick_f hF rfl rfl) ?_; intro a hF
    refine s_nil ?_
    refine then_n ?_
    rcases ite_cases H with ⟨c5, H⟩ | ⟨c5, H⟩
    ·
      refine s_cond_t hF rfl (decide_eq_true c5) ?_
      refine wp_seq ?_
      obtain ⟨t6, h7, H⟩ := bind_some H
      refine s_region ?_
      refine s_val hF rfl rfl rfl (e_fa hF rfl Try.underlying25 rfl Try.sizeOf3 rfl rfl) ?_; intro a hF
      refine s_val hF rfl rfl rfl (e_ld (i := 0) (k := 1) hF hM rfl rfl rfl rfl Try.isAgg3 rfl) ?_; intro a hF
      refine s_call hF rfl rfl rfl Try.call56 (spec_l1In.calls K a0.2 0 120 t6 h7) ?_; intro a w v hF hf hR
      subst hR; have hM := hM.grow hf
      refine s_val hF rfl rfl rfl (e_assign hF rfl) ?_; intro a hF
      refine s_nil ?_
      refine then_n ?_
      refine wp_ret ?_
      refine then_r ?_
      obtain rfl := some_some H
      refine s_ret [Value.bool t6] hF Try.results53 ⟨rfl, trivial⟩ ?_
      exact ⟨_, rfl, hM.frm, rfl⟩
    ·
      refine s_cond_f hF rfl (decide_eq_false c5) ?_
      refine wp_skip ?_
      refine then_n ?_
      refine wp_seq ?_
      obtain ⟨t8, h9, H⟩ := bind_some H
      rcases ite_cases H with ⟨c10, H⟩ | ⟨c10, H⟩
      ·
        refine s_region ?_
        refine s_val hF rfl rfl rfl (e_fa hF rfl Try.underlying25 rfl Try.sizeOf3 rfl rfl) ?_; intro a hF
        refine s_val hF rfl rfl rfl (e_ld (i := 0) (k := 0) hF hM rfl rfl rfl rfl Try.isAgg3 rfl) ?_; intro a hF
        refine s_call hF rfl rfl rfl Try.call56 (spec_l1In.calls K a0.1 1 5 t8 h9) ?_; intro a w v hF hf hR
        subst hR; have hM := hM.grow hf
        refine s_val hF rfl rfl rfl (e_move hF rfl) ?_; intro a hF
        have hF := hF.topb c10
        refine s_val hF rfl rfl rfl (e_fa hF rfl Try.underlying25 rfl Try.sizeOf3 rfl rfl) ?_; intro a hF
        refine s_val hF rfl rfl rfl (e_ld (i := 0) (k := 1) hF hM rfl rfl rfl rfl Try.isAgg3 rfl) ?_; intro a hF
        refine s_val hF rfl rfl rfl (e_eql hF rfl rfl) ?_; intro a hF
        refine s_val hF rfl rfl rfl (e_pick_t hF rfl rfl) ?_; intro a hF
        refine s_val hF rfl rfl rfl (e_assign hF rfl) ?_; intro a hF
        refine s_nil ?_
        refine then_n ?_
        refine wp_ret ?_
        obtain rfl := some_some H
        refine s_ret [Value.bool (decide (a0.2 = 0))] hF Try.results53 ⟨rfl, trivial⟩ ?_
        exact ⟨_, rfl, hM.frm, rfl⟩
      ·
        refine s_region ?_
        refine s_val hF rfl rfl rfl (e_fa hF rfl Try.underlying25 rfl Try.sizeOf3 rfl rfl) ?_; intro a hF
        refine s_val hF rfl rfl rfl (e_ld (i := 0) (k := 0) hF hM rfl rfl rfl rfl Try.isAgg3 rfl) ?_; intro a hF
        refine s_call hF rfl rfl rfl Try.call56 (spec_l1In.calls K a0.1 1 5 t8 h9) ?_; intro a w v hF hf hR
        subst hR; have hM := hM.grow hf
        refine s_val hF rfl rfl rfl (e_move hF rfl) ?_; intro a hF
        have hF := hF.topb (bf c10)
        refine s_skip hF rfl rfl rfl ?_; intro a hF
        refine s_skip hF rfl rfl rfl ?_; intro a hF
        refine s_skip hF rfl rfl rfl ?_; intro a hF
        refine s_val hF rfl rfl rfl (e_pick_f hF rfl rfl) ?_; intro a hF
        refine s_val hF rfl rfl rfl (e_assign hF rfl) ?_; intro a hF
        refine s_nil ?_
        refine then_n ?_
        refine wp_ret ?_
        obtain rfl := some_some H
        refine s_ret [Value.bool false] hF Try.results53 ⟨rfl, trivial⟩ ?_
        exact ⟨_, rfl, hM.frm, rfl⟩

/-! ### loop.example/g01210/spec.l1Most: function 95 -/
def spec_l1Most.f (K : Nat) (a0 : Int) (a1 : Int) : Option Int := if a1 < a0 then (some a0) else (some a1)
set_option maxRecDepth 100000 in
set_option maxHeartbeats 4000000 in
theorem spec_l1Most.calls {w0 : World} (K : Nat) (a0 : Int) (a1 : Int) (r : Int) (H : spec_l1Most.f K a0 a1 = some r) : Calls Try.prog 95 [Value.int .i64 a0, Value.int .i64 a1].toArray w0 (Post w0 fun w v => v = Value.int .i64 r) := by
  rw [spec_l1Most.f] at H
  refine s_start Try.func95 rfl Try.ntmps95 rfl ?_
  intro a hF
  have hM := Ms.start w0
  skip
  refine wp_seq ?_
  refine s_region ?_
  refine s_val hF rfl rfl rfl (e_assign hF rfl) ?_; intro a hF
  refine s_nil ?_
  refine then_n ?_
  refine wp_seq ?_
  refine wp_seq ?_
  refine s_region ?_
  refine s_val hF rfl rfl rfl (e_move hF rfl) ?_; intro a hF
  refine s_val hF rfl rfl rfl (e_move hF rfl) ?_; intro a hF
  refine s_val hF rfl rfl rfl (e_gtr hF rfl rfl) ?_; intro a hF
  refine s_nil ?_
  refine then_n ?_
  rcases ite_cases H with ⟨c1, H⟩ | ⟨c1, H⟩
  ·
    refine s_cond_t hF rfl (decide_eq_true c1) ?_
    refine wp_seq ?_
    refine s_region ?_
    refine s_val hF rfl rfl rfl (e_move hF rfl) ?_; intro a hF
    refine s_val hF rfl rfl rfl (e_assign hF rfl) ?_; intro a hF
    refine s_nil ?_
    refine then_n ?_
    refine wp_ret ?_
    refine then_r ?_
    obtain rfl := some_some H
    refine s_ret [Value.int .i64 a0] hF Try.results95 ⟨rfl, trivial⟩ ?_
    exact ⟨_, rfl, hM.frm, rfl⟩
  ·
    refine s_cond_f hF rfl (decide_eq_false c1) ?_
    refine wp_skip ?_
    refine then_n ?_
    refine wp_seq ?_
    refine s_region ?_
    refine s_val hF rfl rfl rfl (e_move hF rfl) ?_; intro a hF
    refine s_val hF rfl rfl rfl (e_assign hF rfl) ?_; intro a hF
    refine s_nil ?_
    refine then_n ?_
    refine wp_ret ?_
    obtain rfl := some_some H
    refine s_ret [Value.int .i64 a1] hF Try.results95 ⟨rfl, trivial⟩ ?_
    exact ⟨_, rfl, hM.frm, rfl⟩

/-! ### loop.example/g01210/spec.l6One: function 96 -/
def spec_l6One.f (K : Nat) (a0 : Bool) : Option Int := if a0 = true then (some 1) else (some 0)
set_option maxRecDepth 100000 in
set_option maxHeartbeats 4000000 in
theorem spec_l6One.calls {w0 : World} (K : Nat) (a0 : Bool) (r : Int) (H : spec_l6One.f K a0 = some r) : Calls Try.prog 96 [Value.bool a0].toArray w0 (Post w0 fun w v => v = Value.int .i64 r) := by
  rw [spec_l6One.f] at H
  refine s_start Try.func96 rfl Try.ntmps96 rfl ?_
  intro a hF
  have hM := Ms.start w0
  skip
  refine wp_seq ?_
  refine s_region ?_
  refine s_val hF rfl rfl rfl (e_assign hF rfl) ?_; intro a hF
  refine s_nil ?_
  refine then_n ?_
  refine wp_seq ?_
  refine wp_seq ?_
  refine s_region ?_
  refine s_val hF rfl rfl rfl (e_move hF rfl) ?_; intro a hF
  refine s_nil ?_
  refine then_n ?_
  rcases ite_cases H with ⟨c1, H⟩ | ⟨c1, H⟩
  ·
    refine s_cond_t hF rfl c1 ?_
    refine wp_seq ?_
    refine s_region ?_
    refine s_val hF rfl rfl rfl (e_assign hF rfl) ?_; intro a hF
    refine s_nil ?_
    refine then_n ?_
    refine wp_ret ?_
    refine then_r ?_
    obtain rfl := some_some H
    refine s_ret [Value.int .i64 1] hF Try.results96 ⟨rfl, trivial⟩ ?_
    exact ⟨_, rfl, hM.frm, rfl⟩
  ·
    refine s_cond_f hF rfl (bf c1) ?_
    refine wp_skip ?_
    refine then_n ?_
    refine wp_seq ?_
    refine s_region ?_
    refine s_val hF rfl rfl rfl (e_assign hF rfl) ?_; intro a hF
    refine s_nil ?_
    refine then_n ?_
    refine wp_ret ?_
    obtain rfl := some_some H
    refine s_ret [Value.int .i64 0] hF Try.results96 ⟨rfl, trivial⟩ ?_
    exact ⟨_, rfl, hM.frm, rfl⟩

/-! ### loop.example/g01210/spec.l6Score: function 61 -/
def spec_l6Score.l0 (K : Nat) (l1 : (List Int)) : Nat → Int → Int → Bool → Int → Option (Int × Int × Bool)
  | 0, _, _, _, _ => none
  | k + 1, x19, x20, x21, x22 => if x22 < (l1.length : Int) then (if (0 : Int) ≤ x22 ∧ x22 < (l1.length : Int) then ((spec_l1Most.f K x20 (l1.getD (x22 : Int).toNat (0 : Int))).bind fun t25 => if x21 = true then (if (0 : Int) ≤ 0 ∧ 0 < (l1.length : Int) then (spec_l6Score.l0 K l1 k (wrap64 (x19 + (l1.getD (x22 : Int).toNat (0 : Int)))) t25 (decide ((l1.getD (x22 : Int).toNat (0 : Int)) = (l1.getD (0 : Int).toNat (0 : Int)))) (wrap64 (x22 + 1))) else none) else (spec_l6Score.l0 K l1 k (wrap64 (x19 + (l1.getD (x22 : Int).toNat (0 : Int)))) t25 false (wrap64 (x22 + 1)))) else none) else (some (x19, x20, x21))
def spec_l6Score.f (K : Nat) (a0 : (Int × Int)) (l1 : (List Int)) : Option Int := (spec_l6Score.l0 K l1 K 0 0 true 0).bind fun (x16, x17, x18) => if a0.1 = 1 then (some x16) else (if a0.1 = 2 then ((spec_l6One.f K (decide (a0.2 ≤ x16))).bind fun t35 => some t35) else (if a0.1 = 3 then ((spec_l6One.f K (decide (x16 = a0.2))).bind fun t38 => some t38) else (if a0.1 = 4 then (some x17) else ((spec_l6One.f K x18).bind fun t41 => some t41))))
set_option maxRecDepth 100000 in
set_option maxHeartbeats 4000000 in
theorem spec_l6Score.calls {w0 : World} (K : Nat) (a0 : (Int × Int)) (l1 : (List Int)) (u1 : Value) (q1 : SlR cd3 w0 u1 l1) (r : Int) (H : spec_l6Score.f K a0 l1 = some r) : Calls Try.prog 61 [ag [Pt.int a0.1, Pt.int a0.2], u1].toArray w0 (Post w0 fun w v => v = Value.int .i64 r) := by
  rw [spec_l6Score.f] at H
  refine s_start Try.func61 rfl Try.ntmps61 rfl ?_
  intro a hF
  have hM := Ms.start w0
  skip
  refine wp_seq ?_
  refine s_region ?_
  refine s_box (ps := [Pt.int a0.1, Pt.int a0.2]) hF hM rfl rfl rfl rfl ?_; intro a w b1 hF hM
  refine s_val hF rfl rfl rfl (e_assign hF rfl) ?_; intro a hF
  refine s_nil ?_
  refine then_n ?_
  refine wp_seq ?_
  refine s_region ?_
  refine s_val hF rfl rfl rfl (e_assign hF rfl) ?_; intro a hF
  refine s_val hF rfl rfl rfl (e_assign hF rfl) ?_; intro a hF
  refine s_val hF rfl rfl rfl (e_assign hF rfl) ?_; intro a hF
  refine s_nil ?_
  refine then_n ?_
  refine wp_seq ?_
  refine wp_seq ?_
  refine s_region ?_
  refine s_val hF rfl rfl rfl (e_assign hF rfl) ?_; intro a hF
  refine s_nil ?_
  refine then_n ?_
  refine wp_block ?_
  obtain ⟨o31, h32, H⟩ := bind_some H
  refine wp_mono (Q := fun e a w => (e = Exit.exit 0 ∧ ∃ x16 : Int, ∃ x17 : Int, ∃ x18 : Bool, (x16, x17, x18) = o31 ∧ Fr 62 a [(2, pt b1 0), (5, Value.int .i64 x16), (6, Value.int .i64 x17), (7, Value.bool x18)] ∧ Ms [] w0 w [boxR b1 [Pt.int a0.1, Pt.int a0.2] 25])) ?_ ?_
  · refine s_loop (fun kq a w => ∃ x19 : Int, ∃ x20 : Int, ∃ x21 : Bool, ∃ x22 : Int, spec_l6Score.l0 K l1 kq x19 x20 x21 x22 = some o31 ∧ Fr 62 a [(1, u1), (2, pt b1 0), (5, Value.int .i64 x19), (6, Value.int .i64 x20), (7, Value.bool x21), (8, Value.int .i64 x22)] ∧ Ms [] w0 w [boxR b1 [Pt.int a0.1, Pt.int a0.2] 25]) K ⟨0, 0, true, 0, h32, hF.sub _ ⟨rfl, rfl, rfl, rfl, rfl, rfl, trivial⟩, hM.pick [0] rfl rfl⟩ ?_ ?_
    · rintro a w ⟨_, _, _, _, H, _⟩; exact none_some H
    · rintro k a w ⟨x19, x20, x21, x22, H, hF, hM⟩; rw [spec_l6Score.l0] at H
      refine wp_seq ?_
      refine wp_seq ?_
      refine s_region ?_
      refine s_val hF rfl rfl rfl (e_move hF rfl) ?_; intro a hF
      refine s_val hF rfl rfl rfl (e_move hF rfl) ?_; intro a hF
      refine s_val hF rfl rfl rfl (e_len hF rfl (q1.frm hM.frm).toF Try.underlying33) ?_; intro a hF
      refine s_val hF rfl rfl rfl (e_lss hF rfl rfl) ?_; intro a hF
      refine s_nil ?_
      refine then_n ?_
      rcases ite_cases H with ⟨c23, H⟩ | ⟨c23, H⟩
      ·
        refine s_cond_t hF rfl (decide_eq_true c23) ?_
        refine wp_skip ?_
        refine then_n ?_
        refine wp_seq ?_
        refine wp_block ?_
        refine wp_seq ?_
        obtain ⟨c24, H⟩ := ite_some H
        refine s_region ?_
        refine s_val hF rfl rfl rfl (e_move hF rfl) ?_; intro a hF
        refine s_val hF rfl rfl rfl (e_move hF rfl) ?_; intro a hF
        refine s_val hF rfl rfl rfl (e_move hF rfl) ?_; intro a hF
        refine s_val hF rfl rfl rfl (e_ias cd3 hF rfl rfl (q1.frm hM.frm).toF Try.underlying33 Try.sizeOf3 c24.1 c24.2) ?_; intro a hF
        refine s_val hF rfl rfl rfl (e_lds (m := x22) hF rfl (q1.frm hM.frm) (getD_some (z := (0 : Int)) c24.1 c24.2) rfl rfl Try.isAgg3) ?_; intro a hF
        refine s_val hF rfl rfl rfl (e_add hF rfl rfl) ?_; intro a hF
        refine s_val hF rfl rfl rfl (e_assign hF rfl) ?_; intro a hF
        refine s_nil ?_
        refine then_n ?_
        refine wp_seq ?_
        obtain ⟨t25, h26, H⟩ := bind_some H
        refine s_region ?_
        refine s_val hF rfl rfl rfl (e_move hF rfl) ?_; intro a hF
        refine s_val hF rfl rfl rfl (e_move hF rfl) ?_; intro a hF
        refine s_val hF rfl rfl rfl (e_move hF rfl) ?_; intro a hF
        refine s_val hF rfl rfl rfl (e_ias cd3 hF rfl rfl (q1.frm hM.frm).toF Try.underlying33 Try.sizeOf3 c24.1 c24.2) ?_; intro a hF
        refine s_val hF rfl rfl rfl (e_lds (m := x22) hF rfl (q1.frm hM.frm) (getD_some (z := (0 : Int)) c24.1 c24.2) rfl rfl Try.isAgg3) ?_; intro a hF
        refine s_call hF rfl rfl rfl Try.call95 (spec_l1Most.calls K x20 (l1.getD (x22 : Int).toNat (0 : Int)) t25 h26) ?_; intro a w v hF hf hR
        subst hR; have hM := hM.grow hf
        refine s_val hF rfl rfl rfl (e_assign hF rfl) ?_; intro a hF
        refine s_nil ?_
        refine then_n ?_
        rcases ite_cases H with ⟨c27, H⟩ | ⟨c27, H⟩
        ·
          obtain ⟨c28, H⟩ := ite_some H
          refine s_held (fun w => Ms [] w0 w [boxR b1 [Pt.int a0.1, Pt.int a0.2] 25]) #[false, false, false, false, false, false, false, false, false, false, false, false] mixed rfl rfl hM ?_; intro w hf hM; clear hf
          refine h_val 0 #[true, false, false, false, false, false, false, false, false, false, false, false] rfl (by kernel_rfl) hF rfl rfl rfl (fun w hS => e_move hF rfl) (hM.pick [0] rfl rfl) ?_; intro a hF
          refine h_val 1 #[true, true, false, false, false, false, false, false, false, false, false, false] rfl (by kernel_rfl) hF rfl rfl rfl (fun w hS => e_move hF rfl) (hM.pick [0] rfl rfl) ?_; intro a hF
          have hF := hF.topb c27
          refine h_val 2 #[true, true, true, false, false, false, false, false, false, false, false, false] rfl (by kernel_rfl) hF rfl rfl rfl (fun w hS => e_move hF rfl) (hM.pick [0] rfl rfl) ?_; intro a hF
          refine h_val 3 #[true, true, true, true, false, false, false, false, false, false, false, false] rfl (by kernel_rfl) hF rfl rfl rfl (fun w hS => e_move hF rfl) (hM.pick [0] rfl rfl) ?_; intro a hF
          have f29 := (q1.frm hM.frm).toF
          refine h_val 4 #[true, true, true, true, true, false, false, false, false, false, false, false] rfl (by kernel_rfl) hF rfl rfl rfl (fun w hS => e_ias cd3 hF rfl rfl f29 Try.underlying33 Try.sizeOf3 c24.1 c24.2) (hM.pick [0] rfl rfl) ?_; intro a hF
          refine h_val 5 #[true, true, true, true, true, true, false, false, false, false, false, false] rfl (by kernel_rfl) hF rfl rfl rfl (fun w hS => e_lds (m := x22) hF rfl (q1.frm hS.frm) (getD_some (z := (0 : Int)) c24.1 c24.2) rfl rfl Try.isAgg3) (hM.pick [0] rfl rfl) ?_; intro a hF
          refine h_val 6 #[true, true, true, true, true, true, true, false, false, false, false, false] rfl (by kernel_rfl) hF rfl rfl rfl (fun w hS => e_move hF rfl) (hM.pick [0] rfl rfl) ?_; intro a hF
          have f30 := (q1.frm hM.frm).toF
          refine h_val 7 #[true, true, true, true, true, true, true, true, false, false, false, false] rfl (by kernel_rfl) hF rfl rfl rfl (fun w hS => e_ias cd3 hF rfl rfl f30 Try.underlying33 Try.sizeOf3 c28.1 c28.2) (hM.pick [0] rfl rfl) ?_; intro a hF
          refine h_val 8 #[true, true, true, true, true, true, true, true, true, false, false, false] rfl (by kernel_rfl) hF rfl rfl rfl (fun w hS => e_lds (m := 0) hF rfl (q1.frm hS.frm) (getD_some (z := (0 : Int)) c28.1 c28.2) rfl rfl Try.isAgg3) (hM.pick [0] rfl rfl) ?_; intro a hF
          refine h_val 9 #[true, true, true, true, true, true, true, true, true, true, false, false] rfl (by kernel_rfl) hF rfl rfl rfl (fun w hS => e_eql hF rfl rfl) (hM.pick [0] rfl rfl) ?_; intro a hF
          refine h_val 10 #[true, true, true, true, true, true, true, true, true, true, true, false] rfl (by kernel_rfl) hF rfl rfl rfl (fun w hS => e_pick_t hF rfl rfl) (hM.pick [0] rfl rfl) ?_; intro a hF
          refine h_val 11 #[true, true, true, true, true, true, true, true, true, true, true, true] rfl (by kernel_rfl) hF rfl rfl rfl (fun w hS => e_assign hF rfl) (hM.pick [0] rfl rfl) ?_; intro a hF
          refine h_done rfl ?_
          refine blk_n ?_
          refine then_n ?_
          refine s_region ?_
          refine s_val hF rfl rfl rfl (e_move hF rfl) ?_; intro a hF
          refine s_val hF rfl rfl rfl (e_add hF rfl rfl) ?_; intro a hF
          refine s_val hF rfl rfl rfl (e_assign hF rfl) ?_; intro a hF
          refine s_nil ?_
          refine then_n ?_
          exact ⟨(wrap64 (x19 + (l1.getD (x22 : Int).toNat (0 : Int)))), t25, (decide ((l1.getD (x22 : Int).toNat (0 : Int)) = (l1.getD (0 : Int).toNat (0 : Int)))), (wrap64 (x22 + 1)), H, hF.sub _ ⟨rfl, rfl, rfl, rfl, rfl, rfl, trivial⟩, hM.pick [0] rfl rfl⟩
        ·
          refine s_held (fun w => Ms [] w0 w [boxR b1 [Pt.int a0.1, Pt.int a0.2] 25]) #[false, false, false, false, false, false, false, false, false, false, false, false] mixed rfl rfl hM ?_; intro w hf hM; clear hf
          refine h_val 0 #[true, false, false, false, false, false, false, false, false, false, false, false] rfl (by kernel_rfl) hF rfl rfl rfl (fun w hS => e_move hF rfl) (hM.pick [0] rfl rfl) ?_; intro a hF
          refine h_val 1 #[true, true, false, false, false, false, false, false, false, false, false, false] rfl (by kernel_rfl) hF rfl rfl rfl (fun w hS => e_move hF rfl) (hM.pick [0] rfl rfl) ?_; intro a hF
          have hF := hF.topb (bf c27)
          refine h_skip 2 #[true, true, true, false, false, false, false, false, false, false, false, false] rfl (by kernel_rfl) hF rfl rfl rfl (hM.pick [0] rfl rfl) ?_; intro a hF
          refine h_skip 3 #[true, true, true, true, false, false, false, false, false, false, false, false] rfl (by kernel_rfl) hF rfl rfl rfl (hM.pick [0] rfl rfl) ?_; intro a hF
          refine h_skip 4 #[true, true, true, true, true, false, false, false, false, false, false, false] rfl (by kernel_rfl) hF rfl rfl rfl (hM.pick [0] rfl rfl) ?_; intro a hF
          refine h_skip 5 #[true, true, true, true, true, true, false, false, false, false, false, false] rfl (by kernel_rfl) hF rfl rfl rfl (hM.pick [0] rfl rfl) ?_; intro a hF
          refine h_skip 6 #[true, true, true, true, true, true, true, false, false, false, false, false] rfl (by kernel_rfl) hF rfl rfl rfl (hM.pick [0] rfl rfl) ?_; intro a hF
          refine h_skip 7 #[true, true, true, true, true, true, true, true, false, false, false, false] rfl (by kernel_rfl) hF rfl rfl rfl (hM.pick [0] rfl rfl) ?_; intro a hF
          refine h_skip 8 #[true, true, true, true, true, true, true, true, true, false, false, false] rfl (by kernel_rfl) hF rfl rfl rfl (hM.pick [0] rfl rfl) ?_; intro a hF
          refine h_skip 9 #[true, true, true, true, true, true, true, true, true, true, false, false] rfl (by kernel_rfl) hF rfl rfl rfl (hM.pick [0] rfl rfl) ?_; intro a hF
          refine h_val 10 #[true, true, true, true, true, true, true, true, true, true, true, false] rfl (by kernel_rfl) hF rfl rfl rfl (fun w hS => e_pick_f hF rfl rfl) (hM.pick [0] rfl rfl) ?_; intro a hF
          refine h_val 11 #[true, true, true, true, true, true, true, true, true, true, true, true] rfl (by kernel_rfl) hF rfl rfl rfl (fun w hS => e_assign hF rfl) (hM.pick [0] rfl rfl) ?_; intro a hF
          refine h_done rfl ?_
          refine blk_n ?_
          refine then_n ?_
          refine s_region ?_
          refine s_val hF rfl rfl rfl (e_move hF rfl) ?_; intro a hF
          refine s_val hF rfl rfl rfl (e_add hF rfl rfl) ?_; intro a hF
          refine s_val hF rfl rfl rfl (e_assign hF rfl) ?_; intro a hF
          refine s_nil ?_
          refine then_n ?_
          exact ⟨(wrap64 (x19 + (l1.getD (x22 : Int).toNat (0 : Int)))), t25, false, (wrap64 (x22 + 1)), H, hF.sub _ ⟨rfl, rfl, rfl, rfl, rfl, rfl, trivial⟩, hM.pick [0] rfl rfl⟩
      ·
        refine s_cond_f hF rfl (decide_eq_false c23) ?_
        refine wp_exit ?_
        refine then_x ?_
        refine then_x ?_
        exact ⟨rfl, x19, x20, x21, some_some H, hF.sub _ ⟨rfl, rfl, rfl, rfl, trivial⟩, hM.pick [0] rfl rfl⟩
  · rintro e a w ⟨rfl, x16, x17, x18, rfl, hF, hM⟩
    skip
    refine blk_x ?_
    refine then_n ?_
    refine wp_seq ?_
    refine wp_seq ?_
    refine s_region ?_
    refine s_val hF rfl rfl rfl (e_fa hF rfl Try.underlying25 rfl Try.sizeOf3 rfl rfl) ?_; intro a hF
    refine s_val hF rfl rfl rfl (e_ld (i := 0) (k := 0) hF hM rfl rfl rfl rfl Try.isAgg3 rfl) ?_; intro a hF
    refine s_nil ?_
    refine then_n ?_
    refine wp_block ?_
    refine wp_seq ?_
    refine s_region ?_
    refine s_val hF rfl rfl rfl (e_eql hF rfl rfl) ?_; intro a hF
    refine s_val hF rfl rfl rfl (e_assign hF rfl) ?_; intro a hF
    refine s_nil ?_
    refine then_n ?_
    rcases ite_cases H with ⟨c33, H⟩ | ⟨c33, H⟩
    ·
      refine s_cond_t hF rfl (decide_eq_true c33) ?_
      refine wp_seq ?_
      refine s_region ?_
      refine s_val hF rfl rfl rfl (e_move hF rfl) ?_; intro a hF
      refine s_val hF rfl rfl rfl (e_assign hF rfl) ?_; intro a hF
      refine s_nil ?_
      refine then_n ?_
      refine wp_ret ?_
      refine blk_r ?_
      refine then_r ?_
      obtain rfl := some_some H
      refine s_ret [Value.int .i64 x16] hF Try.results61 ⟨rfl, trivial⟩ ?_
      exact ⟨_, rfl, hM.frm, rfl⟩
    ·
      refine s_cond_f hF rfl (decide_eq_false c33) ?_
      refine wp_seq ?_
      refine s_region ?_
      refine s_val hF rfl rfl rfl (e_eql hF rfl rfl) ?_; intro a hF
      refine s_val hF rfl rfl rfl (e_assign hF rfl) ?_; intro a hF
      refine s_nil ?_
      refine then_n ?_
      rcases ite_cases H with ⟨c34, H⟩ | ⟨c34, H⟩
      ·
        refine s_cond_t hF rfl (decide_eq_true c34) ?_
        refine wp_seq ?_
        obtain ⟨t35, h36, H⟩ := bind_some H
        refine s_region ?_
        refine s_val hF rfl rfl rfl (e_move hF rfl) ?_; intro a hF
        refine s_val hF rfl rfl rfl (e_fa hF rfl Try.underlying25 rfl Try.sizeOf3 rfl rfl) ?_; intro a hF
        refine s_val hF rfl rfl rfl (e_ld (i := 0) (k := 1) hF hM rfl rfl rfl rfl Try.isAgg3 rfl) ?_; intro a hF
        refine s_val hF rfl rfl rfl (e_geq hF rfl rfl) ?_; intro a hF
        refine s_call hF rfl rfl rfl Try.call96 (spec_l6One.calls K (decide (a0.2 ≤ x16)) t35 h36) ?_; intro a w v hF hf hR
        subst hR; have hM := hM.grow hf
        refine s_val hF rfl rfl rfl (e_assign hF rfl) ?_; intro a hF
        refine s_nil ?_
        refine then_n ?_
        refine wp_ret ?_
        refine blk_r ?_
        refine then_r ?_
        obtain rfl := some_some H
        refine s_ret [Value.int .i64 t35] hF Try.results61 ⟨rfl, trivial⟩ ?_
        exact ⟨_, rfl, hM.frm, rfl⟩
      ·
        refine s_cond_f hF rfl (decide_eq_false c34) ?_
        refine wp_seq ?_
        refine s_region ?_
        refine s_val hF rfl rfl rfl (e_eql hF rfl rfl) ?_; intro a hF
        refine s_val hF rfl rfl rfl (e_assign hF rfl) ?_; intro a hF
        refine s_nil ?_
        refine then_n ?_
        rcases ite_cases H with ⟨c37, H⟩ | ⟨c37, H⟩
        ·
          refine s_cond_t hF rfl (decide_eq_true c37) ?_
          refine wp_seq ?_
          obtain ⟨t38, h39, H⟩ := bind_some H
          refine s_region ?_
          refine s_val hF rfl rfl rfl (e_move hF rfl) ?_; intro a hF
          refine s_val hF rfl rfl rfl (e_fa hF rfl Try.underlying25 rfl Try.sizeOf3 rfl rfl) ?_; intro a hF
          refine s_val hF rfl rfl rfl (e_ld (i := 0) (k := 1) hF hM rfl rfl rfl rfl Try.isAgg3 rfl) ?_; intro a hF
          refine s_val hF rfl rfl rfl (e_eql hF rfl rfl) ?_; intro a hF
          refine s_call hF rfl rfl rfl Try.call96 (spec_l6One.calls K (decide (x16 = a0.2)) t38 h39) ?_; intro a w v hF hf hR
          subst hR; have hM := hM.grow hf
          refine s_val hF rfl rfl rfl (e_assign hF rfl) ?_; intro a hF
          refine s_nil ?_
          refine then_n ?_
          refine wp_ret ?_
          refine blk_r ?_
          refine then_r ?_
          obtain rfl := some_some H
          refine s_ret [Value.int .i64 t38] hF Try.results61 ⟨rfl, trivial⟩ ?_
          exact ⟨_, rfl, hM.frm, rfl⟩
        ·
          refine s_cond_f hF rfl (decide_eq_false c37) ?_
          refine wp_seq ?_
          refine s_region ?_
          refine s_val hF rfl rfl rfl (e_eql hF rfl rfl) ?_; intro a hF
          refine s_val hF rfl rfl rfl (e_assign hF rfl) ?_; intro a hF
          refine s_nil ?_
          refine then_n ?_
          rcases ite_cases H with ⟨c40, H⟩ | ⟨c40, H⟩
          ·
            refine s_cond_t hF rfl (decide_eq_true c40) ?_
            refine wp_seq ?_
            refine s_region ?_
            refine s_val hF rfl rfl rfl (e_move hF rfl) ?_; intro a hF
            refine s_val hF rfl rfl rfl (e_assign hF rfl) ?_; intro a hF
            refine s_nil ?_
            refine then_n ?_
            refine wp_ret ?_
            refine blk_r ?_
            refine then_r ?_
            obtain rfl := some_some H
            refine s_ret [Value.int .i64 x17] hF Try.results61 ⟨rfl, trivial⟩ ?_
            exact ⟨_, rfl, hM.frm, rfl⟩
          ·
            refine s_cond_f hF rfl (decide_eq_false c40) ?_
            refine wp_skip ?_
            refine blk_n ?_
            refine then_n ?_
            refine wp_seq ?_
            obtain ⟨t41, h42, H⟩ := bind_some H
            refine s_region ?_
            refine s_val hF rfl rfl rfl (e_move hF rfl) ?_; intro a hF
            refine s_call hF rfl rfl rfl Try.call96 (spec_l6One.calls K x18 t41 h42) ?_; intro a w v hF hf hR
            subst hR; have hM := hM.grow hf
            refine s_val hF rfl rfl rfl (e_assign hF rfl) ?_; intro a hF
            refine s_nil ?_
            refine then_n ?_
            refine wp_ret ?_
            obtain rfl := some_some H
            refine s_ret [Value.int .i64 t41] hF Try.results61 ⟨rfl, trivial⟩ ?_
            exact ⟨_, rfl, hM.frm, rfl⟩

/-! ### loop.example/g01210/spec.ScoreOf: function 21 -/
def spec_ScoreOf.l0 (K : Nat) (l1 : (List Int)) : Nat → Int → Option (Sum Unit (Int × Bool))
  | 0, _ => none
  | k + 1, x19 => if x19 < (l1.length : Int) then (if (0 : Int) ≤ x19 ∧ x19 < (l1.length : Int) then ((spec_l1In.f K (l1.getD (x19 : Int).toNat (0 : Int)) 0 30).bind fun t22 => if t22 = true then (spec_ScoreOf.l0 K l1 k (wrap64 (x19 + 1))) else (some (Sum.inr (0, false)))) else none) else (some (Sum.inl ()))
def spec_ScoreOf.f (K : Nat) (a0 : (Int × Int)) (l1 : (List Int)) : Option (Int × Bool) := (spec_l6Goal.f K a0).bind fun t2 => if t2 = true then ((spec_l1In.f K (l1.length : Int) 1 3).bind fun t5 => if t5 = true then ((spec_ScoreOf.l0 K l1 K 0).bind fun o25 => (match o25 with | .inl () => (spec_l6Score.f K a0 l1).bind fun t28 => some (t28, true) | .inr r27 => some (r27.1, r27.2))) else (some (0, false))) else (some (0, false))
set_option maxRecDepth 100000 in
set_option maxHeartbeats 4000000 in
theorem spec_ScoreOf.calls {w0 : World} (K : Nat) (a0 : (Int × Int)) (l1 : (List Int)) (u1 : Value) (q1 : SlR cd3 w0 u1 l1) (r : (Int × Bool)) (H : spec_ScoreOf.f K a0 l1 = some r) : Calls Try.prog 21 [ag [Pt.int a0.1, Pt.int a0.2], u1].toArray w0 (Post w0 fun w v => v = Value.tuple #[Value.int .i64 r.1, Value.bool r.2]) := by
  rw [spec_ScoreOf.f] at H
  refine s_start Try.func21 rfl Try.ntmps21 rfl ?_
  intro a hF
  have hM := Ms.start w0
  skip
  refine wp_seq ?_
  refine s_region ?_
  refine s_box (ps := [Pt.int a0.1, Pt.int a0.2]) hF hM rfl rfl rfl rfl ?_; intro a w b1 hF hM
  refine s_val hF rfl rfl rfl (e_assign hF rfl) ?_; intro a hF
  refine s_val hF rfl rfl rfl (e_assign hF rfl) ?_; intro a hF
  refine s_nil ?_
  refine then_n ?_
  refine wp_seq ?_
  refine wp_seq ?_
  obtain ⟨t2, h3, H⟩ := bind_some H
  rcases ite_cases H with ⟨c4, H⟩ | ⟨c4, H⟩
  ·
    obtain ⟨t5, h6, H⟩ := bind_some H
    refine s_region ?_
    refine s_val hF rfl rfl rfl (e_lda (i := 0) 0 2 hF hM rfl rfl rfl rfl Try.isAgg25 Try.sizeOf25 rfl) ?_; intro a hF
    refine s_call hF rfl rfl rfl Try.call53 (spec_l6Goal.calls K a0 t2 h3) ?_; intro a w v hF hf hR
    subst hR; have hM := hM.grow hf
    refine s_val hF rfl rfl rfl (e_not hF rfl) ?_; intro a hF
    refine s_val hF rfl rfl rfl (e_move hF rfl) ?_; intro a hF
    have hF := hF.topb (congrArg Bool.not c4)
    refine s_val hF rfl rfl rfl (e_move hF rfl) ?_; intro a hF
    refine s_val hF rfl rfl rfl (e_len hF rfl (q1.frm hM.frm).toF Try.underlying33) ?_; intro a hF
    refine s_call hF rfl rfl rfl Try.call56 (spec_l1In.calls K (l1.length : Int) 1 3 t5 h6) ?_; intro a w v hF hf hR
    subst hR; have hM := hM.grow hf
    refine s_val hF rfl rfl rfl (e_not hF rfl) ?_; intro a hF
    refine s_val hF rfl rfl rfl (e_pick_f hF rfl rfl) ?_; intro a hF
    refine s_nil ?_
    refine then_n ?_
    rcases ite_cases H with ⟨c7, H⟩ | ⟨c7, H⟩
    ·
      refine s_cond_f hF rfl (congrArg Bool.not c7) ?_
      refine wp_skip ?_
      refine then_n ?_
      refine wp_seq ?_
      refine wp_seq ?_
      refine s_region ?_
      refine s_val hF rfl rfl rfl (e_assign hF rfl) ?_; intro a hF
      refine s_nil ?_
      refine then_n ?_
      refine wp_block ?_
      obtain ⟨o25, h26, H⟩ := bind_some H
      refine wp_mono (Q := fun e a w => (e = Exit.exit 0 ∧ Sum.inl () = o25 ∧ Fr 31 a [(1, u1), (2, pt b1 0)] ∧ Ms [] w0 w [boxR b1 [Pt.int a0.1, Pt.int a0.2] 25]) ∨ (e = Exit.ret ∧ ∃ r27 : (Int × Bool), Sum.inr r27 = o25 ∧ Fr 31 a [(4, Value.int .i64 r27.1), (5, Value.bool r27.2)] ∧ Ms [] w0 w [])) ?_ ?_
      · refine s_loop (fun kq a w => ∃ x19 : Int, spec_ScoreOf.l0 K l1 kq x19 = some o25 ∧ Fr 31 a [(1, u1), (2, pt b1 0), (6, Value.int .i64 x19)] ∧ Ms [] w0 w [boxR b1 [Pt.int a0.1, Pt.int a0.2] 25]) K ⟨0, h26, hF.sub _ ⟨rfl, rfl, rfl, trivial⟩, hM.pick [0] rfl rfl⟩ ?_ ?_
        · rintro a w ⟨_, H, _⟩; exact none_some H
        · rintro k a w ⟨x19, H, hF, hM⟩; rw [spec_ScoreOf.l0] at H
          refine wp_seq ?_
          refine wp_seq ?_
          refine s_region ?_
          refine s_val hF rfl rfl rfl (e_move hF rfl) ?_; intro a hF
          refine s_val hF rfl rfl rfl (e_move hF rfl) ?_; intro a hF
          refine s_val hF rfl rfl rfl (e_len hF rfl (q1.frm hM.frm).toF Try.underlying33) ?_; intro a hF
          refine s_val hF rfl rfl rfl (e_lss hF rfl rfl) ?_; intro a hF
          refine s_nil ?_
          refine then_n ?_
          rcases ite_cases H with ⟨c20, H⟩ | ⟨c20, H⟩
          ·
            refine s_cond_t hF rfl (decide_eq_true c20) ?_
            refine wp_skip ?_
            refine then_n ?_
            refine wp_seq ?_
            refine wp_block ?_
            refine wp_seq ?_
            obtain ⟨c21, H⟩ := ite_some H
            obtain ⟨t22, h23, H⟩ := bind_some H
            refine s_region ?_
            refine s_val hF rfl rfl rfl (e_move hF rfl) ?_; intro a hF
            refine s_val hF rfl rfl rfl (e_move hF rfl) ?_; intro a hF
            refine s_val hF rfl rfl rfl (e_ias cd3 hF rfl rfl (q1.frm hM.frm).toF Try.underlying33 Try.sizeOf3 c21.1 c21.2) ?_; intro a hF
            refine s_val hF rfl rfl rfl (e_lds (m := x19) hF rfl (q1.frm hM.frm) (getD_some (z := (0 : Int)) c21.1 c21.2) rfl rfl Try.isAgg3) ?_; intro a hF
            refine s_call hF rfl rfl rfl Try.call56 (spec_l1In.calls K (l1.getD (x19 : Int).toNat (0 : Int)) 0 30 t22 h23) ?_; intro a w v hF hf hR
            subst hR; have hM := hM.grow hf
            refine s_val hF rfl rfl rfl (e_not hF rfl) ?_; intro a hF
            refine s_nil ?_
            refine then_n ?_
            rcases ite_cases H with ⟨c24, H⟩ | ⟨c24, H⟩
            ·
              refine s_cond_f hF rfl (congrArg Bool.not c24) ?_
              refine wp_skip ?_
              refine blk_n ?_
              refine then_n ?_
              refine s_region ?_
              refine s_val hF rfl rfl rfl (e_move hF rfl) ?_; intro a hF
              refine s_val hF rfl rfl rfl (e_add hF rfl rfl) ?_; intro a hF
              refine s_val hF rfl rfl rfl (e_assign hF rfl) ?_; intro a hF
              refine s_nil ?_
              refine then_n ?_
              exact ⟨(wrap64 (x19 + 1)), H, hF.sub _ ⟨rfl, rfl, rfl, trivial⟩, hM.pick [0] rfl rfl⟩
            ·
              refine s_cond_t hF rfl (congrArg Bool.not (bf c24)) ?_
              refine wp_seq ?_
              refine s_region ?_
              refine s_val hF rfl rfl rfl (e_assign hF rfl) ?_; intro a hF
              refine s_val hF rfl rfl rfl (e_assign hF rfl) ?_; intro a hF
              refine s_nil ?_
              refine then_n ?_
              refine wp_ret ?_
              refine blk_r ?_
              refine then_r ?_
              refine then_r ?_
              exact Or.inr (⟨rfl, (0, false), some_some H, hF.sub _ ⟨rfl, rfl, trivial⟩, hM.pick [] rfl rfl⟩)
          ·
            refine s_cond_f hF rfl (decide_eq_false c20) ?_
            refine wp_exit ?_
            refine then_x ?_
            refine then_x ?_
            exact Or.inl (⟨rfl, some_some H, hF.sub _ ⟨rfl, rfl, trivial⟩, hM.pick [0] rfl rfl⟩)
      · rintro e a w (⟨rfl, rfl, hF, hM⟩ | ⟨rfl, r27, rfl, hF, hM⟩)
        ·
          dsimp only at H
          refine blk_x ?_
          refine then_n ?_
          refine wp_seq ?_
          obtain ⟨t28, h29, H⟩ := bind_some H
          refine s_region ?_
          refine s_val hF rfl rfl rfl (e_lda (i := 0) 0 2 hF hM rfl rfl rfl rfl Try.isAgg25 Try.sizeOf25 rfl) ?_; intro a hF
          refine s_val hF rfl rfl rfl (e_move hF rfl) ?_; intro a hF
          refine s_call hF rfl rfl rfl Try.call61 (spec_l6Score.calls K a0 l1 u1 (q1.frm hM.frm) t28 h29) ?_; intro a w v hF hf hR
          subst hR; have hM := hM.grow hf
          refine s_val hF rfl rfl rfl (e_assign hF rfl) ?_; intro a hF
          refine s_val hF rfl rfl rfl (e_assign hF rfl) ?_; intro a hF
          refine s_nil ?_
          refine then_n ?_
          refine wp_ret ?_
          obtain rfl := some_some H
          refine s_ret [Value.int .i64 t28, Value.bool true] hF Try.results21 ⟨rfl, rfl, trivial⟩ ?_
          exact ⟨_, rfl, hM.frm, rfl⟩
        ·
          dsimp only at H
          refine blk_r ?_
          refine then_r ?_
          obtain rfl := some_some H
          refine s_ret [Value.int .i64 r27.1, Value.bool r27.2] hF Try.results21 ⟨rfl, rfl, trivial⟩ ?_
          exact ⟨_, rfl, hM.frm, rfl⟩
    ·
      refine s_cond_t hF rfl (congrArg Bool.not (bf c7)) ?_
      refine wp_seq ?_
      refine s_region ?_
      refine s_val hF rfl rfl rfl (e_assign hF rfl) ?_; intro a hF
      refine s_val hF rfl rfl rfl (e_assign hF rfl) ?_; intro a hF
      refine s_nil ?_
      refine then_n ?_
      refine wp_ret ?_
      refine then_r ?_
      obtain rfl := some_some H
      refine s_ret [Value.int .i64 0, Value.bool false] hF Try.results21 ⟨rfl, rfl, trivial⟩ ?_
      exact ⟨_, rfl, hM.frm, rfl⟩
  ·
    refine s_region ?_
    refine s_val hF rfl rfl rfl (e_lda (i := 0) 0 2 hF hM rfl rfl rfl rfl Try.isAgg25 Try.sizeOf25 rfl) ?_; intro a hF
    refine s_call hF rfl rfl rfl Try.call53 (spec_l6Goal.calls K a0 t2 h3) ?_; intro a w v hF hf hR
    subst hR; have hM := hM.grow hf
    refine s_val hF rfl rfl rfl (e_not hF rfl) ?_; intro a hF
    refine s_val hF rfl rfl rfl (e_move hF rfl) ?_; intro a hF
    have hF := hF.topb (congrArg Bool.not (bf c4))
    refine s_skip hF rfl rfl rfl ?_; intro a hF
    refine s_skip hF rfl rfl rfl ?_; intro a hF
    refine s_skip hF rfl rfl rfl ?_; intro a hF
    refine s_skip hF rfl rfl rfl ?_; intro a hF
    refine s_val hF rfl rfl rfl (e_pick_t hF rfl rfl) ?_; intro a hF
    refine s_nil ?_
    refine then_n ?_
    refine s_cond_t hF rfl rfl ?_
    refine wp_seq ?_
    refine s_region ?_
    refine s_val hF rfl rfl rfl (e_assign hF rfl) ?_; intro a hF
    refine s_val hF rfl rfl rfl (e_assign hF rfl) ?_; intro a hF
    refine s_nil ?_
    refine then_n ?_
    refine wp_ret ?_
    refine then_r ?_
    obtain rfl := some_some H
    refine s_ret [Value.int .i64 0, Value.bool false] hF Try.results21 ⟨rfl, rfl, trivial⟩ ?_
    exact ⟨_, rfl, hM.frm, rfl⟩

/-! ### loop.example/g01210/impl.within: function 54 -/
def impl_within.f (K : Nat) (a0 : Int) (a1 : Int) (a2 : Int) : Option Bool := if a1 ≤ a0 then (some (decide (a0 ≤ a2))) else (some false)
set_option maxRecDepth 100000 in
set_option maxHeartbeats 4000000 in
theorem impl_within.calls {w0 : World} (K : Nat) (a0 : Int) (a1 : Int) (a2 : Int) (r : Bool) (H : impl_within.f K a0 a1 a2 = some r) : Calls Try.prog 54 [Value.int .i64 a0, Value.int .i64 a1, Value.int .i64 a2].toArray w0 (Post w0 fun w v => v = Value.bool r) := by
  rw [impl_within.f] at H
  refine s_start Try.func54 rfl Try.ntmps54 rfl ?_
  intro a hF
  have hM := Ms.start w0
  skip
  refine wp_seq ?_
  refine s_region ?_
  refine s_val hF rfl rfl rfl (e_assign hF rfl) ?_; intro a hF
  refine s_nil ?_
  refine then_n ?_
  refine wp_seq ?_
  rcases ite_cases H with ⟨c1, H⟩ | ⟨c1, H⟩
  ·
    refine s_region ?_
    refine s_val hF rfl rfl rfl (e_move hF rfl) ?_; intro a hF
    refine s_val hF rfl rfl rfl (e_move hF rfl) ?_; intro a hF
    refine s_val hF rfl rfl rfl (e_leq hF rfl rfl) ?_; intro a hF
    refine s_val hF rfl rfl rfl (e_move hF rfl) ?_; intro a hF
    have hF := hF.topb (decide_eq_true c1)
    refine s_val hF rfl rfl rfl (e_move hF rfl) ?_; intro a hF
    refine s_val hF rfl rfl rfl (e_move hF rfl) ?_; intro a hF
    refine s_val hF rfl rfl rfl (e_leq hF rfl rfl) ?_; intro a hF
    refine s_val hF rfl rfl rfl (e_pick_t hF rfl rfl) ?_; intro a hF
    refine s_val hF rfl rfl rfl (e_assign hF rfl) ?_; intro a hF
    refine s_nil ?_
    refine then_n ?_
    refine wp_ret ?_
    obtain rfl := some_some H
    refine s_ret [Value.bool (decide (a0 ≤ a2))] hF Try.results54 ⟨rfl, trivial⟩ ?_
    exact ⟨_, rfl, hM.frm, rfl⟩
  ·
    refine s_region ?_
    refine s_val hF rfl rfl rfl (e_move hF rfl) ?_; intro a hF
    refine s_val hF rfl rfl rfl (e_move hF rfl) ?_; intro a hF
    refine s_val hF rfl rfl rfl (e_leq hF rfl rfl) ?_; intro a hF
    refine s_val hF rfl rfl rfl (e_move hF rfl) ?_; intro a hF
    have hF := hF.topb (decide_eq_false c1)
    refine s_skip hF rfl rfl rfl ?_; intro a hF
    refine s_skip hF rfl rfl rfl ?_; intro a hF
    refine s_skip hF rfl rfl rfl ?_; intro a hF
    refine s_val hF rfl rfl rfl (e_pick_f hF rfl rfl) ?_; intro a hF
    refine s_val hF rfl rfl rfl (e_assign hF rfl) ?_; intro a hF
    refine s_nil ?_
    refine then_n ?_
    refine wp_ret ?_
    obtain rfl := some_some H
    refine s_ret [Value.bool false] hF Try.results54 ⟨rfl, trivial⟩ ?_
    exact ⟨_, rfl, hM.frm, rfl⟩

/-! ### loop.example/g01210/impl.IsGoal: function 17 -/
def impl_IsGoal.f (K : Nat) (a0 : (Int × Int)) : Option Bool := if a0.1 = 2 then ((impl_within.f K a0.2 0 120).bind fun t3 => some t3) else (if a0.1 = 3 then ((impl_within.f K a0.2 0 120).bind fun t6 => some t6) else ((impl_within.f K a0.1 1 5).bind fun t8 => if t8 = true then (some (decide (a0.2 = 0))) else (some false)))
set_option maxRecDepth 100000 in
set_option maxHeartbeats 4000000 in
theorem impl_IsGoal.calls {w0 : World} (K : Nat) (a0 : (Int × Int)) (r : Bool) (H : impl_IsGoal.f K a0 = some r) : Calls Try.prog 17 [ag [Pt.int a0.1, Pt.int a0.2]].toArray w0 (Post w0 fun w v => v = Value.bool r) := by
  rw [impl_IsGoal.f] at H
  refine s_start Try.func17 rfl Try.ntmps17 rfl ?_
  intro a hF
  have hM := Ms.start w0
  skip
  refine wp_seq ?_
  refine s_region ?_
  refine s_box (ps := [Pt.int a0.1, Pt.int a0.2]) hF hM rfl rfl rfl rfl ?_; intro a w b1 hF hM
  refine s_val hF rfl rfl rfl (e_assign hF rfl) ?_; intro a hF
  refine s_nil ?_
  refine then_n ?_
  refine wp_seq ?_
  refine wp_seq ?_
  rcases ite_cases H with ⟨c2, H⟩ | ⟨c2, H⟩
  ·
    refine s_region ?_
    refine s_val hF rfl rfl rfl (e_fa hF rfl Try.underlying25 rfl Try.sizeOf3 rfl rfl) ?_; intro a hF
    refine s_val hF rfl rfl rfl (e_ld (i := 0) (k := 0) hF hM rfl rfl rfl rfl Try.isAgg3 rfl) ?_; intro a hF
    refine s_val hF rfl rfl rfl (e_eql hF rfl rfl) ?_; intro a hF
    refine s_val hF rfl rfl rfl (e_move hF rfl) ?_; intro a hF
    have hF := hF.topb (decide_eq_true c2)
    refine s_skip hF rfl rfl rfl ?_; intro a hF
    refine s_skip hF rfl rfl rfl ?_; intro a hF
    refine s_skip hF rfl rfl rfl ?_; intro a hF
    refine s_val hF rfl rfl rfl (e_pick_t hF rfl rfl) ?_; intro a hF
    refine s_nil ?_
    refine then_n ?_
    refine s_cond_t hF rfl rfl ?_
    refine wp_seq ?_
    obtain ⟨t3, h4, H⟩ := bind_some H
    refine s_region ?_
    refine s_val hF rfl rfl rfl (e_fa hF rfl Try.underlying25 rfl Try.sizeOf3 rfl rfl) ?_; intro a hF
    refine s_val hF rfl rfl rfl (e_ld (i := 0) (k := 1) hF hM rfl rfl rfl rfl Try.isAgg3 rfl) ?_; intro a hF
    refine s_call hF rfl rfl rfl Try.call54 (impl_within.calls K a0.2 0 120 t3 h4) ?_; intro a w v hF hf hR
    subst hR; have hM := hM.grow hf
    refine s_val hF rfl rfl rfl (e_assign hF rfl) ?_; intro a hF
    refine s_nil ?_
    refine then_n ?_
    refine wp_ret ?_
    refine then_r ?_
    obtain rfl := some_some H
    refine s_ret [Value.bool t3] hF Try.results17 ⟨rfl, trivial⟩ ?_
    exact ⟨_, rfl, hM.frm, rfl⟩
  ·
    refine s_region ?_
    refine s_val hF rfl rfl rfl (e_fa hF rfl Try.underlying25 rfl Try.sizeOf3 rfl rfl) ?_; intro a hF
    refine s_val hF rfl rfl rfl (e_ld (i := 0) (k := 0) hF hM rfl rfl rfl rfl Try.isAgg3 rfl) ?_; intro a hF
    refine s_val hF rfl rfl rfl (e_eql hF rfl rfl) ?_; intro a hF
    refine s_val hF rfl rfl rfl (e_move hF rfl) ?_; intro a hF
    have hF := hF.topb (decide_eq_false c2)
    refine s_val hF rfl rfl rfl (e_fa hF rfl Try.underlying25 rfl Try.sizeOf3 rfl rfl) ?_; intro a hF
    refine s_val hF rfl rfl rfl (e_ld (i := 0) (k := 0) hF hM rfl rfl rfl rfl Try.isAgg3 rfl) ?_; intro a hF
    refine s_val hF rfl rfl rfl (e_eql hF rfl rfl) ?_; intro a hF
    refine s_val hF rfl rfl rfl (e_pick_f hF rfl rfl) ?_; intro a hF
    refine s_nil ?_
    refine then_n ?_
    rcases ite_cases H with ⟨c5, H⟩ | ⟨c5, H⟩
    ·
      refine s_cond_t hF rfl (decide_eq_true c5) ?_
      refine wp_seq ?_
      obtain ⟨t6, h7, H⟩ := bind_some H
      refine s_region ?_
      refine s_val hF rfl rfl rfl (e_fa hF rfl Try.underlying25 rfl Try.sizeOf3 rfl rfl) ?_; intro a hF
      refine s_val hF rfl rfl rfl (e_ld (i := 0) (k := 1) hF hM rfl rfl rfl rfl Try.isAgg3 rfl) ?_; intro a hF
      refine s_call hF rfl rfl rfl Try.call54 (impl_within.calls K a0.2 0 120 t6 h7) ?_; intro a w v hF hf hR
      subst hR; have hM := hM.grow hf
      refine s_val hF rfl rfl rfl (e_assign hF rfl) ?_; intro a hF
      refine s_nil ?_
      refine then_n ?_
      refine wp_ret ?_
      refine then_r ?_
      obtain rfl := some_some H
      refine s_ret [Value.bool t6] hF Try.results17 ⟨rfl, trivial⟩ ?_
      exact ⟨_, rfl, hM.frm, rfl⟩
    ·
      refine s_cond_f hF rfl (decide_eq_false c5) ?_
      refine wp_skip ?_
      refine then_n ?_
      refine wp_seq ?_
      obtain ⟨t8, h9, H⟩ := bind_some H
      rcases ite_cases H with ⟨c10, H⟩ | ⟨c10, H⟩
      ·
        refine s_region ?_
        refine s_val hF rfl rfl rfl (e_fa hF rfl Try.underlying25 rfl Try.sizeOf3 rfl rfl) ?_; intro a hF
        refine s_val hF rfl rfl rfl (e_ld (i := 0) (k := 0) hF hM rfl rfl rfl rfl Try.isAgg3 rfl) ?_; intro a hF
        refine s_call hF rfl rfl rfl Try.call54 (impl_within.calls K a0.1 1 5 t8 h9) ?_; intro a w v hF hf hR
        subst hR; have hM := hM.grow hf
        refine s_val hF rfl rfl rfl (e_move hF rfl) ?_; intro a hF
        have hF := hF.topb c10
        refine s_val hF rfl rfl rfl (e_fa hF rfl Try.underlying25 rfl Try.sizeOf3 rfl rfl) ?_; intro a hF
        refine s_val hF rfl rfl rfl (e_ld (i := 0) (k := 1) hF hM rfl rfl rfl rfl Try.isAgg3 rfl) ?_; intro a hF
        refine s_val hF rfl rfl rfl (e_eql hF rfl rfl) ?_; intro a hF
        refine s_val hF rfl rfl rfl (e_pick_t hF rfl rfl) ?_; intro a hF
        refine s_val hF rfl rfl rfl (e_assign hF rfl) ?_; intro a hF
        refine s_nil ?_
        refine then_n ?_
        refine wp_ret ?_
        obtain rfl := some_some H
        refine s_ret [Value.bool (decide (a0.2 = 0))] hF Try.results17 ⟨rfl, trivial⟩ ?_
        exact ⟨_, rfl, hM.frm, rfl⟩
      ·
        refine s_region ?_
        refine s_val hF rfl rfl rfl (e_fa hF rfl Try.underlying25 rfl Try.sizeOf3 rfl rfl) ?_; intro a hF
        refine s_val hF rfl rfl rfl (e_ld (i := 0) (k := 0) hF hM rfl rfl rfl rfl Try.isAgg3 rfl) ?_; intro a hF
        refine s_call hF rfl rfl rfl Try.call54 (impl_within.calls K a0.1 1 5 t8 h9) ?_; intro a w v hF hf hR
        subst hR; have hM := hM.grow hf
        refine s_val hF rfl rfl rfl (e_move hF rfl) ?_; intro a hF
        have hF := hF.topb (bf c10)
        refine s_skip hF rfl rfl rfl ?_; intro a hF
        refine s_skip hF rfl rfl rfl ?_; intro a hF
        refine s_skip hF rfl rfl rfl ?_; intro a hF
        refine s_val hF rfl rfl rfl (e_pick_f hF rfl rfl) ?_; intro a hF
        refine s_val hF rfl rfl rfl (e_assign hF rfl) ?_; intro a hF
        refine s_nil ?_
        refine then_n ?_
        refine wp_ret ?_
        obtain rfl := some_some H
        refine s_ret [Value.bool false] hF Try.results17 ⟨rfl, trivial⟩ ?_
        exact ⟨_, rfl, hM.frm, rfl⟩

/-! ### loop.example/g01210/impl.isFace: function 63 -/
def impl_isFace.f (K : Nat) (a0 : Int) : Option Bool := (impl_within.f K a0 0 30).bind fun t1 => some t1
set_option maxRecDepth 100000 in
set_option maxHeartbeats 4000000 in
theorem impl_isFace.calls {w0 : World} (K : Nat) (a0 : Int) (r : Bool) (H : impl_isFace.f K a0 = some r) : Calls Try.prog 63 [Value.int .i64 a0].toArray w0 (Post w0 fun w v => v = Value.bool r) := by
  rw [impl_isFace.f] at H
  refine s_start Try.func63 rfl Try.ntmps63 rfl ?_
  intro a hF
  have hM := Ms.start w0
  skip
  refine wp_seq ?_
  refine s_region ?_
  refine s_val hF rfl rfl rfl (e_assign hF rfl) ?_; intro a hF
  refine s_nil ?_
  refine then_n ?_
  refine wp_seq ?_
  obtain ⟨t1, h2, H⟩ := bind_some H
  refine s_region ?_
  refine s_val hF rfl rfl rfl (e_move hF rfl) ?_; intro a hF
  refine s_call hF rfl rfl rfl Try.call54 (impl_within.calls K a0 0 30 t1 h2) ?_; intro a w v hF hf hR
  subst hR; have hM := hM.grow hf
  refine s_val hF rfl rfl rfl (e_assign hF rfl) ?_; intro a hF
  refine s_nil ?_
  refine then_n ?_
  refine wp_ret ?_
  obtain rfl := some_some H
  refine s_ret [Value.bool t1] hF Try.results63 ⟨rfl, trivial⟩ ?_
  exact ⟨_, rfl, hM.frm, rfl⟩

/-! ### loop.example/g01210/impl.areAll[int]$1: function 98 -/
def impl_areAll_int_1__isFace.f (K : Nat) (a0 : Int) : Option Bool := (impl_isFace.f K a0).bind fun t3 => some (!t3)
set_option maxRecDepth 100000 in
set_option maxHeartbeats 4000000 in
theorem impl_areAll_int_1__isFace.calls {w0 : World} (K : Nat) (a0 : Int) (b1 : Nat) (q2 : (boxR b1 [Pt.val (Value.func (.func 63) #[] #[]) rfl] 69).holds w0) (r : Bool) (H : impl_areAll_int_1__isFace.f K a0 = some r) : Calls Try.prog 98 [Value.int .i64 a0, pt b1 0].toArray w0 (Post w0 fun w v => v = Value.bool r) := by
  rw [impl_areAll_int_1__isFace.f] at H
  refine s_start Try.func98 rfl Try.ntmps98 rfl ?_
  intro a hF
  have hM := Ms.start w0
  skip
  refine wp_seq ?_
  refine s_region ?_
  refine s_val hF rfl rfl rfl (e_assign hF rfl) ?_; intro a hF
  refine s_nil ?_
  refine then_n ?_
  refine wp_seq ?_
  obtain ⟨t3, h4, H⟩ := bind_some H
  refine s_region ?_
  refine s_val hF rfl rfl rfl (e_ldb (k := 0) hF (box_frm q2 hM.frm) rfl rfl rfl Try.isAgg69 rfl) ?_; intro a hF
  refine s_val hF rfl rfl rfl (e_move hF rfl) ?_; intro a hF
  refine s_callv hF rfl rfl rfl rfl (callsV_of Try.call63 (impl_isFace.calls K a0 t3 h4)) ?_; intro a w v hF ⟨hf, hR⟩
  subst hR; have hM := hM.grow hf
  refine s_val hF rfl rfl rfl (e_not hF rfl) ?_; intro a hF
  refine s_val hF rfl rfl rfl (e_assign hF rfl) ?_; intro a hF
  refine s_nil ?_
  refine then_n ?_
  refine wp_ret ?_
  obtain rfl := some_some H
  refine s_ret [Value.bool (!t3)] hF Try.results98 ⟨rfl, trivial⟩ ?_
  exact ⟨_, rfl, hM.frm, rfl⟩

/-! ### slices.IndexFunc[[]int,int]: function 110 -/
def slices_IndexFunc_int_int__areAll_int_1_isFace.l0 (K : Nat) (l0 : (List Int)) : Nat → Int → Option (Sum Unit Int)
  | 0, _ => none
  | k + 1, x14 => if x14 < (l0.length : Int) then (if (0 : Int) ≤ x14 ∧ x14 < (l0.length : Int) then ((impl_areAll_int_1__isFace.f K (l0.getD (x14 : Int).toNat (0 : Int))).bind fun t17 => if t17 = true then (some (Sum.inr x14)) else (slices_IndexFunc_int_int__areAll_int_1_isFace.l0 K l0 k (wrap64 (x14 + 1)))) else none) else (some (Sum.inl ()))
def slices_IndexFunc_int_int__areAll_int_1_isFace.f (K : Nat) (l0 : (List Int)) : Option Int := (slices_IndexFunc_int_int__areAll_int_1_isFace.l0 K l0 K 0).bind fun o20 => (match o20 with | .inl () => some (-1) | .inr r22 => some r22)
set_option maxRecDepth 100000 in
set_option maxHeartbeats 4000000 in
theorem slices_IndexFunc_int_int__areAll_int_1_isFace.calls {w0 : World} (K : Nat) (l0 : (List Int)) (u0 : Value) (q0 : SlR cd3 w0 u0 l0) (b1 : Nat) (q2 : (boxR b1 [Pt.val (Value.func (.func 63) #[] #[]) rfl] 69).holds w0) (r : Int) (H : slices_IndexFunc_int_int__areAll_int_1_isFace.f K l0 = some r) : Calls Try.prog 110 [u0, Value.func (.func 98) #[] #[pt b1 0]].toArray w0 (Post w0 fun w v => v = Value.int .i64 r) := by
  rw [slices_IndexFunc_int_int__areAll_int_1_isFace.f] at H
  refine s_start Try.func110 rfl Try.ntmps110 rfl ?_
  intro a hF
  have hM := Ms.start w0
  skip
  refine wp_seq ?_
  refine s_region ?_
  refine s_val hF rfl rfl rfl (e_assign hF rfl) ?_; intro a hF
  refine s_nil ?_
  refine then_n ?_
  refine wp_seq ?_
  refine wp_seq ?_
  refine s_region ?_
  refine s_val hF rfl rfl rfl (e_move hF rfl) ?_; intro a hF
  refine s_val hF rfl rfl rfl (e_len hF rfl (q0.frm hM.frm).toF Try.underlying33) ?_; intro a hF
  refine s_val hF rfl rfl rfl (e_move hF rfl) ?_; intro a hF
  refine s_nil ?_
  refine then_n ?_
  refine wp_block ?_
  obtain ⟨o20, h21, H⟩ := bind_some H
  refine wp_mono (Q := fun e a w => (e = Exit.exit 0 ∧ Sum.inl () = o20 ∧ Fr 19 a [] ∧ Ms [] w0 w []) ∨ (e = Exit.ret ∧ ∃ r22 : Int, Sum.inr r22 = o20 ∧ Fr 19 a [(4, Value.int .i64 r22)] ∧ Ms [] w0 w [])) ?_ ?_
  · refine s_loop (fun kq a w => ∃ x14 : Int, slices_IndexFunc_int_int__areAll_int_1_isFace.l0 K l0 kq x14 = some o20 ∧ Fr 19 a [(0, u0), (1, Value.func (.func 98) #[] #[pt b1 0]), (7, Value.int .i64 (l0.length : Int)), (8, Value.int .i64 x14)] ∧ Ms [] w0 w []) K ⟨0, h21, hF.sub _ ⟨rfl, rfl, rfl, rfl, trivial⟩, hM.pick [] rfl rfl⟩ ?_ ?_
    · rintro a w ⟨_, H, _⟩; exact none_some H
    · rintro k a w ⟨x14, H, hF, hM⟩; rw [slices_IndexFunc_int_int__areAll_int_1_isFace.l0] at H
      refine wp_seq ?_
      refine s_region ?_
      refine s_val hF rfl rfl rfl (e_lss hF rfl rfl) ?_; intro a hF
      refine s_nil ?_
      refine then_n ?_
      refine wp_seq ?_
      rcases ite_cases H with ⟨c15, H⟩ | ⟨c15, H⟩
      ·
        refine s_cond_t hF rfl (decide_eq_true c15) ?_
        refine wp_skip ?_
        refine then_n ?_
        refine wp_seq ?_
        refine wp_block ?_
        refine wp_seq ?_
        refine s_region ?_
        refine s_val hF rfl rfl rfl (e_move hF rfl) ?_; intro a hF
        refine s_val hF rfl rfl rfl (e_assign hF rfl) ?_; intro a hF
        refine s_nil ?_
        refine then_n ?_
        refine wp_seq ?_
        obtain ⟨c16, H⟩ := ite_some H
        obtain ⟨t17, h18, H⟩ := bind_some H
        refine s_region ?_
        refine s_val hF rfl rfl rfl (e_move hF rfl) ?_; intro a hF
        refine s_val hF rfl rfl rfl (e_move hF rfl) ?_; intro a hF
        refine s_val hF rfl rfl rfl (e_move hF rfl) ?_; intro a hF
        refine s_val hF rfl rfl rfl (e_ias cd3 hF rfl rfl (q0.frm hM.frm).toF Try.underlying33 Try.sizeOf3 c16.1 c16.2) ?_; intro a hF
        refine s_val hF rfl rfl rfl (e_lds (m := x14) hF rfl (q0.frm hM.frm) (getD_some (z := (0 : Int)) c16.1 c16.2) rfl rfl Try.isAgg3) ?_; intro a hF
        refine s_callv hF rfl rfl rfl rfl (callsV_of Try.call98 (impl_areAll_int_1__isFace.calls K (l0.getD (x14 : Int).toNat (0 : Int)) b1 (box_frm q2 hM.frm) t17 h18)) ?_; intro a w v hF ⟨hf, hR⟩
        subst hR; have hM := hM.grow hf
        refine s_nil ?_
        refine then_n ?_
        rcases ite_cases H with ⟨c19, H⟩ | ⟨c19, H⟩
        ·
          refine s_cond_t hF rfl c19 ?_
          refine wp_seq ?_
          refine s_region ?_
          refine s_val hF rfl rfl rfl (e_move hF rfl) ?_; intro a hF
          refine s_val hF rfl rfl rfl (e_assign hF rfl) ?_; intro a hF
          refine s_nil ?_
          refine then_n ?_
          refine wp_ret ?_
          refine blk_r ?_
          refine then_r ?_
          refine then_r ?_
          exact Or.inr (⟨rfl, x14, some_some H, hF.sub _ ⟨rfl, trivial⟩, hM.pick [] rfl rfl⟩)
        ·
          refine s_cond_f hF rfl (bf c19) ?_
          refine wp_skip ?_
          refine blk_n ?_
          refine then_n ?_
          refine s_region ?_
          refine s_val hF rfl rfl rfl (e_add hF rfl rfl) ?_; intro a hF
          refine s_val hF rfl rfl rfl (e_move hF rfl) ?_; intro a hF
          refine s_nil ?_
          refine then_n ?_
          exact ⟨(wrap64 (x14 + 1)), H, hF.sub _ ⟨rfl, rfl, rfl, rfl, trivial⟩, hM.pick [] rfl rfl⟩
      ·
        refine s_cond_f hF rfl (decide_eq_false c15) ?_
        refine wp_exit ?_
        refine then_x ?_
        refine then_x ?_
        exact Or.inl (⟨rfl, some_some H, hF.sub _ trivial, hM.pick [] rfl rfl⟩)
  · rintro e a w (⟨rfl, rfl, hF, hM⟩ | ⟨rfl, r22, rfl, hF, hM⟩)
    ·
      dsimp only at H
      refine blk_x ?_
      refine then_n ?_
      refine wp_seq ?_
      refine s_region ?_
      refine s_val hF rfl rfl rfl (e_assign hF rfl) ?_; intro a hF
      refine s_nil ?_
      refine then_n ?_
      refine wp_ret ?_
      obtain rfl := some_some H
      refine s_ret [Value.int .i64 (-1)] hF Try.results110 ⟨rfl, trivial⟩ ?_
      exact ⟨_, rfl, hM.frm, rfl⟩
    ·
      dsimp only at H
      refine blk_r ?_
      refine then_r ?_
      obtain rfl := some_some H
      refine s_ret [Value.int .i64 r22] hF Try.results110 ⟨rfl, trivial⟩ ?_
      exact ⟨_, rfl, hM.frm, rfl⟩

/-! ### slices.ContainsFunc[[]int,int]: function 97 -/
def slices_ContainsFunc_int_int__areAll_int_1_isFace.f (K : Nat) (l0 : (List Int)) : Option Bool := (slices_IndexFunc_int_int__areAll_int_1_isFace.f K l0).bind fun t3 => some (decide (0 ≤ t3))
set_option maxRecDepth 100000 in
set_option maxHeartbeats 4000000 in
theorem slices_ContainsFunc_int_int__areAll_int_1_isFace.calls {w0 : World} (K : Nat) (l0 : (List Int)) (u0 : Value) (q0 : SlR cd3 w0 u0 l0) (b1 : Nat) (q2 : (boxR b1 [Pt.val (Value.func (.func 63) #[] #[]) rfl] 69).holds w0) (r : Bool) (H : slices_ContainsFunc_int_int__areAll_int_1_isFace.f K l0 = some r) : Calls Try.prog 97 [u0, Value.func (.func 98) #[] #[pt b1 0]].toArray w0 (Post w0 fun w v => v = Value.bool r) := by
  rw [slices_ContainsFunc_int_int__areAll_int_1_isFace.f] at H
  refine s_start Try.func97 rfl Try.ntmps97 rfl ?_
  intro a hF
  have hM := Ms.start w0
  skip
  refine wp_seq ?_
  refine s_region ?_
  refine s_val hF rfl rfl rfl (e_assign hF rfl) ?_; intro a hF
  refine s_nil ?_
  refine then_n ?_
  refine wp_seq ?_
  obtain ⟨t3, h4, H⟩ := bind_some H
  refine s_region ?_
  refine s_val hF rfl rfl rfl (e_move hF rfl) ?_; intro a hF
  refine s_val hF rfl rfl rfl (e_move hF rfl) ?_; intro a hF
  refine s_call hF rfl rfl rfl Try.call110 (slices_IndexFunc_int_int__areAll_int_1_isFace.calls K l0 u0 (q0.frm hM.frm) b1 (box_frm q2 hM.frm) t3 h4) ?_; intro a w v hF hf hR
  subst hR; have hM := hM.grow hf
  refine s_val hF rfl rfl rfl (e_geq hF rfl rfl) ?_; intro a hF
  refine s_val hF rfl rfl rfl (e_assign hF rfl) ?_; intro a hF
  refine s_nil ?_
  refine then_n ?_
  refine wp_ret ?_
  obtain rfl := some_some H
  refine s_ret [Value.bool (decide (0 ≤ t3))] hF Try.results97 ⟨rfl, trivial⟩ ?_
  exact ⟨_, rfl, hM.frm, rfl⟩

/-! ### loop.example/g01210/impl.areAll[int]: function 62 -/
def impl_areAll_int__isFace.f (K : Nat) (l0 : (List Int)) : Option Bool := (slices_ContainsFunc_int_int__areAll_int_1_isFace.f K l0).bind fun t2 => some (!t2)
set_option maxRecDepth 100000 in
set_option maxHeartbeats 4000000 in
theorem impl_areAll_int__isFace.calls {w0 : World} (K : Nat) (l0 : (List Int)) (u0 : Value) (q0 : SlR cd3 w0 u0 l0) (r : Bool) (H : impl_areAll_int__isFace.f K l0 = some r) : Calls Try.prog 62 [u0, Value.func (.func 63) #[] #[]].toArray w0 (Post w0 fun w v => v = Value.bool r) := by
  rw [impl_areAll_int__isFace.f] at H
  refine s_start Try.func62 rfl Try.ntmps62 rfl ?_
  intro a hF
  have hM := Ms.start w0
  skip
  refine wp_seq ?_
  refine s_region ?_
  refine s_box (ps := [Pt.val (Value.func (.func 63) #[] #[]) rfl]) hF hM rfl rfl rfl rfl ?_; intro a w b1 hF hM
  refine s_val hF rfl rfl rfl (e_assign hF rfl) ?_; intro a hF
  refine s_nil ?_
  refine then_n ?_
  refine wp_seq ?_
  obtain ⟨t2, h3, H⟩ := bind_some H
  refine s_region ?_
  refine s_val hF rfl rfl rfl (e_move hF rfl) ?_; intro a hF
  refine s_val hF rfl rfl rfl (e_mkfunc (hF.evs' rfl)) ?_; intro a hF
  refine s_call hF rfl rfl rfl Try.call97 (slices_ContainsFunc_int_int__areAll_int_1_isFace.calls K l0 u0 (q0.frm hM.frm) b1 (hM.get 0 rfl) t2 h3) ?_; intro a w v hF hf hR
  subst hR; have hM := hM.grow hf
  refine s_val hF rfl rfl rfl (e_not hF rfl) ?_; intro a hF
  refine s_val hF rfl rfl rfl (e_assign hF rfl) ?_; intro a hF
  refine s_nil ?_
  refine then_n ?_
  refine wp_ret ?_
  obtain rfl := some_some H
  refine s_ret [Value.bool (!t2)] hF Try.results62 ⟨rfl, trivial⟩ ?_
  exact ⟨_, rfl, hM.frm, rfl⟩

/-! ### loop.example/g01210/impl.total: function 87 -/
def impl_total.l0 (K : Nat) (l0 : (List Int)) : Nat → Int → Int → Option Int
  | 0, _, _ => none
  | k + 1, x8, x9 => if x9 < (l0.length : Int) then (if (0 : Int) ≤ x9 ∧ x9 < (l0.length : Int) then (impl_total.l0 K l0 k (wrap64 (x8 + (l0.getD (x9 : Int).toNat (0 : Int)))) (wrap64 (x9 + 1))) else none) else (some x8)
def impl_total.f (K : Nat) (l0 : (List Int)) : Option Int := (impl_total.l0 K l0 K 0 0).bind fun x7 => some x7
set_option maxRecDepth 100000 in
set_option maxHeartbeats 4000000 in
theorem impl_total.calls {w0 : World} (K : Nat) (l0 : (List Int)) (u0 : Value) (q0 : SlR cd3 w0 u0 l0) (r : Int) (H : impl_total.f K l0 = some r) : Calls Try.prog 87 [u0].toArray w0 (Post w0 fun w v => v = Value.int .i64 r) := by
  rw [impl_total.f] at H
  refine s_start Try.func87 rfl Try.ntmps87 rfl ?_
  intro a hF
  have hM := Ms.start w0
  skip
  refine wp_seq ?_
  refine s_region ?_
  refine s_val hF rfl rfl rfl (e_assign hF rfl) ?_; intro a hF
  refine s_nil ?_
  refine then_n ?_
  refine wp_seq ?_
  refine s_region ?_
  refine s_val hF rfl rfl rfl (e_assign hF rfl) ?_; intro a hF
  refine s_nil ?_
  refine then_n ?_
  refine wp_seq ?_
  refine wp_seq ?_
  refine s_region ?_
  refine s_val hF rfl rfl rfl (e_move hF rfl) ?_; intro a hF
  refine s_val hF rfl rfl rfl (e_len hF rfl (q0.frm hM.frm).toF Try.underlying33) ?_; intro a hF
  refine s_val hF rfl rfl rfl (e_move hF rfl) ?_; intro a hF
  refine s_nil ?_
  refine then_n ?_
  refine wp_block ?_
  obtain ⟨o12, h13, H⟩ := bind_some H
  refine wp_mono (Q := fun e a w => (e = Exit.exit 0 ∧ ∃ x7 : Int, x7 = o12 ∧ Fr 17 a [(3, Value.int .i64 x7)] ∧ Ms [] w0 w [])) ?_ ?_
  · refine s_loop (fun kq a w => ∃ x8 : Int, ∃ x9 : Int, impl_total.l0 K l0 kq x8 x9 = some o12 ∧ Fr 17 a [(3, Value.int .i64 x8), (6, u0), (7, Value.int .i64 (l0.length : Int)), (8, Value.int .i64 x9)] ∧ Ms [] w0 w []) K ⟨0, 0, h13, hF.sub _ ⟨rfl, rfl, rfl, rfl, trivial⟩, hM.pick [] rfl rfl⟩ ?_ ?_
    · rintro a w ⟨_, _, H, _⟩; exact none_some H
    · rintro k a w ⟨x8, x9, H, hF, hM⟩; rw [impl_total.l0] at H
      refine wp_seq ?_
      refine s_region ?_
      refine s_val hF rfl rfl rfl (e_lss hF rfl rfl) ?_; intro a hF
      refine s_nil ?_
      refine then_n ?_
      refine wp_seq ?_
      rcases ite_cases H with ⟨c10, H⟩ | ⟨c10, H⟩
      ·
        refine s_cond_t hF rfl (decide_eq_true c10) ?_
        refine wp_skip ?_
        refine then_n ?_
        refine wp_seq ?_
        refine wp_block ?_
        refine wp_seq ?_
        obtain ⟨c11, H⟩ := ite_some H
        refine s_region ?_
        refine s_val hF rfl rfl rfl (e_ias cd3 hF rfl rfl (q0.frm hM.frm).toF Try.underlying33 Try.sizeOf3 c11.1 c11.2) ?_; intro a hF
        refine s_val hF rfl rfl rfl (e_lds (m := x9) hF rfl (q0.frm hM.frm) (getD_some (z := (0 : Int)) c11.1 c11.2) rfl rfl Try.isAgg3) ?_; intro a hF
        refine s_val hF rfl rfl rfl (e_assign hF rfl) ?_; intro a hF
        refine s_nil ?_
        refine then_n ?_
        refine s_region ?_
        refine s_val hF rfl rfl rfl (e_move hF rfl) ?_; intro a hF
        refine s_val hF rfl rfl rfl (e_move hF rfl) ?_; intro a hF
        refine s_val hF rfl rfl rfl (e_add hF rfl rfl) ?_; intro a hF
        refine s_val hF rfl rfl rfl (e_assign hF rfl) ?_; intro a hF
        refine s_nil ?_
        refine blk_n ?_
        refine then_n ?_
        refine s_region ?_
        refine s_val hF rfl rfl rfl (e_add hF rfl rfl) ?_; intro a hF
        refine s_val hF rfl rfl rfl (e_move hF rfl) ?_; intro a hF
        refine s_nil ?_
        refine then_n ?_
        exact ⟨(wrap64 (x8 + (l0.getD (x9 : Int).toNat (0 : Int)))), (wrap64 (x9 + 1)), H, hF.sub _ ⟨rfl, rfl, rfl, rfl, trivial⟩, hM.pick [] rfl rfl⟩
      ·
        refine s_cond_f hF rfl (decide_eq_false c10) ?_
        refine wp_exit ?_
        refine then_x ?_
        refine then_x ?_
        exact ⟨rfl, x8, some_some H, hF.sub _ ⟨rfl, trivial⟩, hM.pick [] rfl rfl⟩
  · rintro e a w ⟨rfl, x7, rfl, hF, hM⟩
    skip
    refine blk_x ?_
    refine then_n ?_
    refine wp_seq ?_
    refine s_region ?_
    refine s_val hF rfl rfl rfl (e_move hF rfl) ?_; intro a hF
    refine s_val hF rfl rfl rfl (e_assign hF rfl) ?_; intro a hF
    refine s_nil ?_
    refine then_n ?_
    refine wp_ret ?_
    obtain rfl := some_some H
    refine s_ret [Value.int .i64 x7] hF Try.results87 ⟨rfl, trivial⟩ ?_
    exact ⟨_, rfl, hM.frm, rfl⟩

/-! ### loop.example/g01210/impl.truth: function 90 -/
def impl_truth.f (K : Nat) (a0 : Bool) : Option Int := if a0 = true then (some 1) else (some 0)
set_option maxRecDepth 100000 in
set_option maxHeartbeats 4000000 in
theorem impl_truth.calls {w0 : World} (K : Nat) (a0 : Bool) (r : Int) (H : impl_truth.f K a0 = some r) : Calls Try.prog 90 [Value.bool a0].toArray w0 (Post w0 fun w v => v = Value.int .i64 r) := by
  rw [impl_truth.f] at H
  refine s_start Try.func90 rfl Try.ntmps90 rfl ?_
  intro a hF
  have hM := Ms.start w0
  skip
  refine wp_seq ?_
  refine s_region ?_
  refine s_val hF rfl rfl rfl (e_assign hF rfl) ?_; intro a hF
  refine s_nil ?_
  refine then_n ?_
  refine wp_seq ?_
  refine wp_seq ?_
  refine s_region ?_
  refine s_val hF rfl rfl rfl (e_move hF rfl) ?_; intro a hF
  refine s_nil ?_
  refine then_n ?_
  rcases ite_cases H with ⟨c1, H⟩ | ⟨c1, H⟩
  ·
    refine s_cond_t hF rfl c1 ?_
    refine wp_seq ?_
    refine s_region ?_
    refine s_val hF rfl rfl rfl (e_assign hF rfl) ?_; intro a hF
    refine s_nil ?_
    refine then_n ?_
    refine wp_ret ?_
    refine then_r ?_
    obtain rfl := some_some H
    refine s_ret [Value.int .i64 1] hF Try.results90 ⟨rfl, trivial⟩ ?_
    exact ⟨_, rfl, hM.frm, rfl⟩
  ·
    refine s_cond_f hF rfl (bf c1) ?_
    refine wp_skip ?_
    refine then_n ?_
    refine wp_seq ?_
    refine s_region ?_
    refine s_val hF rfl rfl rfl (e_assign hF rfl) ?_; intro a hF
    refine s_nil ?_
    refine then_n ?_
    refine wp_ret ?_
    obtain rfl := some_some H
    refine s_ret [Value.int .i64 0] hF Try.results90 ⟨rfl, trivial⟩ ?_
    exact ⟨_, rfl, hM.frm, rfl⟩

/-! ### slices.Max[[]int,int]: function 99 -/
def slices_Max_int_int.l0 (K : Nat) (l0 : (List Int)) : Nat → Int → Int → Option Int
  | 0, _, _ => none
  | k + 1, x10, x11 => if x11 < (l0.length : Int) then (if (0 : Int) ≤ x11 ∧ x11 < (l0.length : Int) then (slices_Max_int_int.l0 K l0 k (if (l0.getD (x11 : Int).toNat (0 : Int)) > x10 then (l0.getD (x11 : Int).toNat (0 : Int)) else x10) (wrap64 (x11 + 1))) else none) else (some x10)
def slices_Max_int_int.f (K : Nat) (l0 : (List Int)) : Option Int := if (l0.length : Int) < 1 then (none) else (if (0 : Int) ≤ 0 ∧ 0 < (l0.length : Int) then ((slices_Max_int_int.l0 K l0 K (l0.getD (0 : Int).toNat (0 : Int)) 1).bind fun x9 => some x9) else none)
set_option maxRecDepth 100000 in
set_option maxHeartbeats 4000000 in
theorem slices_Max_int_int.calls {w0 : World} (K : Nat) (l0 : (List Int)) (u0 : Value) (q0 : SlR cd3 w0 u0 l0) (r : Int) (H : slices_Max_int_int.f K l0 = some r) : Calls Try.prog 99 [u0].toArray w0 (Post w0 fun w v => v = Value.int .i64 r) := by
  rw [slices_Max_int_int.f] at H
  refine s_start Try.func99 rfl Try.ntmps99 rfl ?_
  intro a hF
  have hM := Ms.start w0
  skip
  refine wp_seq ?_
  refine s_region ?_
  refine s_val hF rfl rfl rfl (e_assign hF rfl) ?_; intro a hF
  refine s_nil ?_
  refine then_n ?_
  refine wp_seq ?_
  refine wp_seq ?_
  refine s_region ?_
  refine s_val hF rfl rfl rfl (e_move hF rfl) ?_; intro a hF
  refine s_val hF rfl rfl rfl (e_len hF rfl (q0.frm hM.frm).toF Try.underlying33) ?_; intro a hF
  refine s_val hF rfl rfl rfl (e_lss hF rfl rfl) ?_; intro a hF
  refine s_nil ?_
  refine then_n ?_
  rcases ite_cases H with ⟨c1, H⟩ | ⟨c1, H⟩
  ·
    refine s_cond_t hF rfl (decide_eq_true c1) ?_
    exact none_some H
  ·
    refine s_cond_f hF rfl (decide_eq_false c1) ?_
    refine wp_skip ?_
    refine then_n ?_
    refine wp_seq ?_
    obtain ⟨c2, H⟩ := ite_some H
    refine s_region ?_
    refine s_val hF rfl rfl rfl (e_move hF rfl) ?_; intro a hF
    refine s_val hF rfl rfl rfl (e_ias cd3 hF rfl rfl (q0.frm hM.frm).toF Try.underlying33 Try.sizeOf3 c2.1 c2.2) ?_; intro a hF
    refine s_val hF rfl rfl rfl (e_lds (m := 0) hF rfl (q0.frm hM.frm) (getD_some (z := (0 : Int)) c2.1 c2.2) rfl rfl Try.isAgg3) ?_; intro a hF
    refine s_val hF rfl rfl rfl (e_assign hF rfl) ?_; intro a hF
    refine s_nil ?_
    refine then_n ?_
    refine wp_seq ?_
    refine wp_seq ?_
    refine s_region ?_
    refine s_val hF rfl rfl rfl (e_assign hF rfl) ?_; intro a hF
    refine s_nil ?_
    refine then_n ?_
    refine wp_block ?_
    obtain ⟨o14, h15, H⟩ := bind_some H
    refine wp_mono (Q := fun e a w => (e = Exit.exit 0 ∧ ∃ x9 : Int, x9 = o14 ∧ Fr 25 a [(3, Value.int .i64 x9)] ∧ Ms [] w0 w [])) ?_ ?_
    · refine s_loop (fun kq a w => ∃ x10 : Int, ∃ x11 : Int, slices_Max_int_int.l0 K l0 kq x10 x11 = some o14 ∧ Fr 25 a [(0, u0), (3, Value.int .i64 x10), (4, Value.int .i64 x11)] ∧ Ms [] w0 w []) K ⟨(l0.getD (0 : Int).toNat (0 : Int)), 1, h15, hF.sub _ ⟨rfl, rfl, rfl, trivial⟩, hM.pick [] rfl rfl⟩ ?_ ?_
      · rintro a w ⟨_, _, H, _⟩; exact none_some H
      · rintro k a w ⟨x10, x11, H, hF, hM⟩; rw [slices_Max_int_int.l0] at H
        refine wp_seq ?_
        refine wp_seq ?_
        refine s_region ?_
        refine s_val hF rfl rfl rfl (e_move hF rfl) ?_; intro a hF
        refine s_val hF rfl rfl rfl (e_move hF rfl) ?_; intro a hF
        refine s_val hF rfl rfl rfl (e_len hF rfl (q0.frm hM.frm).toF Try.underlying33) ?_; intro a hF
        refine s_val hF rfl rfl rfl (e_lss hF rfl rfl) ?_; intro a hF
        refine s_nil ?_
        refine then_n ?_
        rcases ite_cases H with ⟨c12, H⟩ | ⟨c12, H⟩
        ·
          refine s_cond_t hF rfl (decide_eq_true c12) ?_
          refine wp_skip ?_
          refine then_n ?_
          refine wp_seq ?_
          refine wp_block ?_
          obtain ⟨c13, H⟩ := ite_some H
          refine s_region ?_
          refine s_val hF rfl rfl rfl (e_move hF rfl) ?_; intro a hF
          refine s_val hF rfl rfl rfl (e_move hF rfl) ?_; intro a hF
          refine s_val hF rfl rfl rfl (e_move hF rfl) ?_; intro a hF
          refine s_val hF rfl rfl rfl (e_ias cd3 hF rfl rfl (q0.frm hM.frm).toF Try.underlying33 Try.sizeOf3 c13.1 c13.2) ?_; intro a hF
          refine s_val hF rfl rfl rfl (e_lds (m := x11) hF rfl (q0.frm hM.frm) (getD_some (z := (0 : Int)) c13.1 c13.2) rfl rfl Try.isAgg3) ?_; intro a hF
          refine s_val hF rfl rfl rfl (e_max hF rfl rfl) ?_; intro a hF
          refine s_val hF rfl rfl rfl (e_assign hF rfl) ?_; intro a hF
          refine s_nil ?_
          refine blk_n ?_
          refine then_n ?_
          refine s_region ?_
          refine s_val hF rfl rfl rfl (e_move hF rfl) ?_; intro a hF
          refine s_val hF rfl rfl rfl (e_add hF rfl rfl) ?_; intro a hF
          refine s_val hF rfl rfl rfl (e_assign hF rfl) ?_; intro a hF
          refine s_nil ?_
          refine then_n ?_
          exact ⟨(if (l0.getD (x11 : Int).toNat (0 : Int)) > x10 then (l0.getD (x11 : Int).toNat (0 : Int)) else x10), (wrap64 (x11 + 1)), H, hF.sub _ ⟨rfl, rfl, rfl, trivial⟩, hM.pick [] rfl rfl⟩
        ·
          refine s_cond_f hF rfl (decide_eq_false c12) ?_
          refine wp_exit ?_
          refine then_x ?_
          refine then_x ?_
          exact ⟨rfl, x10, some_some H, hF.sub _ ⟨rfl, trivial⟩, hM.pick [] rfl rfl⟩
    · rintro e a w ⟨rfl, x9, rfl, hF, hM⟩
      skip
      refine blk_x ?_
      refine then_n ?_
      refine wp_seq ?_
      refine s_region ?_
      refine s_val hF rfl rfl rfl (e_move hF rfl) ?_; intro a hF
      refine s_val hF rfl rfl rfl (e_assign hF rfl) ?_; intro a hF
      refine s_nil ?_
      refine then_n ?_
      refine wp_ret ?_
      obtain rfl := some_some H
      refine s_ret [Value.int .i64 x9] hF Try.results99 ⟨rfl, trivial⟩ ?_
      exact ⟨_, rfl, hM.frm, rfl⟩

/-! ### slices.Min[[]int,int]: function 100 -/
def slices_Min_int_int.l0 (K : Nat) (l0 : (List Int)) : Nat → Int → Int → Option Int
  | 0, _, _ => none
  | k + 1, x10, x11 => if x11 < (l0.length : Int) then (if (0 : Int) ≤ x11 ∧ x11 < (l0.length : Int) then (slices_Min_int_int.l0 K l0 k (if (l0.getD (x11 : Int).toNat (0 : Int)) < x10 then (l0.getD (x11 : Int).toNat (0 : Int)) else x10) (wrap64 (x11 + 1))) else none) else (some x10)
def slices_Min_int_int.f (K : Nat) (l0 : (List Int)) : Option Int := if (l0.length : Int) < 1 then (none) else (if (0 : Int) ≤ 0 ∧ 0 < (l0.length : Int) then ((slices_Min_int_int.l0 K l0 K (l0.getD (0 : Int).toNat (0 : Int)) 1).bind fun x9 => some x9) else none)
set_option maxRecDepth 100000 in
set_option maxHeartbeats 4000000 in
theorem slices_Min_int_int.calls {w0 : World} (K : Nat) (l0 : (List Int)) (u0 : Value) (q0 : SlR cd3 w0 u0 l0) (r : Int) (H : slices_Min_int_int.f K l0 = some r) : Calls Try.prog 100 [u0].toArray w0 (Post w0 fun w v => v = Value.int .i64 r) := by
  rw [slices_Min_int_int.f] at H
  refine s_start Try.func100 rfl Try.ntmps100 rfl ?_
  intro a hF
  have hM := Ms.start w0
  skip
  refine wp_seq ?_
  refine s_region ?_
  refine s_val hF rfl rfl rfl (e_assign hF rfl) ?_; intro a hF
  refine s_nil ?_
  refine then_n ?_
  refine wp_seq ?_
  refine wp_seq ?_
  refine s_region ?_
  refine s_val hF rfl rfl rfl (e_move hF rfl) ?_; intro a hF
  refine s_val hF rfl rfl rfl (e_len hF rfl (q0.frm hM.frm).toF Try.underlying33) ?_; intro a hF
  refine s_val hF rfl rfl rfl (e_lss hF rfl rfl) ?_; intro a hF
  refine s_nil ?_
  refine then_n ?_
  rcases ite_cases H with ⟨c1, H⟩ | ⟨c1, H⟩
  ·
    refine s_cond_t hF rfl (decide_eq_true c1) ?_
    exact none_some H
  ·
    refine s_cond_f hF rfl (decide_eq_false c1) ?_
    refine wp_skip ?_
    refine then_n ?_
    refine wp_seq ?_
    obtain ⟨c2, H⟩ := ite_some H
    refine s_region ?_
    refine s_val hF rfl rfl rfl (e_move hF rfl) ?_; intro a hF
    refine s_val hF rfl rfl rfl (e_ias cd3 hF rfl rfl (q0.frm hM.frm).toF Try.underlying33 Try.sizeOf3 c2.1 c2.2) ?_; intro a hF
    refine s_val hF rfl rfl rfl (e_lds (m := 0) hF rfl (q0.frm hM.frm) (getD_some (z := (0 : Int)) c2.1 c2.2) rfl rfl Try.isAgg3) ?_; intro a hF
    refine s_val hF rfl rfl rfl (e_assign hF rfl) ?_; intro a hF
    refine s_nil ?_
    refine then_n ?_
    refine wp_seq ?_
    refine wp_seq ?_
    refine s_region ?_
    refine s_val hF rfl rfl rfl (e_assign hF rfl) ?_; intro a hF
    refine s_nil ?_
    refine then_n ?_
    refine wp_block ?_
    obtain ⟨o14, h15, H⟩ := bind_some H
    refine wp_mono (Q := fun e a w => (e = Exit.exit 0 ∧ ∃ x9 : Int, x9 = o14 ∧ Fr 25 a [(3, Value.int .i64 x9)] ∧ Ms [] w0 w [])) ?_ ?_
    · refine s_loop (fun kq a w => ∃ x10 : Int, ∃ x11 : Int, slices_Min_int_int.l0 K l0 kq x10 x11 = some o14 ∧ Fr 25 a [(0, u0), (3, Value.int .i64 x10), (4, Value.int .i64 x11)] ∧ Ms [] w0 w []) K ⟨(l0.getD (0 : Int).toNat (0 : Int)), 1, h15, hF.sub _ ⟨rfl, rfl, rfl, trivial⟩, hM.pick [] rfl rfl⟩ ?_ ?_
      · rintro a w ⟨_, _, H, _⟩; exact none_some H
      · rintro k a w ⟨x10, x11, H, hF, hM⟩; rw [slices_Min_int_int.l0] at H
        refine wp_seq ?_
        refine wp_seq ?_
        refine s_region ?_
        refine s_val hF rfl rfl rfl (e_move hF rfl) ?_; intro a hF
        refine s_val hF rfl rfl rfl (e_move hF rfl) ?_; intro a hF
        refine s_val hF rfl rfl rfl (e_len hF rfl (q0.frm hM.frm).toF Try.underlying33) ?_; intro a hF
        refine s_val hF rfl rfl rfl (e_lss hF rfl rfl) ?_; intro a hF
        refine s_nil ?_
        refine then_n ?_
        rcases ite_cases H with ⟨c12, H⟩ | ⟨c12, H⟩
        ·
          refine s_cond_t hF rfl (decide_eq_true c12) ?_
          refine wp_skip ?_
          refine then_n ?_
          refine wp_seq ?_
          refine wp_block ?_
          obtain ⟨c13, H⟩ := ite_some H
          refine s_region ?_
          refine s_val hF rfl rfl rfl (e_move hF rfl) ?_; intro a hF
          refine s_val hF rfl rfl rfl (e_move hF rfl) ?_; intro a hF
          refine s_val hF rfl rfl rfl (e_move hF rfl) ?_; intro a hF
          refine s_val hF rfl rfl rfl (e_ias cd3 hF rfl rfl (q0.frm hM.frm).toF Try.underlying33 Try.sizeOf3 c13.1 c13.2) ?_; intro a hF
          refine s_val hF rfl rfl rfl (e_lds (m := x11) hF rfl (q0.frm hM.frm) (getD_some (z := (0 : Int)) c13.1 c13.2) rfl rfl Try.isAgg3) ?_; intro a hF
          refine s_val hF rfl rfl rfl (e_min hF rfl rfl) ?_; intro a hF
          refine s_val hF rfl rfl rfl (e_assign hF rfl) ?_; intro a hF
          refine s_nil ?_
          refine blk_n ?_
          refine then_n ?_
          refine s_region ?_
          refine s_val hF rfl rfl rfl (e_move hF rfl) ?_; intro a hF
          refine s_val hF rfl rfl rfl (e_add hF rfl rfl) ?_; intro a hF
          refine s_val hF rfl rfl rfl (e_assign hF rfl) ?_; intro a hF
          refine s_nil ?_
          refine then_n ?_
          exact ⟨(if (l0.getD (x11 : Int).toNat (0 : Int)) < x10 then (l0.getD (x11 : Int).toNat (0 : Int)) else x10), (wrap64 (x11 + 1)), H, hF.sub _ ⟨rfl, rfl, rfl, trivial⟩, hM.pick [] rfl rfl⟩
        ·
          refine s_cond_f hF rfl (decide_eq_false c12) ?_
          refine wp_exit ?_
          refine then_x ?_
          refine then_x ?_
          exact ⟨rfl, x10, some_some H, hF.sub _ ⟨rfl, trivial⟩, hM.pick [] rfl rfl⟩
    · rintro e a w ⟨rfl, x9, rfl, hF, hM⟩
      skip
      refine blk_x ?_
      refine then_n ?_
      refine wp_seq ?_
      refine s_region ?_
      refine s_val hF rfl rfl rfl (e_move hF rfl) ?_; intro a hF
      refine s_val hF rfl rfl rfl (e_assign hF rfl) ?_; intro a hF
      refine s_nil ?_
      refine then_n ?_
      refine wp_ret ?_
      obtain rfl := some_some H
      refine s_ret [Value.int .i64 x9] hF Try.results100 ⟨rfl, trivial⟩ ?_
      exact ⟨_, rfl, hM.frm, rfl⟩

/-! ### (loop.example/g01210/impl.Goal).score: function 64 -/
def impl_Goal_score.f (K : Nat) (a0 : (Int × Int)) (l1 : (List Int)) : Option Int := if a0.1 = 2 then ((impl_total.f K l1).bind fun t3 => (impl_truth.f K (decide (a0.2 ≤ t3))).bind fun t5 => some t5) else (if a0.1 = 3 then ((impl_total.f K l1).bind fun t8 => (impl_truth.f K (decide (t8 = a0.2))).bind fun t10 => some t10) else (if a0.1 = 4 then ((slices_Max_int_int.f K l1).bind fun t13 => some t13) else (if a0.1 = 5 then ((slices_Max_int_int.f K l1).bind fun t16 => (slices_Min_int_int.f K l1).bind fun t18 => (impl_truth.f K (decide (t16 = t18))).bind fun t20 => some t20) else ((impl_total.f K l1).bind fun t22 => some t22))))
set_option maxRecDepth 100000 in
set_option maxHeartbeats 4000000 in
theorem impl_Goal_score.calls {w0 : World} (K : Nat) (a0 : (Int × Int)) (l1 : (List Int)) (u1 : Value) (q1 : SlR cd3 w0 u1 l1) (r : Int) (H : impl_Goal_score.f K a0 l1 = some r) : Calls Try.prog 64 [ag [Pt.int a0.1, Pt.int a0.2], u1].toArray w0 (Post w0 fun w v => v = Value.int .i64 r) := by
  rw [impl_Goal_score.f] at H
  refine s_start Try.func64 rfl Try.ntmps64 rfl ?_
  intro a hF
  have hM := Ms.start w0
  skip
  refine wp_seq ?_
  refine s_region ?_
  refine s_box (ps := [Pt.int a0.1, Pt.int a0.2]) hF hM rfl rfl rfl rfl ?_; intro a w b1 hF hM
  refine s_val hF rfl rfl rfl (e_assign hF rfl) ?_; intro a hF
  refine s_nil ?_
  refine then_n ?_
  refine wp_seq ?_
  refine wp_seq ?_
  refine s_region ?_
  refine s_val hF rfl rfl rfl (e_fa hF rfl Try.underlying25 rfl Try.sizeOf3 rfl rfl) ?_; intro a hF
  refine s_val hF rfl rfl rfl (e_ld (i := 0) (k := 0) hF hM rfl rfl rfl rfl Try.isAgg3 rfl) ?_; intro a hF
  refine s_nil ?_
  refine then_n ?_
  refine wp_block ?_
  refine wp_seq ?_
  refine s_region ?_
  refine s_val hF rfl rfl rfl (e_eql hF rfl rfl) ?_; intro a hF
  refine s_val hF rfl rfl rfl (e_assign hF rfl) ?_; intro a hF
  refine s_nil ?_
  refine then_n ?_
  rcases ite_cases H with ⟨c2, H⟩ | ⟨c2, H⟩
  ·
    refine s_cond_t hF rfl (decide_eq_true c2) ?_
    refine wp_seq ?_
    obtain ⟨t3, h4, H⟩ := bind_some H
    obtain ⟨t5, h6, H⟩ := bind_some H
    refine s_held (fun w => Ms [] w0 w [boxR b1 [Pt.int a0.1, Pt.int a0.2] 25]) #[false, false, false, false, false, false, false] mixed rfl rfl hM ?_; intro w hf hM; clear hf
    refine h_val 0 #[true, false, false, false, false, false, false] rfl (by kernel_rfl) hF rfl rfl rfl (fun w hS => e_move hF rfl) (hM.pick [0] rfl rfl) ?_; intro a hF
    refine h_val 2 #[true, false, true, false, false, false, false] rfl (by kernel_rfl) hF rfl rfl rfl (fun w hS => e_fa hF rfl Try.underlying25 rfl Try.sizeOf3 rfl rfl) (hM.pick [0] rfl rfl) ?_; intro a hF
    refine h_val 3 #[true, false, true, true, false, false, false] rfl (by kernel_rfl) hF rfl rfl rfl (fun w hS => e_ld (i := 0) (k := 1) hF hS rfl rfl rfl rfl Try.isAgg3 rfl) (hM.pick [0] rfl rfl) ?_; intro a hF
    refine h_one 1 #[true, true, true, true, false, false, false] rfl (by kernel_rfl) ?_
    refine s_call hF rfl rfl rfl Try.call87 (impl_total.calls K l1 u1 (q1.frm hM.frm) t3 h4) ?_; intro a w v hF hf hR
    subst hR; have hM := hM.grow hf
    refine s_nil ⟨rfl, (hM.pick [0] rfl rfl), ?_⟩
    refine h_val 4 #[true, true, true, true, true, false, false] rfl (by kernel_rfl) hF rfl rfl rfl (fun w hS => e_geq hF rfl rfl) (hM.pick [0] rfl rfl) ?_; intro a hF
    refine h_one 5 #[true, true, true, true, true, true, false] rfl (by kernel_rfl) ?_
    refine s_call hF rfl rfl rfl Try.call90 (impl_truth.calls K (decide (a0.2 ≤ t3)) t5 h6) ?_; intro a w v hF hf hR
    subst hR; have hM := hM.grow hf
    refine s_nil ⟨rfl, (hM.pick [0] rfl rfl), ?_⟩
    refine h_val 6 #[true, true, true, true, true, true, true] rfl (by kernel_rfl) hF rfl rfl rfl (fun w hS => e_assign hF rfl) (hM.pick [0] rfl rfl) ?_; intro a hF
    refine h_done rfl ?_
    refine then_n ?_
    refine wp_ret ?_
    refine blk_r ?_
    refine then_r ?_
    obtain rfl := some_some H
    refine s_ret [Value.int .i64 t5] hF Try.results64 ⟨rfl, trivial⟩ ?_
    exact ⟨_, rfl, hM.frm, rfl⟩
  ·
    refine s_cond_f hF rfl (decide_eq_false c2) ?_
    refine wp_seq ?_
    refine s_region ?_
    refine s_val hF rfl rfl rfl (e_eql hF rfl rfl) ?_; intro a hF
    refine s_val hF rfl rfl rfl (e_assign hF rfl) ?_; intro a hF
    refine s_nil ?_
    refine then_n ?_
    rcases ite_cases H with ⟨c7, H⟩ | ⟨c7, H⟩
    ·
      refine s_cond_t hF rfl (decide_eq_true c7) ?_
      refine wp_seq ?_
      obtain ⟨t8, h9, H⟩ := bind_some H
      obtain ⟨t10, h11, H⟩ := bind_some H
      refine s_held (fun w => Ms [] w0 w [boxR b1 [Pt.int a0.1, Pt.int a0.2] 25]) #[false, false, false, false, false, false, false] mixed rfl rfl hM ?_; intro w hf hM; clear hf
      refine h_val 0 #[true, false, false, false, false, false, false] rfl (by kernel_rfl) hF rfl rfl rfl (fun w hS => e_move hF rfl) (hM.pick [0] rfl rfl) ?_; intro a hF
      refine h_val 2 #[true, false, true, false, false, false, false] rfl (by kernel_rfl) hF rfl rfl rfl (fun w hS => e_fa hF rfl Try.underlying25 rfl Try.sizeOf3 rfl rfl) (hM.pick [0] rfl rfl) ?_; intro a hF
      refine h_val 3 #[true, false, true, true, false, false, false] rfl (by kernel_rfl) hF rfl rfl rfl (fun w hS => e_ld (i := 0) (k := 1) hF hS rfl rfl rfl rfl Try.isAgg3 rfl) (hM.pick [0] rfl rfl) ?_; intro a hF
      refine h_one 1 #[true, true, true, true, false, false, false] rfl (by kernel_rfl) ?_
      refine s_call hF rfl rfl rfl Try.call87 (impl_total.calls K l1 u1 (q1.frm hM.frm) t8 h9) ?_; intro a w v hF hf hR
      subst hR; have hM := hM.grow hf
      refine s_nil ⟨rfl, (hM.pick [0] rfl rfl), ?_⟩
      refine h_val 4 #[true, true, true, true, true, false, false] rfl (by kernel_rfl) hF rfl rfl rfl (fun w hS => e_eql hF rfl rfl) (hM.pick [0] rfl rfl) ?_; intro a hF
      refine h_one 5 #[true, true, true, true, true, true, false] rfl (by kernel_rfl) ?_
      refine s_call hF rfl rfl rfl Try.call90 (impl_truth.calls K (decide (t8 = a0.2)) t10 h11) ?_; intro a w v hF hf hR
      subst hR; have hM := hM.grow hf
      refine s_nil ⟨rfl, (hM.pick [0] rfl rfl), ?_⟩
      refine h_val 6 #[true, true, true, true, true, true, true] rfl (by kernel_rfl) hF rfl rfl rfl (fun w hS => e_assign hF rfl) (hM.pick [0] rfl rfl) ?_; intro a hF
      refine h_done rfl ?_
      refine then_n ?_
      refine wp_ret ?_
      refine blk_r ?_
      refine then_r ?_
      obtain rfl := some_some H
      refine s_ret [Value.int .i64 t10] hF Try.results64 ⟨rfl, trivial⟩ ?_
      exact ⟨_, rfl, hM.frm, rfl⟩
    ·
      refine s_cond_f hF rfl (decide_eq_false c7) ?_
      refine wp_seq ?_
      refine s_region ?_
      refine s_val hF rfl rfl rfl (e_eql hF rfl rfl) ?_; intro a hF
      refine s_val hF rfl rfl rfl (e_assign hF rfl) ?_; intro a hF
      refine s_nil ?_
      refine then_n ?_
      rcases ite_cases H with ⟨c12, H⟩ | ⟨c12, H⟩
      ·
        refine s_cond_t hF rfl (decide_eq_true c12) ?_
        refine wp_seq ?_
        obtain ⟨t13, h14, H⟩ := bind_some H
        refine s_region ?_
        refine s_val hF rfl rfl rfl (e_move hF rfl) ?_; intro a hF
        refine s_call hF rfl rfl rfl Try.call99 (slices_Max_int_int.calls K l1 u1 (q1.frm hM.frm) t13 h14) ?_; intro a w v hF hf hR
        subst hR; have hM := hM.grow hf
        refine s_val hF rfl rfl rfl (e_assign hF rfl) ?_; intro a hF
        refine s_nil ?_
        refine then_n ?_
        refine wp_ret ?_
        refine blk_r ?_
        refine then_r ?_
        obtain rfl := some_some H
        refine s_ret [Value.int .i64 t13] hF Try.results64 ⟨rfl, trivial⟩ ?_
        exact ⟨_, rfl, hM.frm, rfl⟩
      ·
        refine s_cond_f hF rfl (decide_eq_false c12) ?_
        refine wp_seq ?_
        refine s_region ?_
        refine s_val hF rfl rfl rfl (e_eql hF rfl rfl) ?_; intro a hF
        refine s_val hF rfl rfl rfl (e_assign hF rfl) ?_; intro a hF
        refine s_nil ?_
        refine then_n ?_
        rcases ite_cases H with ⟨c15, H⟩ | ⟨c15, H⟩
        ·
          refine s_cond_t hF rfl (decide_eq_true c15) ?_
          refine wp_seq ?_
          obtain ⟨t16, h17, H⟩ := bind_some H
          obtain ⟨t18, h19, H⟩ := bind_some H
          obtain ⟨t20, h21, H⟩ := bind_some H
          refine s_region ?_
          refine s_val hF rfl rfl rfl (e_move hF rfl) ?_; intro a hF
          refine s_call hF rfl rfl rfl Try.call99 (slices_Max_int_int.calls K l1 u1 (q1.frm hM.frm) t16 h17) ?_; intro a w v hF hf hR
          subst hR; have hM := hM.grow hf
          refine s_val hF rfl rfl rfl (e_move hF rfl) ?_; intro a hF
          refine s_call hF rfl rfl rfl Try.call100 (slices_Min_int_int.calls K l1 u1 (q1.frm hM.frm) t18 h19) ?_; intro a w v hF hf hR
          subst hR; have hM := hM.grow hf
          refine s_val hF rfl rfl rfl (e_eql hF rfl rfl) ?_; intro a hF
          refine s_call hF rfl rfl rfl Try.call90 (impl_truth.calls K (decide (t16 = t18)) t20 h21) ?_; intro a w v hF hf hR
          subst hR; have hM := hM.grow hf
          refine s_val hF rfl rfl rfl (e_assign hF rfl) ?_; intro a hF
          refine s_nil ?_
          refine then_n ?_
          refine wp_ret ?_
          refine blk_r ?_
          refine then_r ?_
          obtain rfl := some_some H
          refine s_ret [Value.int .i64 t20] hF Try.results64 ⟨rfl, trivial⟩ ?_
          exact ⟨_, rfl, hM.frm, rfl⟩
        ·
          refine s_cond_f hF rfl (decide_eq_false c15) ?_
          refine wp_skip ?_
          refine blk_n ?_
          refine then_n ?_
          refine wp_seq ?_
          obtain ⟨t22, h23, H⟩ := bind_some H
          refine s_region ?_
          refine s_val hF rfl rfl rfl (e_move hF rfl) ?_; intro a hF
          refine s_call hF rfl rfl rfl Try.call87 (impl_total.calls K l1 u1 (q1.frm hM.frm) t22 h23) ?_; intro a w v hF hf hR
          subst hR; have hM := hM.grow hf
          refine s_val hF rfl rfl rfl (e_assign hF rfl) ?_; intro a hF
          refine s_nil ?_
          refine then_n ?_
          refine wp_ret ?_
          obtain rfl := some_some H
          refine s_ret [Value.int .i64 t22] hF Try.results64 ⟨rfl, trivial⟩ ?_
          exact ⟨_, rfl, hM.frm, rfl⟩

/-! ### loop.example/g01210/impl.ScoreOf: function 23 -/
def impl_ScoreOf.f (K : Nat) (a0 : (Int × Int)) (l1 : (List Int)) : Option (Int × Bool) := (impl_IsGoal.f K a0).bind fun t2 => if t2 = true then ((impl_within.f K (l1.length : Int) 1 3).bind fun t5 => if t5 = true then ((impl_areAll_int__isFace.f K l1).bind fun t8 => if t8 = true then ((impl_Goal_score.f K a0 l1).bind fun t11 => some (t11, true)) else (some (0, false))) else (some (0, false))) else (some (0, false))
set_option maxRecDepth 100000 in
set_option maxHeartbeats 4000000 in
theorem impl_ScoreOf.calls {w0 : World} (K : Nat) (a0 : (Int × Int)) (l1 : (List Int)) (u1 : Value) (q1 : SlR cd3 w0 u1 l1) (r : (Int × Bool)) (H : impl_ScoreOf.f K a0 l1 = some r) : Calls Try.prog 23 [ag [Pt.int a0.1, Pt.int a0.2], u1].toArray w0 (Post w0 fun w v => v = Value.tuple #[Value.int .i64 r.1, Value.bool r.2]) := by
  rw [impl_ScoreOf.f] at H
  refine s_start Try.func23 rfl Try.ntmps23 rfl ?_
  intro a hF
  have hM := Ms.start w0
  skip
  refine wp_seq ?_
  refine s_region ?_
  refine s_box (ps := [Pt.int a0.1, Pt.int a0.2]) hF hM rfl rfl rfl rfl ?_; intro a w b1 hF hM
  refine s_val hF rfl rfl rfl (e_assign hF rfl) ?_; intro a hF
  refine s_val hF rfl rfl rfl (e_assign hF rfl) ?_; intro a hF
  refine s_nil ?_
  refine then_n ?_
  refine wp_seq ?_
  refine wp_seq ?_
  obtain ⟨t2, h3, H⟩ := bind_some H
  rcases ite_cases H with ⟨c4, H⟩ | ⟨c4, H⟩
  ·
    obtain ⟨t5, h6, H⟩ := bind_some H
    rcases ite_cases H with ⟨c7, H⟩ | ⟨c7, H⟩
    ·
      obtain ⟨t8, h9, H⟩ := bind_some H
      refine s_region ?_
      refine s_val hF rfl rfl rfl (e_lda (i := 0) 0 2 hF hM rfl rfl rfl rfl Try.isAgg25 Try.sizeOf25 rfl) ?_; intro a hF
      refine s_call hF rfl rfl rfl Try.call17 (impl_IsGoal.calls K a0 t2 h3) ?_; intro a w v hF hf hR
      subst hR; have hM := hM.grow hf
      refine s_val hF rfl rfl rfl (e_not hF rfl) ?_; intro a hF
      refine s_val hF rfl rfl rfl (e_move hF rfl) ?_; intro a hF
      have hF := hF.topb (congrArg Bool.not c4)
      refine s_val hF rfl rfl rfl (e_move hF rfl) ?_; intro a hF
      refine s_val hF rfl rfl rfl (e_len hF rfl (q1.frm hM.frm).toF Try.underlying33) ?_; intro a hF
      refine s_call hF rfl rfl rfl Try.call54 (impl_within.calls K (l1.length : Int) 1 3 t5 h6) ?_; intro a w v hF hf hR
      subst hR; have hM := hM.grow hf
      refine s_val hF rfl rfl rfl (e_not hF rfl) ?_; intro a hF
      refine s_val hF rfl rfl rfl (e_pick_f hF rfl rfl) ?_; intro a hF
      refine s_val hF rfl rfl rfl (e_move hF rfl) ?_; intro a hF
      have hF := hF.topb (congrArg Bool.not c7)
      refine s_val hF rfl rfl rfl (e_move hF rfl) ?_; intro a hF
      refine s_call hF rfl rfl rfl Try.call62 (impl_areAll_int__isFace.calls K l1 u1 (q1.frm hM.frm) t8 h9) ?_; intro a w v hF hf hR
      subst hR; have hM := hM.grow hf
      refine s_val hF rfl rfl rfl (e_not hF rfl) ?_; intro a hF
      refine s_val hF rfl rfl rfl (e_pick_f hF rfl rfl) ?_; intro a hF
      refine s_nil ?_
      refine then_n ?_
      rcases ite_cases H with ⟨c10, H⟩ | ⟨c10, H⟩
      ·
        refine s_cond_f hF rfl (congrArg Bool.not c10) ?_
        refine wp_skip ?_
        refine then_n ?_
        refine wp_seq ?_
        obtain ⟨t11, h12, H⟩ := bind_some H
        refine s_region ?_
        refine s_val hF rfl rfl rfl (e_lda (i := 0) 0 2 hF hM rfl rfl rfl rfl Try.isAgg25 Try.sizeOf25 rfl) ?_; intro a hF
        refine s_val hF rfl rfl rfl (e_move hF rfl) ?_; intro a hF
        refine s_call hF rfl rfl rfl Try.call64 (impl_Goal_score.calls K a0 l1 u1 (q1.frm hM.frm) t11 h12) ?_; intro a w v hF hf hR
        subst hR; have hM := hM.grow hf
        refine s_val hF rfl rfl rfl (e_assign hF rfl) ?_; intro a hF
        refine s_val hF rfl rfl rfl (e_assign hF rfl) ?_; intro a hF
        refine s_nil ?_
        refine then_n ?_
        refine wp_ret ?_
        obtain rfl := some_some H
        refine s_ret [Value.int .i64 t11, Value.bool true] hF Try.results23 ⟨rfl, rfl, trivial⟩ ?_
        exact ⟨_, rfl, hM.frm, rfl⟩
      ·
        refine s_cond_t hF rfl (congrArg Bool.not (bf c10)) ?_
        refine wp_seq ?_
        refine s_region ?_
        refine s_val hF rfl rfl rfl (e_assign hF rfl) ?_; intro a hF
        refine s_val hF rfl rfl rfl (e_assign hF rfl) ?_; intro a hF
        refine s_nil ?_
        refine then_n ?_
        refine wp_ret ?_
        refine then_r ?_
        obtain rfl := some_some H
        refine s_ret [Value.int .i64 0, Value.bool false] hF Try.results23 ⟨rfl, rfl, trivial⟩ ?_
        exact ⟨_, rfl, hM.frm, rfl⟩
    ·
      refine s_region ?_
      refine s_val hF rfl rfl rfl (e_lda (i := 0) 0 2 hF hM rfl rfl rfl rfl Try.isAgg25 Try.sizeOf25 rfl) ?_; intro a hF
      refine s_call hF rfl rfl rfl Try.call17 (impl_IsGoal.calls K a0 t2 h3) ?_; intro a w v hF hf hR
      subst hR; have hM := hM.grow hf
      refine s_val hF rfl rfl rfl (e_not hF rfl) ?_; intro a hF
      refine s_val hF rfl rfl rfl (e_move hF rfl) ?_; intro a hF
      have hF := hF.topb (congrArg Bool.not c4)
      refine s_val hF rfl rfl rfl (e_move hF rfl) ?_; intro a hF
      refine s_val hF rfl rfl rfl (e_len hF rfl (q1.frm hM.frm).toF Try.underlying33) ?_; intro a hF
      refine s_call hF rfl rfl rfl Try.call54 (impl_within.calls K (l1.length : Int) 1 3 t5 h6) ?_; intro a w v hF hf hR
      subst hR; have hM := hM.grow hf
      refine s_val hF rfl rfl rfl (e_not hF rfl) ?_; intro a hF
      refine s_val hF rfl rfl rfl (e_pick_f hF rfl rfl) ?_; intro a hF
      refine s_val hF rfl rfl rfl (e_move hF rfl) ?_; intro a hF
      have hF := hF.topb (congrArg Bool.not (bf c7))
      refine s_skip hF rfl rfl rfl ?_; intro a hF
      refine s_skip hF rfl rfl rfl ?_; intro a hF
      refine s_skip hF rfl rfl rfl ?_; intro a hF
      refine s_val hF rfl rfl rfl (e_pick_t hF rfl rfl) ?_; intro a hF
      refine s_nil ?_
      refine then_n ?_
      refine s_cond_t hF rfl rfl ?_
      refine wp_seq ?_
      refine s_region ?_
      refine s_val hF rfl rfl rfl (e_assign hF rfl) ?_; intro a hF
      refine s_val hF rfl rfl rfl (e_assign hF rfl) ?_; intro a hF
      refine s_nil ?_
      refine then_n ?_
      refine wp_ret ?_
      refine then_r ?_
      obtain rfl := some_some H
      refine s_ret [Value.int .i64 0, Value.bool false] hF Try.results23 ⟨rfl, rfl, trivial⟩ ?_
      exact ⟨_, rfl, hM.frm, rfl⟩
  ·
    refine s_region ?_
    refine s_val hF rfl rfl rfl (e_lda (i := 0) 0 2 hF hM rfl rfl rfl rfl Try.isAgg25 Try.sizeOf25 rfl) ?_; intro a hF
    refine s_call hF rfl rfl rfl Try.call17 (impl_IsGoal.calls K a0 t2 h3) ?_; intro a w v hF hf hR
    subst hR; have hM := hM.grow hf
    refine s_val hF rfl rfl rfl (e_not hF rfl) ?_; intro a hF
    refine s_val hF rfl rfl rfl (e_move hF rfl) ?_; intro a hF
    have hF := hF.topb (congrArg Bool.not (bf c4))
    refine s_skip hF rfl rfl rfl ?_; intro a hF
    refine s_skip hF rfl rfl rfl ?_; intro a hF
    refine s_skip hF rfl rfl rfl ?_; intro a hF
    refine s_skip hF rfl rfl rfl ?_; intro a hF
    refine s_val hF rfl rfl rfl (e_pick_t hF rfl rfl) ?_; intro a hF
    refine s_val hF rfl rfl rfl (e_move hF rfl) ?_; intro a hF
    refine s_skip hF rfl rfl rfl ?_; intro a hF
    refine s_skip hF rfl rfl rfl ?_; intro a hF
    refine s_skip hF rfl rfl rfl ?_; intro a hF
    refine s_val hF rfl rfl rfl (e_pick_t hF rfl rfl) ?_; intro a hF
    refine s_nil ?_
    refine then_n ?_
    refine s_cond_t hF rfl rfl ?_
    refine wp_seq ?_
    refine s_region ?_
    refine s_val hF rfl rfl rfl (e_assign hF rfl) ?_; intro a hF
    refine s_val hF rfl rfl rfl (e_assign hF rfl) ?_; intro a hF
    refine s_nil ?_
    refine then_n ?_
    refine wp_ret ?_
    refine then_r ?_
    obtain rfl := some_some H
    refine s_ret [Value.int .i64 0, Value.bool false] hF Try.results23 ⟨rfl, rfl, trivial⟩ ?_
    exact ⟨_, rfl, hM.frm, rfl⟩

/-! ### loop.example/g01210/laws.eqIntS: function 24 -/
def laws_eqIntS.l0 (K : Nat) (l0 : (List Int)) (l1 : (List Int)) : Nat → Int → Option (Sum Unit Bool)
  | 0, _ => none
  | k + 1, x11 => if x11 < (l0.length : Int) then (if (0 : Int) ≤ x11 ∧ x11 < (l0.length : Int) then (if (0 : Int) ≤ x11 ∧ x11 < (l1.length : Int) then (if (l0.getD (x11 : Int).toNat (0 : Int)) = (l1.getD (x11 : Int).toNat (0 : Int)) then (laws_eqIntS.l0 K l0 l1 k (wrap64 (x11 + 1))) else (some (Sum.inr false))) else none) else none) else (some (Sum.inl ()))
def laws_eqIntS.f (K : Nat) (l0 : (List Int)) (l1 : (List Int)) : Option Bool := if (l0.length : Int) = (l1.length : Int) then ((laws_eqIntS.l0 K l0 l1 K 0).bind fun o18 => (match o18 with | .inl () => some true | .inr r20 => some r20)) else (some false)
set_option maxRecDepth 100000 in
set_option maxHeartbeats 4000000 in
theorem laws_eqIntS.calls {w0 : World} (K : Nat) (l0 : (List Int)) (u0 : Value) (q0 : SlR cd3 w0 u0 l0) (l1 : (List Int)) (u1 : Value) (q1 : SlR cd3 w0 u1 l1) (r : Bool) (H : laws_eqIntS.f K l0 l1 = some r) : Calls Try.prog 24 [u0, u1].toArray w0 (Post w0 fun w v => v = Value.bool r) := by
  rw [laws_eqIntS.f] at H
  refine s_start Try.func24 rfl Try.ntmps24 rfl ?_
  intro a hF
  have hM := Ms.start w0
  skip
  refine wp_seq ?_
  refine s_region ?_
  refine s_val hF rfl rfl rfl (e_assign hF rfl) ?_; intro a hF
  refine s_nil ?_
  refine then_n ?_
  refine wp_seq ?_
  refine wp_seq ?_
  refine s_region ?_
  refine s_val hF rfl rfl rfl (e_move hF rfl) ?_; intro a hF
  refine s_val hF rfl rfl rfl (e_len hF rfl (q0.frm hM.frm).toF Try.underlying33) ?_; intro a hF
  refine s_val hF rfl rfl rfl (e_move hF rfl) ?_; intro a hF
  refine s_val hF rfl rfl rfl (e_len hF rfl (q1.frm hM.frm).toF Try.underlying33) ?_; intro a hF
  refine s_val hF rfl rfl rfl (e_neq hF rfl rfl) ?_; intro a hF
  refine s_nil ?_
  refine then_n ?_
  rcases ite_cases H with ⟨c1, H⟩ | ⟨c1, H⟩
  ·
    refine s_cond_f hF rfl (congrArg Bool.not (decide_eq_true c1)) ?_
    refine wp_skip ?_
    refine then_n ?_
    refine wp_seq ?_
    refine wp_seq ?_
    refine s_region ?_
    refine s_val hF rfl rfl rfl (e_assign hF rfl) ?_; intro a hF
    refine s_nil ?_
    refine then_n ?_
    refine wp_block ?_
    obtain ⟨o18, h19, H⟩ := bind_some H
    refine wp_mono (Q := fun e a w => (e = Exit.exit 0 ∧ Sum.inl () = o18 ∧ Fr 26 a [] ∧ Ms [] w0 w []) ∨ (e = Exit.ret ∧ ∃ r20 : Bool, Sum.inr r20 = o18 ∧ Fr 26 a [(4, Value.bool r20)] ∧ Ms [] w0 w [])) ?_ ?_
    · refine s_loop (fun kq a w => ∃ x11 : Int, laws_eqIntS.l0 K l0 l1 kq x11 = some o18 ∧ Fr 26 a [(0, u0), (1, u1), (5, Value.int .i64 x11)] ∧ Ms [] w0 w []) K ⟨0, h19, hF.sub _ ⟨rfl, rfl, rfl, trivial⟩, hM.pick [] rfl rfl⟩ ?_ ?_
      · rintro a w ⟨_, H, _⟩; exact none_some H
      · rintro k a w ⟨x11, H, hF, hM⟩; rw [laws_eqIntS.l0] at H
        refine wp_seq ?_
        refine wp_seq ?_
        refine s_region ?_
        refine s_val hF rfl rfl rfl (e_move hF rfl) ?_; intro a hF
        refine s_val hF rfl rfl rfl (e_move hF rfl) ?_; intro a hF
        refine s_val hF rfl rfl rfl (e_len hF rfl (q0.frm hM.frm).toF Try.underlying33) ?_; intro a hF
        refine s_val hF rfl rfl rfl (e_lss hF rfl rfl) ?_; intro a hF
        refine s_nil ?_
        refine then_n ?_
        rcases ite_cases H with ⟨c12, H⟩ | ⟨c12, H⟩
        ·
          refine s_cond_t hF rfl (decide_eq_true c12) ?_
          refine wp_skip ?_
          refine then_n ?_
          refine wp_seq ?_
          refine wp_block ?_
          refine wp_seq ?_
          obtain ⟨c13, H⟩ := ite_some H
          obtain ⟨c14, H⟩ := ite_some H
          refine s_held (fun w => Ms [] w0 w []) #[false, false, false, false, false, false, false, false, false] mixed rfl rfl hM ?_; intro w hf hM; clear hf
          refine h_val 0 #[true, false, false, false, false, false, false, false, false] rfl (by kernel_rfl) hF rfl rfl rfl (fun w hS => e_move hF rfl) (hM.pick [] rfl rfl) ?_; intro a hF
          refine h_val 1 #[true, true, false, false, false, false, false, false, false] rfl (by kernel_rfl) hF rfl rfl rfl (fun w hS => e_move hF rfl) (hM.pick [] rfl rfl) ?_; intro a hF
          have f15 := (q0.frm hM.frm).toF
          refine h_val 2 #[true, true, true, false, false, false, false, false, false] rfl (by kernel_rfl) hF rfl rfl rfl (fun w hS => e_ias cd3 hF rfl rfl f15 Try.underlying33 Try.sizeOf3 c13.1 c13.2) (hM.pick [] rfl rfl) ?_; intro a hF
          refine h_val 3 #[true, true, true, true, false, false, false, false, false] rfl (by kernel_rfl) hF rfl rfl rfl (fun w hS => e_lds (m := x11) hF rfl (q0.frm hS.frm) (getD_some (z := (0 : Int)) c13.1 c13.2) rfl rfl Try.isAgg3) (hM.pick [] rfl rfl) ?_; intro a hF
          refine h_val 4 #[true, true, true, true, true, false, false, false, false] rfl (by kernel_rfl) hF rfl rfl rfl (fun w hS => e_move hF rfl) (hM.pick [] rfl rfl) ?_; intro a hF
          refine h_val 5 #[true, true, true, true, true, true, false, false, false] rfl (by kernel_rfl) hF rfl rfl rfl (fun w hS => e_move hF rfl) (hM.pick [] rfl rfl) ?_; intro a hF
          have f16 := (q1.frm hM.frm).toF
          refine h_val 6 #[true, true, true, true, true, true, true, false, false] rfl (by kernel_rfl) hF rfl rfl rfl (fun w hS => e_ias cd3 hF rfl rfl f16 Try.underlying33 Try.sizeOf3 c14.1 c14.2) (hM.pick [] rfl rfl) ?_; intro a hF
          refine h_val 7 #[true, true, true, true, true, true, true, true, false] rfl (by kernel_rfl) hF rfl rfl rfl (fun w hS => e_lds (m := x11) hF rfl (q1.frm hS.frm) (getD_some (z := (0 : Int)) c14.1 c14.2) rfl rfl Try.isAgg3) (hM.pick [] rfl rfl) ?_; intro a hF
          refine h_val 8 #[true, true, true, true, true, true, true, true, true] rfl (by kernel_rfl) hF rfl rfl rfl (fun w hS => e_neq hF rfl rfl) (hM.pick [] rfl rfl) ?_; intro a hF
          refine h_done rfl ?_
          refine then_n ?_
          rcases ite_cases H with ⟨c17, H⟩ | ⟨c17, H⟩
          ·
            refine s_cond_f hF rfl (congrArg Bool.not (decide_eq_true c17)) ?_
            refine wp_skip ?_
            refine blk_n ?_
            refine then_n ?_
            refine s_region ?_
            refine s_val hF rfl rfl rfl (e_move hF rfl) ?_; intro a hF
            refine s_val hF rfl rfl rfl (e_add hF rfl rfl) ?_; intro a hF
            refine s_val hF rfl rfl rfl (e_assign hF rfl) ?_; intro a hF
            refine s_nil ?_
            refine then_n ?_
            exact ⟨(wrap64 (x11 + 1)), H, hF.sub _ ⟨rfl, rfl, rfl, trivial⟩, hM.pick [] rfl rfl⟩
          ·
            refine s_cond_t hF rfl (congrArg Bool.not (decide_eq_false c17)) ?_
            refine wp_seq ?_
            refine s_region ?_
            refine s_val hF rfl rfl rfl (e_assign hF rfl) ?_; intro a hF
            refine s_nil ?_
            refine then_n ?_
            refine wp_ret ?_
            refine blk_r ?_
            refine then_r ?_
            refine then_r ?_
            exact Or.inr (⟨rfl, false, some_some H, hF.sub _ ⟨rfl, trivial⟩, hM.pick [] rfl rfl⟩)
        ·
          refine s_cond_f hF rfl (decide_eq_false c12) ?_
          refine wp_exit ?_
          refine then_x ?_
          refine then_x ?_
          exact Or.inl (⟨rfl, some_some H, hF.sub _ trivial, hM.pick [] rfl rfl⟩)
    · rintro e a w (⟨rfl, rfl, hF, hM⟩ | ⟨rfl, r20, rfl, hF, hM⟩)
      ·
        dsimp only at H
        refine blk_x ?_
        refine then_n ?_
        refine wp_seq ?_
        refine s_region ?_
        refine s_val hF rfl rfl rfl (e_assign hF rfl) ?_; intro a hF
        refine s_nil ?_
        refine then_n ?_
        refine wp_ret ?_
        obtain rfl := some_some H
        refine s_ret [Value.bool true] hF Try.results24 ⟨rfl, trivial⟩ ?_
        exact ⟨_, rfl, hM.frm, rfl⟩
      ·
        dsimp only at H
        refine blk_r ?_
        refine then_r ?_
        obtain rfl := some_some H
        refine s_ret [Value.bool r20] hF Try.results24 ⟨rfl, trivial⟩ ?_
        exact ⟨_, rfl, hM.frm, rfl⟩
  ·
    refine s_cond_t hF rfl (congrArg Bool.not (decide_eq_false c1)) ?_
    refine wp_seq ?_
    refine s_region ?_
    refine s_val hF rfl rfl rfl (e_assign hF rfl) ?_; intro a hF
    refine s_nil ?_
    refine then_n ?_
    refine wp_ret ?_
    refine then_r ?_
    obtain rfl := some_some H
    refine s_ret [Value.bool false] hF Try.results24 ⟨rfl, trivial⟩ ?_
    exact ⟨_, rfl, hM.frm, rfl⟩

/-! ### loop.example/g01210/laws.FnExactScoreOf: function 5 -/
def laws_FnExactScoreOf.f (K : Nat) (a0 : (Int × Int)) (l1 : (List Int)) : Option Bool := if 1048576 < (l1.length : Int) then (some true) else ((laws_toGoal.f K a0).bind fun t3 => (laws_toIntS.f K l1).bind fun t5 => (spec_ScoreOf.f K t3 t5).bind fun t8 => (laws_toIntS.f K l1).bind fun t10 => (laws_toGoal.f K a0).bind fun t13 => (impl_ScoreOf.f K t13 t10).bind fun t15 => if t15.1 = t8.1 then (if (t15.2 == t8.2) = true then ((laws_toIntS.f K l1).bind fun t19 => (laws_eqIntS.f K t10 t19).bind fun t22 => if t22 = true then (some true) else (some false)) else (some false)) else (some false))
set_option maxRecDepth 100000 in
set_option maxHeartbeats 4000000 in
theorem laws_FnExactScoreOf.calls {w0 : World} (K : Nat) (a0 : (Int × Int)) (l1 : (List Int)) (u1 : Value) (q1 : SlR cd3 w0 u1 l1) (r : Bool) (H : laws_FnExactScoreOf.f K a0 l1 = some r) : Calls Try.prog 5 [ag [Pt.int a0.1, Pt.int a0.2], u1].toArray w0 (Post w0 fun w v => v = Value.bool r) := by
  rw [laws_FnExactScoreOf.f] at H
  refine s_start Try.func5 rfl Try.ntmps5 rfl ?_
  intro a hF
  have hM := Ms.start w0
  skip
  refine wp_seq ?_
  refine s_region ?_
  refine s_box (ps := [Pt.int a0.1, Pt.int a0.2]) hF hM rfl rfl rfl rfl ?_; intro a w b1 hF hM
  refine s_val hF rfl rfl rfl (e_assign hF rfl) ?_; intro a hF
  refine s_nil ?_
  refine then_n ?_
  refine wp_seq ?_
  refine wp_seq ?_
  refine s_region ?_
  refine s_val hF rfl rfl rfl (e_move hF rfl) ?_; intro a hF
  refine s_val hF rfl rfl rfl (e_len hF rfl (q1.frm hM.frm).toF Try.underlying33) ?_; intro a hF
  refine s_val hF rfl rfl rfl (e_gtr hF rfl rfl) ?_; intro a hF
  refine s_nil ?_
  refine then_n ?_
  rcases ite_cases H with ⟨c2, H⟩ | ⟨c2, H⟩
  ·
    refine s_cond_t hF rfl (decide_eq_true c2) ?_
    refine wp_seq ?_
    refine s_region ?_
    refine s_val hF rfl rfl rfl (e_assign hF rfl) ?_; intro a hF
    refine s_nil ?_
    refine then_n ?_
    refine wp_ret ?_
    refine then_r ?_
    obtain rfl := some_some H
    refine s_ret [Value.bool true] hF Try.results5 ⟨rfl, trivial⟩ ?_
    exact ⟨_, rfl, hM.frm, rfl⟩
  ·
    refine s_cond_f hF rfl (decide_eq_false c2) ?_
    refine wp_skip ?_
    refine then_n ?_
    refine wp_seq ?_
    obtain ⟨t3, h4, H⟩ := bind_some H
    obtain ⟨t5, h6, H⟩ := bind_some H
    obtain ⟨t8, h9, H⟩ := bind_some H
    refine s_region ?_
    refine s_val hF rfl rfl rfl (e_lda (i := 0) 0 2 hF hM rfl rfl rfl rfl Try.isAgg23 Try.sizeOf23 rfl) ?_; intro a hF
    refine s_call hF rfl rfl rfl Try.call16 (laws_toGoal.calls K a0 t3 h4) ?_; intro a w v hF hf hR
    subst hR; have hM := hM.grow hf
    refine s_val hF rfl rfl rfl (e_move hF rfl) ?_; intro a hF
    refine s_call hF rfl rfl rfl Try.call22 (laws_toIntS.calls K l1 u1 (q1.frm hM.frm) t5 h6) ?_; intro a w v7 hF hf hR
    have hM := hM.fresh hf hR
    refine s_call hF rfl rfl rfl Try.call21 (spec_ScoreOf.calls K t3 t5 v7 (hM.sl 0 rfl) t8 h9) ?_; intro a w v hF hf hR
    subst hR; have hM := hM.grow hf
    refine s_val hF rfl rfl rfl (e_move hF rfl) ?_; intro a hF
    refine s_val hF rfl rfl rfl (e_extract hF rfl rfl) ?_; intro a hF
    refine s_val hF rfl rfl rfl (e_extract hF rfl rfl) ?_; intro a hF
    refine s_val hF rfl rfl rfl (e_assign hF rfl) ?_; intro a hF
    refine s_val hF rfl rfl rfl (e_assign hF rfl) ?_; intro a hF
    refine s_nil ?_
    refine then_n ?_
    refine wp_seq ?_
    obtain ⟨t10, h11, H⟩ := bind_some H
    refine s_region ?_
    refine s_val hF rfl rfl rfl (e_move hF rfl) ?_; intro a hF
    refine s_call hF rfl rfl rfl Try.call22 (laws_toIntS.calls K l1 u1 (q1.frm hM.frm) t10 h11) ?_; intro a w v12 hF hf hR
    have hM := hM.fresh hf hR
    refine s_val hF rfl rfl rfl (e_assign hF rfl) ?_; intro a hF
    refine s_nil ?_
    refine then_n ?_
    refine wp_seq ?_
    obtain ⟨t13, h14, H⟩ := bind_some H
    obtain ⟨t15, h16, H⟩ := bind_some H
    refine s_region ?_
    refine s_val hF rfl rfl rfl (e_lda (i := 2) 0 2 hF hM rfl rfl rfl rfl Try.isAgg23 Try.sizeOf23 rfl) ?_; intro a hF
    refine s_call hF rfl rfl rfl Try.call16 (laws_toGoal.calls K a0 t13 h14) ?_; intro a w v hF hf hR
    subst hR; have hM := hM.grow hf
    refine s_val hF rfl rfl rfl (e_move hF rfl) ?_; intro a hF
    refine s_call hF rfl rfl rfl Try.call23 (impl_ScoreOf.calls K t13 t10 v12 (hM.sl 0 rfl) t15 h16) ?_; intro a w v hF hf hR
    subst hR; have hM := hM.grow hf
    refine s_val hF rfl rfl rfl (e_move hF rfl) ?_; intro a hF
    refine s_val hF rfl rfl rfl (e_extract hF rfl rfl) ?_; intro a hF
    refine s_val hF rfl rfl rfl (e_extract hF rfl rfl) ?_; intro a hF
    refine s_val hF rfl rfl rfl (e_assign hF rfl) ?_; intro a hF
    refine s_val hF rfl rfl rfl (e_assign hF rfl) ?_; intro a hF
    refine s_nil ?_
    refine then_n ?_
    refine wp_seq ?_
    refine wp_seq ?_
    rcases ite_cases H with ⟨c17, H⟩ | ⟨c17, H⟩
    ·
      refine s_region ?_
      refine s_val hF rfl rfl rfl (e_move hF rfl) ?_; intro a hF
      refine s_val hF rfl rfl rfl (e_move hF rfl) ?_; intro a hF
      refine s_val hF rfl rfl rfl (e_neq hF rfl rfl) ?_; intro a hF
      refine s_val hF rfl rfl rfl (e_move hF rfl) ?_; intro a hF
      have hF := hF.topb (congrArg Bool.not (decide_eq_true c17))
      refine s_val hF rfl rfl rfl (e_move hF rfl) ?_; intro a hF
      refine s_val hF rfl rfl rfl (e_move hF rfl) ?_; intro a hF
      refine s_val hF rfl rfl rfl (e_bneq hF rfl rfl Try.underlying4) ?_; intro a hF
      refine s_val hF rfl rfl rfl (e_pick_f hF rfl rfl) ?_; intro a hF
      refine s_nil ?_
      refine then_n ?_
      rcases ite_cases H with ⟨c18, H⟩ | ⟨c18, H⟩
      ·
        refine s_cond_f hF rfl (congrArg Bool.not c18) ?_
        refine wp_skip ?_
        refine then_n ?_
        refine wp_seq ?_
        refine wp_seq ?_
        obtain ⟨t19, h20, H⟩ := bind_some H
        obtain ⟨t22, h23, H⟩ := bind_some H
        refine s_region ?_
        refine s_val hF rfl rfl rfl (e_move hF rfl) ?_; intro a hF
        refine s_val hF rfl rfl rfl (e_move hF rfl) ?_; intro a hF
        refine s_call hF rfl rfl rfl Try.call22 (laws_toIntS.calls K l1 u1 (q1.frm hM.frm) t19 h20) ?_; intro a w v21 hF hf hR
        have hM := hM.fresh hf hR
        refine s_call hF rfl rfl rfl Try.call24 (laws_eqIntS.calls K t10 v12 (hM.sl 1 rfl) t19 v21 (hM.sl 0 rfl) t22 h23) ?_; intro a w v hF hf hR
        subst hR; have hM := hM.grow hf
        refine s_val hF rfl rfl rfl (e_not hF rfl) ?_; intro a hF
        refine s_nil ?_
        refine then_n ?_
        rcases ite_cases H with ⟨c24, H⟩ | ⟨c24, H⟩
        ·
          refine s_cond_f hF rfl (congrArg Bool.not c24) ?_
          refine wp_skip ?_
          refine then_n ?_
          refine wp_seq ?_
          refine s_region ?_
          refine s_val hF rfl rfl rfl (e_assign hF rfl) ?_; intro a hF
          refine s_nil ?_
          refine then_n ?_
          refine wp_ret ?_
          obtain rfl := some_some H
          refine s_ret [Value.bool true] hF Try.results5 ⟨rfl, trivial⟩ ?_
          exact ⟨_, rfl, hM.frm, rfl⟩
        ·
          refine s_cond_t hF rfl (congrArg Bool.not (bf c24)) ?_
          refine wp_seq ?_
          refine s_region ?_
          refine s_val hF rfl rfl rfl (e_assign hF rfl) ?_; intro a hF
          refine s_nil ?_
          refine then_n ?_
          refine wp_ret ?_
          refine then_r ?_
          obtain rfl := some_some H
          refine s_ret [Value.bool false] hF Try.results5 ⟨rfl, trivial⟩ ?_
          exact ⟨_, rfl, hM.frm, rfl⟩
      ·
        refine s_cond_t hF rfl (congrArg Bool.not (bf c18)) ?_
        refine wp_seq ?_
        refine s_region ?_
        refine s_val hF rfl rfl rfl (e_assign hF rfl) ?_; intro a hF
        refine s_nil ?_
        refine then_n ?_
        refine wp_ret ?_
        refine then_r ?_
        obtain rfl := some_some H
        refine s_ret [Value.bool false] hF Try.results5 ⟨rfl, trivial⟩ ?_
        exact ⟨_, rfl, hM.frm, rfl⟩
    ·
      refine s_region ?_
      refine s_val hF rfl rfl rfl (e_move hF rfl) ?_; intro a hF
      refine s_val hF rfl rfl rfl (e_move hF rfl) ?_; intro a hF
      refine s_val hF rfl rfl rfl (e_neq hF rfl rfl) ?_; intro a hF
      refine s_val hF rfl rfl rfl (e_move hF rfl) ?_; intro a hF
      have hF := hF.topb (congrArg Bool.not (decide_eq_false c17))
      refine s_skip hF rfl rfl rfl ?_; intro a hF
      refine s_skip hF rfl rfl rfl ?_; intro a hF
      refine s_skip hF rfl rfl rfl ?_; intro a hF
      refine s_val hF rfl rfl rfl (e_pick_t hF rfl rfl) ?_; intro a hF
      refine s_nil ?_
      refine then_n ?_
      refine s_cond_t hF rfl rfl ?_
      refine wp_seq ?_
      refine s_region ?_
      refine s_val hF rfl rfl rfl (e_assign hF rfl) ?_; intro a hF
      refine s_nil ?_
      refine then_n ?_
      refine wp_ret ?_
      refine then_r ?_
      obtain rfl := some_some H
      refine s_ret [Value.bool false] hF Try.results5 ⟨rfl, trivial⟩ ?_
      exact ⟨_, rfl, hM.frm, rfl⟩

end Go.Proofs.Ytlbedonjfihldaa.WScoreOf

/- The walk through the code that the statement reaches: what each function computes. Conditions: none but those in each line. -/
import Derived.Test.YtlbedonjfihldaaWCountKepta
namespace Go.Proofs.Ytlbedonjfihldaa.WCountKept
open Go.K Go.RowKit
set_option linter.unusedVariables false
set_option linter.unusedSimpArgs false

/-! ### (loop.example/g01210/impl.Goal).score: function 64 -/
def impl_Goal_score.f (K : Nat) (a0 : (Int × Int)) (l1 : (List Int)) : Option Int := if a0.1 = 2 then ((impl_total.f K l1).bind fun t3 => (impl_truth.f K (decide (a0.2 ≤ t3))).bind fun t5 => some t5) else (if a0.1 = 3 then ((impl_total.f K l1).bind fun t8 => (impl_truth.f K (decide (t8 = a0.2))).bind fun t10 => some t10) else (if a0.1 = 4 then ((slices_Max_int_int.f K l1).bind fun t13 => some t13) else (if a0.1 = 5 then ((slices_Max_int_int.f K l1).bind fun t16 => (slices_Min_int_int.f K l1).bind fun t18 => (impl_truth.f K (decide (t16 = t18))).bind fun t20 => some t20) else ((impl_total.f K l1).bind fun t22 => some t22))))
set_option maxRecDepth 100000 in
set_option maxHeartbeats 4000000 in
theorem impl_Goal_score.calls {w0 : World} (K : Nat) (a0 : (Int × Int)) (l1 : (List Int)) (u1 : Value) (q1 : SlR cd3 w0 u1 l1) (r : Int) (H : impl_Goal_score.f K a0 l1 = some r) : Calls Try.prog 64 [ag [Pt.int a0.1, Pt.int a0.2], u1].toArray w0 (Post w0 fun w v => v = Value.int .i64 r) := by
  rw [impl_Goal_score.f] at H
  refine s_start Try.func64 rfl Try.ntmps64 rfl ?_
  intro a hF
  have hM := Ms.start w0
  skip
  refine wp_seq ?_
  refine s_region ?_
  refine s_box (ps := [Pt.int a0.1, Pt.int a0.2]) hF hM rfl rfl rfl rfl ?_; intro a w b1 hF hM
  refine s_val hF rfl rfl rfl (e_assign hF rfl) ?_; intro a hF
  refine s_nil ?_
  refine then_n ?_
  refine wp_seq ?_
  refine wp_seq ?_
  refine s_region ?_
  refine s_val hF rfl rfl rfl (e_fa hF rfl Try.underlying25 rfl Try.sizeOf3 rfl rfl) ?_; intro a hF
  refine s_val hF rfl rfl rfl (e_ld (i := 0) (k := 0) hF hM rfl rfl rfl rfl Try.isAgg3 rfl) ?_; intro a hF
  refine s_nil ?_
  refine then_n ?_
  refine wp_block ?_
  refine wp_seq ?_
  refine s_region ?_
  refine s_val hF rfl rfl rfl (e_eql hF rfl rfl) ?_; intro a hF
  refine s_val hF rfl rfl rfl (e_assign hF rfl) ?_; intro a hF
  refine s_nil ?_
  refine then_n ?_
  rcases ite_cases H with ⟨c2, H⟩ | ⟨c2, H⟩
  ·
    refine s_cond_t hF rfl (decide_eq_true c2) ?_
    refine wp_seq ?_
    obtain ⟨t3, h4, H⟩ := bind_some H
    obtain ⟨t5, h6, H⟩ := bind_some H
    refine s_held (fun w => Ms [] w0 w [boxR b1 [Pt.int a0.1, Pt.int a0.2] 25]) #[false, false, false, false, false, false, false] mixed rfl rfl hM ?_; intro w hf hM; clear hf
    refine h_val 0 #[true, false, false, false, false, false, false] rfl (by kernel_rfl) hF rfl rfl rfl (fun w hS => e_move hF rfl) (hM.pick [0] rfl rfl) ?_; intro a hF
    refine h_val 2 #[true, false, true, false, false, false, false] rfl (by kernel_rfl) hF rfl rfl rfl (fun w hS => e_fa hF rfl Try.underlying25 rfl Try.sizeOf3 rfl rfl) (hM.pick [0] rfl rfl) ?_; intro a hF
    refine h_val 3 #[true, false, true, true, false, false, false] rfl (by kernel_rfl) hF rfl rfl rfl (fun w hS => e_ld (i := 0) (k := 1) hF hS rfl rfl rfl rfl Try.isAgg3 rfl) (hM.pick [0] rfl rfl) ?_; intro a hF
    refine h_one 1 #[true, true, true, true, false, false, false] rfl (by kernel_rfl) ?_
    refine s_call hF rfl rfl rfl Try.call87 (impl_total.calls K l1 u1 (q1.frm hM.frm) t3 h4) ?_; intro a w v hF hf hR
    subst hR; have hM := hM.grow hf
    refine s_nil ⟨rfl, (hM.pick [0] rfl rfl), ?_⟩
    refine h_val 4 #[true, true, true, true, true, false, false] rfl (by kernel_rfl) hF rfl rfl rfl (fun w hS => e_geq hF rfl rfl) (hM.pick [0] rfl rfl) ?_; intro a hF
    refine h_one 5 #[true, true, true, true, true, true, false] rfl (by kernel_rfl) ?_
    refine s_call hF rfl rfl rfl Try.call90 (impl_truth.calls K (decide (a0.2 ≤ t3)) t5 h6) ?_; intro a w v hF hf hR
    subst hR; have hM := hM.grow hf
    refine s_nil ⟨rfl, (hM.pick [0] rfl rfl), ?_⟩
    refine h_val 6 #[true, true, true, true, true, true, true] rfl (by kernel_rfl) hF rfl rfl rfl (fun w hS => e_assign hF rfl) (hM.pick [0] rfl rfl) ?_; intro a hF
    refine h_done rfl ?_
    refine then_n ?_
    refine wp_ret ?_
    refine blk_r ?_
    refine then_r ?_
    obtain rfl := some_some H
    refine s_ret [Value.int .i64 t5] hF Try.results64 ⟨rfl, trivial⟩ ?_
    exact ⟨_, rfl, hM.frm, rfl⟩
  ·
    refine s_cond_f hF rfl (decide_eq_false c2) ?_
    refine wp_seq ?_
    refine s_region ?_
    refine s_val hF rfl rfl rfl (e_eql hF rfl rfl) ?_; intro a hF
    refine s_val hF rfl rfl rfl (e_assign hF rfl) ?_; intro a hF
    refine s_nil ?_
    refine then_n ?_
    rcases ite_cases H with ⟨c7, H⟩ | ⟨c7, H⟩
    ·
      refine s_cond_t hF rfl (decide_eq_true c7) ?_
      refine wp_seq ?_
      obtain ⟨t8, h9, H⟩ := bind_some H
      obtain ⟨t10, h11, H⟩ := bind_some H
      refine s_held (fun w => Ms [] w0 w [boxR b1 [Pt.int a0.1, Pt.int a0.2] 25]) #[false, false, false, false, false, false, false] mixed rfl rfl hM ?_; intro w hf hM; clear hf
      refine h_val 0 #[true, false, false, false, false, false, false] rfl (by kernel_rfl) hF rfl rfl rfl (fun w hS => e_move hF rfl) (hM.pick [0] rfl rfl) ?_; intro a hF
      refine h_val 2 #[true, false, true, false, false, false, false] rfl (by kernel_rfl) hF rfl rfl rfl (fun w hS => e_fa hF rfl Try.underlying25 rfl Try.sizeOf3 rfl rfl) (hM.pick [0] rfl rfl) ?_; intro a hF
      refine h_val 3 #[true, false, true, true, false, false, false] rfl (by kernel_rfl) hF rfl rfl rfl (fun w hS => e_ld (i := 0) (k := 1) hF hS rfl rfl rfl rfl Try.isAgg3 rfl) (hM.pick [0] rfl rfl) ?_; intro a hF
      refine h_one 1 #[true, true, true, true, false, false, false] rfl (by kernel_rfl) ?_
      refine s_call hF rfl rfl rfl Try.call87 (impl_total.calls K l1 u1 (q1.frm hM.frm) t8 h9) ?_; intro a w v hF hf hR
      subst hR; have hM := hM.grow hf
      refine s_nil ⟨rfl, (hM.pick [0] rfl rfl), ?_⟩
      refine h_val 4 #[true, true, true, true, true, false, false] rfl (by kernel_rfl) hF rfl rfl rfl (fun w hS => e_eql hF rfl rfl) (hM.pick [0] rfl rfl) ?_; intro a hF
      refine h_one 5 #[true, true, true, true, true, true, false] rfl (by kernel_rfl) ?_
      refine s_call hF rfl rfl rfl Try.call90 (impl_truth.calls K (decide (t8 = a0.2)) t10 h11) ?_; intro a w v hF hf hR
      subst hR; have hM := hM.grow hf
      refine s_nil ⟨rfl, (hM.pick [0] rfl rfl), ?_⟩
      refine h_val 6 #[true, true, true, true, true, true, true] rfl (by kernel_rfl) hF rfl rfl rfl (fun w hS => e_assign hF rfl) (hM.pick [0] rfl rfl) ?_; intro a hF
      refine h_done rfl ?_
      refine then_n ?_
      refine wp_ret ?_
      refine blk_r ?_
      refine then_r ?_
      obtain rfl := some_some H
      refine s_ret [Value.int .i64 t10] hF Try.results64 ⟨rfl, trivial⟩ ?_
      exact ⟨_, rfl, hM.frm, rfl⟩
    ·
      refine s_cond_f hF rfl (decide_eq_false c7) ?_
      refine wp_seq ?_
      refine s_region ?_
      refine s_val hF rfl rfl rfl (e_eql hF rfl rfl) ?_; intro a hF
      refine s_val hF rfl rfl rfl (e_assign hF rfl) ?_; intro a hF
      refine s_nil ?_
      refine then_n ?_
      rcases ite_cases H with ⟨c12, H⟩ | ⟨c12, H⟩
      ·
        refine s_cond_t hF rfl (decide_eq_true c12) ?_
        refine wp_seq ?_
        obtain ⟨t13, h14, H⟩ := bind_some H
        refine s_region ?_
        refine s_val hF rfl rfl rfl (e_move hF rfl) ?_; intro a hF
        refine s_call hF rfl rfl rfl Try.call99 (slices_Max_int_int.calls K l1 u1 (q1.frm hM.frm) t13 h14) ?_; intro a w v hF hf hR
        subst hR; have hM := hM.grow hf
        refine s_val hF rfl rfl rfl (e_assign hF rfl) ?_; intro a hF
        refine s_nil ?_
        refine then_n ?_
        refine wp_ret ?_
        refine blk_r ?_
        refine then_r ?_
        obtain rfl := some_some H
        refine s_ret [Value.int .i64 t13] hF Try.results64 ⟨rfl, trivial⟩ ?_
        exact ⟨_, rfl, hM.frm, rfl⟩
      ·
        refine s_cond_f hF rfl (decide_eq_false c12) ?_
        refine wp_seq ?_
        refine s_region ?_
        refine s_val hF rfl rfl rfl (e_eql hF rfl rfl) ?_; intro a hF
        refine s_val hF rfl rfl rfl (e_assign hF rfl) ?_; intro a hF
        refine s_nil ?_
        refine then_n ?_
        rcases ite_cases H with ⟨c15, H⟩ | ⟨c15, H⟩
        ·
          refine s_cond_t hF rfl (decide_eq_true c15) ?_
          refine wp_seq ?_
          obtain ⟨t16, h17, H⟩ := bind_some H
          obtain ⟨t18, h19, H⟩ := bind_some H
          obtain ⟨t20, h21, H⟩ := bind_some H
          refine s_region ?_
          refine s_val hF rfl rfl rfl (e_move hF rfl) ?_; intro a hF
          refine s_call hF rfl rfl rfl Try.call99 (slices_Max_int_int.calls K l1 u1 (q1.frm hM.frm) t16 h17) ?_; intro a w v hF hf hR
          subst hR; have hM := hM.grow hf
          refine s_val hF rfl rfl rfl (e_move hF rfl) ?_; intro a hF
          refine s_call hF rfl rfl rfl Try.call100 (slices_Min_int_int.calls K l1 u1 (q1.frm hM.frm) t18 h19) ?_; intro a w v hF hf hR
          subst hR; have hM := hM.grow hf
          refine s_val hF rfl rfl rfl (e_eql hF rfl rfl) ?_; intro a hF
          refine s_call hF rfl rfl rfl Try.call90 (impl_truth.calls K (decide (t16 = t18)) t20 h21) ?_; intro a w v hF hf hR
          subst hR; have hM := hM.grow hf
          refine s_val hF rfl rfl rfl (e_assign hF rfl) ?_; intro a hF
          refine s_nil ?_
          refine then_n ?_
          refine wp_ret ?_
          refine blk_r ?_
          refine then_r ?_
          obtain rfl := some_some H
          refine s_ret [Value.int .i64 t20] hF Try.results64 ⟨rfl, trivial⟩ ?_
          exact ⟨_, rfl, hM.frm, rfl⟩
        ·
          refine s_cond_f hF rfl (decide_eq_false c15) ?_
          refine wp_skip ?_
          refine blk_n ?_
          refine then_n ?_
          refine wp_seq ?_
          obtain ⟨t22, h23, H⟩ := bind_some H
          refine s_region ?_
          refine s_val hF rfl rfl rfl (e_move hF rfl) ?_; intro a hF
          refine s_call hF rfl rfl rfl Try.call87 (impl_total.calls K l1 u1 (q1.frm hM.frm) t22 h23) ?_; intro a w v hF hf hR
          subst hR; have hM := hM.grow hf
          refine s_val hF rfl rfl rfl (e_assign hF rfl) ?_; intro a hF
          refine s_nil ?_
          refine then_n ?_
          refine wp_ret ?_
          obtain rfl := some_some H
          refine s_ret [Value.int .i64 t22] hF Try.results64 ⟨rfl, trivial⟩ ?_
          exact ⟨_, rfl, hM.frm, rfl⟩

/-! ### (*loop.example/g01210/impl.again).sets: function 74 -/
def impl_again_sets__c.f (K : Nat) (y4 : (List (Ar 6))) (y7 : (List (List Int))) : Option Int := if 0 ≤ (y4.length : Int) then (some (wrap64 (1 * 2 ^ (min ((y4.length : Int) : Int).toNat 64)))) else none
set_option maxRecDepth 100000 in
set_option maxHeartbeats 4000000 in
theorem impl_again_sets__c.calls {w0 : World} (K : Nat) (v3 : Value) (y4 : (List (Ar 6))) (q5 : SlR cd28 w0 v3 y4) (v6 : Value) (y7 : (List (List Int))) (z8 : List Value) (q9 : NeR cd3 33 w0 v6 z8 y7) (b1 : Nat) (q2 : (boxR b1 [Pt.any v3, Pt.any v6] 80).holds w0) (r : Int) (H : impl_again_sets__c.f K y4 y7 = some r) : Calls Try.prog 74 [pt b1 0].toArray w0 (Post w0 fun w v => v = Value.int .i64 r) := by
  rw [impl_again_sets__c.f] at H
  refine s_start Try.func74 rfl Try.ntmps74 rfl ?_
  intro a hF
  have hM := Ms.start w0
  skip
  refine wp_seq ?_
  refine s_region ?_
  refine s_val hF rfl rfl rfl (e_assign hF rfl) ?_; intro a hF
  refine s_nil ?_
  refine then_n ?_
  refine wp_seq ?_
  obtain ⟨c10, H⟩ := ite_some H
  refine s_region ?_
  refine s_val hF rfl rfl rfl (e_move hF rfl) ?_; intro a hF
  refine s_val hF rfl rfl rfl (e_nilc hF rfl) ?_; intro a hF
  refine s_val hF rfl rfl rfl (e_fa hF rfl Try.underlying80 rfl Try.sizeOf43 rfl rfl) ?_; intro a hF
  refine s_val hF rfl rfl rfl (e_ld (i := 0) (k := 0) hF (lent_ms (box_frm q2 hM.frm)) rfl rfl rfl rfl Try.isAgg43 (any_cs (q5.frm hM.frm).toF.one)) ?_; intro a hF
  refine s_val hF rfl rfl rfl (e_len hF rfl (q5.frm hM.frm).toF Try.underlying43) ?_; intro a hF
  refine s_val hF rfl rfl rfl (e_shl hF rfl rfl c10) ?_; intro a hF
  refine s_val hF rfl rfl rfl (e_assign hF rfl) ?_; intro a hF
  refine s_nil ?_
  refine then_n ?_
  refine wp_ret ?_
  obtain rfl := some_some H
  refine s_ret [Value.int .i64 (wrap64 (1 * 2 ^ (min ((y4.length : Int) : Int).toNat 64)))] hF Try.results74 ⟨rfl, trivial⟩ ?_
  exact ⟨_, rfl, hM.frm, rfl⟩

/-! ### loop.example/g01210/impl.isIn: function 105 -/
def impl_isIn.f (K : Nat) (a0 : Int) (a1 : Int) : Option Bool := if 0 ≤ a1 then (some (decide ((Go.bits .and .i64 (a0.fdiv (2 ^ (min (a1 : Int).toNat 64))) 1) = 1))) else none
set_option maxRecDepth 100000 in
set_option maxHeartbeats 4000000 in
theorem impl_isIn.calls {w0 : World} (K : Nat) (a0 : Int) (a1 : Int) (r : Bool) (H : impl_isIn.f K a0 a1 = some r) : Calls Try.prog 105 [Value.int .i64 a0, Value.int .i64 a1].toArray w0 (Post w0 fun w v => v = Value.bool r) := by
  rw [impl_isIn.f] at H
  refine s_start Try.func105 rfl Try.ntmps105 rfl ?_
  intro a hF
  have hM := Ms.start w0
  skip
  refine wp_seq ?_
  refine s_region ?_
  refine s_val hF rfl rfl rfl (e_assign hF rfl) ?_; intro a hF
  refine s_nil ?_
  refine then_n ?_
  refine wp_seq ?_
  obtain ⟨c1, H⟩ := ite_some H
  refine s_region ?_
  refine s_val hF rfl rfl rfl (e_move hF rfl) ?_; intro a hF
  refine s_val hF rfl rfl rfl (e_move hF rfl) ?_; intro a hF
  refine s_val hF rfl rfl rfl (e_shr hF rfl rfl c1) ?_; intro a hF
  refine s_val hF rfl rfl rfl (e_and hF rfl rfl) ?_; intro a hF
  refine s_val hF rfl rfl rfl (e_eql hF rfl rfl) ?_; intro a hF
  refine s_val hF rfl rfl rfl (e_assign hF rfl) ?_; intro a hF
  refine s_nil ?_
  refine then_n ?_
  refine wp_ret ?_
  obtain rfl := some_some H
  refine s_ret [Value.bool (decide ((Go.bits .and .i64 (a0.fdiv (2 ^ (min (a1 : Int).toNat 64))) 1) = 1))] hF Try.results105 ⟨rfl, trivial⟩ ?_
  exact ⟨_, rfl, hM.frm, rfl⟩

/-! ### (*loop.example/g01210/impl.again).merged: function 75 -/
def impl_again_merged__c.l0 (K : Nat) (a2 : Int) : Nat → Int → Int → Int → Int → Int → Option Int
  | 0, _, _, _, _, _ => none
  | k + 1, x24, x25, x26, x27, x28 => if 0 ≤ x28 then ((impl_isIn.f K a2 x28).bind fun t30 => if t30 = true then (impl_again_merged__c.l0 K a2 k (wrap64 (x24.tdiv 6)) (wrap64 (x25.tdiv 6)) (wrap64 (x26 + (wrap64 ((x25.tmod 6) * x27)))) (wrap64 (x27 * 6)) (wrap64 (x28 - 1))) else (impl_again_merged__c.l0 K a2 k (wrap64 (x24.tdiv 6)) (wrap64 (x25.tdiv 6)) (wrap64 (x26 + (wrap64 ((x24.tmod 6) * x27)))) (wrap64 (x27 * 6)) (wrap64 (x28 - 1)))) else (some x26)
def impl_again_merged__c.f (K : Nat) (y4 : (List (Ar 6))) (y7 : (List (List Int))) (a1 : Int) (a2 : Int) (a3 : Int) : Option Int := (impl_again_merged__c.l0 K a2 K a1 a3 0 1 (wrap64 ((y4.length : Int) - 1))).bind fun x23 => some x23
set_option maxRecDepth 100000 in
set_option maxHeartbeats 4000000 in
theorem impl_again_merged__c.calls {w0 : World} (K : Nat) (v3 : Value) (y4 : (List (Ar 6))) (q5 : SlR cd28 w0 v3 y4) (v6 : Value) (y7 : (List (List Int))) (z8 : List Value) (q9 : NeR cd3 33 w0 v6 z8 y7) (b1 : Nat) (q2 : (boxR b1 [Pt.any v3, Pt.any v6] 80).holds w0) (a1 : Int) (a2 : Int) (a3 : Int) (r : Int) (H : impl_again_merged__c.f K y4 y7 a1 a2 a3 = some r) : Calls Try.prog 75 [pt b1 0, Value.int .i64 a1, Value.int .i64 a2, Value.int .i64 a3].toArray w0 (Post w0 fun w v => v = Value.int .i64 r) := by
  rw [impl_again_merged__c.f] at H
  refine s_start Try.func75 rfl Try.ntmps75 rfl ?_
  intro a hF
  have hM := Ms.start w0
  skip
  refine wp_seq ?_
  refine s_region ?_
  refine s_val hF rfl rfl rfl (e_assign hF rfl) ?_; intro a hF
  refine s_nil ?_
  refine then_n ?_
  refine wp_seq ?_
  refine s_region ?_
  refine s_val hF rfl rfl rfl (e_assign hF rfl) ?_; intro a hF
  refine s_val hF rfl rfl rfl (e_assign hF rfl) ?_; intro a hF
  refine s_nil ?_
  refine then_n ?_
  refine wp_seq ?_
  refine wp_seq ?_
  refine s_region ?_
  refine s_val hF rfl rfl rfl (e_move hF rfl) ?_; intro a hF
  refine s_val hF rfl rfl rfl (e_nilc hF rfl) ?_; intro a hF
  refine s_val hF rfl rfl rfl (e_fa hF rfl Try.underlying80 rfl Try.sizeOf43 rfl rfl) ?_; intro a hF
  refine s_val hF rfl rfl rfl (e_ld (i := 0) (k := 0) hF (lent_ms (box_frm q2 hM.frm)) rfl rfl rfl rfl Try.isAgg43 (any_cs (q5.frm hM.frm).toF.one)) ?_; intro a hF
  refine s_val hF rfl rfl rfl (e_len hF rfl (q5.frm hM.frm).toF Try.underlying43) ?_; intro a hF
  refine s_val hF rfl rfl rfl (e_sub hF rfl rfl) ?_; intro a hF
  refine s_val hF rfl rfl rfl (e_assign hF rfl) ?_; intro a hF
  refine s_nil ?_
  refine then_n ?_
  refine wp_block ?_
  obtain ⟨o33, h34, H⟩ := bind_some H
  refine wp_mono (Q := fun e a w => (e = Exit.exit 0 ∧ ∃ x23 : Int, x23 = o33 ∧ Fr 42 a [(9, Value.int .i64 x23)] ∧ Ms [] w0 w [])) ?_ ?_
  · refine s_loop (fun kq a w => ∃ x24 : Int, ∃ x25 : Int, ∃ x26 : Int, ∃ x27 : Int, ∃ x28 : Int, impl_again_merged__c.l0 K a2 kq x24 x25 x26 x27 x28 = some o33 ∧ Fr 42 a [(1, Value.int .i64 x24), (2, Value.int .i64 a2), (3, Value.int .i64 x25), (9, Value.int .i64 x26), (10, Value.int .i64 x27), (11, Value.int .i64 x28)] ∧ Ms [] w0 w []) K ⟨a1, a3, 0, 1, (wrap64 ((y4.length : Int) - 1)), h34, hF.sub _ ⟨rfl, rfl, rfl, rfl, rfl, rfl, trivial⟩, hM.pick [] rfl rfl⟩ ?_ ?_
    · rintro a w ⟨_, _, _, _, _, H, _⟩; exact none_some H
    · rintro k a w ⟨x24, x25, x26, x27, x28, H, hF, hM⟩; rw [impl_again_merged__c.l0] at H
      refine wp_seq ?_
      refine wp_seq ?_
      refine s_region ?_
      refine s_val hF rfl rfl rfl (e_move hF rfl) ?_; intro a hF
      refine s_val hF rfl rfl rfl (e_geq hF rfl rfl) ?_; intro a hF
      refine s_nil ?_
      refine then_n ?_
      rcases ite_cases H with ⟨c29, H⟩ | ⟨c29, H⟩
      ·
        refine s_cond_t hF rfl (decide_eq_true c29) ?_
        refine wp_skip ?_
        refine then_n ?_
        refine wp_seq ?_
        refine wp_block ?_
        refine wp_seq ?_
        refine s_region ?_
        refine s_val hF rfl rfl rfl (e_move hF rfl) ?_; intro a hF
        refine s_val hF rfl rfl rfl (e_rem hF rfl rfl (by decide)) ?_; intro a hF
        refine s_val hF rfl rfl rfl (e_assign hF rfl) ?_; intro a hF
        refine s_nil ?_
        refine then_n ?_
        refine wp_seq ?_
        refine wp_seq ?_
        obtain ⟨t30, h31, H⟩ := bind_some H
        refine s_region ?_
        refine s_val hF rfl rfl rfl (e_move hF rfl) ?_; intro a hF
        refine s_val hF rfl rfl rfl (e_move hF rfl) ?_; intro a hF
        refine s_call hF rfl rfl rfl Try.call105 (impl_isIn.calls K a2 x28 t30 h31) ?_; intro a w v hF hf hR
        subst hR; have hM := hM.grow hf
        refine s_nil ?_
        refine then_n ?_
        rcases ite_cases H with ⟨c32, H⟩ | ⟨c32, H⟩
        ·
          refine s_cond_t hF rfl c32 ?_
          refine s_region ?_
          refine s_val hF rfl rfl rfl (e_move hF rfl) ?_; intro a hF
          refine s_val hF rfl rfl rfl (e_rem hF rfl rfl (by decide)) ?_; intro a hF
          refine s_val hF rfl rfl rfl (e_assign hF rfl) ?_; intro a hF
          refine s_nil ?_
          refine then_n ?_
          refine wp_seq ?_
          refine s_region ?_
          refine s_val hF rfl rfl rfl (e_move hF rfl) ?_; intro a hF
          refine s_val hF rfl rfl rfl (e_move hF rfl) ?_; intro a hF
          refine s_val hF rfl rfl rfl (e_move hF rfl) ?_; intro a hF
          refine s_val hF rfl rfl rfl (e_mul hF rfl rfl) ?_; intro a hF
          refine s_val hF rfl rfl rfl (e_add hF rfl rfl) ?_; intro a hF
          refine s_val hF rfl rfl rfl (e_assign hF rfl) ?_; intro a hF
          refine s_nil ?_
          refine then_n ?_
          refine s_region ?_
          refine s_val hF rfl rfl rfl (e_move hF rfl) ?_; intro a hF
          refine s_val hF rfl rfl rfl (e_quo hF rfl rfl (by decide)) ?_; intro a hF
          refine s_val hF rfl rfl rfl (e_move hF rfl) ?_; intro a hF
          refine s_val hF rfl rfl rfl (e_quo hF rfl rfl (by decide)) ?_; intro a hF
          refine s_val hF rfl rfl rfl (e_move hF rfl) ?_; intro a hF
          refine s_val hF rfl rfl rfl (e_mul hF rfl rfl) ?_; intro a hF
          refine s_val hF rfl rfl rfl (e_assign hF rfl) ?_; intro a hF
          refine s_val hF rfl rfl rfl (e_assign hF rfl) ?_; intro a hF
          refine s_val hF rfl rfl rfl (e_assign hF rfl) ?_; intro a hF
          refine s_nil ?_
          refine blk_n ?_
          refine then_n ?_
          refine s_region ?_
          refine s_val hF rfl rfl rfl (e_move hF rfl) ?_; intro a hF
          refine s_val hF rfl rfl rfl (e_sub hF rfl rfl) ?_; intro a hF
          refine s_val hF rfl rfl rfl (e_assign hF rfl) ?_; intro a hF
          refine s_nil ?_
          refine then_n ?_
          exact ⟨(wrap64 (x24.tdiv 6)), (wrap64 (x25.tdiv 6)), (wrap64 (x26 + (wrap64 ((x25.tmod 6) * x27)))), (wrap64 (x27 * 6)), (wrap64 (x28 - 1)), H, hF.sub _ ⟨rfl, rfl, rfl, rfl, rfl, rfl, trivial⟩, hM.pick [] rfl rfl⟩
        ·
          refine s_cond_f hF rfl (bf c32) ?_
          refine wp_skip ?_
          refine then_n ?_
          refine wp_seq ?_
          refine s_region ?_
          refine s_val hF rfl rfl rfl (e_move hF rfl) ?_; intro a hF
          refine s_val hF rfl rfl rfl (e_move hF rfl) ?_; intro a hF
          refine s_val hF rfl rfl rfl (e_move hF rfl) ?_; intro a hF
          refine s_val hF rfl rfl rfl (e_mul hF rfl rfl) ?_; intro a hF
          refine s_val hF rfl rfl rfl (e_add hF rfl rfl) ?_; intro a hF
          refine s_val hF rfl rfl rfl (e_assign hF rfl) ?_; intro a hF
          refine s_nil ?_
          refine then_n ?_
          refine s_region ?_
          refine s_val hF rfl rfl rfl (e_move hF rfl) ?_; intro a hF
          refine s_val hF rfl rfl rfl (e_quo hF rfl rfl (by decide)) ?_; intro a hF
          refine s_val hF rfl rfl rfl (e_move hF rfl) ?_; intro a hF
          refine s_val hF rfl rfl rfl (e_quo hF rfl rfl (by decide)) ?_; intro a hF
          refine s_val hF rfl rfl rfl (e_move hF rfl) ?_; intro a hF
          refine s_val hF rfl rfl rfl (e_mul hF rfl rfl) ?_; intro a hF
          refine s_val hF rfl rfl rfl (e_assign hF rfl) ?_; intro a hF
          refine s_val hF rfl rfl rfl (e_assign hF rfl) ?_; intro a hF
          refine s_val hF rfl rfl rfl (e_assign hF rfl) ?_; intro a hF
          refine s_nil ?_
          refine blk_n ?_
          refine then_n ?_
          refine s_region ?_
          refine s_val hF rfl rfl rfl (e_move hF rfl) ?_; intro a hF
          refine s_val hF rfl rfl rfl (e_sub hF rfl rfl) ?_; intro a hF
          refine s_val hF rfl rfl rfl (e_assign hF rfl) ?_; intro a hF
          refine s_nil ?_
          refine then_n ?_
          exact ⟨(wrap64 (x24.tdiv 6)), (wrap64 (x25.tdiv 6)), (wrap64 (x26 + (wrap64 ((x24.tmod 6) * x27)))), (wrap64 (x27 * 6)), (wrap64 (x28 - 1)), H, hF.sub _ ⟨rfl, rfl, rfl, rfl, rfl, rfl, trivial⟩, hM.pick [] rfl rfl⟩
      ·
        refine s_cond_f hF rfl (decide_eq_false c29) ?_
        refine wp_exit ?_
        refine then_x ?_
        refine then_x ?_
        exact ⟨rfl, x26, some_some H, hF.sub _ ⟨rfl, trivial⟩, hM.pick [] rfl rfl⟩
  · rintro e a w ⟨rfl, x23, rfl, hF, hM⟩
    skip
    refine blk_x ?_
    refine then_n ?_
    refine wp_seq ?_
    refine s_region ?_
    refine s_val hF rfl rfl rfl (e_move hF rfl) ?_; intro a hF
    refine s_val hF rfl rfl rfl (e_assign hF rfl) ?_; intro a hF
    refine s_nil ?_
    refine then_n ?_
    refine wp_ret ?_
    obtain rfl := some_some H
    refine s_ret [Value.int .i64 x23] hF Try.results75 ⟨rfl, trivial⟩ ?_
    exact ⟨_, rfl, hM.frm, rfl⟩

/-! ### (*loop.example/g01210/impl.again).setValue: function 86 -/
def impl_again_setValue__c.l0 (K : Nat) (y4 : (List (Ar 6))) (y7 : (List (List Int))) (a1 : Int) (a2 : Int) (a3 : Int) (t10 : Int) : Nat → Int → Int → Option Int
  | 0, _, _ => none
  | k + 1, x25, x26 => if x26 < t10 then (if (0 : Int) ≤ (wrap64 (a3 - 1)) ∧ (wrap64 (a3 - 1)) < (y7.length : Int) then ((impl_again_merged__c.f K y4 y7 a1 a2 x26).bind fun t29 => if (0 : Int) ≤ t29 ∧ t29 < ((y7.getD ((wrap64 (a3 - 1)) : Int).toNat []).length : Int) then (impl_again_setValue__c.l0 K y4 y7 a1 a2 a3 t10 k (wrap64 (x25 + ((y7.getD ((wrap64 (a3 - 1)) : Int).toNat []).getD (t29 : Int).toNat (0 : Int)))) (wrap64 (x26 + 1))) else none) else none) else (some x25)
def impl_again_setValue__c.f (K : Nat) (y4 : (List (Ar 6))) (y7 : (List (List Int))) (a1 : Int) (a2 : Int) (a3 : Int) : Option Int := (impl_again_outcomes__c.f K y4 y7).bind fun t10 => (impl_again_setValue__c.l0 K y4 y7 a1 a2 a3 t10 K 0 0).bind fun x24 => some x24
set_option maxRecDepth 100000 in
set_option maxHeartbeats 4000000 in
theorem impl_again_setValue__c.calls {w0 : World} (K : Nat) (v3 : Value) (y4 : (List (Ar 6))) (q5 : SlR cd28 w0 v3 y4) (v6 : Value) (y7 : (List (List Int))) (z8 : List Value) (q9 : NeR cd3 33 w0 v6 z8 y7) (b1 : Nat) (q2 : (boxR b1 [Pt.any v3, Pt.any v6] 80).holds w0) (a1 : Int) (a2 : Int) (a3 : Int) (r : Int) (H : impl_again_setValue__c.f K y4 y7 a1 a2 a3 = some r) : Calls Try.prog 86 [pt b1 0, Value.int .i64 a1, Value.int .i64 a2, Value.int .i64 a3].toArray w0 (Post w0 fun w v => v = Value.int .i64 r) := by
  rw [impl_again_setValue__c.f] at H
  refine s_start Try.func86 rfl Try.ntmps86 rfl ?_
  intro a hF
  have hM := Ms.start w0
  skip
  refine wp_seq ?_
  refine s_region ?_
  refine s_val hF rfl rfl rfl (e_assign hF rfl) ?_; intro a hF
  refine s_nil ?_
  refine then_n ?_
  refine wp_seq ?_
  refine s_region ?_
  refine s_val hF rfl rfl rfl (e_assign hF rfl) ?_; intro a hF
  refine s_nil ?_
  refine then_n ?_
  refine wp_seq ?_
  refine wp_seq ?_
  obtain ⟨t10, h11, H⟩ := bind_some H
  refine s_region ?_
  refine s_val hF rfl rfl rfl (e_move hF rfl) ?_; intro a hF
  refine s_call hF rfl rfl rfl Try.call89 (impl_again_outcomes__c.calls K v3 y4 (q5.frm hM.frm) v6 y7 z8 (q9.frm hM.frm) b1 (box_frm q2 hM.frm) t10 h11) ?_; intro a w v hF hf hR
  subst hR; have hM := hM.grow hf
  refine s_val hF rfl rfl rfl (e_move hF rfl) ?_; intro a hF
  refine s_nil ?_
  refine then_n ?_
  refine wp_block ?_
  obtain ⟨o35, h36, H⟩ := bind_some H
  refine wp_mono (Q := fun e a w => (e = Exit.exit 0 ∧ ∃ x24 : Int, x24 = o35 ∧ Fr 35 a [(9, Value.int .i64 x24)] ∧ Ms [] w0 w [])) ?_ ?_
  · refine s_loop (fun kq a w => ∃ x25 : Int, ∃ x26 : Int, impl_again_setValue__c.l0 K y4 y7 a1 a2 a3 t10 kq x25 x26 = some o35 ∧ Fr 35 a [(0, pt b1 0), (1, Value.int .i64 a1), (2, Value.int .i64 a2), (3, Value.int .i64 a3), (9, Value.int .i64 x25), (12, Value.int .i64 t10), (13, Value.int .i64 x26)] ∧ Ms [] w0 w []) K ⟨0, 0, h36, hF.sub _ ⟨rfl, rfl, rfl, rfl, rfl, rfl, rfl, trivial⟩, hM.pick [] rfl rfl⟩ ?_ ?_
    · rintro a w ⟨_, _, H, _⟩; exact none_some H
    · rintro k a w ⟨x25, x26, H, hF, hM⟩; rw [impl_again_setValue__c.l0] at H
      refine wp_seq ?_
      refine s_region ?_
      refine s_val hF rfl rfl rfl (e_lss hF rfl rfl) ?_; intro a hF
      refine s_nil ?_
      refine then_n ?_
      refine wp_seq ?_
      rcases ite_cases H with ⟨c27, H⟩ | ⟨c27, H⟩
      ·
        refine s_cond_t hF rfl (decide_eq_true c27) ?_
        refine wp_skip ?_
        refine then_n ?_
        refine wp_seq ?_
        refine wp_block ?_
        refine wp_seq ?_
        refine s_region ?_
        refine s_val hF rfl rfl rfl (e_move hF rfl) ?_; intro a hF
        refine s_val hF rfl rfl rfl (e_assign hF rfl) ?_; intro a hF
        refine s_nil ?_
        refine then_n ?_
        obtain ⟨c28, H⟩ := ite_some H
        obtain ⟨t29, h30, H⟩ := bind_some H
        obtain ⟨c31, H⟩ := ite_some H
        refine s_held (fun w => Ms [] w0 w []) #[false, false, false, false, false, false, false, false, false, false, false, false, false, false, false, false, false, false] mixed rfl rfl hM ?_; intro w hf hM; clear hf
        refine h_val 0 #[true, false, false, false, false, false, false, false, false, false, false, false, false, false, false, false, false, false] rfl (by kernel_rfl) hF rfl rfl rfl (fun w hS => e_move hF rfl) (hM.pick [] rfl rfl) ?_; intro a hF
        refine h_val 1 #[true, true, false, false, false, false, false, false, false, false, false, false, false, false, false, false, false, false] rfl (by kernel_rfl) hF rfl rfl rfl (fun w hS => e_move hF rfl) (hM.pick [] rfl rfl) ?_; intro a hF
        refine h_val 2 #[true, true, true, false, false, false, false, false, false, false, false, false, false, false, false, false, false, false] rfl (by kernel_rfl) hF rfl rfl rfl (fun w hS => e_nilc hF rfl) (hM.pick [] rfl rfl) ?_; intro a hF
        refine h_val 3 #[true, true, true, true, false, false, false, false, false, false, false, false, false, false, false, false, false, false] rfl (by kernel_rfl) hF rfl rfl rfl (fun w hS => e_fa hF rfl Try.underlying80 rfl Try.sizeOf78 rfl rfl) (hM.pick [] rfl rfl) ?_; intro a hF
        have f32 := (q9.frm hM.frm).toF
        refine h_val 4 #[true, true, true, true, true, false, false, false, false, false, false, false, false, false, false, false, false, false] rfl (by kernel_rfl) hF rfl rfl rfl (fun w hS => e_ld (i := 0) (k := 1) hF (lent_ms (box_frm q2 hS.frm)) rfl rfl rfl rfl Try.isAgg78 (any_cs f32.one)) (hM.pick [] rfl rfl) ?_; intro a hF
        refine h_val 5 #[true, true, true, true, true, true, false, false, false, false, false, false, false, false, false, false, false, false] rfl (by kernel_rfl) hF rfl rfl rfl (fun w hS => e_move hF rfl) (hM.pick [] rfl rfl) ?_; intro a hF
        refine h_val 6 #[true, true, true, true, true, true, true, false, false, false, false, false, false, false, false, false, false, false] rfl (by kernel_rfl) hF rfl rfl rfl (fun w hS => e_sub hF rfl rfl) (hM.pick [] rfl rfl) ?_; intro a hF
        have f33 := (q9.frm hM.frm).toF
        refine h_val 7 #[true, true, true, true, true, true, true, true, false, false, false, false, false, false, false, false, false, false] rfl (by kernel_rfl) hF rfl rfl rfl (fun w hS => e_ias (cdV 33) hF rfl rfl f33 Try.underlying78 Try.sizeOf33 c28.1 c28.2) (hM.pick [] rfl rfl) ?_; intro a hF
        refine h_val 8 #[true, true, true, true, true, true, true, true, true, false, false, false, false, false, false, false, false, false] rfl (by kernel_rfl) hF rfl rfl rfl (fun w hS => e_lds (C := cdV 33) (m := (wrap64 (a3 - 1))) hF rfl (q9.frm hS.frm).out ((q9.frm hS.frm).at c28) rfl (any_cs ((q9.frm hS.frm).get c28).toF.one) Try.isAgg33) (hM.pick [] rfl rfl) ?_; intro a hF
        refine h_val 9 #[true, true, true, true, true, true, true, true, true, true, false, false, false, false, false, false, false, false] rfl (by kernel_rfl) hF rfl rfl rfl (fun w hS => e_move hF rfl) (hM.pick [] rfl rfl) ?_; intro a hF
        refine h_val 10 #[true, true, true, true, true, true, true, true, true, true, true, false, false, false, false, false, false, false] rfl (by kernel_rfl) hF rfl rfl rfl (fun w hS => e_move hF rfl) (hM.pick [] rfl rfl) ?_; intro a hF
        refine h_val 11 #[true, true, true, true, true, true, true, true, true, true, true, true, false, false, false, false, false, false] rfl (by kernel_rfl) hF rfl rfl rfl (fun w hS => e_move hF rfl) (hM.pick [] rfl rfl) ?_; intro a hF
        refine h_val 12 #[true, true, true, true, true, true, true, true, true, true, true, true, true, false, false, false, false, false] rfl (by kernel_rfl) hF rfl rfl rfl (fun w hS => e_move hF rfl) (hM.pick [] rfl rfl) ?_; intro a hF
        refine h_one 13 #[true, true, true, true, true, true, true, true, true, true, true, true, true, true, false, false, false, false] rfl (by kernel_rfl) ?_
        refine s_call hF rfl rfl rfl Try.call75 (impl_again_merged__c.calls K v3 y4 (q5.frm hM.frm) v6 y7 z8 (q9.frm hM.frm) b1 (box_frm q2 hM.frm) a1 a2 x26 t29 h30) ?_; intro a w v hF hf hR
        subst hR; have hM := hM.grow hf
        refine s_nil ⟨rfl, (hM.pick [] rfl rfl), ?_⟩
        have f34 := ((q9.frm hM.frm).get c28).toF
        refine h_val 14 #[true, true, true, true, true, true, true, true, true, true, true, true, true, true, true, false, false, false] rfl (by kernel_rfl) hF rfl rfl rfl (fun w hS => e_ias cd3 hF rfl rfl f34 Try.underlying33 Try.sizeOf3 c31.1 c31.2) (hM.pick [] rfl rfl) ?_; intro a hF
        refine h_val 15 #[true, true, true, true, true, true, true, true, true, true, true, true, true, true, true, true, false, false] rfl (by kernel_rfl) hF rfl rfl rfl (fun w hS => e_lds (m := t29) hF rfl ((q9.frm hS.frm).get c28) (getD_some (z := (0 : Int)) c31.1 c31.2) rfl rfl Try.isAgg3) (hM.pick [] rfl rfl) ?_; intro a hF
        refine h_val 16 #[true, true, true, true, true, true, true, true, true, true, true, true, true, true, true, true, true, false] rfl (by kernel_rfl) hF rfl rfl rfl (fun w hS => e_add hF rfl rfl) (hM.pick [] rfl rfl) ?_; intro a hF
        refine h_val 17 #[true, true, true, true, true, true, true, true, true, true, true, true, true, true, true, true, true, true] rfl (by kernel_rfl) hF rfl rfl rfl (fun w hS => e_assign hF rfl) (hM.pick [] rfl rfl) ?_; intro a hF
        refine h_done rfl ?_
        refine blk_n ?_
        refine then_n ?_
        refine s_region ?_
        refine s_val hF rfl rfl rfl (e_add hF rfl rfl) ?_; intro a hF
        refine s_val hF rfl rfl rfl (e_move hF rfl) ?_; intro a hF
        refine s_nil ?_
        refine then_n ?_
        exact ⟨(wrap64 (x25 + ((y7.getD ((wrap64 (a3 - 1)) : Int).toNat []).getD (t29 : Int).toNat (0 : Int)))), (wrap64 (x26 + 1)), H, hF.sub _ ⟨rfl, rfl, rfl, rfl, rfl, rfl, rfl, trivial⟩, hM.pick [] rfl rfl⟩
      ·
        refine s_cond_f hF rfl (decide_eq_false c27) ?_
        refine wp_exit ?_
        refine then_x ?_
        refine then_x ?_
        exact ⟨rfl, x25, some_some H, hF.sub _ ⟨rfl, trivial⟩, hM.pick [] rfl rfl⟩
  · rintro e a w ⟨rfl, x24, rfl, hF, hM⟩
    skip
    refine blk_x ?_
    refine then_n ?_
    refine wp_seq ?_
    refine s_region ?_
    refine s_val hF rfl rfl rfl (e_move hF rfl) ?_; intro a hF
    refine s_val hF rfl rfl rfl (e_assign hF rfl) ?_; intro a hF
    refine s_nil ?_
    refine then_n ?_
    refine wp_ret ?_
    obtain rfl := some_some H
    refine s_ret [Value.int .i64 x24] hF Try.results86 ⟨rfl, trivial⟩ ?_
    exact ⟨_, rfl, hM.frm, rfl⟩

/-! ### loop.example/g01210/impl.againOf: function 84 -/
def impl_againOf.l0 (K : Nat) (l0 : (List (Ar 6))) (a1 : (Int × Int)) (t3 : Int) : Nat → Int → (List Int) → Option (List Int)
  | 0, _, _ => none
  | k + 1, x38, x40 => if x38 < t3 then ((impl_rollAt.f K l0 x38).bind fun t42 => (impl_Goal_score.f K a1 t42).bind fun t45 => if x40.length + [t45].length ≤ 1073741824 then (impl_againOf.l0 K l0 a1 t3 k (wrap64 (x38 + 1)) (x40 ++ [t45])) else none) else (some x40)
def impl_againOf.l16 (K : Nat) (l0 : (List (Ar 6))) (x272 : Int) (x274 : (List (List Int))) (x351 : Int) (t355 : Int) : Nat → Int → Int → Option Int
  | 0, _, _ => none
  | k + 1, x366, x367 => if x367 < t355 then ((impl_again_setValue__c.f K l0 x274 x351 x367 x272).bind fun t369 => impl_againOf.l16 K l0 x272 x274 x351 t355 k (if t369 > x366 then t369 else x366) (wrap64 (x367 + 1))) else (some x366)
def impl_againOf.l15 (K : Nat) (l0 : (List (Ar 6))) (x272 : Int) (x274 : (List (List Int))) (t277 : Int) : Nat → Int → (List Int) → Option (List Int)
  | 0, _, _ => none
  | k + 1, x351, x353 => if x351 < t277 then ((impl_again_sets__c.f K l0 x274).bind fun t355 => (impl_againOf.l16 K l0 x272 x274 x351 t355 K 0 0).bind fun x365 => if x353.length + [x365].length ≤ 1073741824 then (impl_againOf.l15 K l0 x272 x274 t277 k (wrap64 (x351 + 1)) (x353 ++ [x365])) else none) else (some x353)
def impl_againOf.l11 (K : Nat) (l0 : (List (Ar 6))) (a2 : Int) : Nat → Int → (List (List Int)) → Option (List (List Int))
  | 0, _, _ => none
  | k + 1, x272, x274 => if x272 ≤ a2 then ((impl_again_outcomes__c.f K l0 x274).bind fun t277 => (impl_againOf.l15 K l0 x272 x274 t277 K 0 ([] : List Int)).bind fun x350 => if x274.length + [x350].length ≤ 1073741824 then (impl_againOf.l11 K l0 a2 k (wrap64 (x272 + 1)) (x274 ++ [x350])) else none) else (some x274)
def impl_againOf.f (K : Nat) (l0 : (List (Ar 6))) (a1 : (Int × Int)) (a2 : Int) : Option (List (List Int)) := (impl_again_outcomes__c.f K l0 ([] : List (List Int))).bind fun t3 => (impl_againOf.l0 K l0 a1 t3 K 0 ([] : List Int)).bind fun x37 => if ([] : List (List Int)).length + [x37].length ≤ 1073741824 then ((impl_againOf.l11 K l0 a2 K 1 (([] : List (List Int)) ++ [x37])).bind fun x270 => some x270) else none
set_option maxRecDepth 100000 in
set_option maxHeartbeats 4000000 in
theorem impl_againOf.calls {w0 : World} {X : List Nat} (K : Nat) (l0 : (List (Ar 6))) (u0 : Value) (q0 : SlR cd28 w0 u0 l0) (d0 : l0 ≠ [] → sblk u0 ∉ X) (a1 : (Int × Int)) (a2 : Int) (qM : Ms X w0 w0 []) (r : (List (List Int))) (H : impl_againOf.f K l0 a1 a2 = some r) : Calls Try.prog 84 [u0, ag [Pt.int a1.1, Pt.int a1.2], Value.int .i64 a2].toArray w0 (fun e w => ∃ v, e = .returned v ∧ ∃ b383 : Nat, ∃ v384 : Value, ∃ z385 : (List Value), Ms X w0 w [boxR b383 [Pt.any u0, Pt.any v384] 80, nestR cd3 33 v384 z385 r] ∧ pt b383 0 = v) := by
  rw [impl_againOf.f] at H
  refine s_start Try.func84 rfl Try.ntmps84 rfl ?_
  intro a hF
  have hM := qM
  refine wp_seq ?_
  refine s_region ?_
  refine s_box (ps := [Pt.int a1.1, Pt.int a1.2]) hF hM rfl rfl rfl rfl ?_; intro a w b1 hF hM
  refine s_val hF rfl rfl rfl (e_assign hF rfl) ?_; intro a hF
  refine s_nil ?_
  refine then_n ?_
  refine wp_seq ?_
  refine s_region ?_
  refine s_val hF rfl rfl rfl (e_move hF rfl) ?_; intro a hF
  refine s_val hF rfl rfl rfl (e_build' hF rfl (agg80_0 (q0.frmX hM.frm d0).toF.form)) ?_; intro a hF
  have hM := hM.nilNest cd3 33
  refine s_box (ps := [Pt.any u0, Pt.any (Value.slice none 0 0)]) hF hM rfl rfl rfl rfl ?_; intro a w b2 hF hM
  refine s_val hF rfl rfl rfl (e_assign hF rfl) ?_; intro a hF
  refine s_nil ?_
  refine then_n ?_
  refine wp_seq ?_
  refine s_region ?_
  refine s_val hF rfl rfl rfl (e_assign hF rfl) ?_; intro a hF
  refine s_nil ?_
  refine then_n ?_
  refine wp_seq ?_
  refine wp_seq ?_
  obtain ⟨t3, h4, H⟩ := bind_some H
  refine s_region ?_
  refine s_val hF rfl rfl rfl (e_move hF rfl) ?_; intro a hF
  refine s_call hF rfl rfl rfl Try.call89 (impl_again_outcomes__c.calls K u0 l0 (q0.frmX hM.frm d0) (Value.slice none 0 0) ([] : List (List Int)) ([] : List Value) (hM.ne 1 rfl) b2 (hM.get 0 rfl) t3 h4) ?_; intro a w v hF hf hR
  subst hR; have hM := hM.grow hf
  refine s_val hF rfl rfl rfl (e_move hF rfl) ?_; intro a hF
  refine s_nil ?_
  refine then_n ?_
  refine wp_block ?_
  have hM := hM.nilRow cd3
  obtain ⟨o50, h51, H⟩ := bind_some H
  refine wp_mono (Q := fun e a w => (e = Exit.exit 0 ∧ ∃ v36 : Value, ∃ x37 : (List Int), x37 = o50 ∧ Fr 81 a [(2, Value.int .i64 a2), (7, pt b2 0), (8, v36)] ∧ Ms X w0 w [boxR b2 [Pt.any u0, Pt.any (Value.slice none 0 0)] 80, nestR cd3 33 (Value.slice none 0 0) ([] : List Value) ([] : List (List Int)), rowR cd3 v36 x37])) ?_ ?_
  · refine s_loop (fun kq a w => ∃ v39 : Value, ∃ x38 : Int, ∃ x40 : (List Int), impl_againOf.l0 K l0 a1 t3 kq x38 x40 = some o50 ∧ Fr 81 a [(0, u0), (2, Value.int .i64 a2), (4, pt b1 0), (7, pt b2 0), (8, v39), (19, Value.int .i64 t3), (20, Value.int .i64 x38)] ∧ Ms X w0 w [boxR b1 [Pt.int a1.1, Pt.int a1.2] 25, boxR b2 [Pt.any u0, Pt.any (Value.slice none 0 0)] 80, nestR cd3 33 (Value.slice none 0 0) ([] : List Value) ([] : List (List Int)), rowR cd3 v39 x40]) K ⟨(Value.slice none 0 0), 0, ([] : List Int), h51, hF.sub _ ⟨rfl, rfl, rfl, rfl, rfl, rfl, rfl, trivial⟩, hM.pick [3, 1, 2, 0] rfl rfl⟩ ?_ ?_
    · rintro a w ⟨_, _, _, H, _⟩; exact none_some H
    · rintro k a w ⟨v39, x38, x40, H, hF, hM⟩; rw [impl_againOf.l0] at H
      refine wp_seq ?_
      refine s_region ?_
      refine s_val hF rfl rfl rfl (e_lss hF rfl rfl) ?_; intro a hF
      refine s_nil ?_
      refine then_n ?_
      refine wp_seq ?_
      rcases ite_cases H with ⟨c41, H⟩ | ⟨c41, H⟩
      ·
        refine s_cond_t hF rfl (decide_eq_true c41) ?_
        refine wp_skip ?_
        refine then_n ?_
        refine wp_seq ?_
        refine wp_block ?_
        refine wp_seq ?_
        refine s_region ?_
        refine s_val hF rfl rfl rfl (e_move hF rfl) ?_; intro a hF
        refine s_val hF rfl rfl rfl (e_assign hF rfl) ?_; intro a hF
        refine s_nil ?_
        refine then_n ?_
        obtain ⟨t42, h43, H⟩ := bind_some H
        obtain ⟨t45, h46, H⟩ := bind_some H
        obtain ⟨c49, H⟩ := ite_some H
        refine s_held (fun w => Ms X w0 w [boxR b1 [Pt.int a1.1, Pt.int a1.2] 25, boxR b2 [Pt.any u0, Pt.any (Value.slice none 0 0)] 80, nestR cd3 33 (Value.slice none 0 0) ([] : List Value) ([] : List (List Int))]) #[false, false, false, false, false, false, false, false, false] mixed rfl rfl hM ?_; intro w hf hM; clear hf
        refine h_val 0 #[true, false, false, false, false, false, false, false, false] rfl (by kernel_rfl) hF rfl rfl rfl (fun w hS => e_move hF rfl) (hM.pick [0, 1, 2] rfl rfl) ?_; intro a hF
        refine h_val 1 #[true, true, false, false, false, false, false, false, false] rfl (by kernel_rfl) hF rfl rfl rfl (fun w hS => e_lda (i := 0) 0 2 hF hS rfl rfl rfl rfl Try.isAgg25 Try.sizeOf25 rfl) (hM.pick [0, 1, 2] rfl rfl) ?_; intro a hF
        refine h_val 2 #[true, true, true, false, false, false, false, false, false] rfl (by kernel_rfl) hF rfl rfl rfl (fun w hS => e_move hF rfl) (hM.pick [0, 1, 2] rfl rfl) ?_; intro a hF
        refine h_val 3 #[true, true, true, true, false, false, false, false, false] rfl (by kernel_rfl) hF rfl rfl rfl (fun w hS => e_move hF rfl) (hM.pick [0, 1, 2] rfl rfl) ?_; intro a hF
        refine h_one 4 #[true, true, true, true, true, false, false, false, false] rfl (by kernel_rfl) ?_
        refine s_call hF rfl rfl rfl Try.call76 (impl_rollAt.calls K l0 u0 (q0.frmX hM.frm d0) x38 t42 h43) ?_; intro a w v44 hF hf hR
        have hM := hM.fresh hf hR
        refine s_nil ⟨rfl, (hM.pick [1, 2, 3] rfl rfl), ?_⟩
        refine h_one 5 #[true, true, true, true, true, true, false, false, false] rfl (by kernel_rfl) ?_
        refine s_call hF rfl rfl rfl Try.call64 (impl_Goal_score.calls K a1 t42 v44 (hM.sl 0 rfl) t45 h46) ?_; intro a w v hF hf hR
        subst hR; have hM := hM.grow hf
        refine s_nil ⟨rfl, (hM.pick [1, 2, 3] rfl rfl), ?_⟩
        refine h_one 6 #[true, true, true, true, true, true, true, false, false] rfl (by kernel_rfl) ?_
        refine s_bsl (C := cd3) [t45] cdok3 hF hM rfl rfl rfl rfl Try.underlying33 rfl ?_; intro a w v47 hF hM
        refine s_nil ⟨rfl, (hM.pick [2, 3, 4] rfl rfl), ?_⟩
        refine h_one 7 #[true, true, true, true, true, true, true, true, false] rfl (by kernel_rfl) ?_
        refine s_append (i := 5) cdok3 hF hM rfl rfl rfl rfl rfl (hM.sl 0 rfl) Try.underlying33 c49 ?_; intro a w v48 hF hM
        refine s_nil ⟨rfl, (hM.pick [2, 3, 4] rfl rfl), ?_⟩
        refine h_val 8 #[true, true, true, true, true, true, true, true, true] rfl (by kernel_rfl) hF rfl rfl rfl (fun w hS => e_assign hF rfl) (hM.pick [2, 3, 4] rfl rfl) ?_; intro a hF
        refine h_done rfl ?_
        refine blk_n ?_
        refine then_n ?_
        refine s_region ?_
        refine s_val hF rfl rfl rfl (e_add hF rfl rfl) ?_; intro a hF
        refine s_val hF rfl rfl rfl (e_move hF rfl) ?_; intro a hF
        refine s_nil ?_
        refine then_n ?_
        exact ⟨v48, (wrap64 (x38 + 1)), (x40 ++ [t45]), H, hF.sub _ ⟨rfl, rfl, rfl, rfl, rfl, rfl, rfl, trivial⟩, hM.pick [2, 3, 4, 5] rfl rfl⟩
      ·
        refine s_cond_f hF rfl (decide_eq_false c41) ?_
        refine wp_exit ?_
        refine then_x ?_
        refine then_x ?_
        exact ⟨rfl, v39, x40, some_some H, hF.sub _ ⟨rfl, rfl, rfl, trivial⟩, hM.pick [1, 2, 3] rfl rfl⟩
  · rintro e a w ⟨rfl, v36, x37, rfl, hF, hM⟩
    skip
    refine blk_x ?_
    refine then_n ?_
    refine wp_seq ?_
    obtain ⟨c54, H⟩ := ite_some H
    refine s_region ?_
    refine s_val hF rfl rfl rfl (e_move hF rfl) ?_; intro a hF
    refine s_val hF rfl rfl rfl (e_move hF rfl) ?_; intro a hF
    refine s_val hF rfl rfl rfl (e_nilc hF rfl) ?_; intro a hF
    refine s_val hF rfl rfl rfl (e_fa hF rfl Try.underlying80 rfl Try.sizeOf78 rfl rfl) ?_; intro a hF
    refine s_val hF rfl rfl rfl (e_ld (i := 0) (k := 1) hF hM rfl rfl rfl rfl Try.isAgg78 (any_cs (hM.ne 1 rfl).toF.one)) ?_; intro a hF
    refine s_val hF rfl rfl rfl (e_move hF rfl) ?_; intro a hF
    refine s_bnest (i := 2) cdokV33 hF hM rfl rfl rfl rfl Try.underlying78 ?_; intro a w v52 hF hM
    refine s_nappend cdokV33 hF 1 2 [0] hM rfl rfl rfl rfl rfl rfl rfl rfl Try.underlying78 c54 ?_; intro a w v53 hF hM
    refine s_val hF rfl rfl rfl (e_nilc hF rfl) ?_; intro a hF
    refine s_val hF rfl rfl rfl (e_fa hF rfl Try.underlying80 rfl Try.sizeOf78 rfl rfl) ?_; intro a hF
    refine s_st (i := 1) (k := 1) (Pt.any v53) hF hM rfl rfl rfl (any_cells (hM.ne 0 rfl).toF.one) rfl rfl rfl rfl Try.sizeOf78 rfl ?_; intro a w hF hM
    refine s_nil ?_
    refine then_n ?_
    refine wp_seq ?_
    refine wp_seq ?_
    refine s_region ?_
    refine s_val hF rfl rfl rfl (e_assign hF rfl) ?_; intro a hF
    refine s_nil ?_
    refine then_n ?_
    refine wp_block ?_
    obtain ⟨o381, h382, H⟩ := bind_some H
    refine wp_mono (Q := fun e a w => (e = Exit.exit 2 ∧ ∃ v269 : Value, ∃ z271 : (List Value), ∃ x270 : (List (List Int)), x270 = o381 ∧ Fr 81 a [(7, pt b2 0)] ∧ Ms X w0 w [boxR b2 [Pt.any u0, Pt.any v269] 80, nestR cd3 33 v269 z271 x270])) ?_ ?_
    · refine s_loop (fun kq a w => ∃ v273 : Value, ∃ z275 : (List Value), ∃ x272 : Int, ∃ x274 : (List (List Int)), impl_againOf.l11 K l0 a2 kq x272 x274 = some o381 ∧ Fr 81 a [(2, Value.int .i64 a2), (7, pt b2 0), (10, Value.int .i64 x272)] ∧ Ms X w0 w [boxR b2 [Pt.any u0, Pt.any v273] 80, nestR cd3 33 v273 z275 x274]) K ⟨v53, (([] : List Value) ++ [v36]), 1, (([] : List (List Int)) ++ [x37]), h382, hF.sub _ ⟨rfl, rfl, rfl, trivial⟩, hM.pick [1, 0] rfl rfl⟩ ?_ ?_
      · rintro a w ⟨_, _, _, _, H, _⟩; exact none_some H
      · rintro k a w ⟨v273, z275, x272, x274, H, hF, hM⟩; rw [impl_againOf.l11] at H
        refine wp_seq ?_
        refine wp_seq ?_
        refine s_region ?_
        refine s_val hF rfl rfl rfl (e_move hF rfl) ?_; intro a hF
        refine s_val hF rfl rfl rfl (e_move hF rfl) ?_; intro a hF
        refine s_val hF rfl rfl rfl (e_leq hF rfl rfl) ?_; intro a hF
        refine s_nil ?_
        refine then_n ?_
        rcases ite_cases H with ⟨c276, H⟩ | ⟨c276, H⟩
        ·
          refine s_cond_t hF rfl (decide_eq_true c276) ?_
          refine wp_skip ?_
          refine then_n ?_
          refine wp_seq ?_
          refine wp_block ?_
          refine wp_seq ?_
          refine s_region ?_
          refine s_val hF rfl rfl rfl (e_assign hF rfl) ?_; intro a hF
          refine s_nil ?_
          refine then_n ?_
          refine wp_seq ?_
          refine wp_seq ?_
          obtain ⟨t277, h278, H⟩ := bind_some H
          refine s_region ?_
          refine s_val hF rfl rfl rfl (e_move hF rfl) ?_; intro a hF
          refine s_call hF rfl rfl rfl Try.call89 (impl_again_outcomes__c.calls K u0 l0 (q0.frmX hM.frm d0) v273 x274 z275 (hM.ne 1 rfl) b2 (hM.get 0 rfl) t277 h278) ?_; intro a w v hF hf hR
          subst hR; have hM := hM.grow hf
          refine s_val hF rfl rfl rfl (e_move hF rfl) ?_; intro a hF
          refine s_nil ?_
          refine then_n ?_
          refine wp_block ?_
          have hM := hM.nilRow cd3
          obtain ⟨o376, h377, H⟩ := bind_some H
          refine wp_mono (Q := fun e a w => (e = Exit.exit 4 ∧ ∃ v349 : Value, ∃ x350 : (List Int), x350 = o376 ∧ Fr 81 a [(2, Value.int .i64 a2), (7, pt b2 0), (10, Value.int .i64 x272), (11, v349)] ∧ Ms X w0 w [boxR b2 [Pt.any u0, Pt.any v273] 80, nestR cd3 33 v273 z275 x274, rowR cd3 v349 x350])) ?_ ?_
          · refine s_loop (fun kq a w => ∃ v352 : Value, ∃ x351 : Int, ∃ x353 : (List Int), impl_againOf.l15 K l0 x272 x274 t277 kq x351 x353 = some o376 ∧ Fr 81 a [(2, Value.int .i64 a2), (7, pt b2 0), (10, Value.int .i64 x272), (11, v352), (48, Value.int .i64 t277), (49, Value.int .i64 x351)] ∧ Ms X w0 w [boxR b2 [Pt.any u0, Pt.any v273] 80, nestR cd3 33 v273 z275 x274, rowR cd3 v352 x353]) K ⟨(Value.slice none 0 0), 0, ([] : List Int), h377, hF.sub _ ⟨rfl, rfl, rfl, rfl, rfl, rfl, trivial⟩, hM.pick [1, 2, 0] rfl rfl⟩ ?_ ?_
            · rintro a w ⟨_, _, _, H, _⟩; exact none_some H
            · rintro k a w ⟨v352, x351, x353, H, hF, hM⟩; rw [impl_againOf.l15] at H
              refine wp_seq ?_
              refine s_region ?_
              refine s_val hF rfl rfl rfl (e_lss hF rfl rfl) ?_; intro a hF
              refine s_nil ?_
              refine then_n ?_
              refine wp_seq ?_
              rcases ite_cases H with ⟨c354, H⟩ | ⟨c354, H⟩
              ·
                refine s_cond_t hF rfl (decide_eq_true c354) ?_
                refine wp_skip ?_
                refine then_n ?_
                refine wp_seq ?_
                refine wp_block ?_
                refine wp_seq ?_
                refine s_region ?_
                refine s_val hF rfl rfl rfl (e_move hF rfl) ?_; intro a hF
                refine s_val hF rfl rfl rfl (e_assign hF rfl) ?_; intro a hF
                refine s_nil ?_
                refine then_n ?_
                refine wp_seq ?_
                refine s_region ?_
                refine s_val hF rfl rfl rfl (e_assign hF rfl) ?_; intro a hF
                refine s_nil ?_
                refine then_n ?_
                refine wp_seq ?_
                refine wp_seq ?_
                obtain ⟨t355, h356, H⟩ := bind_some H
                refine s_region ?_
                refine s_val hF rfl rfl rfl (e_move hF rfl) ?_; intro a hF
                refine s_call hF rfl rfl rfl Try.call74 (impl_again_sets__c.calls K u0 l0 (q0.frmX hM.frm d0) v273 x274 z275 (hM.ne 1 rfl) b2 (hM.get 0 rfl) t355 h356) ?_; intro a w v hF hf hR
                subst hR; have hM := hM.grow hf
                refine s_val hF rfl rfl rfl (e_move hF rfl) ?_; intro a hF
                refine s_nil ?_
                refine then_n ?_
                refine wp_block ?_
                obtain ⟨o371, h372, H⟩ := bind_some H
                refine wp_mono (Q := fun e a w => (e = Exit.exit 6 ∧ ∃ x365 : Int, x365 = o371 ∧ Fr 81 a [(2, Value.int .i64 a2), (7, pt b2 0), (10, Value.int .i64 x272), (11, v352), (13, Value.int .i64 x365), (48, Value.int .i64 t277), (49, Value.int .i64 x351)] ∧ Ms X w0 w [boxR b2 [Pt.any u0, Pt.any v273] 80, nestR cd3 33 v273 z275 x274, rowR cd3 v352 x353])) ?_ ?_
                · refine s_loop (fun kq a w => ∃ x366 : Int, ∃ x367 : Int, impl_againOf.l16 K l0 x272 x274 x351 t355 kq x366 x367 = some o371 ∧ Fr 81 a [(2, Value.int .i64 a2), (7, pt b2 0), (10, Value.int .i64 x272), (11, v352), (12, Value.int .i64 x351), (13, Value.int .i64 x366), (48, Value.int .i64 t277), (49, Value.int .i64 x351), (53, Value.int .i64 t355), (54, Value.int .i64 x367)] ∧ Ms X w0 w [boxR b2 [Pt.any u0, Pt.any v273] 80, nestR cd3 33 v273 z275 x274, rowR cd3 v352 x353]) K ⟨0, 0, h372, hF.sub _ ⟨rfl, rfl, rfl, rfl, rfl, rfl, rfl, rfl, rfl, rfl, trivial⟩, hM.pick [0, 1, 2] rfl rfl⟩ ?_ ?_
                  · rintro a w ⟨_, _, H, _⟩; exact none_some H
                  · rintro k a w ⟨x366, x367, H, hF, hM⟩; rw [impl_againOf.l16] at H
                    refine wp_seq ?_
                    refine s_region ?_
                    refine s_val hF rfl rfl rfl (e_lss hF rfl rfl) ?_; intro a hF
                    refine s_nil ?_
                    refine then_n ?_
                    refine wp_seq ?_
                    rcases ite_cases H with ⟨c368, H⟩ | ⟨c368, H⟩
                    ·
                      refine s_cond_t hF rfl (decide_eq_true c368) ?_
                      refine wp_skip ?_
                      refine then_n ?_
                      refine wp_seq ?_
                      refine wp_block ?_
                      refine wp_seq ?_
                      refine s_region ?_
                      refine s_val hF rfl rfl rfl (e_move hF rfl) ?_; intro a hF
                      refine s_val hF rfl rfl rfl (e_assign hF rfl) ?_; intro a hF
                      refine s_nil ?_
                      refine then_n ?_
                      obtain ⟨t369, h370, H⟩ := bind_some H
                      refine s_region ?_
                      refine s_val hF rfl rfl rfl (e_move hF rfl) ?_; intro a hF
                      refine s_val hF rfl rfl rfl (e_move hF rfl) ?_; intro a hF
                      refine s_val hF rfl rfl rfl (e_move hF rfl) ?_; intro a hF
                      refine s_val hF rfl rfl rfl (e_move hF rfl) ?_; intro a hF
                      refine s_val hF rfl rfl rfl (e_move hF rfl) ?_; intro a hF
                      refine s_call hF rfl rfl rfl Try.call86 (impl_again_setValue__c.calls K u0 l0 (q0.frmX hM.frm d0) v273 x274 z275 (hM.ne 1 rfl) b2 (hM.get 0 rfl) x351 x367 x272 t369 h370) ?_; intro a w v hF hf hR
                      subst hR; have hM := hM.grow hf
                      refine s_val hF rfl rfl rfl (e_max hF rfl rfl) ?_; intro a hF
                      refine s_val hF rfl rfl rfl (e_assign hF rfl) ?_; intro a hF
                      refine s_nil ?_
                      refine blk_n ?_
                      refine then_n ?_
                      refine s_region ?_
                      refine s_val hF rfl rfl rfl (e_add hF rfl rfl) ?_; intro a hF
                      refine s_val hF rfl rfl rfl (e_move hF rfl) ?_; intro a hF
                      refine s_nil ?_
                      refine then_n ?_
                      exact ⟨(if t369 > x366 then t369 else x366), (wrap64 (x367 + 1)), H, hF.sub _ ⟨rfl, rfl, rfl, rfl, rfl, rfl, rfl, rfl, rfl, rfl, trivial⟩, hM.pick [0, 1, 2] rfl rfl⟩
                    ·
                      refine s_cond_f hF rfl (decide_eq_false c368) ?_
                      refine wp_exit ?_
                      refine then_x ?_
                      refine then_x ?_
                      exact ⟨rfl, x366, some_some H, hF.sub _ ⟨rfl, rfl, rfl, rfl, rfl, rfl, rfl, trivial⟩, hM.pick [0, 1, 2] rfl rfl⟩
                · rintro e a w ⟨rfl, x365, rfl, hF, hM⟩
                  skip
                  refine blk_x ?_
                  refine then_n ?_
                  obtain ⟨c375, H⟩ := ite_some H
                  refine s_region ?_
                  refine s_val hF rfl rfl rfl (e_move hF rfl) ?_; intro a hF
                  refine s_val hF rfl rfl rfl (e_move hF rfl) ?_; intro a hF
                  refine s_bsl (C := cd3) [x365] cdok3 hF hM rfl rfl rfl rfl Try.underlying33 rfl ?_; intro a w v373 hF hM
                  refine s_append (i := 3) cdok3 hF hM rfl rfl rfl rfl rfl (hM.sl 0 rfl) Try.underlying33 c375 ?_; intro a w v374 hF hM
                  refine s_val hF rfl rfl rfl (e_assign hF rfl) ?_; intro a hF
                  refine s_nil ?_
                  refine blk_n ?_
                  refine then_n ?_
                  refine s_region ?_
                  refine s_val hF rfl rfl rfl (e_add hF rfl rfl) ?_; intro a hF
                  refine s_val hF rfl rfl rfl (e_move hF rfl) ?_; intro a hF
                  refine s_nil ?_
                  refine then_n ?_
                  exact ⟨v374, (wrap64 (x351 + 1)), (x353 ++ [x365]), H, hF.sub _ ⟨rfl, rfl, rfl, rfl, rfl, rfl, trivial⟩, hM.pick [1, 2, 3] rfl rfl⟩
              ·
                refine s_cond_f hF rfl (decide_eq_false c354) ?_
                refine wp_exit ?_
                refine then_x ?_
                refine then_x ?_
                exact ⟨rfl, v352, x353, some_some H, hF.sub _ ⟨rfl, rfl, rfl, rfl, trivial⟩, hM.pick [0, 1, 2] rfl rfl⟩
          · rintro e a w ⟨rfl, v349, x350, rfl, hF, hM⟩
            skip
            refine blk_x ?_
            refine then_n ?_
            obtain ⟨c380, H⟩ := ite_some H
            refine s_region ?_
            refine s_val hF rfl rfl rfl (e_move hF rfl) ?_; intro a hF
            refine s_val hF rfl rfl rfl (e_move hF rfl) ?_; intro a hF
            refine s_val hF rfl rfl rfl (e_nilc hF rfl) ?_; intro a hF
            refine s_val hF rfl rfl rfl (e_fa hF rfl Try.underlying80 rfl Try.sizeOf78 rfl rfl) ?_; intro a hF
            refine s_val hF rfl rfl rfl (e_ld (i := 0) (k := 1) hF hM rfl rfl rfl rfl Try.isAgg78 (any_cs (hM.ne 1 rfl).toF.one)) ?_; intro a hF
            refine s_val hF rfl rfl rfl (e_move hF rfl) ?_; intro a hF
            refine s_bnest (i := 2) cdokV33 hF hM rfl rfl rfl rfl Try.underlying78 ?_; intro a w v378 hF hM
            refine s_nappend cdokV33 hF 1 2 [0] hM rfl rfl rfl rfl rfl rfl rfl rfl Try.underlying78 c380 ?_; intro a w v379 hF hM
            refine s_val hF rfl rfl rfl (e_nilc hF rfl) ?_; intro a hF
            refine s_val hF rfl rfl rfl (e_fa hF rfl Try.underlying80 rfl Try.sizeOf78 rfl rfl) ?_; intro a hF
            refine s_st (i := 1) (k := 1) (Pt.any v379) hF hM rfl rfl rfl (any_cells (hM.ne 0 rfl).toF.one) rfl rfl rfl rfl Try.sizeOf78 rfl ?_; intro a w hF hM
            refine s_nil ?_
            refine blk_n ?_
            refine then_n ?_
            refine s_region ?_
            refine s_val hF rfl rfl rfl (e_move hF rfl) ?_; intro a hF
            refine s_val hF rfl rfl rfl (e_add hF rfl rfl) ?_; intro a hF
            refine s_val hF rfl rfl rfl (e_assign hF rfl) ?_; intro a hF
            refine s_nil ?_
            refine then_n ?_
            exact ⟨v379, (z275 ++ [v349]), (wrap64 (x272 + 1)), (x274 ++ [x350]), H, hF.sub _ ⟨rfl, rfl, rfl, trivial⟩, hM.pick [1, 0] rfl rfl⟩
        ·
          refine s_cond_f hF rfl (decide_eq_false c276) ?_
          refine wp_exit ?_
          refine then_x ?_
          refine then_x ?_
          exact ⟨rfl, v273, z275, x274, some_some H, hF.sub _ ⟨rfl, trivial⟩, hM.pick [0, 1] rfl rfl⟩
    · rintro e a w ⟨rfl, v269, z271, x270, rfl, hF, hM⟩
      skip
      refine blk_x ?_
      refine then_n ?_
      refine wp_seq ?_
      refine s_region ?_
      refine s_val hF rfl rfl rfl (e_move hF rfl) ?_; intro a hF
      refine s_val hF rfl rfl rfl (e_assign hF rfl) ?_; intro a hF
      refine s_nil ?_
      refine then_n ?_
      refine wp_ret ?_
      obtain rfl := some_some H
      refine s_ret [pt b2 0] hF Try.results84 ⟨rfl, trivial⟩ ?_
      exact ⟨_, rfl, b2, v269, z271, hM.pick [0, 1] rfl rfl, rfl⟩

/-! ### (*loop.example/g01210/impl.again).bestSets: function 91 -/
def impl_again_bestSets__c.l0 (K : Nat) (y4 : (List (Ar 6))) (y7 : (List (List Int))) (a1 : Int) (a2 : Int) (t10 : Int) : Nat → Int → (List Int) → Option (List Int)
  | 0, _, _ => none
  | k + 1, x45, x47 => if x45 < t10 then ((impl_again_setValue__c.f K y4 y7 a1 x45 a2).bind fun t49 => if (0 : Int) ≤ a2 ∧ a2 < (y7.length : Int) then (if (0 : Int) ≤ a1 ∧ a1 < ((y7.getD (a2 : Int).toNat []).length : Int) then (if t49 = ((y7.getD (a2 : Int).toNat []).getD (a1 : Int).toNat (0 : Int)) then (if x47.length + [x45].length ≤ 1073741824 then (impl_again_bestSets__c.l0 K y4 y7 a1 a2 t10 k (wrap64 (x45 + 1)) (x47 ++ [x45])) else none) else (impl_again_bestSets__c.l0 K y4 y7 a1 a2 t10 k (wrap64 (x45 + 1)) x47)) else none) else none) else (some x47)
def impl_again_bestSets__c.f (K : Nat) (y4 : (List (Ar 6))) (y7 : (List (List Int))) (a1 : Int) (a2 : Int) : Option (List Int) := (impl_again_sets__c.f K y4 y7).bind fun t10 => (impl_again_bestSets__c.l0 K y4 y7 a1 a2 t10 K 0 ([] : List Int)).bind fun x44 => some x44
set_option maxRecDepth 100000 in
set_option maxHeartbeats 4000000 in
theorem impl_again_bestSets__c.calls {w0 : World} (K : Nat) (v3 : Value) (y4 : (List (Ar 6))) (q5 : SlR cd28 w0 v3 y4) (v6 : Value) (y7 : (List (List Int))) (z8 : List Value) (q9 : NeR cd3 33 w0 v6 z8 y7) (b1 : Nat) (q2 : (boxR b1 [Pt.any v3, Pt.any v6] 80).holds w0) (a1 : Int) (a2 : Int) (r : (List Int)) (H : impl_again_bestSets__c.f K y4 y7 a1 a2 = some r) : Calls Try.prog 91 [pt b1 0, Value.int .i64 a1, Value.int .i64 a2].toArray w0 (Post w0 fun w v => Fresh cd3 w0.heap.size w v r) := by
  rw [impl_again_bestSets__c.f] at H
  refine s_start Try.func91 rfl Try.ntmps91 rfl ?_
  intro a hF
  have hM := Ms.start w0
  skip
  refine wp_seq ?_
  refine s_region ?_
  refine s_val hF rfl rfl rfl (e_assign hF rfl) ?_; intro a hF
  refine s_nil ?_
  refine then_n ?_
  refine wp_seq ?_
  refine s_region ?_
  refine s_val hF rfl rfl rfl (e_assign hF rfl) ?_; intro a hF
  refine s_nil ?_
  refine then_n ?_
  refine wp_seq ?_
  refine wp_seq ?_
  obtain ⟨t10, h11, H⟩ := bind_some H
  refine s_region ?_
  refine s_val hF rfl rfl rfl (e_move hF rfl) ?_; intro a hF
  refine s_call hF rfl rfl rfl Try.call74 (impl_again_sets__c.calls K v3 y4 (q5.frm hM.frm) v6 y7 z8 (q9.frm hM.frm) b1 (box_frm q2 hM.frm) t10 h11) ?_; intro a w v hF hf hR
  subst hR; have hM := hM.grow hf
  refine s_val hF rfl rfl rfl (e_move hF rfl) ?_; intro a hF
  refine s_nil ?_
  refine then_n ?_
  refine wp_block ?_
  have hM := hM.nilRow cd3
  obtain ⟨o60, h61, H⟩ := bind_some H
  refine wp_mono (Q := fun e a w => (e = Exit.exit 0 ∧ ∃ v43 : Value, ∃ x44 : (List Int), x44 = o60 ∧ Fr 36 a [(7, v43)] ∧ Ms [] w0 w [rowR cd3 v43 x44])) ?_ ?_
  · refine s_loop (fun kq a w => ∃ v46 : Value, ∃ x45 : Int, ∃ x47 : (List Int), impl_again_bestSets__c.l0 K y4 y7 a1 a2 t10 kq x45 x47 = some o60 ∧ Fr 36 a [(0, pt b1 0), (1, Value.int .i64 a1), (2, Value.int .i64 a2), (7, v46), (10, Value.int .i64 t10), (11, Value.int .i64 x45)] ∧ Ms [] w0 w [rowR cd3 v46 x47]) K ⟨(Value.slice none 0 0), 0, ([] : List Int), h61, hF.sub _ ⟨rfl, rfl, rfl, rfl, rfl, rfl, trivial⟩, hM.pick [0] rfl rfl⟩ ?_ ?_
    · rintro a w ⟨_, _, _, H, _⟩; exact none_some H
    · rintro k a w ⟨v46, x45, x47, H, hF, hM⟩; rw [impl_again_bestSets__c.l0] at H
      refine wp_seq ?_
      refine s_region ?_
      refine s_val hF rfl rfl rfl (e_lss hF rfl rfl) ?_; intro a hF
      refine s_nil ?_
      refine then_n ?_
      refine wp_seq ?_
      rcases ite_cases H with ⟨c48, H⟩ | ⟨c48, H⟩
      ·
        refine s_cond_t hF rfl (decide_eq_true c48) ?_
        refine wp_skip ?_
        refine then_n ?_
        refine wp_seq ?_
        refine wp_block ?_
        refine wp_seq ?_
        refine s_region ?_
        refine s_val hF rfl rfl rfl (e_move hF rfl) ?_; intro a hF
        refine s_val hF rfl rfl rfl (e_assign hF rfl) ?_; intro a hF
        refine s_nil ?_
        refine then_n ?_
        refine wp_seq ?_
        obtain ⟨t49, h50, H⟩ := bind_some H
        obtain ⟨c51, H⟩ := ite_some H
        obtain ⟨c52, H⟩ := ite_some H
        refine s_held (fun w => Ms [] w0 w [rowR cd3 v46 x47]) #[false, false, false, false, false, false, false, false, false, false, false, false, false, false, false, false] mixed rfl rfl hM ?_; intro w hf hM; clear hf
        refine h_val 0 #[true, false, false, false, false, false, false, false, false, false, false, false, false, false, false, false] rfl (by kernel_rfl) hF rfl rfl rfl (fun w hS => e_move hF rfl) (hM.pick [0] rfl rfl) ?_; intro a hF
        refine h_val 1 #[true, true, false, false, false, false, false, false, false, false, false, false, false, false, false, false] rfl (by kernel_rfl) hF rfl rfl rfl (fun w hS => e_move hF rfl) (hM.pick [0] rfl rfl) ?_; intro a hF
        refine h_val 2 #[true, true, true, false, false, false, false, false, false, false, false, false, false, false, false, false] rfl (by kernel_rfl) hF rfl rfl rfl (fun w hS => e_move hF rfl) (hM.pick [0] rfl rfl) ?_; intro a hF
        refine h_val 3 #[true, true, true, true, false, false, false, false, false, false, false, false, false, false, false, false] rfl (by kernel_rfl) hF rfl rfl rfl (fun w hS => e_move hF rfl) (hM.pick [0] rfl rfl) ?_; intro a hF
        refine h_val 5 #[true, true, true, true, false, true, false, false, false, false, false, false, false, false, false, false] rfl (by kernel_rfl) hF rfl rfl rfl (fun w hS => e_move hF rfl) (hM.pick [0] rfl rfl) ?_; intro a hF
        refine h_val 6 #[true, true, true, true, false, true, true, false, false, false, false, false, false, false, false, false] rfl (by kernel_rfl) hF rfl rfl rfl (fun w hS => e_nilc hF rfl) (hM.pick [0] rfl rfl) ?_; intro a hF
        refine h_val 7 #[true, true, true, true, false, true, true, true, false, false, false, false, false, false, false, false] rfl (by kernel_rfl) hF rfl rfl rfl (fun w hS => e_fa hF rfl Try.underlying80 rfl Try.sizeOf78 rfl rfl) (hM.pick [0] rfl rfl) ?_; intro a hF
        have f53 := (q9.frm hM.frm).toF
        refine h_val 8 #[true, true, true, true, false, true, true, true, true, false, false, false, false, false, false, false] rfl (by kernel_rfl) hF rfl rfl rfl (fun w hS => e_ld (i := 0) (k := 1) hF (lent_ms (box_frm q2 hS.frm)) rfl rfl rfl rfl Try.isAgg78 (any_cs f53.one)) (hM.pick [0] rfl rfl) ?_; intro a hF
        refine h_val 9 #[true, true, true, true, false, true, true, true, true, true, false, false, false, false, false, false] rfl (by kernel_rfl) hF rfl rfl rfl (fun w hS => e_move hF rfl) (hM.pick [0] rfl rfl) ?_; intro a hF
        have f54 := (q9.frm hM.frm).toF
        refine h_val 10 #[true, true, true, true, false, true, true, true, true, true, true, false, false, false, false, false] rfl (by kernel_rfl) hF rfl rfl rfl (fun w hS => e_ias (cdV 33) hF rfl rfl f54 Try.underlying78 Try.sizeOf33 c51.1 c51.2) (hM.pick [0] rfl rfl) ?_; intro a hF
        refine h_val 11 #[true, true, true, true, false, true, true, true, true, true, true, true, false, false, false, false] rfl (by kernel_rfl) hF rfl rfl rfl (fun w hS => e_lds (C := cdV 33) (m := a2) hF rfl (q9.frm hS.frm).out ((q9.frm hS.frm).at c51) rfl (any_cs ((q9.frm hS.frm).get c51).toF.one) Try.isAgg33) (hM.pick [0] rfl rfl) ?_; intro a hF
        refine h_val 12 #[true, true, true, true, false, true, true, true, true, true, true, true, true, false, false, false] rfl (by kernel_rfl) hF rfl rfl rfl (fun w hS => e_move hF rfl) (hM.pick [0] rfl rfl) ?_; intro a hF
        have f55 := ((q9.frm hM.frm).get c51).toF
        refine h_val 13 #[true, true, true, true, false, true, true, true, true, true, true, true, true, true, false, false] rfl (by kernel_rfl) hF rfl rfl rfl (fun w hS => e_ias cd3 hF rfl rfl f55 Try.underlying33 Try.sizeOf3 c52.1 c52.2) (hM.pick [0] rfl rfl) ?_; intro a hF
        refine h_val 14 #[true, true, true, true, false, true, true, true, true, true, true, true, true, true, true, false] rfl (by kernel_rfl) hF rfl rfl rfl (fun w hS => e_lds (m := a1) hF rfl ((q9.frm hS.frm).get c51) (getD_some (z := (0 : Int)) c52.1 c52.2) rfl rfl Try.isAgg3) (hM.pick [0] rfl rfl) ?_; intro a hF
        refine h_one 4 #[true, true, true, true, true, true, true, true, true, true, true, true, true, true, true, false] rfl (by kernel_rfl) ?_
        refine s_call hF rfl rfl rfl Try.call86 (impl_again_setValue__c.calls K v3 y4 (q5.frm hM.frm) v6 y7 z8 (q9.frm hM.frm) b1 (box_frm q2 hM.frm) a1 x45 a2 t49 h50) ?_; intro a w v hF hf hR
        subst hR; have hM := hM.grow hf
        refine s_nil ⟨rfl, (hM.pick [0] rfl rfl), ?_⟩
        refine h_val 15 #[true, true, true, true, true, true, true, true, true, true, true, true, true, true, true, true] rfl (by kernel_rfl) hF rfl rfl rfl (fun w hS => e_eql hF rfl rfl) (hM.pick [0] rfl rfl) ?_; intro a hF
        refine h_done rfl ?_
        refine then_n ?_
        rcases ite_cases H with ⟨c56, H⟩ | ⟨c56, H⟩
        ·
          refine s_cond_t hF rfl (decide_eq_true c56) ?_
          obtain ⟨c59, H⟩ := ite_some H
          refine s_region ?_
          refine s_val hF rfl rfl rfl (e_move hF rfl) ?_; intro a hF
          refine s_val hF rfl rfl rfl (e_move hF rfl) ?_; intro a hF
          refine s_bsl (C := cd3) [x45] cdok3 hF hM rfl rfl rfl rfl Try.underlying33 rfl ?_; intro a w v57 hF hM
          refine s_append (i := 1) cdok3 hF hM rfl rfl rfl rfl rfl (hM.sl 0 rfl) Try.underlying33 c59 ?_; intro a w v58 hF hM
          refine s_val hF rfl rfl rfl (e_assign hF rfl) ?_; intro a hF
          refine s_nil ?_
          refine blk_n ?_
          refine then_n ?_
          refine s_region ?_
          refine s_val hF rfl rfl rfl (e_add hF rfl rfl) ?_; intro a hF
          refine s_val hF rfl rfl rfl (e_move hF rfl) ?_; intro a hF
          refine s_nil ?_
          refine then_n ?_
          exact ⟨v58, (wrap64 (x45 + 1)), (x47 ++ [x45]), H, hF.sub _ ⟨rfl, rfl, rfl, rfl, rfl, rfl, trivial⟩, hM.pick [1] rfl rfl⟩
        ·
          refine s_cond_f hF rfl (decide_eq_false c56) ?_
          refine wp_skip ?_
          refine blk_n ?_
          refine then_n ?_
          refine s_region ?_
          refine s_val hF rfl rfl rfl (e_add hF rfl rfl) ?_; intro a hF
          refine s_val hF rfl rfl rfl (e_move hF rfl) ?_; intro a hF
          refine s_nil ?_
          refine then_n ?_
          exact ⟨v46, (wrap64 (x45 + 1)), x47, H, hF.sub _ ⟨rfl, rfl, rfl, rfl, rfl, rfl, trivial⟩, hM.pick [0] rfl rfl⟩
      ·
        refine s_cond_f hF rfl (decide_eq_false c48) ?_
        refine wp_exit ?_
        refine then_x ?_
        refine then_x ?_
        exact ⟨rfl, v46, x47, some_some H, hF.sub _ ⟨rfl, trivial⟩, hM.pick [0] rfl rfl⟩
  · rintro e a w ⟨rfl, v43, x44, rfl, hF, hM⟩
    skip
    refine blk_x ?_
    refine then_n ?_
    refine wp_seq ?_
    refine s_region ?_
    refine s_val hF rfl rfl rfl (e_move hF rfl) ?_; intro a hF
    refine s_val hF rfl rfl rfl (e_assign hF rfl) ?_; intro a hF
    refine s_nil ?_
    refine then_n ?_
    refine wp_ret ?_
    obtain rfl := some_some H
    refine s_ret [v43] hF Try.results91 ⟨rfl, trivial⟩ ?_
    exact ⟨_, rfl, hM.frm, hM.give 0 rfl⟩

/-! ### loop.example/g01210/impl.CountKept: function 46 -/
def impl_CountKept.l0 (K : Nat) (l0 : (List (Ar 6))) (a2 : Int) (t5 : (List (List Int))) (t10 : Int) : Nat → Int → Int → Option Int
  | 0, _, _ => none
  | k + 1, x29, x30 => if x30 < t10 then ((impl_again_bestSets__c.f K l0 t5 x30 a2).bind fun t32 => if (0 : Int) ≤ 0 ∧ 0 < (t32.length : Int) then ((impl_truth.f K (decide ((t32.getD (0 : Int).toNat (0 : Int)) = 0))).bind fun t36 => impl_CountKept.l0 K l0 a2 t5 t10 k (wrap64 (x29 + t36)) (wrap64 (x30 + 1))) else none) else (some x29)
def impl_CountKept.f (K : Nat) (l0 : (List (Ar 6))) (a1 : (Int × Int)) (a2 : Int) : Option (Int × Bool) := (impl_isAgain.f K l0 a1 a2 1).bind fun t2 => if t2 = true then ((impl_againOf.f K l0 a1 a2).bind fun t5 => (impl_again_outcomes__c.f K l0 t5).bind fun t10 => (impl_CountKept.l0 K l0 a2 t5 t10 K 0 0).bind fun x28 => some (x28, true)) else (some (0, false))
set_option maxRecDepth 100000 in
set_option maxHeartbeats 4000000 in
theorem impl_CountKept.calls {w0 : World} (K : Nat) (l0 : (List (Ar 6))) (u0 : Value) (q0 : SlR cd28 w0 u0 l0) (a1 : (Int × Int)) (a2 : Int) (r : (Int × Bool)) (H : impl_CountKept.f K l0 a1 a2 = some r) : Calls Try.prog 46 [u0, ag [Pt.int a1.1, Pt.int a1.2], Value.int .i64 a2].toArray w0 (Post w0 fun w v => v = Value.tuple #[Value.int .i64 r.1, Value.bool r.2]) := by
  rw [impl_CountKept.f] at H
  refine s_start Try.func46 rfl Try.ntmps46 rfl ?_
  intro a hF
  have hM := Ms.start w0
  skip
  refine wp_seq ?_
  refine s_region ?_
  refine s_box (ps := [Pt.int a1.1, Pt.int a1.2]) hF hM rfl rfl rfl rfl ?_; intro a w b1 hF hM
  refine s_val hF rfl rfl rfl (e_assign hF rfl) ?_; intro a hF
  refine s_val hF rfl rfl rfl (e_assign hF rfl) ?_; intro a hF
  refine s_nil ?_
  refine then_n ?_
  refine wp_seq ?_
  refine wp_seq ?_
  obtain ⟨t2, h3, H⟩ := bind_some H
  refine s_region ?_
  refine s_val hF rfl rfl rfl (e_move hF rfl) ?_; intro a hF
  refine s_val hF rfl rfl rfl (e_lda (i := 0) 0 2 hF hM rfl rfl rfl rfl Try.isAgg25 Try.sizeOf25 rfl) ?_; intro a hF
  refine s_val hF rfl rfl rfl (e_move hF rfl) ?_; intro a hF
  refine s_call hF rfl rfl rfl Try.call83 (impl_isAgain.calls K l0 u0 (q0.frm hM.frm) a1 a2 1 t2 h3) ?_; intro a w v hF hf hR
  subst hR; have hM := hM.grow hf
  refine s_val hF rfl rfl rfl (e_not hF rfl) ?_; intro a hF
  refine s_nil ?_
  refine then_n ?_
  rcases ite_cases H with ⟨c4, H⟩ | ⟨c4, H⟩
  ·
    refine s_cond_f hF rfl (congrArg Bool.not c4) ?_
    refine wp_skip ?_
    refine then_n ?_
    refine wp_seq ?_
    obtain ⟨t5, h6, H⟩ := bind_some H
    refine s_region ?_
    refine s_val hF rfl rfl rfl (e_move hF rfl) ?_; intro a hF
    refine s_val hF rfl rfl rfl (e_lda (i := 0) 0 2 hF hM rfl rfl rfl rfl Try.isAgg25 Try.sizeOf25 rfl) ?_; intro a hF
    refine s_val hF rfl rfl rfl (e_move hF rfl) ?_; intro a hF
    refine s_callx hF rfl rfl rfl Try.call84 (impl_againOf.calls K l0 u0 (q0.frm hM.frm) (hM.apart_arg q0 (fun _ => List.not_mem_nil) [] rfl) a1 a2 (hM.lend [] rfl rfl) t5 h6) ?_; intro a w v hF hR
    obtain ⟨b7, v8, z9, hR, rfl⟩ := hR; have hM := hM.back [] [0] (by decide) rfl rfl hR
    refine s_val hF rfl rfl rfl (e_assign hF rfl) ?_; intro a hF
    refine s_nil ?_
    refine then_n ?_
    refine wp_seq ?_
    refine s_region ?_
    refine s_val hF rfl rfl rfl (e_assign hF rfl) ?_; intro a hF
    refine s_nil ?_
    refine then_n ?_
    refine wp_seq ?_
    refine wp_seq ?_
    obtain ⟨t10, h11, H⟩ := bind_some H
    refine s_region ?_
    refine s_val hF rfl rfl rfl (e_move hF rfl) ?_; intro a hF
    refine s_call hF rfl rfl rfl Try.call89 (impl_again_outcomes__c.calls K u0 l0 (q0.frm hM.frm) v8 t5 z9 (hM.ne 1 rfl) b7 (hM.get 0 rfl) t10 h11) ?_; intro a w v hF hf hR
    subst hR; have hM := hM.grow hf
    refine s_val hF rfl rfl rfl (e_move hF rfl) ?_; intro a hF
    refine s_nil ?_
    refine then_n ?_
    refine wp_block ?_
    obtain ⟨o38, h39, H⟩ := bind_some H
    refine wp_mono (Q := fun e a w => (e = Exit.exit 0 ∧ ∃ x28 : Int, x28 = o38 ∧ Fr 37 a [(9, Value.int .i64 x28)] ∧ Ms [] w0 w [])) ?_ ?_
    · refine s_loop (fun kq a w => ∃ x29 : Int, ∃ x30 : Int, impl_CountKept.l0 K l0 a2 t5 t10 kq x29 x30 = some o38 ∧ Fr 37 a [(2, Value.int .i64 a2), (8, pt b7 0), (9, Value.int .i64 x29), (21, Value.int .i64 t10), (22, Value.int .i64 x30)] ∧ Ms [] w0 w [boxR b7 [Pt.any u0, Pt.any v8] 80, nestR cd3 33 v8 z9 t5]) K ⟨0, 0, h39, hF.sub _ ⟨rfl, rfl, rfl, rfl, rfl, trivial⟩, hM.pick [0, 1] rfl rfl⟩ ?_ ?_
      · rintro a w ⟨_, _, H, _⟩; exact none_some H
      · rintro k a w ⟨x29, x30, H, hF, hM⟩; rw [impl_CountKept.l0] at H
        refine wp_seq ?_
        refine s_region ?_
        refine s_val hF rfl rfl rfl (e_lss hF rfl rfl) ?_; intro a hF
        refine s_nil ?_
        refine then_n ?_
        refine wp_seq ?_
        rcases ite_cases H with ⟨c31, H⟩ | ⟨c31, H⟩
        ·
          refine s_cond_t hF rfl (decide_eq_true c31) ?_
          refine wp_skip ?_
          refine then_n ?_
          refine wp_seq ?_
          refine wp_block ?_
          refine wp_seq ?_
          refine s_region ?_
          refine s_val hF rfl rfl rfl (e_move hF rfl) ?_; intro a hF
          refine s_val hF rfl rfl rfl (e_assign hF rfl) ?_; intro a hF
          refine s_nil ?_
          refine then_n ?_
          obtain ⟨t32, h33, H⟩ := bind_some H
          obtain ⟨c35, H⟩ := ite_some H
          obtain ⟨t36, h37, H⟩ := bind_some H
          refine s_region ?_
          refine s_val hF rfl rfl rfl (e_move hF rfl) ?_; intro a hF
          refine s_val hF rfl rfl rfl (e_move hF rfl) ?_; intro a hF
          refine s_val hF rfl rfl rfl (e_move hF rfl) ?_; intro a hF
          refine s_val hF rfl rfl rfl (e_move hF rfl) ?_; intro a hF
          refine s_call hF rfl rfl rfl Try.call91 (impl_again_bestSets__c.calls K u0 l0 (q0.frm hM.frm) v8 t5 z9 (hM.ne 1 rfl) b7 (hM.get 0 rfl) x30 a2 t32 h33) ?_; intro a w v34 hF hf hR
          have hM := hM.fresh hf hR
          refine s_val hF rfl rfl rfl (e_ias cd3 hF rfl rfl (hM.sl 0 rfl).toF Try.underlying33 Try.sizeOf3 c35.1 c35.2) ?_; intro a hF
          refine s_val hF rfl rfl rfl (e_lds (m := 0) hF rfl (hM.sl 0 rfl) (getD_some (z := (0 : Int)) c35.1 c35.2) rfl rfl Try.isAgg3) ?_; intro a hF
          refine s_val hF rfl rfl rfl (e_eql hF rfl rfl) ?_; intro a hF
          refine s_call hF rfl rfl rfl Try.call90 (impl_truth.calls K (decide ((t32.getD (0 : Int).toNat (0 : Int)) = 0)) t36 h37) ?_; intro a w v hF hf hR
          subst hR; have hM := hM.grow hf
          refine s_val hF rfl rfl rfl (e_add hF rfl rfl) ?_; intro a hF
          refine s_val hF rfl rfl rfl (e_assign hF rfl) ?_; intro a hF
          refine s_nil ?_
          refine blk_n ?_
          refine then_n ?_
          refine s_region ?_
          refine s_val hF rfl rfl rfl (e_add hF rfl rfl) ?_; intro a hF
          refine s_val hF rfl rfl rfl (e_move hF rfl) ?_; intro a hF
          refine s_nil ?_
          refine then_n ?_
          exact ⟨(wrap64 (x29 + t36)), (wrap64 (x30 + 1)), H, hF.sub _ ⟨rfl, rfl, rfl, rfl, rfl, trivial⟩, hM.pick [1, 2] rfl rfl⟩
        ·
          refine s_cond_f hF rfl (decide_eq_false c31) ?_
          refine wp_exit ?_
          refine then_x ?_
          refine then_x ?_
          exact ⟨rfl, x29, some_some H, hF.sub _ ⟨rfl, trivial⟩, hM.pick [] rfl rfl⟩
    · rintro e a w ⟨rfl, x28, rfl, hF, hM⟩
      skip
      refine blk_x ?_
      refine then_n ?_
      refine wp_seq ?_
      refine s_region ?_
      refine s_val hF rfl rfl rfl (e_move hF rfl) ?_; intro a hF
      refine s_val hF rfl rfl rfl (e_assign hF rfl) ?_; intro a hF
      refine s_val hF rfl rfl rfl (e_assign hF rfl) ?_; intro a hF
      refine s_nil ?_
      refine then_n ?_
      refine wp_ret ?_
      obtain rfl := some_some H
      refine s_ret [Value.int .i64 x28, Value.bool true] hF Try.results46 ⟨rfl, rfl, trivial⟩ ?_
      exact ⟨_, rfl, hM.frm, rfl⟩
  ·
    refine s_cond_t hF rfl (congrArg Bool.not (bf c4)) ?_
    refine wp_seq ?_
    refine s_region ?_
    refine s_val hF rfl rfl rfl (e_assign hF rfl) ?_; intro a hF
    refine s_val hF rfl rfl rfl (e_assign hF rfl) ?_; intro a hF
    refine s_nil ?_
    refine then_n ?_
    refine wp_ret ?_
    refine then_r ?_
    obtain rfl := some_some H
    refine s_ret [Value.int .i64 0, Value.bool false] hF Try.results46 ⟨rfl, rfl, trivial⟩ ?_
    exact ⟨_, rfl, hM.frm, rfl⟩

/-! ### loop.example/g01210/laws.eqIntA6: function 77 -/
def laws_eqIntA6.l0 (K : Nat) (a0 : (Ar 6)) (a1 : (Ar 6)) : Nat → Int → Option (Sum Unit Bool)
  | 0, _ => none
  | k + 1, x8 => if x8 < 6 then (if (0 : Int) ≤ x8 ∧ x8 < 6 then (if (a0.get x8) = (a1.get x8) then (laws_eqIntA6.l0 K a0 a1 k (wrap64 (x8 + 1))) else (some (Sum.inr false))) else none) else (some (Sum.inl ()))
def laws_eqIntA6.f (K : Nat) (a0 : (Ar 6)) (a1 : (Ar 6)) : Option Bool := (laws_eqIntA6.l0 K a0 a1 K 0).bind fun o12 => (match o12 with | .inl () => some true | .inr r14 => some r14)
set_option maxRecDepth 100000 in
set_option maxHeartbeats 4000000 in
theorem laws_eqIntA6.calls {w0 : World} (K : Nat) (a0 : (Ar 6)) (a1 : (Ar 6)) (r : Bool) (H : laws_eqIntA6.f K a0 a1 = some r) : Calls Try.prog 77 [ag [Pt.ar a0], ag [Pt.ar a1]].toArray w0 (Post w0 fun w v => v = Value.bool r) := by
  rw [laws_eqIntA6.f] at H
  refine s_start Try.func77 rfl Try.ntmps77 rfl ?_
  intro a hF
  have hM := Ms.start w0
  skip
  refine wp_seq ?_
  refine s_region ?_
  refine s_box (ps := [Pt.ar a0]) hF hM rfl rfl rfl rfl ?_; intro a w b1 hF hM
  refine s_box (ps := [Pt.ar a1]) hF hM rfl rfl rfl rfl ?_; intro a w b2 hF hM
  refine s_val hF rfl rfl rfl (e_assign hF rfl) ?_; intro a hF
  refine s_nil ?_
  refine then_n ?_
  refine wp_seq ?_
  refine wp_seq ?_
  refine s_region ?_
  refine s_val hF rfl rfl rfl (e_assign hF rfl) ?_; intro a hF
  refine s_nil ?_
  refine then_n ?_
  refine wp_block ?_
  obtain ⟨o12, h13, H⟩ := bind_some H
  refine wp_mono (Q := fun e a w => (e = Exit.exit 0 ∧ Sum.inl () = o12 ∧ Fr 17 a [] ∧ Ms [] w0 w []) ∨ (e = Exit.ret ∧ ∃ r14 : Bool, Sum.inr r14 = o12 ∧ Fr 17 a [(4, Value.bool r14)] ∧ Ms [] w0 w [])) ?_ ?_
  · refine s_loop (fun kq a w => ∃ x8 : Int, laws_eqIntA6.l0 K a0 a1 kq x8 = some o12 ∧ Fr 17 a [(2, pt b1 0), (3, pt b2 0), (5, Value.int .i64 x8)] ∧ Ms [] w0 w [boxR b1 [Pt.ar a0] 28, boxR b2 [Pt.ar a1] 28]) K ⟨0, h13, hF.sub _ ⟨rfl, rfl, rfl, trivial⟩, hM.pick [1, 0] rfl rfl⟩ ?_ ?_
    · rintro a w ⟨_, H, _⟩; exact none_some H
    · rintro k a w ⟨x8, H, hF, hM⟩; rw [laws_eqIntA6.l0] at H
      refine wp_seq ?_
      refine wp_seq ?_
      refine s_region ?_
      refine s_val hF rfl rfl rfl (e_move hF rfl) ?_; intro a hF
      refine s_val hF rfl rfl rfl (e_lss hF rfl rfl) ?_; intro a hF
      refine s_nil ?_
      refine then_n ?_
      rcases ite_cases H with ⟨c9, H⟩ | ⟨c9, H⟩
      ·
        refine s_cond_t hF rfl (decide_eq_true c9) ?_
        refine wp_skip ?_
        refine then_n ?_
        refine wp_seq ?_
        refine wp_block ?_
        refine wp_seq ?_
        obtain ⟨c10, H⟩ := ite_some H
        refine s_held (fun w => Ms [] w0 w [boxR b1 [Pt.ar a0] 28, boxR b2 [Pt.ar a1] 28]) #[false, false, false, false, false, false, false] mixed rfl rfl hM ?_; intro w hf hM; clear hf
        refine h_val 0 #[true, false, false, false, false, false, false] rfl (by kernel_rfl) hF rfl rfl rfl (fun w hS => e_move hF rfl) (hM.pick [0, 1] rfl rfl) ?_; intro a hF
        refine h_val 1 #[true, true, false, false, false, false, false] rfl (by kernel_rfl) hF rfl rfl rfl (fun w hS => e_ia hF rfl rfl Try.underlying28 Try.sizeOf3 c10.1 c10.2) (hM.pick [0, 1] rfl rfl) ?_; intro a hF
        refine h_val 2 #[true, true, true, false, false, false, false] rfl (by kernel_rfl) hF rfl rfl rfl (fun w hS => e_ldi (i := 0) (k := 0) hF hS rfl rfl rfl rfl rfl Try.isAgg3 c10.1 c10.2) (hM.pick [0, 1] rfl rfl) ?_; intro a hF
        refine h_val 3 #[true, true, true, true, false, false, false] rfl (by kernel_rfl) hF rfl rfl rfl (fun w hS => e_move hF rfl) (hM.pick [0, 1] rfl rfl) ?_; intro a hF
        refine h_val 4 #[true, true, true, true, true, false, false] rfl (by kernel_rfl) hF rfl rfl rfl (fun w hS => e_ia hF rfl rfl Try.underlying28 Try.sizeOf3 c10.1 c10.2) (hM.pick [0, 1] rfl rfl) ?_; intro a hF
        refine h_val 5 #[true, true, true, true, true, true, false] rfl (by kernel_rfl) hF rfl rfl rfl (fun w hS => e_ldi (i := 1) (k := 0) hF hS rfl rfl rfl rfl rfl Try.isAgg3 c10.1 c10.2) (hM.pick [0, 1] rfl rfl) ?_; intro a hF
        refine h_val 6 #[true, true, true, true, true, true, true] rfl (by kernel_rfl) hF rfl rfl rfl (fun w hS => e_neq hF rfl rfl) (hM.pick [0, 1] rfl rfl) ?_; intro a hF
        refine h_done rfl ?_
        refine then_n ?_
        rcases ite_cases H with ⟨c11, H⟩ | ⟨c11, H⟩
        ·
          refine s_cond_f hF rfl (congrArg Bool.not (decide_eq_true c11)) ?_
          refine wp_skip ?_
          refine blk_n ?_
          refine then_n ?_
          refine s_region ?_
          refine s_val hF rfl rfl rfl (e_move hF rfl) ?_; intro a hF
          refine s_val hF rfl rfl rfl (e_add hF rfl rfl) ?_; intro a hF
          refine s_val hF rfl rfl rfl (e_assign hF rfl) ?_; intro a hF
          refine s_nil ?_
          refine then_n ?_
          exact ⟨(wrap64 (x8 + 1)), H, hF.sub _ ⟨rfl, rfl, rfl, trivial⟩, hM.pick [0, 1] rfl rfl⟩
        ·
          refine s_cond_t hF rfl (congrArg Bool.not (decide_eq_false c11)) ?_
          refine wp_seq ?_
          refine s_region ?_
          refine s_val hF rfl rfl rfl (e_assign hF rfl) ?_; intro a hF
          refine s_nil ?_
          refine then_n ?_
          refine wp_ret ?_
          refine blk_r ?_
          refine then_r ?_
          refine then_r ?_
          exact Or.inr (⟨rfl, false, some_some H, hF.sub _ ⟨rfl, trivial⟩, hM.pick [] rfl rfl⟩)
      ·
        refine s_cond_f hF rfl (decide_eq_false c9) ?_
        refine wp_exit ?_
        refine then_x ?_
        refine then_x ?_
        exact Or.inl (⟨rfl, some_some H, hF.sub _ trivial, hM.pick [] rfl rfl⟩)
  · rintro e a w (⟨rfl, rfl, hF, hM⟩ | ⟨rfl, r14, rfl, hF, hM⟩)
    ·
      dsimp only at H
      refine blk_x ?_
      refine then_n ?_
      refine wp_seq ?_
      refine s_region ?_
      refine s_val hF rfl rfl rfl (e_assign hF rfl) ?_; intro a hF
      refine s_nil ?_
      refine then_n ?_
      refine wp_ret ?_
      obtain rfl := some_some H
      refine s_ret [Value.bool true] hF Try.results77 ⟨rfl, trivial⟩ ?_
      exact ⟨_, rfl, hM.frm, rfl⟩
    ·
      dsimp only at H
      refine blk_r ?_
      refine then_r ?_
      obtain rfl := some_some H
      refine s_ret [Value.bool r14] hF Try.results77 ⟨rfl, trivial⟩ ?_
      exact ⟨_, rfl, hM.frm, rfl⟩

/-! ### loop.example/g01210/laws.eqIntA6S: function 34 -/
def laws_eqIntA6S.l0 (K : Nat) (l0 : (List (Ar 6))) (l1 : (List (Ar 6))) : Nat → Int → Option (Sum Unit Bool)
  | 0, _ => none
  | k + 1, x15 => if x15 < (l0.length : Int) then (if (0 : Int) ≤ x15 ∧ x15 < (l0.length : Int) then (if (0 : Int) ≤ x15 ∧ x15 < (l1.length : Int) then ((laws_eqIntA6.f K (l0.getD (x15 : Int).toNat (Ar.zero 6)) (l1.getD (x15 : Int).toNat (Ar.zero 6))).bind fun t19 => if t19 = true then (laws_eqIntA6S.l0 K l0 l1 k (wrap64 (x15 + 1))) else (some (Sum.inr false))) else none) else none) else (some (Sum.inl ()))
def laws_eqIntA6S.f (K : Nat) (l0 : (List (Ar 6))) (l1 : (List (Ar 6))) : Option Bool := if (l0.length : Int) = (l1.length : Int) then ((laws_eqIntA6S.l0 K l0 l1 K 0).bind fun o24 => (match o24 with | .inl () => some true | .inr r26 => some r26)) else (some false)
set_option maxRecDepth 100000 in
set_option maxHeartbeats 4000000 in
theorem laws_eqIntA6S.calls {w0 : World} (K : Nat) (l0 : (List (Ar 6))) (u0 : Value) (q0 : SlR cd28 w0 u0 l0) (l1 : (List (Ar 6))) (u1 : Value) (q1 : SlR cd28 w0 u1 l1) (r : Bool) (H : laws_eqIntA6S.f K l0 l1 = some r) : Calls Try.prog 34 [u0, u1].toArray w0 (Post w0 fun w v => v = Value.bool r) := by
  rw [laws_eqIntA6S.f] at H
  refine s_start Try.func34 rfl Try.ntmps34 rfl ?_
  intro a hF
  have hM := Ms.start w0
  skip
  refine wp_seq ?_
  refine s_region ?_
  refine s_val hF rfl rfl rfl (e_assign hF rfl) ?_; intro a hF
  refine s_nil ?_
  refine then_n ?_
  refine wp_seq ?_
  refine wp_seq ?_
  refine s_region ?_
  refine s_val hF rfl rfl rfl (e_move hF rfl) ?_; intro a hF
  refine s_val hF rfl rfl rfl (e_len hF rfl (q0.frm hM.frm).toF Try.underlying43) ?_; intro a hF
  refine s_val hF rfl rfl rfl (e_move hF rfl) ?_; intro a hF
  refine s_val hF rfl rfl rfl (e_len hF rfl (q1.frm hM.frm).toF Try.underlying43) ?_; intro a hF
  refine s_val hF rfl rfl rfl (e_neq hF rfl rfl) ?_; intro a hF
  refine s_nil ?_
  refine then_n ?_
  rcases ite_cases H with ⟨c1, H⟩ | ⟨c1, H⟩
  ·
    refine s_cond_f hF rfl (congrArg Bool.not (decide_eq_true c1)) ?_
    refine wp_skip ?_
    refine then_n ?_
    refine wp_seq ?_
    refine wp_seq ?_
    refine s_region ?_
    refine s_val hF rfl rfl rfl (e_assign hF rfl) ?_; intro a hF
    refine s_nil ?_
    refine then_n ?_
    refine wp_block ?_
    obtain ⟨o24, h25, H⟩ := bind_some H
    refine wp_mono (Q := fun e a w => (e = Exit.exit 0 ∧ Sum.inl () = o24 ∧ Fr 27 a [] ∧ Ms [] w0 w []) ∨ (e = Exit.ret ∧ ∃ r26 : Bool, Sum.inr r26 = o24 ∧ Fr 27 a [(4, Value.bool r26)] ∧ Ms [] w0 w [])) ?_ ?_
    · refine s_loop (fun kq a w => ∃ x15 : Int, laws_eqIntA6S.l0 K l0 l1 kq x15 = some o24 ∧ Fr 27 a [(0, u0), (1, u1), (5, Value.int .i64 x15)] ∧ Ms [] w0 w []) K ⟨0, h25, hF.sub _ ⟨rfl, rfl, rfl, trivial⟩, hM.pick [] rfl rfl⟩ ?_ ?_
      · rintro a w ⟨_, H, _⟩; exact none_some H
      · rintro k a w ⟨x15, H, hF, hM⟩; rw [laws_eqIntA6S.l0] at H
        refine wp_seq ?_
        refine wp_seq ?_
        refine s_region ?_
        refine s_val hF rfl rfl rfl (e_move hF rfl) ?_; intro a hF
        refine s_val hF rfl rfl rfl (e_move hF rfl) ?_; intro a hF
        refine s_val hF rfl rfl rfl (e_len hF rfl (q0.frm hM.frm).toF Try.underlying43) ?_; intro a hF
        refine s_val hF rfl rfl rfl (e_lss hF rfl rfl) ?_; intro a hF
        refine s_nil ?_
        refine then_n ?_
        rcases ite_cases H with ⟨c16, H⟩ | ⟨c16, H⟩
        ·
          refine s_cond_t hF rfl (decide_eq_true c16) ?_
          refine wp_skip ?_
          refine then_n ?_
          refine wp_seq ?_
          refine wp_block ?_
          refine wp_seq ?_
          obtain ⟨c17, H⟩ := ite_some H
          obtain ⟨c18, H⟩ := ite_some H
          obtain ⟨t19, h20, H⟩ := bind_some H
          refine s_held (fun w => Ms [] w0 w []) #[false, false, false, false, false, false, false, false, false, false] mixed rfl rfl hM ?_; intro w hf hM; clear hf
          refine h_val 0 #[true, false, false, false, false, false, false, false, false, false] rfl (by kernel_rfl) hF rfl rfl rfl (fun w hS => e_move hF rfl) (hM.pick [] rfl rfl) ?_; intro a hF
          refine h_val 1 #[true, true, false, false, false, false, false, false, false, false] rfl (by kernel_rfl) hF rfl rfl rfl (fun w hS => e_move hF rfl) (hM.pick [] rfl rfl) ?_; intro a hF
          have f21 := (q0.frm hM.frm).toF
          refine h_val 2 #[true, true, true, false, false, false, false, false, false, false] rfl (by kernel_rfl) hF rfl rfl rfl (fun w hS => e_ias cd28 hF rfl rfl f21 Try.underlying43 Try.sizeOf28 c17.1 c17.2) (hM.pick [] rfl rfl) ?_; intro a hF
          refine h_val 3 #[true, true, true, true, false, false, false, false, false, false] rfl (by kernel_rfl) hF rfl rfl rfl (fun w hS => e_ldsa (m := x15) hF rfl (q0.frm hS.frm) (getD_some (z := (Ar.zero 6)) c17.1 c17.2) Try.isAgg28 Try.sizeOf28) (hM.pick [] rfl rfl) ?_; intro a hF
          refine h_val 4 #[true, true, true, true, true, false, false, false, false, false] rfl (by kernel_rfl) hF rfl rfl rfl (fun w hS => e_move hF rfl) (hM.pick [] rfl rfl) ?_; intro a hF
          refine h_val 5 #[true, true, true, true, true, true, false, false, false, false] rfl (by kernel_rfl) hF rfl rfl rfl (fun w hS => e_move hF rfl) (hM.pick [] rfl rfl) ?_; intro a hF
          have f22 := (q1.frm hM.frm).toF
          refine h_val 6 #[true, true, true, true, true, true, true, false, false, false] rfl (by kernel_rfl) hF rfl rfl rfl (fun w hS => e_ias cd28 hF rfl rfl f22 Try.underlying43 Try.sizeOf28 c18.1 c18.2) (hM.pick [] rfl rfl) ?_; intro a hF
          refine h_val 7 #[true, true, true, true, true, true, true, true, false, false] rfl (by kernel_rfl) hF rfl rfl rfl (fun w hS => e_ldsa (m := x15) hF rfl (q1.frm hS.frm) (getD_some (z := (Ar.zero 6)) c18.1 c18.2) Try.isAgg28 Try.sizeOf28) (hM.pick [] rfl rfl) ?_; intro a hF
          refine h_one 8 #[true, true, true, true, true, true, true, true, true, false] rfl (by kernel_rfl) ?_
          refine s_call hF rfl rfl rfl Try.call77 (laws_eqIntA6.calls K (l0.getD (x15 : Int).toNat (Ar.zero 6)) (l1.getD (x15 : Int).toNat (Ar.zero 6)) t19 h20) ?_; intro a w v hF hf hR
          subst hR; have hM := hM.grow hf
          refine s_nil ⟨rfl, (hM.pick [] rfl rfl), ?_⟩
          refine h_val 9 #[true, true, true, true, true, true, true, true, true, true] rfl (by kernel_rfl) hF rfl rfl rfl (fun w hS => e_not hF rfl) (hM.pick [] rfl rfl) ?_; intro a hF
          refine h_done rfl ?_
          refine then_n ?_
          rcases ite_cases H with ⟨c23, H⟩ | ⟨c23, H⟩
          ·
            refine s_cond_f hF rfl (congrArg Bool.not c23) ?_
            refine wp_skip ?_
            refine blk_n ?_
            refine then_n ?_
            refine s_region ?_
            refine s_val hF rfl rfl rfl (e_move hF rfl) ?_; intro a hF
            refine s_val hF rfl rfl rfl (e_add hF rfl rfl) ?_; intro a hF
            refine s_val hF rfl rfl rfl (e_assign hF rfl) ?_; intro a hF
            refine s_nil ?_
            refine then_n ?_
            exact ⟨(wrap64 (x15 + 1)), H, hF.sub _ ⟨rfl, rfl, rfl, trivial⟩, hM.pick [] rfl rfl⟩
          ·
            refine s_cond_t hF rfl (congrArg Bool.not (bf c23)) ?_
            refine wp_seq ?_
            refine s_region ?_
            refine s_val hF rfl rfl rfl (e_assign hF rfl) ?_; intro a hF
            refine s_nil ?_
            refine then_n ?_
            refine wp_ret ?_
            refine blk_r ?_
            refine then_r ?_
            refine then_r ?_
            exact Or.inr (⟨rfl, false, some_some H, hF.sub _ ⟨rfl, trivial⟩, hM.pick [] rfl rfl⟩)
        ·
          refine s_cond_f hF rfl (decide_eq_false c16) ?_
          refine wp_exit ?_
          refine then_x ?_
          refine then_x ?_
          exact Or.inl (⟨rfl, some_some H, hF.sub _ trivial, hM.pick [] rfl rfl⟩)
    · rintro e a w (⟨rfl, rfl, hF, hM⟩ | ⟨rfl, r26, rfl, hF, hM⟩)
      ·
        dsimp only at H
        refine blk_x ?_
        refine then_n ?_
        refine wp_seq ?_
        refine s_region ?_
        refine s_val hF rfl rfl rfl (e_assign hF rfl) ?_; intro a hF
        refine s_nil ?_
        refine then_n ?_
        refine wp_ret ?_
        obtain rfl := some_some H
        refine s_ret [Value.bool true] hF Try.results34 ⟨rfl, trivial⟩ ?_
        exact ⟨_, rfl, hM.frm, rfl⟩
      ·
        dsimp only at H
        refine blk_r ?_
        refine then_r ?_
        obtain rfl := some_some H
        refine s_ret [Value.bool r26] hF Try.results34 ⟨rfl, trivial⟩ ?_
        exact ⟨_, rfl, hM.frm, rfl⟩
  ·
    refine s_cond_t hF rfl (congrArg Bool.not (decide_eq_false c1)) ?_
    refine wp_seq ?_
    refine s_region ?_
    refine s_val hF rfl rfl rfl (e_assign hF rfl) ?_; intro a hF
    refine s_nil ?_
    refine then_n ?_
    refine wp_ret ?_
    refine then_r ?_
    obtain rfl := some_some H
    refine s_ret [Value.bool false] hF Try.results34 ⟨rfl, trivial⟩ ?_
    exact ⟨_, rfl, hM.frm, rfl⟩

/-! ### loop.example/g01210/laws.FnExactCountKept: function 11 -/
def laws_FnExactCountKept.f (K : Nat) (l0 : (List (Ar 6))) (a1 : (Int × Int)) (a2 : Int) : Option Bool := (laws_szIntA6S.f K l0 1048576).bind fun t2 => if t2 < 0 then (some true) else ((laws_toIntA6S.f K l0).bind fun t5 => (laws_toGoal.f K a1).bind fun t8 => (spec_CountKept.f K t5 t8 a2).bind fun t10 => (laws_toIntA6S.f K l0).bind fun t12 => (laws_toGoal.f K a1).bind fun t15 => (impl_CountKept.f K t12 t15 a2).bind fun t17 => if t17.1 = t10.1 then (if (t17.2 == t10.2) = true then ((laws_toIntA6S.f K l0).bind fun t21 => (laws_eqIntA6S.f K t12 t21).bind fun t24 => if t24 = true then (some true) else (some false)) else (some false)) else (some false))
set_option maxRecDepth 100000 in
set_option maxHeartbeats 4000000 in
theorem laws_FnExactCountKept.calls {w0 : World} (K : Nat) (l0 : (List (Ar 6))) (u0 : Value) (q0 : SlR cd28 w0 u0 l0) (a1 : (Int × Int)) (a2 : Int) (r : Bool) (H : laws_FnExactCountKept.f K l0 a1 a2 = some r) : Calls Try.prog 11 [u0, ag [Pt.int a1.1, Pt.int a1.2], Value.int .i64 a2].toArray w0 (Post w0 fun w v => v = Value.bool r) := by
  rw [laws_FnExactCountKept.f] at H
  refine s_start Try.func11 rfl Try.ntmps11 rfl ?_
  intro a hF
  have hM := Ms.start w0
  skip
  refine wp_seq ?_
  refine s_region ?_
  refine s_box (ps := [Pt.int a1.1, Pt.int a1.2]) hF hM rfl rfl rfl rfl ?_; intro a w b1 hF hM
  refine s_val hF rfl rfl rfl (e_assign hF rfl) ?_; intro a hF
  refine s_nil ?_
  refine then_n ?_
  refine wp_seq ?_
  refine s_region ?_
  refine s_val hF rfl rfl rfl (e_assign hF rfl) ?_; intro a hF
  refine s_nil ?_
  refine then_n ?_
  refine wp_seq ?_
  obtain ⟨t2, h3, H⟩ := bind_some H
  refine s_region ?_
  refine s_val hF rfl rfl rfl (e_move hF rfl) ?_; intro a hF
  refine s_val hF rfl rfl rfl (e_move hF rfl) ?_; intro a hF
  refine s_call hF rfl rfl rfl Try.call30 (laws_szIntA6S.calls K l0 u0 (q0.frm hM.frm) 1048576 t2 h3) ?_; intro a w v hF hf hR
  subst hR; have hM := hM.grow hf
  refine s_val hF rfl rfl rfl (e_assign hF rfl) ?_; intro a hF
  refine s_nil ?_
  refine then_n ?_
  refine wp_seq ?_
  refine wp_seq ?_
  refine s_region ?_
  refine s_val hF rfl rfl rfl (e_move hF rfl) ?_; intro a hF
  refine s_val hF rfl rfl rfl (e_lss hF rfl rfl) ?_; intro a hF
  refine s_nil ?_
  refine then_n ?_
  rcases ite_cases H with ⟨c4, H⟩ | ⟨c4, H⟩
  ·
    refine s_cond_t hF rfl (decide_eq_true c4) ?_
    refine wp_seq ?_
    refine s_region ?_
    refine s_val hF rfl rfl rfl (e_assign hF rfl) ?_; intro a hF
    refine s_nil ?_
    refine then_n ?_
    refine wp_ret ?_
    refine then_r ?_
    obtain rfl := some_some H
    refine s_ret [Value.bool true] hF Try.results11 ⟨rfl, trivial⟩ ?_
    exact ⟨_, rfl, hM.frm, rfl⟩
  ·
    refine s_cond_f hF rfl (decide_eq_false c4) ?_
    refine wp_skip ?_
    refine then_n ?_
    refine wp_seq ?_
    obtain ⟨t5, h6, H⟩ := bind_some H
    obtain ⟨t8, h9, H⟩ := bind_some H
    obtain ⟨t10, h11, H⟩ := bind_some H
    refine s_held (fun w => Ms [] w0 w [boxR b1 [Pt.int a1.1, Pt.int a1.2] 23]) #[false, false, false, false, false, false, false, false, false, false, false] mixed rfl rfl hM ?_; intro w hf hM; clear hf
    refine h_val 0 #[true, false, false, false, false, false, false, false, false, false, false] rfl (by kernel_rfl) hF rfl rfl rfl (fun w hS => e_move hF rfl) (hM.pick [0] rfl rfl) ?_; intro a hF
    refine h_val 2 #[true, false, true, false, false, false, false, false, false, false, false] rfl (by kernel_rfl) hF rfl rfl rfl (fun w hS => e_lda (i := 0) 0 2 hF hS rfl rfl rfl rfl Try.isAgg23 Try.sizeOf23 rfl) (hM.pick [0] rfl rfl) ?_; intro a hF
    refine h_val 4 #[true, false, true, false, true, false, false, false, false, false, false] rfl (by kernel_rfl) hF rfl rfl rfl (fun w hS => e_move hF rfl) (hM.pick [0] rfl rfl) ?_; intro a hF
    refine h_one 1 #[true, true, true, false, true, false, false, false, false, false, false] rfl (by kernel_rfl) ?_
    refine s_call hF rfl rfl rfl Try.call32 (laws_toIntA6S.calls K l0 u0 (q0.frm hM.frm) t5 h6) ?_; intro a w v7 hF hf hR
    have hM := hM.fresh hf hR
    refine s_nil ⟨rfl, (hM.pick [1] rfl rfl), ?_⟩
    refine h_one 3 #[true, true, true, true, true, false, false, false, false, false, false] rfl (by kernel_rfl) ?_
    refine s_call hF rfl rfl rfl Try.call16 (laws_toGoal.calls K a1 t8 h9) ?_; intro a w v hF hf hR
    subst hR; have hM := hM.grow hf
    refine s_nil ⟨rfl, (hM.pick [1] rfl rfl), ?_⟩
    refine h_one 5 #[true, true, true, true, true, true, false, false, false, false, false] rfl (by kernel_rfl) ?_
    refine s_call hF rfl rfl rfl Try.call45 (spec_CountKept.calls K t5 v7 (hM.sl 0 rfl) t8 a2 t10 h11) ?_; intro a w v hF hf hR
    subst hR; have hM := hM.grow hf
    refine s_nil ⟨rfl, (hM.pick [1] rfl rfl), ?_⟩
    refine h_val 6 #[true, true, true, true, true, true, true, false, false, false, false] rfl (by kernel_rfl) hF rfl rfl rfl (fun w hS => e_move hF rfl) (hM.pick [1] rfl rfl) ?_; intro a hF
    refine h_val 7 #[true, true, true, true, true, true, true, true, false, false, false] rfl (by kernel_rfl) hF rfl rfl rfl (fun w hS => e_extract hF rfl rfl) (hM.pick [1] rfl rfl) ?_; intro a hF
    refine h_val 8 #[true, true, true, true, true, true, true, true, true, false, false] rfl (by kernel_rfl) hF rfl rfl rfl (fun w hS => e_extract hF rfl rfl) (hM.pick [1] rfl rfl) ?_; intro a hF
    refine h_val 9 #[true, true, true, true, true, true, true, true, true, true, false] rfl (by kernel_rfl) hF rfl rfl rfl (fun w hS => e_assign hF rfl) (hM.pick [1] rfl rfl) ?_; intro a hF
    refine h_val 10 #[true, true, true, true, true, true, true, true, true, true, true] rfl (by kernel_rfl) hF rfl rfl rfl (fun w hS => e_assign hF rfl) (hM.pick [1] rfl rfl) ?_; intro a hF
    refine h_done rfl ?_
    refine then_n ?_
    refine wp_seq ?_
    obtain ⟨t12, h13, H⟩ := bind_some H
    refine s_region ?_
    refine s_val hF rfl rfl rfl (e_move hF rfl) ?_; intro a hF
    refine s_call hF rfl rfl rfl Try.call32 (laws_toIntA6S.calls K l0 u0 (q0.frm hM.frm) t12 h13) ?_; intro a w v14 hF hf hR
    have hM := hM.fresh hf hR
    refine s_val hF rfl rfl rfl (e_assign hF rfl) ?_; intro a hF
    refine s_nil ?_
    refine then_n ?_
    refine wp_seq ?_
    obtain ⟨t15, h16, H⟩ := bind_some H
    obtain ⟨t17, h18, H⟩ := bind_some H
    refine s_region ?_
    refine s_val hF rfl rfl rfl (e_move hF rfl) ?_; intro a hF
    refine s_val hF rfl rfl rfl (e_lda (i := 2) 0 2 hF hM rfl rfl rfl rfl Try.isAgg23 Try.sizeOf23 rfl) ?_; intro a hF
    refine s_call hF rfl rfl rfl Try.call16 (laws_toGoal.calls K a1 t15 h16) ?_; intro a w v hF hf hR
    subst hR; have hM := hM.grow hf
    refine s_val hF rfl rfl rfl (e_move hF rfl) ?_; intro a hF
    refine s_call hF rfl rfl rfl Try.call46 (impl_CountKept.calls K t12 v14 (hM.sl 0 rfl) t15 a2 t17 h18) ?_; intro a w v hF hf hR
    subst hR; have hM := hM.grow hf
    refine s_val hF rfl rfl rfl (e_move hF rfl) ?_; intro a hF
    refine s_val hF rfl rfl rfl (e_extract hF rfl rfl) ?_; intro a hF
    refine s_val hF rfl rfl rfl (e_extract hF rfl rfl) ?_; intro a hF
    refine s_val hF rfl rfl rfl (e_assign hF rfl) ?_; intro a hF
    refine s_val hF rfl rfl rfl (e_assign hF rfl) ?_; intro a hF
    refine s_nil ?_
    refine then_n ?_
    refine wp_seq ?_
    refine wp_seq ?_
    rcases ite_cases H with ⟨c19, H⟩ | ⟨c19, H⟩
    ·
      refine s_region ?_
      refine s_val hF rfl rfl rfl (e_move hF rfl) ?_; intro a hF
      refine s_val hF rfl rfl rfl (e_move hF rfl) ?_; intro a hF
      refine s_val hF rfl rfl rfl (e_neq hF rfl rfl) ?_; intro a hF
      refine s_val hF rfl rfl rfl (e_move hF rfl) ?_; intro a hF
      have hF := hF.topb (congrArg Bool.not (decide_eq_true c19))
      refine s_val hF rfl rfl rfl (e_move hF rfl) ?_; intro a hF
      refine s_val hF rfl rfl rfl (e_move hF rfl) ?_; intro a hF
      refine s_val hF rfl rfl rfl (e_bneq hF rfl rfl Try.underlying4) ?_; intro a hF
      refine s_val hF rfl rfl rfl (e_pick_f hF rfl rfl) ?_; intro a hF
      refine s_nil ?_
      refine then_n ?_
      rcases ite_cases H with ⟨c20, H⟩ | ⟨c20, H⟩
      ·
        refine s_cond_f hF rfl (congrArg Bool.not c20) ?_
        refine wp_skip ?_
        refine then_n ?_
        refine wp_seq ?_
        refine wp_seq ?_
        obtain ⟨t21, h22, H⟩ := bind_some H
        obtain ⟨t24, h25, H⟩ := bind_some H
        refine s_region ?_
        refine s_val hF rfl rfl rfl (e_move hF rfl) ?_; intro a hF
        refine s_val hF rfl rfl rfl (e_move hF rfl) ?_; intro a hF
        refine s_call hF rfl rfl rfl Try.call32 (laws_toIntA6S.calls K l0 u0 (q0.frm hM.frm) t21 h22) ?_; intro a w v23 hF hf hR
        have hM := hM.fresh hf hR
        refine s_call hF rfl rfl rfl Try.call34 (laws_eqIntA6S.calls K t12 v14 (hM.sl 1 rfl) t21 v23 (hM.sl 0 rfl) t24 h25) ?_; intro a w v hF hf hR
        subst hR; have hM := hM.grow hf
        refine s_val hF rfl rfl rfl (e_not hF rfl) ?_; intro a hF
        refine s_nil ?_
        refine then_n ?_
        rcases ite_cases H with ⟨c26, H⟩ | ⟨c26, H⟩
        ·
          refine s_cond_f hF rfl (congrArg Bool.not c26) ?_
          refine wp_skip ?_
          refine then_n ?_
          refine wp_seq ?_
          refine s_region ?_
          refine s_val hF rfl rfl rfl (e_assign hF rfl) ?_; intro a hF
          refine s_nil ?_
          refine then_n ?_
          refine wp_ret ?_
          obtain rfl := some_some H
          refine s_ret [Value.bool true] hF Try.results11 ⟨rfl, trivial⟩ ?_
          exact ⟨_, rfl, hM.frm, rfl⟩
        ·
          refine s_cond_t hF rfl (congrArg Bool.not (bf c26)) ?_
          refine wp_seq ?_
          refine s_region ?_
          refine s_val hF rfl rfl rfl (e_assign hF rfl) ?_; intro a hF
          refine s_nil ?_
          refine then_n ?_
          refine wp_ret ?_
          refine then_r ?_
          obtain rfl := some_some H
          refine s_ret [Value.bool false] hF Try.results11 ⟨rfl, trivial⟩ ?_
          exact ⟨_, rfl, hM.frm, rfl⟩
      ·
        refine s_cond_t hF rfl (congrArg Bool.not (bf c20)) ?_
        refine wp_seq ?_
        refine s_region ?_
        refine s_val hF rfl rfl rfl (e_assign hF rfl) ?_; intro a hF
        refine s_nil ?_
        refine then_n ?_
        refine wp_ret ?_
        refine then_r ?_
        obtain rfl := some_some H
        refine s_ret [Value.bool false] hF Try.results11 ⟨rfl, trivial⟩ ?_
        exact ⟨_, rfl, hM.frm, rfl⟩
    ·
      refine s_region ?_
      refine s_val hF rfl rfl rfl (e_move hF rfl) ?_; intro a hF
      refine s_val hF rfl rfl rfl (e_move hF rfl) ?_; intro a hF
      refine s_val hF rfl rfl rfl (e_neq hF rfl rfl) ?_; intro a hF
      refine s_val hF rfl rfl rfl (e_move hF rfl) ?_; intro a hF
      have hF := hF.topb (congrArg Bool.not (decide_eq_false c19))
      refine s_skip hF rfl rfl rfl ?_; intro a hF
      refine s_skip hF rfl rfl rfl ?_; intro a hF
      refine s_skip hF rfl rfl rfl ?_; intro a hF
      refine s_val hF rfl rfl rfl (e_pick_t hF rfl rfl) ?_; intro a hF
      refine s_nil ?_
      refine then_n ?_
      refine s_cond_t hF rfl rfl ?_
      refine wp_seq ?_
      refine s_region ?_
      refine s_val hF rfl rfl rfl (e_assign hF rfl) ?_; intro a hF
      refine s_nil ?_
      refine then_n ?_
      refine wp_ret ?_
      refine then_r ?_
      obtain rfl := some_some H
      refine s_ret [Value.bool false] hF Try.results11 ⟨rfl, trivial⟩ ?_
      exact ⟨_, rfl, hM.frm, rfl⟩

end Go.Proofs.Ytlbedonjfihldaa.WCountKept

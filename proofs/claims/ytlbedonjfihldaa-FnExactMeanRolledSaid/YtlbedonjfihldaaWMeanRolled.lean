/- The walk through the code that the statement reaches: what each function computes. Conditions: none but those in each line. -/
import Derived.Test.YtlbedonjfihldaaWMeanRolleda
namespace Go.Proofs.Ytlbedonjfihldaa.WMeanRolled
open Go.K Go.RowKit
set_option linter.unusedVariables false
set_option linter.unusedSimpArgs false

/-! ### slices.Max[[]int,int]: function 99 -/
def slices_Max_int_int.l0 (K : Nat) (l0 : (List Int)) : Nat → Int → Int → Option Int
  | 0, _, _ => none
  | k + 1, x10, x11 => if x11 < (l0.length : Int) then (if (0 : Int) ≤ x11 ∧ x11 < (l0.length : Int) then (slices_Max_int_int.l0 K l0 k (if (l0.getD (x11 : Int).toNat (0 : Int)) > x10 then (l0.getD (x11 : Int).toNat (0 : Int)) else x10) (wrap64 (x11 + 1))) else none) else (some x10)
def slices_Max_int_int.f (K : Nat) (l0 : (List Int)) : Option Int := if (l0.length : Int) < 1 then (none) else (if (0 : Int) ≤ 0 ∧ 0 < (l0.length : Int) then ((slices_Max_int_int.l0 K l0 K (l0.getD (0 : Int).toNat (0 : Int)) 1).bind fun x9 => some x9) else none)
set_option maxRecDepth 100000 in
set_option maxHeartbeats 4000000 in
theorem slices_Max_int_int.calls {w0 : World} (K : Nat) (l0 : (List Int)) (u0 : Value) (q0 : SlR cd3 w0 u0 l0) (r : Int) (H : slices_Max_int_int.f K l0 = some r) : Calls Try.prog 99 [u0].toArray w0 (Post w0 fun w v => v = Value.int .i64 r) := by
  rw [slices_Max_int_int.f] at H
  refine s_start Try.func99 rfl Try.ntmps99 rfl ?_
  intro a hF
  have hM := Ms.start w0
  skip
  refine wp_seq ?_
  refine s_region ?_
  refine s_val hF rfl rfl rfl (e_assign hF rfl) ?_; intro a hF
  refine s_nil ?_
  refine then_n ?_
  refine wp_seq ?_
  refine wp_seq ?_
  refine s_region ?_
  refine s_val hF rfl rfl rfl (e_move hF rfl) ?_; intro a hF
  refine s_val hF rfl rfl rfl (e_len hF rfl (q0.frm hM.frm).toF Try.underlying33) ?_; intro a hF
  refine s_val hF rfl rfl rfl (e_lss hF rfl rfl) ?_; intro a hF
  refine s_nil ?_
  refine then_n ?_
  rcases ite_cases H with ⟨c1, H⟩ | ⟨c1, H⟩
  ·
    refine s_cond_t hF rfl (decide_eq_true c1) ?_
    exact none_some H
  ·
    refine s_cond_f hF rfl (decide_eq_false c1) ?_
    refine wp_skip ?_
    refine then_n ?_
    refine wp_seq ?_
    obtain ⟨c2, H⟩ := ite_some H
    refine s_region ?_
    refine s_val hF rfl rfl rfl (e_move hF rfl) ?_; intro a hF
    refine s_val hF rfl rfl rfl (e_ias cd3 hF rfl rfl (q0.frm hM.frm).toF Try.underlying33 Try.sizeOf3 c2.1 c2.2) ?_; intro a hF
    refine s_val hF rfl rfl rfl (e_lds (m := 0) hF rfl (q0.frm hM.frm) (getD_some (z := (0 : Int)) c2.1 c2.2) rfl rfl Try.isAgg3) ?_; intro a hF
    refine s_val hF rfl rfl rfl (e_assign hF rfl) ?_; intro a hF
    refine s_nil ?_
    refine then_n ?_
    refine wp_seq ?_
    refine wp_seq ?_
    refine s_region ?_
    refine s_val hF rfl rfl rfl (e_assign hF rfl) ?_; intro a hF
    refine s_nil ?_
    refine then_n ?_
    refine wp_block ?_
    obtain ⟨o14, h15, H⟩ := bind_some H
    refine wp_mono (Q := fun e a w => (e = Exit.exit 0 ∧ ∃ x9 : Int, x9 = o14 ∧ Fr 25 a [(3, Value.int .i64 x9)] ∧ Ms [] w0 w [])) ?_ ?_
    · refine s_loop (fun kq a w => ∃ x10 : Int, ∃ x11 : Int, slices_Max_int_int.l0 K l0 kq x10 x11 = some o14 ∧ Fr 25 a [(0, u0), (3, Value.int .i64 x10), (4, Value.int .i64 x11)] ∧ Ms [] w0 w []) K ⟨(l0.getD (0 : Int).toNat (0 : Int)), 1, h15, hF.sub _ ⟨rfl, rfl, rfl, trivial⟩, hM.pick [] rfl rfl⟩ ?_ ?_
      · rintro a w ⟨_, _, H, _⟩; exact none_some H
      · rintro k a w ⟨x10, x11, H, hF, hM⟩; rw [slices_Max_int_int.l0] at H
        refine wp_seq ?_
        refine wp_seq ?_
        refine s_region ?_
        refine s_val hF rfl rfl rfl (e_move hF rfl) ?_; intro a hF
        refine s_val hF rfl rfl rfl (e_move hF rfl) ?_; intro a hF
        refine s_val hF rfl rfl rfl (e_len hF rfl (q0.frm hM.frm).toF Try.underlying33) ?_; intro a hF
        refine s_val hF rfl rfl rfl (e_lss hF rfl rfl) ?_; intro a hF
        refine s_nil ?_
        refine then_n ?_
        rcases ite_cases H with ⟨c12, H⟩ | ⟨c12, H⟩
        ·
          refine s_cond_t hF rfl (decide_eq_true c12) ?_
          refine wp_skip ?_
          refine then_n ?_
          refine wp_seq ?_
          refine wp_block ?_
          obtain ⟨c13, H⟩ := ite_some H
          refine s_region ?_
          refine s_val hF rfl rfl rfl (e_move hF rfl) ?_; intro a hF
          refine s_val hF rfl rfl rfl (e_move hF rfl) ?_; intro a hF
          refine s_val hF rfl rfl rfl (e_move hF rfl) ?_; intro a hF
          refine s_val hF rfl rfl rfl (e_ias cd3 hF rfl rfl (q0.frm hM.frm).toF Try.underlying33 Try.sizeOf3 c13.1 c13.2) ?_; intro a hF
          refine s_val hF rfl rfl rfl (e_lds (m := x11) hF rfl (q0.frm hM.frm) (getD_some (z := (0 : Int)) c13.1 c13.2) rfl rfl Try.isAgg3) ?_; intro a hF
          refine s_val hF rfl rfl rfl (e_max hF rfl rfl) ?_; intro a hF
          refine s_val hF rfl rfl rfl (e_assign hF rfl) ?_; intro a hF
          refine s_nil ?_
          refine blk_n ?_
          refine then_n ?_
          refine s_region ?_
          refine s_val hF rfl rfl rfl (e_move hF rfl) ?_; intro a hF
          refine s_val hF rfl rfl rfl (e_add hF rfl rfl) ?_; intro a hF
          refine s_val hF rfl rfl rfl (e_assign hF rfl) ?_; intro a hF
          refine s_nil ?_
          refine then_n ?_
          exact ⟨(if (l0.getD (x11 : Int).toNat (0 : Int)) > x10 then (l0.getD (x11 : Int).toNat (0 : Int)) else x10), (wrap64 (x11 + 1)), H, hF.sub _ ⟨rfl, rfl, rfl, trivial⟩, hM.pick [] rfl rfl⟩
        ·
          refine s_cond_f hF rfl (decide_eq_false c12) ?_
          refine wp_exit ?_
          refine then_x ?_
          refine then_x ?_
          exact ⟨rfl, x10, some_some H, hF.sub _ ⟨rfl, trivial⟩, hM.pick [] rfl rfl⟩
    · rintro e a w ⟨rfl, x9, rfl, hF, hM⟩
      skip
      refine blk_x ?_
      refine then_n ?_
      refine wp_seq ?_
      refine s_region ?_
      refine s_val hF rfl rfl rfl (e_move hF rfl) ?_; intro a hF
      refine s_val hF rfl rfl rfl (e_assign hF rfl) ?_; intro a hF
      refine s_nil ?_
      refine then_n ?_
      refine wp_ret ?_
      obtain rfl := some_some H
      refine s_ret [Value.int .i64 x9] hF Try.results99 ⟨rfl, trivial⟩ ?_
      exact ⟨_, rfl, hM.frm, rfl⟩

/-! ### slices.Min[[]int,int]: function 100 -/
def slices_Min_int_int.l0 (K : Nat) (l0 : (List Int)) : Nat → Int → Int → Option Int
  | 0, _, _ => none
  | k + 1, x10, x11 => if x11 < (l0.length : Int) then (if (0 : Int) ≤ x11 ∧ x11 < (l0.length : Int) then (slices_Min_int_int.l0 K l0 k (if (l0.getD (x11 : Int).toNat (0 : Int)) < x10 then (l0.getD (x11 : Int).toNat (0 : Int)) else x10) (wrap64 (x11 + 1))) else none) else (some x10)
def slices_Min_int_int.f (K : Nat) (l0 : (List Int)) : Option Int := if (l0.length : Int) < 1 then (none) else (if (0 : Int) ≤ 0 ∧ 0 < (l0.length : Int) then ((slices_Min_int_int.l0 K l0 K (l0.getD (0 : Int).toNat (0 : Int)) 1).bind fun x9 => some x9) else none)
set_option maxRecDepth 100000 in
set_option maxHeartbeats 4000000 in
theorem slices_Min_int_int.calls {w0 : World} (K : Nat) (l0 : (List Int)) (u0 : Value) (q0 : SlR cd3 w0 u0 l0) (r : Int) (H : slices_Min_int_int.f K l0 = some r) : Calls Try.prog 100 [u0].toArray w0 (Post w0 fun w v => v = Value.int .i64 r) := by
  rw [slices_Min_int_int.f] at H
  refine s_start Try.func100 rfl Try.ntmps100 rfl ?_
  intro a hF
  have hM := Ms.start w0
  skip
  refine wp_seq ?_
  refine s_region ?_
  refine s_val hF rfl rfl rfl (e_assign hF rfl) ?_; intro a hF
  refine s_nil ?_
  refine then_n ?_
  refine wp_seq ?_
  refine wp_seq ?_
  refine s_region ?_
  refine s_val hF rfl rfl rfl (e_move hF rfl) ?_; intro a hF
  refine s_val hF rfl rfl rfl (e_len hF rfl (q0.frm hM.frm).toF Try.underlying33) ?_; intro a hF
  refine s_val hF rfl rfl rfl (e_lss hF rfl rfl) ?_; intro a hF
  refine s_nil ?_
  refine then_n ?_
  rcases ite_cases H with ⟨c1, H⟩ | ⟨c1, H⟩
  ·
    refine s_cond_t hF rfl (decide_eq_true c1) ?_
    exact none_some H
  ·
    refine s_cond_f hF rfl (decide_eq_false c1) ?_
    refine wp_skip ?_
    refine then_n ?_
    refine wp_seq ?_
    obtain ⟨c2, H⟩ := ite_some H
    refine s_region ?_
    refine s_val hF rfl rfl rfl (e_move hF rfl) ?_; intro a hF
    refine s_val hF rfl rfl rfl (e_ias cd3 hF rfl rfl (q0.frm hM.frm).toF Try.underlying33 Try.sizeOf3 c2.1 c2.2) ?_; intro a hF
    refine s_val hF rfl rfl rfl (e_lds (m := 0) hF rfl (q0.frm hM.frm) (getD_some (z := (0 : Int)) c2.1 c2.2) rfl rfl Try.isAgg3) ?_; intro a hF
    refine s_val hF rfl rfl rfl (e_assign hF rfl) ?_; intro a hF
    refine s_nil ?_
    refine then_n ?_
    refine wp_seq ?_
    refine wp_seq ?_
    refine s_region ?_
    refine s_val hF rfl rfl rfl (e_assign hF rfl) ?_; intro a hF
    refine s_nil ?_
    refine then_n ?_
    refine wp_block ?_
    obtain ⟨o14, h15, H⟩ := bind_some H
    refine wp_mono (Q := fun e a w => (e = Exit.exit 0 ∧ ∃ x9 : Int, x9 = o14 ∧ Fr 25 a [(3, Value.int .i64 x9)] ∧ Ms [] w0 w [])) ?_ ?_
    · refine s_loop (fun kq a w => ∃ x10 : Int, ∃ x11 : Int, slices_Min_int_int.l0 K l0 kq x10 x11 = some o14 ∧ Fr 25 a [(0, u0), (3, Value.int .i64 x10), (4, Value.int .i64 x11)] ∧ Ms [] w0 w []) K ⟨(l0.getD (0 : Int).toNat (0 : Int)), 1, h15, hF.sub _ ⟨rfl, rfl, rfl, trivial⟩, hM.pick [] rfl rfl⟩ ?_ ?_
      · rintro a w ⟨_, _, H, _⟩; exact none_some H
      · rintro k a w ⟨x10, x11, H, hF, hM⟩; rw [slices_Min_int_int.l0] at H
        refine wp_seq ?_
        refine wp_seq ?_
        refine s_region ?_
        refine s_val hF rfl rfl rfl (e_move hF rfl) ?_; intro a hF
        refine s_val hF rfl rfl rfl (e_move hF rfl) ?_; intro a hF
        refine s_val hF rfl rfl rfl (e_len hF rfl (q0.frm hM.frm).toF Try.underlying33) ?_; intro a hF
        refine s_val hF rfl rfl rfl (e_lss hF rfl rfl) ?_; intro a hF
        refine s_nil ?_
        refine then_n ?_
        rcases ite_cases H with ⟨c12, H⟩ | ⟨c12, H⟩
        ·
          refine s_cond_t hF rfl (decide_eq_true c12) ?_
          refine wp_skip ?_
          refine then_n ?_
          refine wp_seq ?_
          refine wp_block ?_
          obtain ⟨c13, H⟩ := ite_some H
          refine s_region ?_
          refine s_val hF rfl rfl rfl (e_move hF rfl) ?_; intro a hF
          refine s_val hF rfl rfl rfl (e_move hF rfl) ?_; intro a hF
          refine s_val hF rfl rfl rfl (e_move hF rfl) ?_; intro a hF
          refine s_val hF rfl rfl rfl (e_ias cd3 hF rfl rfl (q0.frm hM.frm).toF Try.underlying33 Try.sizeOf3 c13.1 c13.2) ?_; intro a hF
          refine s_val hF rfl rfl rfl (e_lds (m := x11) hF rfl (q0.frm hM.frm) (getD_some (z := (0 : Int)) c13.1 c13.2) rfl rfl Try.isAgg3) ?_; intro a hF
          refine s_val hF rfl rfl rfl (e_min hF rfl rfl) ?_; intro a hF
          refine s_val hF rfl rfl rfl (e_assign hF rfl) ?_; intro a hF
          refine s_nil ?_
          refine blk_n ?_
          refine then_n ?_
          refine s_region ?_
          refine s_val hF rfl rfl rfl (e_move hF rfl) ?_; intro a hF
          refine s_val hF rfl rfl rfl (e_add hF rfl rfl) ?_; intro a hF
          refine s_val hF rfl rfl rfl (e_assign hF rfl) ?_; intro a hF
          refine s_nil ?_
          refine then_n ?_
          exact ⟨(if (l0.getD (x11 : Int).toNat (0 : Int)) < x10 then (l0.getD (x11 : Int).toNat (0 : Int)) else x10), (wrap64 (x11 + 1)), H, hF.sub _ ⟨rfl, rfl, rfl, trivial⟩, hM.pick [] rfl rfl⟩
        ·
          refine s_cond_f hF rfl (decide_eq_false c12) ?_
          refine wp_exit ?_
          refine then_x ?_
          refine then_x ?_
          exact ⟨rfl, x10, some_some H, hF.sub _ ⟨rfl, trivial⟩, hM.pick [] rfl rfl⟩
    · rintro e a w ⟨rfl, x9, rfl, hF, hM⟩
      skip
      refine blk_x ?_
      refine then_n ?_
      refine wp_seq ?_
      refine s_region ?_
      refine s_val hF rfl rfl rfl (e_move hF rfl) ?_; intro a hF
      refine s_val hF rfl rfl rfl (e_assign hF rfl) ?_; intro a hF
      refine s_nil ?_
      refine then_n ?_
      refine wp_ret ?_
      obtain rfl := some_some H
      refine s_ret [Value.int .i64 x9] hF Try.results100 ⟨rfl, trivial⟩ ?_
      exact ⟨_, rfl, hM.frm, rfl⟩

/-! ### (loop.example/g01210/impl.Goal).score: function 64 -/
def impl_Goal_score.f (K : Nat) (a0 : (Int × Int)) (l1 : (List Int)) : Option Int := if a0.1 = 2 then ((impl_total.f K l1).bind fun t3 => (impl_truth.f K (decide (a0.2 ≤ t3))).bind fun t5 => some t5) else (if a0.1 = 3 then ((impl_total.f K l1).bind fun t8 => (impl_truth.f K (decide (t8 = a0.2))).bind fun t10 => some t10) else (if a0.1 = 4 then ((slices_Max_int_int.f K l1).bind fun t13 => some t13) else (if a0.1 = 5 then ((slices_Max_int_int.f K l1).bind fun t16 => (slices_Min_int_int.f K l1).bind fun t18 => (impl_truth.f K (decide (t16 = t18))).bind fun t20 => some t20) else ((impl_total.f K l1).bind fun t22 => some t22))))
set_option maxRecDepth 100000 in
set_option maxHeartbeats 4000000 in
theorem impl_Goal_score.calls {w0 : World} (K : Nat) (a0 : (Int × Int)) (l1 : (List Int)) (u1 : Value) (q1 : SlR cd3 w0 u1 l1) (r : Int) (H : impl_Goal_score.f K a0 l1 = some r) : Calls Try.prog 64 [ag [Pt.int a0.1, Pt.int a0.2], u1].toArray w0 (Post w0 fun w v => v = Value.int .i64 r) := by
  rw [impl_Goal_score.f] at H
  refine s_start Try.func64 rfl Try.ntmps64 rfl ?_
  intro a hF
  have hM := Ms.start w0
  skip
  refine wp_seq ?_
  refine s_region ?_
  refine s_box (ps := [Pt.int a0.1, Pt.int a0.2]) hF hM rfl rfl rfl rfl ?_; intro a w b1 hF hM
  refine s_val hF rfl rfl rfl (e_assign hF rfl) ?_; intro a hF
  refine s_nil ?_
  refine then_n ?_
  refine wp_seq ?_
  refine wp_seq ?_
  refine s_region ?_
  refine s_val hF rfl rfl rfl (e_fa hF rfl Try.underlying25 rfl Try.sizeOf3 rfl rfl) ?_; intro a hF
  refine s_val hF rfl rfl rfl (e_ld (i := 0) (k := 0) hF hM rfl rfl rfl rfl Try.isAgg3 rfl) ?_; intro a hF
  refine s_nil ?_
  refine then_n ?_
  refine wp_block ?_
  refine wp_seq ?_
  refine s_region ?_
  refine s_val hF rfl rfl rfl (e_eql hF rfl rfl) ?_; intro a hF
  refine s_val hF rfl rfl rfl (e_assign hF rfl) ?_; intro a hF
  refine s_nil ?_
  refine then_n ?_
  rcases ite_cases H with ⟨c2, H⟩ | ⟨c2, H⟩
  ·
    refine s_cond_t hF rfl (decide_eq_true c2) ?_
    refine wp_seq ?_
    obtain ⟨t3, h4, H⟩ := bind_some H
    obtain ⟨t5, h6, H⟩ := bind_some H
    refine s_held (fun w => Ms [] w0 w [boxR b1 [Pt.int a0.1, Pt.int a0.2] 25]) #[false, false, false, false, false, false, false] mixed rfl rfl hM ?_; intro w hf hM; clear hf
    refine h_val 0 #[true, false, false, false, false, false, false] rfl (by kernel_rfl) hF rfl rfl rfl (fun w hS => e_move hF rfl) (hM.pick [0] rfl rfl) ?_; intro a hF
    refine h_val 2 #[true, false, true, false, false, false, false] rfl (by kernel_rfl) hF rfl rfl rfl (fun w hS => e_fa hF rfl Try.underlying25 rfl Try.sizeOf3 rfl rfl) (hM.pick [0] rfl rfl) ?_; intro a hF
    refine h_val 3 #[true, false, true, true, false, false, false] rfl (by kernel_rfl) hF rfl rfl rfl (fun w hS => e_ld (i := 0) (k := 1) hF hS rfl rfl rfl rfl Try.isAgg3 rfl) (hM.pick [0] rfl rfl) ?_; intro a hF
    refine h_one 1 #[true, true, true, true, false, false, false] rfl (by kernel_rfl) ?_
    refine s_call hF rfl rfl rfl Try.call87 (impl_total.calls K l1 u1 (q1.frm hM.frm) t3 h4) ?_; intro a w v hF hf hR
    subst hR; have hM := hM.grow hf
    refine s_nil ⟨rfl, (hM.pick [0] rfl rfl), ?_⟩
    refine h_val 4 #[true, true, true, true, true, false, false] rfl (by kernel_rfl) hF rfl rfl rfl (fun w hS => e_geq hF rfl rfl) (hM.pick [0] rfl rfl) ?_; intro a hF
    refine h_one 5 #[true, true, true, true, true, true, false] rfl (by kernel_rfl) ?_
    refine s_call hF rfl rfl rfl Try.call90 (impl_truth.calls K (decide (a0.2 ≤ t3)) t5 h6) ?_; intro a w v hF hf hR
    subst hR; have hM := hM.grow hf
    refine s_nil ⟨rfl, (hM.pick [0] rfl rfl), ?_⟩
    refine h_val 6 #[true, true, true, true, true, true, true] rfl (by kernel_rfl) hF rfl rfl rfl (fun w hS => e_assign hF rfl) (hM.pick [0] rfl rfl) ?_; intro a hF
    refine h_done rfl ?_
    refine then_n ?_
    refine wp_ret ?_
    refine blk_r ?_
    refine then_r ?_
    obtain rfl := some_some H
    refine s_ret [Value.int .i64 t5] hF Try.results64 ⟨rfl, trivial⟩ ?_
    exact ⟨_, rfl, hM.frm, rfl⟩
  ·
    refine s_cond_f hF rfl (decide_eq_false c2) ?_
    refine wp_seq ?_
    refine s_region ?_
    refine s_val hF rfl rfl rfl (e_eql hF rfl rfl) ?_; intro a hF
    refine s_val hF rfl rfl rfl (e_assign hF rfl) ?_; intro a hF
    refine s_nil ?_
    refine then_n ?_
    rcases ite_cases H with ⟨c7, H⟩ | ⟨c7, H⟩
    ·
      refine s_cond_t hF rfl (decide_eq_true c7) ?_
      refine wp_seq ?_
      obtain ⟨t8, h9, H⟩ := bind_some H
      obtain ⟨t10, h11, H⟩ := bind_some H
      refine s_held (fun w => Ms [] w0 w [boxR b1 [Pt.int a0.1, Pt.int a0.2] 25]) #[false, false, false, false, false, false, false] mixed rfl rfl hM ?_; intro w hf hM; clear hf
      refine h_val 0 #[true, false, false, false, false, false, false] rfl (by kernel_rfl) hF rfl rfl rfl (fun w hS => e_move hF rfl) (hM.pick [0] rfl rfl) ?_; intro a hF
      refine h_val 2 #[true, false, true, false, false, false, false] rfl (by kernel_rfl) hF rfl rfl rfl (fun w hS => e_fa hF rfl Try.underlying25 rfl Try.sizeOf3 rfl rfl) (hM.pick [0] rfl rfl) ?_; intro a hF
      refine h_val 3 #[true, false, true, true, false, false, false] rfl (by kernel_rfl) hF rfl rfl rfl (fun w hS => e_ld (i := 0) (k := 1) hF hS rfl rfl rfl rfl Try.isAgg3 rfl) (hM.pick [0] rfl rfl) ?_; intro a hF
      refine h_one 1 #[true, true, true, true, false, false, false] rfl (by kernel_rfl) ?_
      refine s_call hF rfl rfl rfl Try.call87 (impl_total.calls K l1 u1 (q1.frm hM.frm) t8 h9) ?_; intro a w v hF hf hR
      subst hR; have hM := hM.grow hf
      refine s_nil ⟨rfl, (hM.pick [0] rfl rfl), ?_⟩
      refine h_val 4 #[true, true, true, true, true, false, false] rfl (by kernel_rfl) hF rfl rfl rfl (fun w hS => e_eql hF rfl rfl) (hM.pick [0] rfl rfl) ?_; intro a hF
      refine h_one 5 #[true, true, true, true, true, true, false] rfl (by kernel_rfl) ?_
      refine s_call hF rfl rfl rfl Try.call90 (impl_truth.calls K (decide (t8 = a0.2)) t10 h11) ?_; intro a w v hF hf hR
      subst hR; have hM := hM.grow hf
      refine s_nil ⟨rfl, (hM.pick [0] rfl rfl), ?_⟩
      refine h_val 6 #[true, true, true, true, true, true, true] rfl (by kernel_rfl) hF rfl rfl rfl (fun w hS => e_assign hF rfl) (hM.pick [0] rfl rfl) ?_; intro a hF
      refine h_done rfl ?_
      refine then_n ?_
      refine wp_ret ?_
      refine blk_r ?_
      refine then_r ?_
      obtain rfl := some_some H
      refine s_ret [Value.int .i64 t10] hF Try.results64 ⟨rfl, trivial⟩ ?_
      exact ⟨_, rfl, hM.frm, rfl⟩
    ·
      refine s_cond_f hF rfl (decide_eq_false c7) ?_
      refine wp_seq ?_
      refine s_region ?_
      refine s_val hF rfl rfl rfl (e_eql hF rfl rfl) ?_; intro a hF
      refine s_val hF rfl rfl rfl (e_assign hF rfl) ?_; intro a hF
      refine s_nil ?_
      refine then_n ?_
      rcases ite_cases H with ⟨c12, H⟩ | ⟨c12, H⟩
      ·
        refine s_cond_t hF rfl (decide_eq_true c12) ?_
        refine wp_seq ?_
        obtain ⟨t13, h14, H⟩ := bind_some H
        refine s_region ?_
        refine s_val hF rfl rfl rfl (e_move hF rfl) ?_; intro a hF
        refine s_call hF rfl rfl rfl Try.call99 (slices_Max_int_int.calls K l1 u1 (q1.frm hM.frm) t13 h14) ?_; intro a w v hF hf hR
        subst hR; have hM := hM.grow hf
        refine s_val hF rfl rfl rfl (e_assign hF rfl) ?_; intro a hF
        refine s_nil ?_
        refine then_n ?_
        refine wp_ret ?_
        refine blk_r ?_
        refine then_r ?_
        obtain rfl := some_some H
        refine s_ret [Value.int .i64 t13] hF Try.results64 ⟨rfl, trivial⟩ ?_
        exact ⟨_, rfl, hM.frm, rfl⟩
      ·
        refine s_cond_f hF rfl (decide_eq_false c12) ?_
        refine wp_seq ?_
        refine s_region ?_
        refine s_val hF rfl rfl rfl (e_eql hF rfl rfl) ?_; intro a hF
        refine s_val hF rfl rfl rfl (e_assign hF rfl) ?_; intro a hF
        refine s_nil ?_
        refine then_n ?_
        rcases ite_cases H with ⟨c15, H⟩ | ⟨c15, H⟩
        ·
          refine s_cond_t hF rfl (decide_eq_true c15) ?_
          refine wp_seq ?_
          obtain ⟨t16, h17, H⟩ := bind_some H
          obtain ⟨t18, h19, H⟩ := bind_some H
          obtain ⟨t20, h21, H⟩ := bind_some H
          refine s_region ?_
          refine s_val hF rfl rfl rfl (e_move hF rfl) ?_; intro a hF
          refine s_call hF rfl rfl rfl Try.call99 (slices_Max_int_int.calls K l1 u1 (q1.frm hM.frm) t16 h17) ?_; intro a w v hF hf hR
          subst hR; have hM := hM.grow hf
          refine s_val hF rfl rfl rfl (e_move hF rfl) ?_; intro a hF
          refine s_call hF rfl rfl rfl Try.call100 (slices_Min_int_int.calls K l1 u1 (q1.frm hM.frm) t18 h19) ?_; intro a w v hF hf hR
          subst hR; have hM := hM.grow hf
          refine s_val hF rfl rfl rfl (e_eql hF rfl rfl) ?_; intro a hF
          refine s_call hF rfl rfl rfl Try.call90 (impl_truth.calls K (decide (t16 = t18)) t20 h21) ?_; intro a w v hF hf hR
          subst hR; have hM := hM.grow hf
          refine s_val hF rfl rfl rfl (e_assign hF rfl) ?_; intro a hF
          refine s_nil ?_
          refine then_n ?_
          refine wp_ret ?_
          refine blk_r ?_
          refine then_r ?_
          obtain rfl := some_some H
          refine s_ret [Value.int .i64 t20] hF Try.results64 ⟨rfl, trivial⟩ ?_
          exact ⟨_, rfl, hM.frm, rfl⟩
        ·
          refine s_cond_f hF rfl (decide_eq_false c15) ?_
          refine wp_skip ?_
          refine blk_n ?_
          refine then_n ?_
          refine wp_seq ?_
          obtain ⟨t22, h23, H⟩ := bind_some H
          refine s_region ?_
          refine s_val hF rfl rfl rfl (e_move hF rfl) ?_; intro a hF
          refine s_call hF rfl rfl rfl Try.call87 (impl_total.calls K l1 u1 (q1.frm hM.frm) t22 h23) ?_; intro a w v hF hf hR
          subst hR; have hM := hM.grow hf
          refine s_val hF rfl rfl rfl (e_assign hF rfl) ?_; intro a hF
          refine s_nil ?_
          refine then_n ?_
          refine wp_ret ?_
          obtain rfl := some_some H
          refine s_ret [Value.int .i64 t22] hF Try.results64 ⟨rfl, trivial⟩ ?_
          exact ⟨_, rfl, hM.frm, rfl⟩

/-! ### (*loop.example/g01210/impl.again).sets: function 74 -/
def impl_again_sets__c.f (K : Nat) (y4 : (List (Ar 6))) (y7 : (List (List Int))) : Option Int := if 0 ≤ (y4.length : Int) then (some (wrap64 (1 * 2 ^ (min ((y4.length : Int) : Int).toNat 64)))) else none
set_option maxRecDepth 100000 in
set_option maxHeartbeats 4000000 in
theorem impl_again_sets__c.calls {w0 : World} (K : Nat) (v3 : Value) (y4 : (List (Ar 6))) (q5 : SlR cd28 w0 v3 y4) (v6 : Value) (y7 : (List (List Int))) (z8 : List Value) (q9 : NeR cd3 33 w0 v6 z8 y7) (b1 : Nat) (q2 : (boxR b1 [Pt.any v3, Pt.any v6] 80).holds w0) (r : Int) (H : impl_again_sets__c.f K y4 y7 = some r) : Calls Try.prog 74 [pt b1 0].toArray w0 (Post w0 fun w v => v = Value.int .i64 r) := by
  rw [impl_again_sets__c.f] at H
  refine s_start Try.func74 rfl Try.ntmps74 rfl ?_
  intro a hF
  have hM := Ms.start w0
  skip
  refine wp_seq ?_
  refine s_region ?_
  refine s_val hF rfl rfl rfl (e_assign hF rfl) ?_; intro a hF
  refine s_nil ?_
  refine then_n ?_
  refine wp_seq ?_
  obtain ⟨c10, H⟩ := ite_some H
  refine s_region ?_
  refine s_val hF rfl rfl rfl (e_move hF rfl) ?_; intro a hF
  refine s_val hF rfl rfl rfl (e_nilc hF rfl) ?_; intro a hF
  refine s_val hF rfl rfl rfl (e_fa hF rfl Try.underlying80 rfl Try.sizeOf43 rfl rfl) ?_; intro a hF
  refine s_val hF rfl rfl rfl (e_ld (i := 0) (k := 0) hF (lent_ms (box_frm q2 hM.frm)) rfl rfl rfl rfl Try.isAgg43 (any_cs (q5.frm hM.frm).toF.one)) ?_; intro a hF
  refine s_val hF rfl rfl rfl (e_len hF rfl (q5.frm hM.frm).toF Try.underlying43) ?_; intro a hF
  refine s_val hF rfl rfl rfl (e_shl hF rfl rfl c10) ?_; intro a hF
  refine s_val hF rfl rfl rfl (e_assign hF rfl) ?_; intro a hF
  refine s_nil ?_
  refine then_n ?_
  refine wp_ret ?_
  obtain rfl := some_some H
  refine s_ret [Value.int .i64 (wrap64 (1 * 2 ^ (min ((y4.length : Int) : Int).toNat 64)))] hF Try.results74 ⟨rfl, trivial⟩ ?_
  exact ⟨_, rfl, hM.frm, rfl⟩

/-! ### loop.example/g01210/impl.isIn: function 105 -/
def impl_isIn.f (K : Nat) (a0 : Int) (a1 : Int) : Option Bool := if 0 ≤ a1 then (some (decide ((Go.bits .and .i64 (a0.fdiv (2 ^ (min (a1 : Int).toNat 64))) 1) = 1))) else none
set_option maxRecDepth 100000 in
set_option maxHeartbeats 4000000 in
theorem impl_isIn.calls {w0 : World} (K : Nat) (a0 : Int) (a1 : Int) (r : Bool) (H : impl_isIn.f K a0 a1 = some r) : Calls Try.prog 105 [Value.int .i64 a0, Value.int .i64 a1].toArray w0 (Post w0 fun w v => v = Value.bool r) := by
  rw [impl_isIn.f] at H
  refine s_start Try.func105 rfl Try.ntmps105 rfl ?_
  intro a hF
  have hM := Ms.start w0
  skip
  refine wp_seq ?_
  refine s_region ?_
  refine s_val hF rfl rfl rfl (e_assign hF rfl) ?_; intro a hF
  refine s_nil ?_
  refine then_n ?_
  refine wp_seq ?_
  obtain ⟨c1, H⟩ := ite_some H
  refine s_region ?_
  refine s_val hF rfl rfl rfl (e_move hF rfl) ?_; intro a hF
  refine s_val hF rfl rfl rfl (e_move hF rfl) ?_; intro a hF
  refine s_val hF rfl rfl rfl (e_shr hF rfl rfl c1) ?_; intro a hF
  refine s_val hF rfl rfl rfl (e_and hF rfl rfl) ?_; intro a hF
  refine s_val hF rfl rfl rfl (e_eql hF rfl rfl) ?_; intro a hF
  refine s_val hF rfl rfl rfl (e_assign hF rfl) ?_; intro a hF
  refine s_nil ?_
  refine then_n ?_
  refine wp_ret ?_
  obtain rfl := some_some H
  refine s_ret [Value.bool (decide ((Go.bits .and .i64 (a0.fdiv (2 ^ (min (a1 : Int).toNat 64))) 1) = 1))] hF Try.results105 ⟨rfl, trivial⟩ ?_
  exact ⟨_, rfl, hM.frm, rfl⟩

/-! ### (*loop.example/g01210/impl.again).merged: function 75 -/
def impl_again_merged__c.l0 (K : Nat) (a2 : Int) : Nat → Int → Int → Int → Int → Int → Option Int
  | 0, _, _, _, _, _ => none
  | k + 1, x24, x25, x26, x27, x28 => if 0 ≤ x28 then ((impl_isIn.f K a2 x28).bind fun t30 => if t30 = true then (impl_again_merged__c.l0 K a2 k (wrap64 (x24.tdiv 6)) (wrap64 (x25.tdiv 6)) (wrap64 (x26 + (wrap64 ((x25.tmod 6) * x27)))) (wrap64 (x27 * 6)) (wrap64 (x28 - 1))) else (impl_again_merged__c.l0 K a2 k (wrap64 (x24.tdiv 6)) (wrap64 (x25.tdiv 6)) (wrap64 (x26 + (wrap64 ((x24.tmod 6) * x27)))) (wrap64 (x27 * 6)) (wrap64 (x28 - 1)))) else (some x26)
def impl_again_merged__c.f (K : Nat) (y4 : (List (Ar 6))) (y7 : (List (List Int))) (a1 : Int) (a2 : Int) (a3 : Int) : Option Int := (impl_again_merged__c.l0 K a2 K a1 a3 0 1 (wrap64 ((y4.length : Int) - 1))).bind fun x23 => some x23
set_option maxRecDepth 100000 in
set_option maxHeartbeats 4000000 in
theorem impl_again_merged__c.calls {w0 : World} (K : Nat) (v3 : Value) (y4 : (List (Ar 6))) (q5 : SlR cd28 w0 v3 y4) (v6 : Value) (y7 : (List (List Int))) (z8 : List Value) (q9 : NeR cd3 33 w0 v6 z8 y7) (b1 : Nat) (q2 : (boxR b1 [Pt.any v3, Pt.any v6] 80).holds w0) (a1 : Int) (a2 : Int) (a3 : Int) (r : Int) (H : impl_again_merged__c.f K y4 y7 a1 a2 a3 = some r) : Calls Try.prog 75 [pt b1 0, Value.int .i64 a1, Value.int .i64 a2, Value.int .i64 a3].toArray w0 (Post w0 fun w v => v = Value.int .i64 r) := by
  rw [impl_again_merged__c.f] at H
  refine s_start Try.func75 rfl Try.ntmps75 rfl ?_
  intro a hF
  have hM := Ms.start w0
  skip
  refine wp_seq ?_
  refine s_region ?_
  refine s_val hF rfl rfl rfl (e_assign hF rfl) ?_; intro a hF
  refine s_nil ?_
  refine then_n ?_
  refine wp_seq ?_
  refine s_region ?_
  refine s_val hF rfl rfl rfl (e_assign hF rfl) ?_; intro a hF
  refine s_val hF rfl rfl rfl (e_assign hF rfl) ?_; intro a hF
  refine s_nil ?_
  refine then_n ?_
  refine wp_seq ?_
  refine wp_seq ?_
  refine s_region ?_
  refine s_val hF rfl rfl rfl (e_move hF rfl) ?_; intro a hF
  refine s_val hF rfl rfl rfl (e_nilc hF rfl) ?_; intro a hF
  refine s_val hF rfl rfl rfl (e_fa hF rfl Try.underlying80 rfl Try.sizeOf43 rfl rfl) ?_; intro a hF
  refine s_val hF rfl rfl rfl (e_ld (i := 0) (k := 0) hF (lent_ms (box_frm q2 hM.frm)) rfl rfl rfl rfl Try.isAgg43 (any_cs (q5.frm hM.frm).toF.one)) ?_; intro a hF
  refine s_val hF rfl rfl rfl (e_len hF rfl (q5.frm hM.frm).toF Try.underlying43) ?_; intro a hF
  refine s_val hF rfl rfl rfl (e_sub hF rfl rfl) ?_; intro a hF
  refine s_val hF rfl rfl rfl (e_assign hF rfl) ?_; intro a hF
  refine s_nil ?_
  refine then_n ?_
  refine wp_block ?_
  obtain ⟨o33, h34, H⟩ := bind_some H
  refine wp_mono (Q := fun e a w => (e = Exit.exit 0 ∧ ∃ x23 : Int, x23 = o33 ∧ Fr 42 a [(9, Value.int .i64 x23)] ∧ Ms [] w0 w [])) ?_ ?_
  · refine s_loop (fun kq a w => ∃ x24 : Int, ∃ x25 : Int, ∃ x26 : Int, ∃ x27 : Int, ∃ x28 : Int, impl_again_merged__c.l0 K a2 kq x24 x25 x26 x27 x28 = some o33 ∧ Fr 42 a [(1, Value.int .i64 x24), (2, Value.int .i64 a2), (3, Value.int .i64 x25), (9, Value.int .i64 x26), (10, Value.int .i64 x27), (11, Value.int .i64 x28)] ∧ Ms [] w0 w []) K ⟨a1, a3, 0, 1, (wrap64 ((y4.length : Int) - 1)), h34, hF.sub _ ⟨rfl, rfl, rfl, rfl, rfl, rfl, trivial⟩, hM.pick [] rfl rfl⟩ ?_ ?_
    · rintro a w ⟨_, _, _, _, _, H, _⟩; exact none_some H
    · rintro k a w ⟨x24, x25, x26, x27, x28, H, hF, hM⟩; rw [impl_again_merged__c.l0] at H
      refine wp_seq ?_
      refine wp_seq ?_
      refine s_region ?_
      refine s_val hF rfl rfl rfl (e_move hF rfl) ?_; intro a hF
      refine s_val hF rfl rfl rfl (e_geq hF rfl rfl) ?_; intro a hF
      refine s_nil ?_
      refine then_n ?_
      rcases ite_cases H with ⟨c29, H⟩ | ⟨c29, H⟩
      ·
        refine s_cond_t hF rfl (decide_eq_true c29) ?_
        refine wp_skip ?_
        refine then_n ?_
        refine wp_seq ?_
        refine wp_block ?_
        refine wp_seq ?_
        refine s_region ?_
        refine s_val hF rfl rfl rfl (e_move hF rfl) ?_; intro a hF
        refine s_val hF rfl rfl rfl (e_rem hF rfl rfl (by decide)) ?_; intro a hF
        refine s_val hF rfl rfl rfl (e_assign hF rfl) ?_; intro a hF
        refine s_nil ?_
        refine then_n ?_
        refine wp_seq ?_
        refine wp_seq ?_
        obtain ⟨t30, h31, H⟩ := bind_some H
        refine s_region ?_
        refine s_val hF rfl rfl rfl (e_move hF rfl) ?_; intro a hF
        refine s_val hF rfl rfl rfl (e_move hF rfl) ?_; intro a hF
        refine s_call hF rfl rfl rfl Try.call105 (impl_isIn.calls K a2 x28 t30 h31) ?_; intro a w v hF hf hR
        subst hR; have hM := hM.grow hf
        refine s_nil ?_
        refine then_n ?_
        rcases ite_cases H with ⟨c32, H⟩ | ⟨c32, H⟩
        ·
          refine s_cond_t hF rfl c32 ?_
          refine s_region ?_
          refine s_val hF rfl rfl rfl (e_move hF rfl) ?_; intro a hF
          refine s_val hF rfl rfl rfl (e_rem hF rfl rfl (by decide)) ?_; intro a hF
          refine s_val hF rfl rfl rfl (e_assign hF rfl) ?_; intro a hF
          refine s_nil ?_
          refine then_n ?_
          refine wp_seq ?_
          refine s_region ?_
          refine s_val hF rfl rfl rfl (e_move hF rfl) ?_; intro a hF
          refine s_val hF rfl rfl rfl (e_move hF rfl) ?_; intro a hF
          refine s_val hF rfl rfl rfl (e_move hF rfl) ?_; intro a hF
          refine s_val hF rfl rfl rfl (e_mul hF rfl rfl) ?_; intro a hF
          refine s_val hF rfl rfl rfl (e_add hF rfl rfl) ?_; intro a hF
          refine s_val hF rfl rfl rfl (e_assign hF rfl) ?_; intro a hF
          refine s_nil ?_
          refine then_n ?_
          refine s_region ?_
          refine s_val hF rfl rfl rfl (e_move hF rfl) ?_; intro a hF
          refine s_val hF rfl rfl rfl (e_quo hF rfl rfl (by decide)) ?_; intro a hF
          refine s_val hF rfl rfl rfl (e_move hF rfl) ?_; intro a hF
          refine s_val hF rfl rfl rfl (e_quo hF rfl rfl (by decide)) ?_; intro a hF
          refine s_val hF rfl rfl rfl (e_move hF rfl) ?_; intro a hF
          refine s_val hF rfl rfl rfl (e_mul hF rfl rfl) ?_; intro a hF
          refine s_val hF rfl rfl rfl (e_assign hF rfl) ?_; intro a hF
          refine s_val hF rfl rfl rfl (e_assign hF rfl) ?_; intro a hF
          refine s_val hF rfl rfl rfl (e_assign hF rfl) ?_; intro a hF
          refine s_nil ?_
          refine blk_n ?_
          refine then_n ?_
          refine s_region ?_
          refine s_val hF rfl rfl rfl (e_move hF rfl) ?_; intro a hF
          refine s_val hF rfl rfl rfl (e_sub hF rfl rfl) ?_; intro a hF
          refine s_val hF rfl rfl rfl (e_assign hF rfl) ?_; intro a hF
          refine s_nil ?_
          refine then_n ?_
          exact ⟨(wrap64 (x24.tdiv 6)), (wrap64 (x25.tdiv 6)), (wrap64 (x26 + (wrap64 ((x25.tmod 6) * x27)))), (wrap64 (x27 * 6)), (wrap64 (x28 - 1)), H, hF.sub _ ⟨rfl, rfl, rfl, rfl, rfl, rfl, trivial⟩, hM.pick [] rfl rfl⟩
        ·
          refine s_cond_f hF rfl (bf c32) ?_
          refine wp_skip ?_
          refine then_n ?_
          refine wp_seq ?_
          refine s_region ?_
          refine s_val hF rfl rfl rfl (e_move hF rfl) ?_; intro a hF
          refine s_val hF rfl rfl rfl (e_move hF rfl) ?_; intro a hF
          refine s_val hF rfl rfl rfl (e_move hF rfl) ?_; intro a hF
          refine s_val hF rfl rfl rfl (e_mul hF rfl rfl) ?_; intro a hF
          refine s_val hF rfl rfl rfl (e_add hF rfl rfl) ?_; intro a hF
          refine s_val hF rfl rfl rfl (e_assign hF rfl) ?_; intro a hF
          refine s_nil ?_
          refine then_n ?_
          refine s_region ?_
          refine s_val hF rfl rfl rfl (e_move hF rfl) ?_; intro a hF
          refine s_val hF rfl rfl rfl (e_quo hF rfl rfl (by decide)) ?_; intro a hF
          refine s_val hF rfl rfl rfl (e_move hF rfl) ?_; intro a hF
          refine s_val hF rfl rfl rfl (e_quo hF rfl rfl (by decide)) ?_; intro a hF
          refine s_val hF rfl rfl rfl (e_move hF rfl) ?_; intro a hF
          refine s_val hF rfl rfl rfl (e_mul hF rfl rfl) ?_; intro a hF
          refine s_val hF rfl rfl rfl (e_assign hF rfl) ?_; intro a hF
          refine s_val hF rfl rfl rfl (e_assign hF rfl) ?_; intro a hF
          refine s_val hF rfl rfl rfl (e_assign hF rfl) ?_; intro a hF
          refine s_nil ?_
          refine blk_n ?_
          refine then_n ?_
          refine s_region ?_
          refine s_val hF rfl rfl rfl (e_move hF rfl) ?_; intro a hF
          refine s_val hF rfl rfl rfl (e_sub hF rfl rfl) ?_; intro a hF
          refine s_val hF rfl rfl rfl (e_assign hF rfl) ?_; intro a hF
          refine s_nil ?_
          refine then_n ?_
          exact ⟨(wrap64 (x24.tdiv 6)), (wrap64 (x25.tdiv 6)), (wrap64 (x26 + (wrap64 ((x24.tmod 6) * x27)))), (wrap64 (x27 * 6)), (wrap64 (x28 - 1)), H, hF.sub _ ⟨rfl, rfl, rfl, rfl, rfl, rfl, trivial⟩, hM.pick [] rfl rfl⟩
      ·
        refine s_cond_f hF rfl (decide_eq_false c29) ?_
        refine wp_exit ?_
        refine then_x ?_
        refine then_x ?_
        exact ⟨rfl, x26, some_some H, hF.sub _ ⟨rfl, trivial⟩, hM.pick [] rfl rfl⟩
  · rintro e a w ⟨rfl, x23, rfl, hF, hM⟩
    skip
    refine blk_x ?_
    refine then_n ?_
    refine wp_seq ?_
    refine s_region ?_
    refine s_val hF rfl rfl rfl (e_move hF rfl) ?_; intro a hF
    refine s_val hF rfl rfl rfl (e_assign hF rfl) ?_; intro a hF
    refine s_nil ?_
    refine then_n ?_
    refine wp_ret ?_
    obtain rfl := some_some H
    refine s_ret [Value.int .i64 x23] hF Try.results75 ⟨rfl, trivial⟩ ?_
    exact ⟨_, rfl, hM.frm, rfl⟩

/-! ### (*loop.example/g01210/impl.again).setValue: function 86 -/
def impl_again_setValue__c.l0 (K : Nat) (y4 : (List (Ar 6))) (y7 : (List (List Int))) (a1 : Int) (a2 : Int) (a3 : Int) (t10 : Int) : Nat → Int → Int → Option Int
  | 0, _, _ => none
  | k + 1, x25, x26 => if x26 < t10 then (if (0 : Int) ≤ (wrap64 (a3 - 1)) ∧ (wrap64 (a3 - 1)) < (y7.length : Int) then ((impl_again_merged__c.f K y4 y7 a1 a2 x26).bind fun t29 => if (0 : Int) ≤ t29 ∧ t29 < ((y7.getD ((wrap64 (a3 - 1)) : Int).toNat []).length : Int) then (impl_again_setValue__c.l0 K y4 y7 a1 a2 a3 t10 k (wrap64 (x25 + ((y7.getD ((wrap64 (a3 - 1)) : Int).toNat []).getD (t29 : Int).toNat (0 : Int)))) (wrap64 (x26 + 1))) else none) else none) else (some x25)
def impl_again_setValue__c.f (K : Nat) (y4 : (List (Ar 6))) (y7 : (List (List Int))) (a1 : Int) (a2 : Int) (a3 : Int) : Option Int := (impl_again_outcomes__c.f K y4 y7).bind fun t10 => (impl_again_setValue__c.l0 K y4 y7 a1 a2 a3 t10 K 0 0).bind fun x24 => some x24
set_option maxRecDepth 100000 in
set_option maxHeartbeats 4000000 in
theorem impl_again_setValue__c.calls {w0 : World} (K : Nat) (v3 : Value) (y4 : (List (Ar 6))) (q5 : SlR cd28 w0 v3 y4) (v6 : Value) (y7 : (List (List Int))) (z8 : List Value) (q9 : NeR cd3 33 w0 v6 z8 y7) (b1 : Nat) (q2 : (boxR b1 [Pt.any v3, Pt.any v6] 80).holds w0) (a1 : Int) (a2 : Int) (a3 : Int) (r : Int) (H : impl_again_setValue__c.f K y4 y7 a1 a2 a3 = some r) : Calls Try.prog 86 [pt b1 0, Value.int .i64 a1, Value.int .i64 a2, Value.int .i64 a3].toArray w0 (Post w0 fun w v => v = Value.int .i64 r) := by
  rw [impl_again_setValue__c.f] at H
  refine s_start Try.func86 rfl Try.ntmps86 rfl ?_
  intro a hF
  have hM := Ms.start w0
  skip
  refine wp_seq ?_
  refine s_region ?_
  refine s_val hF rfl rfl rfl (e_assign hF rfl) ?_; intro a hF
  refine s_nil ?_
  refine then_n ?_
  refine wp_seq ?_
  refine s_region ?_
  refine s_val hF rfl rfl rfl (e_assign hF rfl) ?_; intro a hF
  refine s_nil ?_
  refine then_n ?_
  refine wp_seq ?_
  refine wp_seq ?_
  obtain ⟨t10, h11, H⟩ := bind_some H
  refine s_region ?_
  refine s_val hF rfl rfl rfl (e_move hF rfl) ?_; intro a hF
  refine s_call hF rfl rfl rfl Try.call89 (impl_again_outcomes__c.calls K v3 y4 (q5.frm hM.frm) v6 y7 z8 (q9.frm hM.frm) b1 (box_frm q2 hM.frm) t10 h11) ?_; intro a w v hF hf hR
  subst hR; have hM := hM.grow hf
  refine s_val hF rfl rfl rfl (e_move hF rfl) ?_; intro a hF
  refine s_nil ?_
  refine then_n ?_
  refine wp_block ?_
  obtain ⟨o35, h36, H⟩ := bind_some H
  refine wp_mono (Q := fun e a w => (e = Exit.exit 0 ∧ ∃ x24 : Int, x24 = o35 ∧ Fr 35 a [(9, Value.int .i64 x24)] ∧ Ms [] w0 w [])) ?_ ?_
  · refine s_loop (fun kq a w => ∃ x25 : Int, ∃ x26 : Int, impl_again_setValue__c.l0 K y4 y7 a1 a2 a3 t10 kq x25 x26 = some o35 ∧ Fr 35 a [(0, pt b1 0), (1, Value.int .i64 a1), (2, Value.int .i64 a2), (3, Value.int .i64 a3), (9, Value.int .i64 x25), (12, Value.int .i64 t10), (13, Value.int .i64 x26)] ∧ Ms [] w0 w []) K ⟨0, 0, h36, hF.sub _ ⟨rfl, rfl, rfl, rfl, rfl, rfl, rfl, trivial⟩, hM.pick [] rfl rfl⟩ ?_ ?_
    · rintro a w ⟨_, _, H, _⟩; exact none_some H
    · rintro k a w ⟨x25, x26, H, hF, hM⟩; rw [impl_again_setValue__c.l0] at H
      refine wp_seq ?_
      refine s_region ?_
      refine s_val hF rfl rfl rfl (e_lss hF rfl rfl) ?_; intro a hF
      refine s_nil ?_
      refine then_n ?_
      refine wp_seq ?_
      rcases ite_cases H with ⟨c27, H⟩ | ⟨c27, H⟩
      ·
        refine s_cond_t hF rfl (decide_eq_true c27) ?_
        refine wp_skip ?_
        refine then_n ?_
        refine wp_seq ?_
        refine wp_block ?_
        refine wp_seq ?_
        refine s_region ?_
        refine s_val hF rfl rfl rfl (e_move hF rfl) ?_; intro a hF
        refine s_val hF rfl rfl rfl (e_assign hF rfl) ?_; intro a hF
        refine s_nil ?_
        refine then_n ?_
        obtain ⟨c28, H⟩ := ite_some H
        obtain ⟨t29, h30, H⟩ := bind_some H
        obtain ⟨c31, H⟩ := ite_some H
        refine s_held (fun w => Ms [] w0 w []) #[false, false, false, false, false, false, false, false, false, false, false, false, false, false, false, false, false, false] mixed rfl rfl hM ?_; intro w hf hM; clear hf
        refine h_val 0 #[true, false, false, false, false, false, false, false, false, false, false, false, false, false, false, false, false, false] rfl (by kernel_rfl) hF rfl rfl rfl (fun w hS => e_move hF rfl) (hM.pick [] rfl rfl) ?_; intro a hF
        refine h_val 1 #[true, true, false, false, false, false, false, false, false, false, false, false, false, false, false, false, false, false] rfl (by kernel_rfl) hF rfl rfl rfl (fun w hS => e_move hF rfl) (hM.pick [] rfl rfl) ?_; intro a hF
        refine h_val 2 #[true, true, true, false, false, false, false, false, false, false, false, false, false, false, false, false, false, false] rfl (by kernel_rfl) hF rfl rfl rfl (fun w hS => e_nilc hF rfl) (hM.pick [] rfl rfl) ?_; intro a hF
        refine h_val 3 #[true, true, true, true, false, false, false, false, false, false, false, false, false, false, false, false, false, false] rfl (by kernel_rfl) hF rfl rfl rfl (fun w hS => e_fa hF rfl Try.underlying80 rfl Try.sizeOf78 rfl rfl) (hM.pick [] rfl rfl) ?_; intro a hF
        have f32 := (q9.frm hM.frm).toF
        refine h_val 4 #[true, true, true, true, true, false, false, false, false, false, false, false, false, false, false, false, false, false] rfl (by kernel_rfl) hF rfl rfl rfl (fun w hS => e_ld (i := 0) (k := 1) hF (lent_ms (box_frm q2 hS.frm)) rfl rfl rfl rfl Try.isAgg78 (any_cs f32.one)) (hM.pick [] rfl rfl) ?_; intro a hF
        refine h_val 5 #[true, true, true, true, true, true, false, false, false, false, false, false, false, false, false, false, false, false] rfl (by kernel_rfl) hF rfl rfl rfl (fun w hS => e_move hF rfl) (hM.pick [] rfl rfl) ?_; intro a hF
        refine h_val 6 #[true, true, true, true, true, true, true, false, false, false, false, false, false, false, false, false, false, false] rfl (by kernel_rfl) hF rfl rfl rfl (fun w hS => e_sub hF rfl rfl) (hM.pick [] rfl rfl) ?_; intro a hF
        have f33 := (q9.frm hM.frm).toF
        refine h_val 7 #[true, true, true, true, true, true, true, true, false, false, false, false, false, false, false, false, false, false] rfl (by kernel_rfl) hF rfl rfl rfl (fun w hS => e_ias (cdV 33) hF rfl rfl f33 Try.underlying78 Try.sizeOf33 c28.1 c28.2) (hM.pick [] rfl rfl) ?_; intro a hF
        refine h_val 8 #[true, true, true, true, true, true, true, true, true, false, false, false, false, false, false, false, false, false] rfl (by kernel_rfl) hF rfl rfl rfl (fun w hS => e_lds (C := cdV 33) (m := (wrap64 (a3 - 1))) hF rfl (q9.frm hS.frm).out ((q9.frm hS.frm).at c28) rfl (any_cs ((q9.frm hS.frm).get c28).toF.one) Try.isAgg33) (hM.pick [] rfl rfl) ?_; intro a hF
        refine h_val 9 #[true, true, true, true, true, true, true, true, true, true, false, false, false, false, false, false, false, false] rfl (by kernel_rfl) hF rfl rfl rfl (fun w hS => e_move hF rfl) (hM.pick [] rfl rfl) ?_; intro a hF
        refine h_val 10 #[true, true, true, true, true, true, true, true, true, true, true, false, false, false, false, false, false, false] rfl (by kernel_rfl) hF rfl rfl rfl (fun w hS => e_move hF rfl) (hM.pick [] rfl rfl) ?_; intro a hF
        refine h_val 11 #[true, true, true, true, true, true, true, true, true, true, true, true, false, false, false, false, false, false] rfl (by kernel_rfl) hF rfl rfl rfl (fun w hS => e_move hF rfl) (hM.pick [] rfl rfl) ?_; intro a hF
        refine h_val 12 #[true, true, true, true, true, true, true, true, true, true, true, true, true, false, false, false, false, false] rfl (by kernel_rfl) hF rfl rfl rfl (fun w hS => e_move hF rfl) (hM.pick [] rfl rfl) ?_; intro a hF
        refine h_one 13 #[true, true, true, true, true, true, true, true, true, true, true, true, true, true, false, false, false, false] rfl (by kernel_rfl) ?_
        refine s_call hF rfl rfl rfl Try.call75 (impl_again_merged__c.calls K v3 y4 (q5.frm hM.frm) v6 y7 z8 (q9.frm hM.frm) b1 (box_frm q2 hM.frm) a1 a2 x26 t29 h30) ?_; intro a w v hF hf hR
        subst hR; have hM := hM.grow hf
        refine s_nil ⟨rfl, (hM.pick [] rfl rfl), ?_⟩
        have f34 := ((q9.frm hM.frm).get c28).toF
        refine h_val 14 #[true, true, true, true, true, true, true, true, true, true, true, true, true, true, true, false, false, false] rfl (by kernel_rfl) hF rfl rfl rfl (fun w hS => e_ias cd3 hF rfl rfl f34 Try.underlying33 Try.sizeOf3 c31.1 c31.2) (hM.pick [] rfl rfl) ?_; intro a hF
        refine h_val 15 #[true, true, true, true, true, true, true, true, true, true, true, true, true, true, true, true, false, false] rfl (by kernel_rfl) hF rfl rfl rfl (fun w hS => e_lds (m := t29) hF rfl ((q9.frm hS.frm).get c28) (getD_some (z := (0 : Int)) c31.1 c31.2) rfl rfl Try.isAgg3) (hM.pick [] rfl rfl) ?_; intro a hF
        refine h_val 16 #[true, true, true, true, true, true, true, true, true, true, true, true, true, true, true, true, true, false] rfl (by kernel_rfl) hF rfl rfl rfl (fun w hS => e_add hF rfl rfl) (hM.pick [] rfl rfl) ?_; intro a hF
        refine h_val 17 #[true, true, true, true, true, true, true, true, true, true, true, true, true, true, true, true, true, true] rfl (by kernel_rfl) hF rfl rfl rfl (fun w hS => e_assign hF rfl) (hM.pick [] rfl rfl) ?_; intro a hF
        refine h_done rfl ?_
        refine blk_n ?_
        refine then_n ?_
        refine s_region ?_
        refine s_val hF rfl rfl rfl (e_add hF rfl rfl) ?_; intro a hF
        refine s_val hF rfl rfl rfl (e_move hF rfl) ?_; intro a hF
        refine s_nil ?_
        refine then_n ?_
        exact ⟨(wrap64 (x25 + ((y7.getD ((wrap64 (a3 - 1)) : Int).toNat []).getD (t29 : Int).toNat (0 : Int)))), (wrap64 (x26 + 1)), H, hF.sub _ ⟨rfl, rfl, rfl, rfl, rfl, rfl, rfl, trivial⟩, hM.pick [] rfl rfl⟩
      ·
        refine s_cond_f hF rfl (decide_eq_false c27) ?_
        refine wp_exit ?_
        refine then_x ?_
        refine then_x ?_
        exact ⟨rfl, x25, some_some H, hF.sub _ ⟨rfl, trivial⟩, hM.pick [] rfl rfl⟩
  · rintro e a w ⟨rfl, x24, rfl, hF, hM⟩
    skip
    refine blk_x ?_
    refine then_n ?_
    refine wp_seq ?_
    refine s_region ?_
    refine s_val hF rfl rfl rfl (e_move hF rfl) ?_; intro a hF
    refine s_val hF rfl rfl rfl (e_assign hF rfl) ?_; intro a hF
    refine s_nil ?_
    refine then_n ?_
    refine wp_ret ?_
    obtain rfl := some_some H
    refine s_ret [Value.int .i64 x24] hF Try.results86 ⟨rfl, trivial⟩ ?_
    exact ⟨_, rfl, hM.frm, rfl⟩

/-! ### loop.example/g01210/impl.againOf: function 84 -/
def impl_againOf.l0 (K : Nat) (l0 : (List (Ar 6))) (a1 : (Int × Int)) (t3 : Int) : Nat → Int → (List Int) → Option (List Int)
  | 0, _, _ => none
  | k + 1, x38, x40 => if x38 < t3 then ((impl_rollAt.f K l0 x38).bind fun t42 => (impl_Goal_score.f K a1 t42).bind fun t45 => if x40.length + [t45].length ≤ 1073741824 then (impl_againOf.l0 K l0 a1 t3 k (wrap64 (x38 + 1)) (x40 ++ [t45])) else none) else (some x40)
def impl_againOf.l16 (K : Nat) (l0 : (List (Ar 6))) (x272 : Int) (x274 : (List (List Int))) (x351 : Int) (t355 : Int) : Nat → Int → Int → Option Int
  | 0, _, _ => none
  | k + 1, x366, x367 => if x367 < t355 then ((impl_again_setValue__c.f K l0 x274 x351 x367 x272).bind fun t369 => impl_againOf.l16 K l0 x272 x274 x351 t355 k (if t369 > x366 then t369 else x366) (wrap64 (x367 + 1))) else (some x366)
def impl_againOf.l15 (K : Nat) (l0 : (List (Ar 6))) (x272 : Int) (x274 : (List (List Int))) (t277 : Int) : Nat → Int → (List Int) → Option (List Int)
  | 0, _, _ => none
  | k + 1, x351, x353 => if x351 < t277 then ((impl_again_sets__c.f K l0 x274).bind fun t355 => (impl_againOf.l16 K l0 x272 x274 x351 t355 K 0 0).bind fun x365 => if x353.length + [x365].length ≤ 1073741824 then (impl_againOf.l15 K l0 x272 x274 t277 k (wrap64 (x351 + 1)) (x353 ++ [x365])) else none) else (some x353)
def impl_againOf.l11 (K : Nat) (l0 : (List (Ar 6))) (a2 : Int) : Nat → Int → (List (List Int)) → Option (List (List Int))
  | 0, _, _ => none
  | k + 1, x272, x274 => if x272 ≤ a2 then ((impl_again_outcomes__c.f K l0 x274).bind fun t277 => (impl_againOf.l15 K l0 x272 x274 t277 K 0 ([] : List Int)).bind fun x350 => if x274.length + [x350].length ≤ 1073741824 then (impl_againOf.l11 K l0 a2 k (wrap64 (x272 + 1)) (x274 ++ [x350])) else none) else (some x274)
def impl_againOf.f (K : Nat) (l0 : (List (Ar 6))) (a1 : (Int × Int)) (a2 : Int) : Option (List (List Int)) := (impl_again_outcomes__c.f K l0 ([] : List (List Int))).bind fun t3 => (impl_againOf.l0 K l0 a1 t3 K 0 ([] : List Int)).bind fun x37 => if ([] : List (List Int)).length + [x37].length ≤ 1073741824 then ((impl_againOf.l11 K l0 a2 K 1 (([] : List (List Int)) ++ [x37])).bind fun x270 => some x270) else none
set_option maxRecDepth 100000 in
set_option maxHeartbeats 4000000 in
theorem impl_againOf.calls {w0 : World} {X : List Nat} (K : Nat) (l0 : (List (Ar 6))) (u0 : Value) (q0 : SlR cd28 w0 u0 l0) (d0 : l0 ≠ [] → sblk u0 ∉ X) (a1 : (Int × Int)) (a2 : Int) (qM : Ms X w0 w0 []) (r : (List (List Int))) (H : impl_againOf.f K l0 a1 a2 = some r) : Calls Try.prog 84 [u0, ag [Pt.int a1.1, Pt.int a1.2], Value.int .i64 a2].toArray w0 (fun e w => ∃ v, e = .returned v ∧ ∃ b383 : Nat, ∃ v384 : Value, ∃ z385 : (List Value), Ms X w0 w [boxR b383 [Pt.any u0, Pt.any v384] 80, nestR cd3 33 v384 z385 r] ∧ pt b383 0 = v) := by
  rw [impl_againOf.f] at H
  refine s_start Try.func84 rfl Try.ntmps84 rfl ?_
  intro a hF
  have hM := qM
  refine wp_seq ?_
  refine s_region ?_
  refine s_box (ps := [Pt.int a1.1, Pt.int a1.2]) hF hM rfl rfl rfl rfl ?_; intro a w b1 hF hM
  refine s_val hF rfl rfl rfl (e_assign hF rfl) ?_; intro a hF
  refine s_nil ?_
  refine then_n ?_
  refine wp_seq ?_
  refine s_region ?_
  refine s_val hF rfl rfl rfl (e_move hF rfl) ?_; intro a hF
  refine s_val hF rfl rfl rfl (e_build' hF rfl (agg80_0 (q0.frmX hM.frm d0).toF.form)) ?_; intro a hF
  have hM := hM.nilNest cd3 33
  refine s_box (ps := [Pt.any u0, Pt.any (Value.slice none 0 0)]) hF hM rfl rfl rfl rfl ?_; intro a w b2 hF hM
  refine s_val hF rfl rfl rfl (e_assign hF rfl) ?_; intro a hF
  refine s_nil ?_
  refine then_n ?_
  refine wp_seq ?_
  refine s_region ?_
  refine s_val hF rfl rfl rfl (e_assign hF rfl) ?_; intro a hF
  refine s_nil ?_
  refine then_n ?_
  refine wp_seq ?_
  refine wp_seq ?_
  obtain ⟨t3, h4, H⟩ := bind_some H
  refine s_region ?_
  refine s_val hF rfl rfl rfl (e_move hF rfl) ?_; intro a hF
  refine s_call hF rfl rfl rfl Try.call89 (impl_again_outcomes__c.calls K u0 l0 (q0.frmX hM.frm d0) (Value.slice none 0 0) ([] : List (List Int)) ([] : List Value) (hM.ne 1 rfl) b2 (hM.get 0 rfl) t3 h4) ?_; intro a w v hF hf hR
  subst hR; have hM := hM.grow hf
  refine s_val hF rfl rfl rfl (e_move hF rfl) ?_; intro a hF
  refine s_nil ?_
  refine then_n ?_
  refine wp_block ?_
  have hM := hM.nilRow cd3
  obtain ⟨o50, h51, H⟩ := bind_some H
  refine wp_mono (Q := fun e a w => (e = Exit.exit 0 ∧ ∃ v36 : Value, ∃ x37 : (List Int), x37 = o50 ∧ Fr 81 a [(2, Value.int .i64 a2), (7, pt b2 0), (8, v36)] ∧ Ms X w0 w [boxR b2 [Pt.any u0, Pt.any (Value.slice none 0 0)] 80, nestR cd3 33 (Value.slice none 0 0) ([] : List Value) ([] : List (List Int)), rowR cd3 v36 x37])) ?_ ?_
  · refine s_loop (fun kq a w => ∃ v39 : Value, ∃ x38 : Int, ∃ x40 : (List Int), impl_againOf.l0 K l0 a1 t3 kq x38 x40 = some o50 ∧ Fr 81 a [(0, u0), (2, Value.int .i64 a2), (4, pt b1 0), (7, pt b2 0), (8, v39), (19, Value.int .i64 t3), (20, Value.int .i64 x38)] ∧ Ms X w0 w [boxR b1 [Pt.int a1.1, Pt.int a1.2] 25, boxR b2 [Pt.any u0, Pt.any (Value.slice none 0 0)] 80, nestR cd3 33 (Value.slice none 0 0) ([] : List Value) ([] : List (List Int)), rowR cd3 v39 x40]) K ⟨(Value.slice none 0 0), 0, ([] : List Int), h51, hF.sub _ ⟨rfl, rfl, rfl, rfl, rfl, rfl, rfl, trivial⟩, hM.pick [3, 1, 2, 0] rfl rfl⟩ ?_ ?_
    · rintro a w ⟨_, _, _, H, _⟩; exact none_some H
    · rintro k a w ⟨v39, x38, x40, H, hF, hM⟩; rw [impl_againOf.l0] at H
      refine wp_seq ?_
      refine s_region ?_
      refine s_val hF rfl rfl rfl (e_lss hF rfl rfl) ?_; intro a hF
      refine s_nil ?_
      refine then_n ?_
      refine wp_seq ?_
      rcases ite_cases H with ⟨c41, H⟩ | ⟨c41, H⟩
      ·
        refine s_cond_t hF rfl (decide_eq_true c41) ?_
        refine wp_skip ?_
        refine then_n ?_
        refine wp_seq ?_
        refine wp_block ?_
        refine wp_seq ?_
        refine s_region ?_
        refine s_val hF rfl rfl rfl (e_move hF rfl) ?_; intro a hF
        refine s_val hF rfl rfl rfl (e_assign hF rfl) ?_; intro a hF
        refine s_nil ?_
        refine then_n ?_
        obtain ⟨t42, h43, H⟩ := bind_some H
        obtain ⟨t45, h46, H⟩ := bind_some H
        obtain ⟨c49, H⟩ := ite_some H
        refine s_held (fun w => Ms X w0 w [boxR b1 [Pt.int a1.1, Pt.int a1.2] 25, boxR b2 [Pt.any u0, Pt.any (Value.slice none 0 0)] 80, nestR cd3 33 (Value.slice none 0 0) ([] : List Value) ([] : List (List Int))]) #[false, false, false, false, false, false, false, false, false] mixed rfl rfl hM ?_; intro w hf hM; clear hf
        refine h_val 0 #[true, false, false, false, false, false, false, false, false] rfl (by kernel_rfl) hF rfl rfl rfl (fun w hS => e_move hF rfl) (hM.pick [0, 1, 2] rfl rfl) ?_; intro a hF
        refine h_val 1 #[true, true, false, false, false, false, false, false, false] rfl (by kernel_rfl) hF rfl rfl rfl (fun w hS => e_lda (i := 0) 0 2 hF hS rfl rfl rfl rfl Try.isAgg25 Try.sizeOf25 rfl) (hM.pick [0, 1, 2] rfl rfl) ?_; intro a hF
        refine h_val 2 #[true, true, true, false, false, false, false, false, false] rfl (by kernel_rfl) hF rfl rfl rfl (fun w hS => e_move hF rfl) (hM.pick [0, 1, 2] rfl rfl) ?_; intro a hF
        refine h_val 3 #[true, true, true, true, false, false, false, false, false] rfl (by kernel_rfl) hF rfl rfl rfl (fun w hS => e_move hF rfl) (hM.pick [0, 1, 2] rfl rfl) ?_; intro a hF
        refine h_one 4 #[true, true, true, true, true, false, false, false, false] rfl (by kernel_rfl) ?_
        refine s_call hF rfl rfl rfl Try.call76 (impl_rollAt.calls K l0 u0 (q0.frmX hM.frm d0) x38 t42 h43) ?_; intro a w v44 hF hf hR
        have hM := hM.fresh hf hR
        refine s_nil ⟨rfl, (hM.pick [1, 2, 3] rfl rfl), ?_⟩
        refine h_one 5 #[true, true, true, true, true, true, false, false, false] rfl (by kernel_rfl) ?_
        refine s_call hF rfl rfl rfl Try.call64 (impl_Goal_score.calls K a1 t42 v44 (hM.sl 0 rfl) t45 h46) ?_; intro a w v hF hf hR
        subst hR; have hM := hM.grow hf
        refine s_nil ⟨rfl, (hM.pick [1, 2, 3] rfl rfl), ?_⟩
        refine h_one 6 #[true, true, true, true, true, true, true, false, false] rfl (by kernel_rfl) ?_
        refine s_bsl (C := cd3) [t45] cdok3 hF hM rfl rfl rfl rfl Try.underlying33 rfl ?_; intro a w v47 hF hM
        refine s_nil ⟨rfl, (hM.pick [2, 3, 4] rfl rfl), ?_⟩
        refine h_one 7 #[true, true, true, true, true, true, true, true, false] rfl (by kernel_rfl) ?_
        refine s_append (i := 5) cdok3 hF hM rfl rfl rfl rfl rfl (hM.sl 0 rfl) Try.underlying33 c49 ?_; intro a w v48 hF hM
        refine s_nil ⟨rfl, (hM.pick [2, 3, 4] rfl rfl), ?_⟩
        refine h_val 8 #[true, true, true, true, true, true, true, true, true] rfl (by kernel_rfl) hF rfl rfl rfl (fun w hS => e_assign hF rfl) (hM.pick [2, 3, 4] rfl rfl) ?_; intro a hF
        refine h_done rfl ?_
        refine blk_n ?_
        refine then_n ?_
        refine s_region ?_
        refine s_val hF rfl rfl rfl (e_add hF rfl rfl) ?_; intro a hF
        refine s_val hF rfl rfl rfl (e_move hF rfl) ?_; intro a hF
        refine s_nil ?_
        refine then_n ?_
        exact ⟨v48, (wrap64 (x38 + 1)), (x40 ++ [t45]), H, hF.sub _ ⟨rfl, rfl, rfl, rfl, rfl, rfl, rfl, trivial⟩, hM.pick [2, 3, 4, 5] rfl rfl⟩
      ·
        refine s_cond_f hF rfl (decide_eq_false c41) ?_
        refine wp_exit ?_
        refine then_x ?_
        refine then_x ?_
        exact ⟨rfl, v39, x40, some_some H, hF.sub _ ⟨rfl, rfl, rfl, trivial⟩, hM.pick [1, 2, 3] rfl rfl⟩
  · rintro e a w ⟨rfl, v36, x37, rfl, hF, hM⟩
    skip
    refine blk_x ?_
    refine then_n ?_
    refine wp_seq ?_
    obtain ⟨c54, H⟩ := ite_some H
    refine s_region ?_
    refine s_val hF rfl rfl rfl (e_move hF rfl) ?_; intro a hF
    refine s_val hF rfl rfl rfl (e_move hF rfl) ?_; intro a hF
    refine s_val hF rfl rfl rfl (e_nilc hF rfl) ?_; intro a hF
    refine s_val hF rfl rfl rfl (e_fa hF rfl Try.underlying80 rfl Try.sizeOf78 rfl rfl) ?_; intro a hF
    refine s_val hF rfl rfl rfl (e_ld (i := 0) (k := 1) hF hM rfl rfl rfl rfl Try.isAgg78 (any_cs (hM.ne 1 rfl).toF.one)) ?_; intro a hF
    refine s_val hF rfl rfl rfl (e_move hF rfl) ?_; intro a hF
    refine s_bnest (i := 2) cdokV33 hF hM rfl rfl rfl rfl Try.underlying78 ?_; intro a w v52 hF hM
    refine s_nappend cdokV33 hF 1 2 [0] hM rfl rfl rfl rfl rfl rfl rfl rfl Try.underlying78 c54 ?_; intro a w v53 hF hM
    refine s_val hF rfl rfl rfl (e_nilc hF rfl) ?_; intro a hF
    refine s_val hF rfl rfl rfl (e_fa hF rfl Try.underlying80 rfl Try.sizeOf78 rfl rfl) ?_; intro a hF
    refine s_st (i := 1) (k := 1) (Pt.any v53) hF hM rfl rfl rfl (any_cells (hM.ne 0 rfl).toF.one) rfl rfl rfl rfl Try.sizeOf78 rfl ?_; intro a w hF hM
    refine s_nil ?_
    refine then_n ?_
    refine wp_seq ?_
    refine wp_seq ?_
    refine s_region ?_
    refine s_val hF rfl rfl rfl (e_assign hF rfl) ?_; intro a hF
    refine s_nil ?_
    refine then_n ?_
    refine wp_block ?_
    obtain ⟨o381, h382, H⟩ := bind_some H
    refine wp_mono (Q := fun e a w => (e = Exit.exit 2 ∧ ∃ v269 : Value, ∃ z271 : (List Value), ∃ x270 : (List (List Int)), x270 = o381 ∧ Fr 81 a [(7, pt b2 0)] ∧ Ms X w0 w [boxR b2 [Pt.any u0, Pt.any v269] 80, nestR cd3 33 v269 z271 x270])) ?_ ?_
    · refine s_loop (fun kq a w => ∃ v273 : Value, ∃ z275 : (List Value), ∃ x272 : Int, ∃ x274 : (List (List Int)), impl_againOf.l11 K l0 a2 kq x272 x274 = some o381 ∧ Fr 81 a [(2, Value.int .i64 a2), (7, pt b2 0), (10, Value.int .i64 x272)] ∧ Ms X w0 w [boxR b2 [Pt.any u0, Pt.any v273] 80, nestR cd3 33 v273 z275 x274]) K ⟨v53, (([] : List Value) ++ [v36]), 1, (([] : List (List Int)) ++ [x37]), h382, hF.sub _ ⟨rfl, rfl, rfl, trivial⟩, hM.pick [1, 0] rfl rfl⟩ ?_ ?_
      · rintro a w ⟨_, _, _, _, H, _⟩; exact none_some H
      · rintro k a w ⟨v273, z275, x272, x274, H, hF, hM⟩; rw [impl_againOf.l11] at H
        refine wp_seq ?_
        refine wp_seq ?_
        refine s_region ?_
        refine s_val hF rfl rfl rfl (e_move hF rfl) ?_; intro a hF
        refine s_val hF rfl rfl rfl (e_move hF rfl) ?_; intro a hF
        refine s_val hF rfl rfl rfl (e_leq hF rfl rfl) ?_; intro a hF
        refine s_nil ?_
        refine then_n ?_
        rcases ite_cases H with ⟨c276, H⟩ | ⟨c276, H⟩
        ·
          refine s_cond_t hF rfl (decide_eq_true c276) ?_
          refine wp_skip ?_
          refine then_n ?_
          refine wp_seq ?_
          refine wp_block ?_
          refine wp_seq ?_
          refine s_region ?_
          refine s_val hF rfl rfl rfl (e_assign hF rfl) ?_; intro a hF
          refine s_nil ?_
          refine then_n ?_
          refine wp_seq ?_
          refine wp_seq ?_
          obtain ⟨t277, h278, H⟩ := bind_some H
          refine s_region ?_
          refine s_val hF rfl rfl rfl (e_move hF rfl) ?_; intro a hF
          refine s_call hF rfl rfl rfl Try.call89 (impl_again_outcomes__c.calls K u0 l0 (q0.frmX hM.frm d0) v273 x274 z275 (hM.ne 1 rfl) b2 (hM.get 0 rfl) t277 h278) ?_; intro a w v hF hf hR
          subst hR; have hM := hM.grow hf
          refine s_val hF rfl rfl rfl (e_move hF rfl) ?_; intro a hF
          refine s_nil ?_
          refine then_n ?_
          refine wp_block ?_
          have hM := hM.nilRow cd3
          obtain ⟨o376, h377, H⟩ := bind_some H
          refine wp_mono (Q := fun e a w => (e = Exit.exit 4 ∧ ∃ v349 : Value, ∃ x350 : (List Int), x350 = o376 ∧ Fr 81 a [(2, Value.int .i64 a2), (7, pt b2 0), (10, Value.int .i64 x272), (11, v349)] ∧ Ms X w0 w [boxR b2 [Pt.any u0, Pt.any v273] 80, nestR cd3 33 v273 z275 x274, rowR cd3 v349 x350])) ?_ ?_
          · refine s_loop (fun kq a w => ∃ v352 : Value, ∃ x351 : Int, ∃ x353 : (List Int), impl_againOf.l15 K l0 x272 x274 t277 kq x351 x353 = some o376 ∧ Fr 81 a [(2, Value.int .i64 a2), (7, pt b2 0), (10, Value.int .i64 x272), (11, v352), (48, Value.int .i64 t277), (49, Value.int .i64 x351)] ∧ Ms X w0 w [boxR b2 [Pt.any u0, Pt.any v273] 80, nestR cd3 33 v273 z275 x274, rowR cd3 v352 x353]) K ⟨(Value.slice none 0 0), 0, ([] : List Int), h377, hF.sub _ ⟨rfl, rfl, rfl, rfl, rfl, rfl, trivial⟩, hM.pick [1, 2, 0] rfl rfl⟩ ?_ ?_
            · rintro a w ⟨_, _, _, H, _⟩; exact none_some H
            · rintro k a w ⟨v352, x351, x353, H, hF, hM⟩; rw [impl_againOf.l15] at H
              refine wp_seq ?_
              refine s_region ?_
              refine s_val hF rfl rfl rfl (e_lss hF rfl rfl) ?_; intro a hF
              refine s_nil ?_
              refine then_n ?_
              refine wp_seq ?_
              rcases ite_cases H with ⟨c354, H⟩ | ⟨c354, H⟩
              ·
                refine s_cond_t hF rfl (decide_eq_true c354) ?_
                refine wp_skip ?_
                refine then_n ?_
                refine wp_seq ?_
                refine wp_block ?_
                refine wp_seq ?_
                refine s_region ?_
                refine s_val hF rfl rfl rfl (e_move hF rfl) ?_; intro a hF
                refine s_val hF rfl rfl rfl (e_assign hF rfl) ?_; intro a hF
                refine s_nil ?_
                refine then_n ?_
                refine wp_seq ?_
                refine s_region ?_
                refine s_val hF rfl rfl rfl (e_assign hF rfl) ?_; intro a hF
                refine s_nil ?_
                refine then_n ?_
                refine wp_seq ?_
                refine wp_seq ?_
                obtain ⟨t355, h356, H⟩ := bind_some H
                refine s_region ?_
                refine s_val hF rfl rfl rfl (e_move hF rfl) ?_; intro a hF
                refine s_call hF rfl rfl rfl Try.call74 (impl_again_sets__c.calls K u0 l0 (q0.frmX hM.frm d0) v273 x274 z275 (hM.ne 1 rfl) b2 (hM.get 0 rfl) t355 h356) ?_; intro a w v hF hf hR
                subst hR; have hM := hM.grow hf
                refine s_val hF rfl rfl rfl (e_move hF rfl) ?_; intro a hF
                refine s_nil ?_
                refine then_n ?_
                refine wp_block ?_
                obtain ⟨o371, h372, H⟩ := bind_some H
                refine wp_mono (Q := fun e a w => (e = Exit.exit 6 ∧ ∃ x365 : Int, x365 = o371 ∧ Fr 81 a [(2, Value.int .i64 a2), (7, pt b2 0), (10, Value.int .i64 x272), (11, v352), (13, Value.int .i64 x365), (48, Value.int .i64 t277), (49, Value.int .i64 x351)] ∧ Ms X w0 w [boxR b2 [Pt.any u0, Pt.any v273] 80, nestR cd3 33 v273 z275 x274, rowR cd3 v352 x353])) ?_ ?_
                · refine s_loop (fun kq a w => ∃ x366 : Int, ∃ x367 : Int, impl_againOf.l16 K l0 x272 x274 x351 t355 kq x366 x367 = some o371 ∧ Fr 81 a [(2, Value.int .i64 a2), (7, pt b2 0), (10, Value.int .i64 x272), (11, v352), (12, Value.int .i64 x351), (13, Value.int .i64 x366), (48, Value.int .i64 t277), (49, Value.int .i64 x351), (53, Value.int .i64 t355), (54, Value.int .i64 x367)] ∧ Ms X w0 w [boxR b2 [Pt.any u0, Pt.any v273] 80, nestR cd3 33 v273 z275 x274, rowR cd3 v352 x353]) K ⟨0, 0, h372, hF.sub _ ⟨rfl, rfl, rfl, rfl, rfl, rfl, rfl, rfl, rfl, rfl, trivial⟩, hM.pick [0, 1, 2] rfl rfl⟩ ?_ ?_
                  · rintro a w ⟨_, _, H, _⟩; exact none_some H
                  · rintro k a w ⟨x366, x367, H, hF, hM⟩; rw [impl_againOf.l16] at H
                    refine wp_seq ?_
                    refine s_region ?_
                    refine s_val hF rfl rfl rfl (e_lss hF rfl rfl) ?_; intro a hF
                    refine s_nil ?_
                    refine then_n ?_
                    refine wp_seq ?_
                    rcases ite_cases H with ⟨c368, H⟩ | ⟨c368, H⟩
                    ·
                      refine s_cond_t hF rfl (decide_eq_true c368) ?_
                      refine wp_skip ?_
                      refine then_n ?_
                      refine wp_seq ?_
                      refine wp_block ?_
                      refine wp_seq ?_
                      refine s_region ?_
                      refine s_val hF rfl rfl rfl (e_move hF rfl) ?_; intro a hF
                      refine s_val hF rfl rfl rfl (e_assign hF rfl) ?_; intro a hF
                      refine s_nil ?_
                      refine then_n ?_
                      obtain ⟨t369, h370, H⟩ := bind_some H
                      refine s_region ?_
                      refine s_val hF rfl rfl rfl (e_move hF rfl) ?_; intro a hF
                      refine s_val hF rfl rfl rfl (e_move hF rfl) ?_; intro a hF
                      refine s_val hF rfl rfl rfl (e_move hF rfl) ?_; intro a hF
                      refine s_val hF rfl rfl rfl (e_move hF rfl) ?_; intro a hF
                      refine s_val hF rfl rfl rfl (e_move hF rfl) ?_; intro a hF
                      refine s_call hF rfl rfl rfl Try.call86 (impl_again_setValue__c.calls K u0 l0 (q0.frmX hM.frm d0) v273 x274 z275 (hM.ne 1 rfl) b2 (hM.get 0 rfl) x351 x367 x272 t369 h370) ?_; intro a w v hF hf hR
                      subst hR; have hM := hM.grow hf
                      refine s_val hF rfl rfl rfl (e_max hF rfl rfl) ?_; intro a hF
                      refine s_val hF rfl rfl rfl (e_assign hF rfl) ?_; intro a hF
                      refine s_nil ?_
                      refine blk_n ?_
                      refine then_n ?_
                      refine s_region ?_
                      refine s_val hF rfl rfl rfl (e_add hF rfl rfl) ?_; intro a hF
                      refine s_val hF rfl rfl rfl (e_move hF rfl) ?_; intro a hF
                      refine s_nil ?_
                      refine then_n ?_
                      exact ⟨(if t369 > x366 then t369 else x366), (wrap64 (x367 + 1)), H, hF.sub _ ⟨rfl, rfl, rfl, rfl, rfl, rfl, rfl, rfl, rfl, rfl, trivial⟩, hM.pick [0, 1, 2] rfl rfl⟩
                    ·
                      refine s_cond_f hF rfl (decide_eq_false c368) ?_
                      refine wp_exit ?_
                      refine then_x ?_
                      refine then_x ?_
                      exact ⟨rfl, x366, some_some H, hF.sub _ ⟨rfl, rfl, rfl, rfl, rfl, rfl, rfl, trivial⟩, hM.pick [0, 1, 2] rfl rfl⟩
                · rintro e a w ⟨rfl, x365, rfl, hF, hM⟩
                  skip
                  refine blk_x ?_
                  refine then_n ?_
                  obtain ⟨c375, H⟩ := ite_some H
                  refine s_region ?_
                  refine s_val hF rfl rfl rfl (e_move hF rfl) ?_; intro a hF
                  refine s_val hF rfl rfl rfl (e_move hF rfl) ?_; intro a hF
                  refine s_bsl (C := cd3) [x365] cdok3 hF hM rfl rfl rfl rfl Try.underlying33 rfl ?_; intro a w v373 hF hM
                  refine s_append (i := 3) cdok3 hF hM rfl rfl rfl rfl rfl (hM.sl 0 rfl) Try.underlying33 c375 ?_; intro a w v374 hF hM
                  refine s_val hF rfl rfl rfl (e_assign hF rfl) ?_; intro a hF
                  refine s_nil ?_
                  refine blk_n ?_
                  refine then_n ?_
                  refine s_region ?_
                  refine s_val hF rfl rfl rfl (e_add hF rfl rfl) ?_; intro a hF
                  refine s_val hF rfl rfl rfl (e_move hF rfl) ?_; intro a hF
                  refine s_nil ?_
                  refine then_n ?_
                  exact ⟨v374, (wrap64 (x351 + 1)), (x353 ++ [x365]), H, hF.sub _ ⟨rfl, rfl, rfl, rfl, rfl, rfl, trivial⟩, hM.pick [1, 2, 3] rfl rfl⟩
              ·
                refine s_cond_f hF rfl (decide_eq_false c354) ?_
                refine wp_exit ?_
                refine then_x ?_
                refine then_x ?_
                exact ⟨rfl, v352, x353, some_some H, hF.sub _ ⟨rfl, rfl, rfl, rfl, trivial⟩, hM.pick [0, 1, 2] rfl rfl⟩
          · rintro e a w ⟨rfl, v349, x350, rfl, hF, hM⟩
            skip
            refine blk_x ?_
            refine then_n ?_
            obtain ⟨c380, H⟩ := ite_some H
            refine s_region ?_
            refine s_val hF rfl rfl rfl (e_move hF rfl) ?_; intro a hF
            refine s_val hF rfl rfl rfl (e_move hF rfl) ?_; intro a hF
            refine s_val hF rfl rfl rfl (e_nilc hF rfl) ?_; intro a hF
            refine s_val hF rfl rfl rfl (e_fa hF rfl Try.underlying80 rfl Try.sizeOf78 rfl rfl) ?_; intro a hF
            refine s_val hF rfl rfl rfl (e_ld (i := 0) (k := 1) hF hM rfl rfl rfl rfl Try.isAgg78 (any_cs (hM.ne 1 rfl).toF.one)) ?_; intro a hF
            refine s_val hF rfl rfl rfl (e_move hF rfl) ?_; intro a hF
            refine s_bnest (i := 2) cdokV33 hF hM rfl rfl rfl rfl Try.underlying78 ?_; intro a w v378 hF hM
            refine s_nappend cdokV33 hF 1 2 [0] hM rfl rfl rfl rfl rfl rfl rfl rfl Try.underlying78 c380 ?_; intro a w v379 hF hM
            refine s_val hF rfl rfl rfl (e_nilc hF rfl) ?_; intro a hF
            refine s_val hF rfl rfl rfl (e_fa hF rfl Try.underlying80 rfl Try.sizeOf78 rfl rfl) ?_; intro a hF
            refine s_st (i := 1) (k := 1) (Pt.any v379) hF hM rfl rfl rfl (any_cells (hM.ne 0 rfl).toF.one) rfl rfl rfl rfl Try.sizeOf78 rfl ?_; intro a w hF hM
            refine s_nil ?_
            refine blk_n ?_
            refine then_n ?_
            refine s_region ?_
            refine s_val hF rfl rfl rfl (e_move hF rfl) ?_; intro a hF
            refine s_val hF rfl rfl rfl (e_add hF rfl rfl) ?_; intro a hF
            refine s_val hF rfl rfl rfl (e_assign hF rfl) ?_; intro a hF
            refine s_nil ?_
            refine then_n ?_
            exact ⟨v379, (z275 ++ [v349]), (wrap64 (x272 + 1)), (x274 ++ [x350]), H, hF.sub _ ⟨rfl, rfl, rfl, trivial⟩, hM.pick [1, 0] rfl rfl⟩
        ·
          refine s_cond_f hF rfl (decide_eq_false c276) ?_
          refine wp_exit ?_
          refine then_x ?_
          refine then_x ?_
          exact ⟨rfl, v273, z275, x274, some_some H, hF.sub _ ⟨rfl, trivial⟩, hM.pick [0, 1] rfl rfl⟩
    · rintro e a w ⟨rfl, v269, z271, x270, rfl, hF, hM⟩
      skip
      refine blk_x ?_
      refine then_n ?_
      refine wp_seq ?_
      refine s_region ?_
      refine s_val hF rfl rfl rfl (e_move hF rfl) ?_; intro a hF
      refine s_val hF rfl rfl rfl (e_assign hF rfl) ?_; intro a hF
      refine s_nil ?_
      refine then_n ?_
      refine wp_ret ?_
      obtain rfl := some_some H
      refine s_ret [pt b2 0] hF Try.results84 ⟨rfl, trivial⟩ ?_
      exact ⟨_, rfl, b2, v269, z271, hM.pick [0, 1] rfl rfl, rfl⟩

/-! ### (*loop.example/g01210/impl.again).bestSets: function 91 -/
def impl_again_bestSets__c.l0 (K : Nat) (y4 : (List (Ar 6))) (y7 : (List (List Int))) (a1 : Int) (a2 : Int) (t10 : Int) : Nat → Int → (List Int) → Option (List Int)
  | 0, _, _ => none
  | k + 1, x45, x47 => if x45 < t10 then ((impl_again_setValue__c.f K y4 y7 a1 x45 a2).bind fun t49 => if (0 : Int) ≤ a2 ∧ a2 < (y7.length : Int) then (if (0 : Int) ≤ a1 ∧ a1 < ((y7.getD (a2 : Int).toNat []).length : Int) then (if t49 = ((y7.getD (a2 : Int).toNat []).getD (a1 : Int).toNat (0 : Int)) then (if x47.length + [x45].length ≤ 1073741824 then (impl_again_bestSets__c.l0 K y4 y7 a1 a2 t10 k (wrap64 (x45 + 1)) (x47 ++ [x45])) else none) else (impl_again_bestSets__c.l0 K y4 y7 a1 a2 t10 k (wrap64 (x45 + 1)) x47)) else none) else none) else (some x47)
def impl_again_bestSets__c.f (K : Nat) (y4 : (List (Ar 6))) (y7 : (List (List Int))) (a1 : Int) (a2 : Int) : Option (List Int) := (impl_again_sets__c.f K y4 y7).bind fun t10 => (impl_again_bestSets__c.l0 K y4 y7 a1 a2 t10 K 0 ([] : List Int)).bind fun x44 => some x44
set_option maxRecDepth 100000 in
set_option maxHeartbeats 4000000 in
theorem impl_again_bestSets__c.calls {w0 : World} (K : Nat) (v3 : Value) (y4 : (List (Ar 6))) (q5 : SlR cd28 w0 v3 y4) (v6 : Value) (y7 : (List (List Int))) (z8 : List Value) (q9 : NeR cd3 33 w0 v6 z8 y7) (b1 : Nat) (q2 : (boxR b1 [Pt.any v3, Pt.any v6] 80).holds w0) (a1 : Int) (a2 : Int) (r : (List Int)) (H : impl_again_bestSets__c.f K y4 y7 a1 a2 = some r) : Calls Try.prog 91 [pt b1 0, Value.int .i64 a1, Value.int .i64 a2].toArray w0 (Post w0 fun w v => Fresh cd3 w0.heap.size w v r) := by
  rw [impl_again_bestSets__c.f] at H
  refine s_start Try.func91 rfl Try.ntmps91 rfl ?_
  intro a hF
  have hM := Ms.start w0
  skip
  refine wp_seq ?_
  refine s_region ?_
  refine s_val hF rfl rfl rfl (e_assign hF rfl) ?_; intro a hF
  refine s_nil ?_
  refine then_n ?_
  refine wp_seq ?_
  refine s_region ?_
  refine s_val hF rfl rfl rfl (e_assign hF rfl) ?_; intro a hF
  refine s_nil ?_
  refine then_n ?_
  refine wp_seq ?_
  refine wp_seq ?_
  obtain ⟨t10, h11, H⟩ := bind_some H
  refine s_region ?_
  refine s_val hF rfl rfl rfl (e_move hF rfl) ?_; intro a hF
  refine s_call hF rfl rfl rfl Try.call74 (impl_again_sets__c.calls K v3 y4 (q5.frm hM.frm) v6 y7 z8 (q9.frm hM.frm) b1 (box_frm q2 hM.frm) t10 h11) ?_; intro a w v hF hf hR
  subst hR; have hM := hM.grow hf
  refine s_val hF rfl rfl rfl (e_move hF rfl) ?_; intro a hF
  refine s_nil ?_
  refine then_n ?_
  refine wp_block ?_
  have hM := hM.nilRow cd3
  obtain ⟨o60, h61, H⟩ := bind_some H
  refine wp_mono (Q := fun e a w => (e = Exit.exit 0 ∧ ∃ v43 : Value, ∃ x44 : (List Int), x44 = o60 ∧ Fr 36 a [(7, v43)] ∧ Ms [] w0 w [rowR cd3 v43 x44])) ?_ ?_
  · refine s_loop (fun kq a w => ∃ v46 : Value, ∃ x45 : Int, ∃ x47 : (List Int), impl_again_bestSets__c.l0 K y4 y7 a1 a2 t10 kq x45 x47 = some o60 ∧ Fr 36 a [(0, pt b1 0), (1, Value.int .i64 a1), (2, Value.int .i64 a2), (7, v46), (10, Value.int .i64 t10), (11, Value.int .i64 x45)] ∧ Ms [] w0 w [rowR cd3 v46 x47]) K ⟨(Value.slice none 0 0), 0, ([] : List Int), h61, hF.sub _ ⟨rfl, rfl, rfl, rfl, rfl, rfl, trivial⟩, hM.pick [0] rfl rfl⟩ ?_ ?_
    · rintro a w ⟨_, _, _, H, _⟩; exact none_some H
    · rintro k a w ⟨v46, x45, x47, H, hF, hM⟩; rw [impl_again_bestSets__c.l0] at H
      refine wp_seq ?_
      refine s_region ?_
      refine s_val hF rfl rfl rfl (e_lss hF rfl rfl) ?_; intro a hF
      refine s_nil ?_
      refine then_n ?_
      refine wp_seq ?_
      rcases ite_cases H with ⟨c48, H⟩ | ⟨c48, H⟩
      ·
        refine s_cond_t hF rfl (decide_eq_true c48) ?_
        refine wp_skip ?_
        refine then_n ?_
        refine wp_seq ?_
        refine wp_block ?_
        refine wp_seq ?_
        refine s_region ?_
        refine s_val hF rfl rfl rfl (e_move hF rfl) ?_; intro a hF
        refine s_val hF rfl rfl rfl (e_assign hF rfl) ?_; intro a hF
        refine s_nil ?_
        refine then_n ?_
        refine wp_seq ?_
        obtain ⟨t49, h50, H⟩ := bind_some H
        obtain ⟨c51, H⟩ := ite_some H
        obtain ⟨c52, H⟩ := ite_some H
        refine s_held (fun w => Ms [] w0 w [rowR cd3 v46 x47]) #[false, false, false, false, false, false, false, false, false, false, false, false, false, false, false, false] mixed rfl rfl hM ?_; intro w hf hM; clear hf
        refine h_val 0 #[true, false, false, false, false, false, false, false, false, false, false, false, false, false, false, false] rfl (by kernel_rfl) hF rfl rfl rfl (fun w hS => e_move hF rfl) (hM.pick [0] rfl rfl) ?_; intro a hF
        refine h_val 1 #[true, true, false, false, false, false, false, false, false, false, false, false, false, false, false, false] rfl (by kernel_rfl) hF rfl rfl rfl (fun w hS => e_move hF rfl) (hM.pick [0] rfl rfl) ?_; intro a hF
        refine h_val 2 #[true, true, true, false, false, false, false, false, false, false, false, false, false, false, false, false] rfl (by kernel_rfl) hF rfl rfl rfl (fun w hS => e_move hF rfl) (hM.pick [0] rfl rfl) ?_; intro a hF
        refine h_val 3 #[true, true, true, true, false, false, false, false, false, false, false, false, false, false, false, false] rfl (by kernel_rfl) hF rfl rfl rfl (fun w hS => e_move hF rfl) (hM.pick [0] rfl rfl) ?_; intro a hF
        refine h_val 5 #[true, true, true, true, false, true, false, false, false, false, false, false, false, false, false, false] rfl (by kernel_rfl) hF rfl rfl rfl (fun w hS => e_move hF rfl) (hM.pick [0] rfl rfl) ?_; intro a hF
        refine h_val 6 #[true, true, true, true, false, true, true, false, false, false, false, false, false, false, false, false] rfl (by kernel_rfl) hF rfl rfl rfl (fun w hS => e_nilc hF rfl) (hM.pick [0] rfl rfl) ?_; intro a hF
        refine h_val 7 #[true, true, true, true, false, true, true, true, false, false, false, false, false, false, false, false] rfl (by kernel_rfl) hF rfl rfl rfl (fun w hS => e_fa hF rfl Try.underlying80 rfl Try.sizeOf78 rfl rfl) (hM.pick [0] rfl rfl) ?_; intro a hF
        have f53 := (q9.frm hM.frm).toF
        refine h_val 8 #[true, true, true, true, false, true, true, true, true, false, false, false, false, false, false, false] rfl (by kernel_rfl) hF rfl rfl rfl (fun w hS => e_ld (i := 0) (k := 1) hF (lent_ms (box_frm q2 hS.frm)) rfl rfl rfl rfl Try.isAgg78 (any_cs f53.one)) (hM.pick [0] rfl rfl) ?_; intro a hF
        refine h_val 9 #[true, true, true, true, false, true, true, true, true, true, false, false, false, false, false, false] rfl (by kernel_rfl) hF rfl rfl rfl (fun w hS => e_move hF rfl) (hM.pick [0] rfl rfl) ?_; intro a hF
        have f54 := (q9.frm hM.frm).toF
        refine h_val 10 #[true, true, true, true, false, true, true, true, true, true, true, false, false, false, false, false] rfl (by kernel_rfl) hF rfl rfl rfl (fun w hS => e_ias (cdV 33) hF rfl rfl f54 Try.underlying78 Try.sizeOf33 c51.1 c51.2) (hM.pick [0] rfl rfl) ?_; intro a hF
        refine h_val 11 #[true, true, true, true, false, true, true, true, true, true, true, true, false, false, false, false] rfl (by kernel_rfl) hF rfl rfl rfl (fun w hS => e_lds (C := cdV 33) (m := a2) hF rfl (q9.frm hS.frm).out ((q9.frm hS.frm).at c51) rfl (any_cs ((q9.frm hS.frm).get c51).toF.one) Try.isAgg33) (hM.pick [0] rfl rfl) ?_; intro a hF
        refine h_val 12 #[true, true, true, true, false, true, true, true, true, true, true, true, true, false, false, false] rfl (by kernel_rfl) hF rfl rfl rfl (fun w hS => e_move hF rfl) (hM.pick [0] rfl rfl) ?_; intro a hF
        have f55 := ((q9.frm hM.frm).get c51).toF
        refine h_val 13 #[true, true, true, true, false, true, true, true, true, true, true, true, true, true, false, false] rfl (by kernel_rfl) hF rfl rfl rfl (fun w hS => e_ias cd3 hF rfl rfl f55 Try.underlying33 Try.sizeOf3 c52.1 c52.2) (hM.pick [0] rfl rfl) ?_; intro a hF
        refine h_val 14 #[true, true, true, true, false, true, true, true, true, true, true, true, true, true, true, false] rfl (by kernel_rfl) hF rfl rfl rfl (fun w hS => e_lds (m := a1) hF rfl ((q9.frm hS.frm).get c51) (getD_some (z := (0 : Int)) c52.1 c52.2) rfl rfl Try.isAgg3) (hM.pick [0] rfl rfl) ?_; intro a hF
        refine h_one 4 #[true, true, true, true, true, true, true, true, true, true, true, true, true, true, true, false] rfl (by kernel_rfl) ?_
        refine s_call hF rfl rfl rfl Try.call86 (impl_again_setValue__c.calls K v3 y4 (q5.frm hM.frm) v6 y7 z8 (q9.frm hM.frm) b1 (box_frm q2 hM.frm) a1 x45 a2 t49 h50) ?_; intro a w v hF hf hR
        subst hR; have hM := hM.grow hf
        refine s_nil ⟨rfl, (hM.pick [0] rfl rfl), ?_⟩
        refine h_val 15 #[true, true, true, true, true, true, true, true, true, true, true, true, true, true, true, true] rfl (by kernel_rfl) hF rfl rfl rfl (fun w hS => e_eql hF rfl rfl) (hM.pick [0] rfl rfl) ?_; intro a hF
        refine h_done rfl ?_
        refine then_n ?_
        rcases ite_cases H with ⟨c56, H⟩ | ⟨c56, H⟩
        ·
          refine s_cond_t hF rfl (decide_eq_true c56) ?_
          obtain ⟨c59, H⟩ := ite_some H
          refine s_region ?_
          refine s_val hF rfl rfl rfl (e_move hF rfl) ?_; intro a hF
          refine s_val hF rfl rfl rfl (e_move hF rfl) ?_; intro a hF
          refine s_bsl (C := cd3) [x45] cdok3 hF hM rfl rfl rfl rfl Try.underlying33 rfl ?_; intro a w v57 hF hM
          refine s_append (i := 1) cdok3 hF hM rfl rfl rfl rfl rfl (hM.sl 0 rfl) Try.underlying33 c59 ?_; intro a w v58 hF hM
          refine s_val hF rfl rfl rfl (e_assign hF rfl) ?_; intro a hF
          refine s_nil ?_
          refine blk_n ?_
          refine then_n ?_
          refine s_region ?_
          refine s_val hF rfl rfl rfl (e_add hF rfl rfl) ?_; intro a hF
          refine s_val hF rfl rfl rfl (e_move hF rfl) ?_; intro a hF
          refine s_nil ?_
          refine then_n ?_
          exact ⟨v58, (wrap64 (x45 + 1)), (x47 ++ [x45]), H, hF.sub _ ⟨rfl, rfl, rfl, rfl, rfl, rfl, trivial⟩, hM.pick [1] rfl rfl⟩
        ·
          refine s_cond_f hF rfl (decide_eq_false c56) ?_
          refine wp_skip ?_
          refine blk_n ?_
          refine then_n ?_
          refine s_region ?_
          refine s_val hF rfl rfl rfl (e_add hF rfl rfl) ?_; intro a hF
          refine s_val hF rfl rfl rfl (e_move hF rfl) ?_; intro a hF
          refine s_nil ?_
          refine then_n ?_
          exact ⟨v46, (wrap64 (x45 + 1)), x47, H, hF.sub _ ⟨rfl, rfl, rfl, rfl, rfl, rfl, trivial⟩, hM.pick [0] rfl rfl⟩
      ·
        refine s_cond_f hF rfl (decide_eq_false c48) ?_
        refine wp_exit ?_
        refine then_x ?_
        refine then_x ?_
        exact ⟨rfl, v46, x47, some_some H, hF.sub _ ⟨rfl, trivial⟩, hM.pick [0] rfl rfl⟩
  · rintro e a w ⟨rfl, v43, x44, rfl, hF, hM⟩
    skip
    refine blk_x ?_
    refine then_n ?_
    refine wp_seq ?_
    refine s_region ?_
    refine s_val hF rfl rfl rfl (e_move hF rfl) ?_; intro a hF
    refine s_val hF rfl rfl rfl (e_assign hF rfl) ?_; intro a hF
    refine s_nil ?_
    refine then_n ?_
    refine wp_ret ?_
    obtain rfl := some_some H
    refine s_ret [v43] hF Try.results91 ⟨rfl, trivial⟩ ?_
    exact ⟨_, rfl, hM.frm, hM.give 0 rfl⟩

/-! ### math/bits.OnesCount64: function 108 -/
def bits_OnesCount64.f (K : Nat) (a0 : Int) : Option Int := some (Go.bits .and .i64 (wrap64 (Go.IntKind.u64.wrap ((Go.IntKind.u64.wrap ((Go.IntKind.u64.wrap ((Go.bits .and .u64 (Go.IntKind.u64.wrap (((Go.IntKind.u64.wrap ((Go.bits .and .u64 ((Go.IntKind.u64.wrap ((Go.bits .and .u64 (a0.fdiv (2 ^ (min (1 : Int).toNat 64))) 6148914691236517205) + (Go.bits .and .u64 a0 6148914691236517205))).fdiv (2 ^ (min (2 : Int).toNat 64))) 3689348814741910323) + (Go.bits .and .u64 (Go.IntKind.u64.wrap ((Go.bits .and .u64 (a0.fdiv (2 ^ (min (1 : Int).toNat 64))) 6148914691236517205) + (Go.bits .and .u64 a0 6148914691236517205))) 3689348814741910323))).fdiv (2 ^ (min (4 : Int).toNat 64))) + (Go.IntKind.u64.wrap ((Go.bits .and .u64 ((Go.IntKind.u64.wrap ((Go.bits .and .u64 (a0.fdiv (2 ^ (min (1 : Int).toNat 64))) 6148914691236517205) + (Go.bits .and .u64 a0 6148914691236517205))).fdiv (2 ^ (min (2 : Int).toNat 64))) 3689348814741910323) + (Go.bits .and .u64 (Go.IntKind.u64.wrap ((Go.bits .and .u64 (a0.fdiv (2 ^ (min (1 : Int).toNat 64))) 6148914691236517205) + (Go.bits .and .u64 a0 6148914691236517205))) 3689348814741910323))))) 1085102592571150095) + ((Go.bits .and .u64 (Go.IntKind.u64.wrap (((Go.IntKind.u64.wrap ((Go.bits .and .u64 ((Go.IntKind.u64.wrap ((Go.bits .and .u64 (a0.fdiv (2 ^ (min (1 : Int).toNat 64))) 6148914691236517205) + (Go.bits .and .u64 a0 6148914691236517205))).fdiv (2 ^ (min (2 : Int).toNat 64))) 3689348814741910323) + (Go.bits .and .u64 (Go.IntKind.u64.wrap ((Go.bits .and .u64 (a0.fdiv (2 ^ (min (1 : Int).toNat 64))) 6148914691236517205) + (Go.bits .and .u64 a0 6148914691236517205))) 3689348814741910323))).fdiv (2 ^ (min (4 : Int).toNat 64))) + (Go.IntKind.u64.wrap ((Go.bits .and .u64 ((Go.IntKind.u64.wrap ((Go.bits .and .u64 (a0.fdiv (2 ^ (min (1 : Int).toNat 64))) 6148914691236517205) + (Go.bits .and .u64 a0 6148914691236517205))).fdiv (2 ^ (min (2 : Int).toNat 64))) 3689348814741910323) + (Go.bits .and .u64 (Go.IntKind.u64.wrap ((Go.bits .and .u64 (a0.fdiv (2 ^ (min (1 : Int).toNat 64))) 6148914691236517205) + (Go.bits .and .u64 a0 6148914691236517205))) 3689348814741910323))))) 1085102592571150095).fdiv (2 ^ (min (8 : Int).toNat 64))))) + ((Go.IntKind.u64.wrap ((Go.bits .and .u64 (Go.IntKind.u64.wrap (((Go.IntKind.u64.wrap ((Go.bits .and .u64 ((Go.IntKind.u64.wrap ((Go.bits .and .u64 (a0.fdiv (2 ^ (min (1 : Int).toNat 64))) 6148914691236517205) + (Go.bits .and .u64 a0 6148914691236517205))).fdiv (2 ^ (min (2 : Int).toNat 64))) 3689348814741910323) + (Go.bits .and .u64 (Go.IntKind.u64.wrap ((Go.bits .and .u64 (a0.fdiv (2 ^ (min (1 : Int).toNat 64))) 6148914691236517205) + (Go.bits .and .u64 a0 6148914691236517205))) 3689348814741910323))).fdiv (2 ^ (min (4 : Int).toNat 64))) + (Go.IntKind.u64.wrap ((Go.bits .and .u64 ((Go.IntKind.u64.wrap ((Go.bits .and .u64 (a0.fdiv (2 ^ (min (1 : Int).toNat 64))) 6148914691236517205) + (Go.bits .and .u64 a0 6148914691236517205))).fdiv (2 ^ (min (2 : Int).toNat 64))) 3689348814741910323) + (Go.bits .and .u64 (Go.IntKind.u64.wrap ((Go.bits .and .u64 (a0.fdiv (2 ^ (min (1 : Int).toNat 64))) 6148914691236517205) + (Go.bits .and .u64 a0 6148914691236517205))) 3689348814741910323))))) 1085102592571150095) + ((Go.bits .and .u64 (Go.IntKind.u64.wrap (((Go.IntKind.u64.wrap ((Go.bits .and .u64 ((Go.IntKind.u64.wrap ((Go.bits .and .u64 (a0.fdiv (2 ^ (min (1 : Int).toNat 64))) 6148914691236517205) + (Go.bits .and .u64 a0 6148914691236517205))).fdiv (2 ^ (min (2 : Int).toNat 64))) 3689348814741910323) + (Go.bits .and .u64 (Go.IntKind.u64.wrap ((Go.bits .and .u64 (a0.fdiv (2 ^ (min (1 : Int).toNat 64))) 6148914691236517205) + (Go.bits .and .u64 a0 6148914691236517205))) 3689348814741910323))).fdiv (2 ^ (min (4 : Int).toNat 64))) + (Go.IntKind.u64.wrap ((Go.bits .and .u64 ((Go.IntKind.u64.wrap ((Go.bits .and .u64 (a0.fdiv (2 ^ (min (1 : Int).toNat 64))) 6148914691236517205) + (Go.bits .and .u64 a0 6148914691236517205))).fdiv (2 ^ (min (2 : Int).toNat 64))) 3689348814741910323) + (Go.bits .and .u64 (Go.IntKind.u64.wrap ((Go.bits .and .u64 (a0.fdiv (2 ^ (min (1 : Int).toNat 64))) 6148914691236517205) + (Go.bits .and .u64 a0 6148914691236517205))) 3689348814741910323))))) 1085102592571150095).fdiv (2 ^ (min (8 : Int).toNat 64))))).fdiv (2 ^ (min (16 : Int).toNat 64))))) + ((Go.IntKind.u64.wrap ((Go.IntKind.u64.wrap ((Go.bits .and .u64 (Go.IntKind.u64.wrap (((Go.IntKind.u64.wrap ((Go.bits .and .u64 ((Go.IntKind.u64.wrap ((Go.bits .and .u64 (a0.fdiv (2 ^ (min (1 : Int).toNat 64))) 6148914691236517205) + (Go.bits .and .u64 a0 6148914691236517205))).fdiv (2 ^ (min (2 : Int).toNat 64))) 3689348814741910323) + (Go.bits .and .u64 (Go.IntKind.u64.wrap ((Go.bits .and .u64 (a0.fdiv (2 ^ (min (1 : Int).toNat 64))) 6148914691236517205) + (Go.bits .and .u64 a0 6148914691236517205))) 3689348814741910323))).fdiv (2 ^ (min (4 : Int).toNat 64))) + (Go.IntKind.u64.wrap ((Go.bits .and .u64 ((Go.IntKind.u64.wrap ((Go.bits .and .u64 (a0.fdiv (2 ^ (min (1 : Int).toNat 64))) 6148914691236517205) + (Go.bits .and .u64 a0 6148914691236517205))).fdiv (2 ^ (min (2 : Int).toNat 64))) 3689348814741910323) + (Go.bits .and .u64 (Go.IntKind.u64.wrap ((Go.bits .and .u64 (a0.fdiv (2 ^ (min (1 : Int).toNat 64))) 6148914691236517205) + (Go.bits .and .u64 a0 6148914691236517205))) 3689348814741910323))))) 1085102592571150095) + ((Go.bits .and .u64 (Go.IntKind.u64.wrap (((Go.IntKind.u64.wrap ((Go.bits .and .u64 ((Go.IntKind.u64.wrap ((Go.bits .and .u64 (a0.fdiv (2 ^ (min (1 : Int).toNat 64))) 6148914691236517205) + (Go.bits .and .u64 a0 6148914691236517205))).fdiv (2 ^ (min (2 : Int).toNat 64))) 3689348814741910323) + (Go.bits .and .u64 (Go.IntKind.u64.wrap ((Go.bits .and .u64 (a0.fdiv (2 ^ (min (1 : Int).toNat 64))) 6148914691236517205) + (Go.bits .and .u64 a0 6148914691236517205))) 3689348814741910323))).fdiv (2 ^ (min (4 : Int).toNat 64))) + (Go.IntKind.u64.wrap ((Go.bits .and .u64 ((Go.IntKind.u64.wrap ((Go.bits .and .u64 (a0.fdiv (2 ^ (min (1 : Int).toNat 64))) 6148914691236517205) + (Go.bits .and .u64 a0 6148914691236517205))).fdiv (2 ^ (min (2 : Int).toNat 64))) 3689348814741910323) + (Go.bits .and .u64 (Go.IntKind.u64.wrap ((Go.bits .and .u64 (a0.fdiv (2 ^ (min (1 : Int).toNat 64))) 6148914691236517205) + (Go.bits .and .u64 a0 6148914691236517205))) 3689348814741910323))))) 1085102592571150095).fdiv (2 ^ (min (8 : Int).toNat 64))))) + ((Go.IntKind.u64.wrap ((Go.bits .and .u64 (Go.IntKind.u64.wrap (((Go.IntKind.u64.wrap ((Go.bits .and .u64 ((Go.IntKind.u64.wrap ((Go.bits .and .u64 (a0.fdiv (2 ^ (min (1 : Int).toNat 64))) 6148914691236517205) + (Go.bits .and .u64 a0 6148914691236517205))).fdiv (2 ^ (min (2 : Int).toNat 64))) 3689348814741910323) + (Go.bits .and .u64 (Go.IntKind.u64.wrap ((Go.bits .and .u64 (a0.fdiv (2 ^ (min (1 : Int).toNat 64))) 6148914691236517205) + (Go.bits .and .u64 a0 6148914691236517205))) 3689348814741910323))).fdiv (2 ^ (min (4 : Int).toNat 64))) + (Go.IntKind.u64.wrap ((Go.bits .and .u64 ((Go.IntKind.u64.wrap ((Go.bits .and .u64 (a0.fdiv (2 ^ (min (1 : Int).toNat 64))) 6148914691236517205) + (Go.bits .and .u64 a0 6148914691236517205))).fdiv (2 ^ (min (2 : Int).toNat 64))) 3689348814741910323) + (Go.bits .and .u64 (Go.IntKind.u64.wrap ((Go.bits .and .u64 (a0.fdiv (2 ^ (min (1 : Int).toNat 64))) 6148914691236517205) + (Go.bits .and .u64 a0 6148914691236517205))) 3689348814741910323))))) 1085102592571150095) + ((Go.bits .and .u64 (Go.IntKind.u64.wrap (((Go.IntKind.u64.wrap ((Go.bits .and .u64 ((Go.IntKind.u64.wrap ((Go.bits .and .u64 (a0.fdiv (2 ^ (min (1 : Int).toNat 64))) 6148914691236517205) + (Go.bits .and .u64 a0 6148914691236517205))).fdiv (2 ^ (min (2 : Int).toNat 64))) 3689348814741910323) + (Go.bits .and .u64 (Go.IntKind.u64.wrap ((Go.bits .and .u64 (a0.fdiv (2 ^ (min (1 : Int).toNat 64))) 6148914691236517205) + (Go.bits .and .u64 a0 6148914691236517205))) 3689348814741910323))).fdiv (2 ^ (min (4 : Int).toNat 64))) + (Go.IntKind.u64.wrap ((Go.bits .and .u64 ((Go.IntKind.u64.wrap ((Go.bits .and .u64 (a0.fdiv (2 ^ (min (1 : Int).toNat 64))) 6148914691236517205) + (Go.bits .and .u64 a0 6148914691236517205))).fdiv (2 ^ (min (2 : Int).toNat 64))) 3689348814741910323) + (Go.bits .and .u64 (Go.IntKind.u64.wrap ((Go.bits .and .u64 (a0.fdiv (2 ^ (min (1 : Int).toNat 64))) 6148914691236517205) + (Go.bits .and .u64 a0 6148914691236517205))) 3689348814741910323))))) 1085102592571150095).fdiv (2 ^ (min (8 : Int).toNat 64))))).fdiv (2 ^ (min (16 : Int).toNat 64))))).fdiv (2 ^ (min (32 : Int).toNat 64)))))) 127)
set_option maxRecDepth 100000 in
set_option maxHeartbeats 4000000 in
theorem bits_OnesCount64.calls {w0 : World} (K : Nat) (a0 : Int) (r : Int) (H : bits_OnesCount64.f K a0 = some r) : Calls Try.prog 108 [Value.int .u64 a0].toArray w0 (Post w0 fun w v => v = Value.int .i64 r) := by
  rw [bits_OnesCount64.f] at H
  refine s_start Try.func108 rfl Try.ntmps108 rfl ?_
  intro a hF
  have hM := Ms.start w0
  skip
  refine wp_seq ?_
  refine s_region ?_
  refine s_val hF rfl rfl rfl (e_assign hF rfl) ?_; intro a hF
  refine s_nil ?_
  refine then_n ?_
  refine wp_seq ?_
  refine s_region ?_
  refine s_val hF rfl rfl rfl (e_move hF rfl) ?_; intro a hF
  refine s_val hF rfl rfl rfl (ek_shr hF rfl rfl (by decide)) ?_; intro a hF
  refine s_val hF rfl rfl rfl (ek_and hF rfl rfl) ?_; intro a hF
  refine s_val hF rfl rfl rfl (e_move hF rfl) ?_; intro a hF
  refine s_val hF rfl rfl rfl (ek_and hF rfl rfl) ?_; intro a hF
  refine s_val hF rfl rfl rfl (ek_add hF rfl rfl) ?_; intro a hF
  refine s_val hF rfl rfl rfl (e_assign hF rfl) ?_; intro a hF
  refine s_nil ?_
  refine then_n ?_
  refine wp_seq ?_
  refine s_region ?_
  refine s_val hF rfl rfl rfl (e_move hF rfl) ?_; intro a hF
  refine s_val hF rfl rfl rfl (ek_shr hF rfl rfl (by decide)) ?_; intro a hF
  refine s_val hF rfl rfl rfl (ek_and hF rfl rfl) ?_; intro a hF
  refine s_val hF rfl rfl rfl (e_move hF rfl) ?_; intro a hF
  refine s_val hF rfl rfl rfl (ek_and hF rfl rfl) ?_; intro a hF
  refine s_val hF rfl rfl rfl (ek_add hF rfl rfl) ?_; intro a hF
  refine s_val hF rfl rfl rfl (e_assign hF rfl) ?_; intro a hF
  refine s_nil ?_
  refine then_n ?_
  refine wp_seq ?_
  refine s_region ?_
  refine s_val hF rfl rfl rfl (e_move hF rfl) ?_; intro a hF
  refine s_val hF rfl rfl rfl (ek_shr hF rfl rfl (by decide)) ?_; intro a hF
  refine s_val hF rfl rfl rfl (e_move hF rfl) ?_; intro a hF
  refine s_val hF rfl rfl rfl (ek_add hF rfl rfl) ?_; intro a hF
  refine s_val hF rfl rfl rfl (ek_and hF rfl rfl) ?_; intro a hF
  refine s_val hF rfl rfl rfl (e_assign hF rfl) ?_; intro a hF
  refine s_nil ?_
  refine then_n ?_
  refine wp_seq ?_
  refine s_region ?_
  refine s_val hF rfl rfl rfl (e_move hF rfl) ?_; intro a hF
  refine s_val hF rfl rfl rfl (e_move hF rfl) ?_; intro a hF
  refine s_val hF rfl rfl rfl (ek_shr hF rfl rfl (by decide)) ?_; intro a hF
  refine s_val hF rfl rfl rfl (ek_add hF rfl rfl) ?_; intro a hF
  refine s_val hF rfl rfl rfl (e_assign hF rfl) ?_; intro a hF
  refine s_nil ?_
  refine then_n ?_
  refine wp_seq ?_
  refine s_region ?_
  refine s_val hF rfl rfl rfl (e_move hF rfl) ?_; intro a hF
  refine s_val hF rfl rfl rfl (e_move hF rfl) ?_; intro a hF
  refine s_val hF rfl rfl rfl (ek_shr hF rfl rfl (by decide)) ?_; intro a hF
  refine s_val hF rfl rfl rfl (ek_add hF rfl rfl) ?_; intro a hF
  refine s_val hF rfl rfl rfl (e_assign hF rfl) ?_; intro a hF
  refine s_nil ?_
  refine then_n ?_
  refine wp_seq ?_
  refine s_region ?_
  refine s_val hF rfl rfl rfl (e_move hF rfl) ?_; intro a hF
  refine s_val hF rfl rfl rfl (e_move hF rfl) ?_; intro a hF
  refine s_val hF rfl rfl rfl (ek_shr hF rfl rfl (by decide)) ?_; intro a hF
  refine s_val hF rfl rfl rfl (ek_add hF rfl rfl) ?_; intro a hF
  refine s_val hF rfl rfl rfl (e_assign hF rfl) ?_; intro a hF
  refine s_nil ?_
  refine then_n ?_
  refine wp_seq ?_
  refine s_region ?_
  refine s_val hF rfl rfl rfl (e_move hF rfl) ?_; intro a hF
  refine s_val hF rfl rfl rfl (e_conv hF rfl Try.underlying101 Try.underlying3) ?_; intro a hF
  refine s_val hF rfl rfl rfl (e_and hF rfl rfl) ?_; intro a hF
  refine s_val hF rfl rfl rfl (e_assign hF rfl) ?_; intro a hF
  refine s_nil ?_
  refine then_n ?_
  refine wp_ret ?_
  obtain rfl := some_some H
  refine s_ret [Value.int .i64 (Go.bits .and .i64 (wrap64 (Go.IntKind.u64.wrap ((Go.IntKind.u64.wrap ((Go.IntKind.u64.wrap ((Go.bits .and .u64 (Go.IntKind.u64.wrap (((Go.IntKind.u64.wrap ((Go.bits .and .u64 ((Go.IntKind.u64.wrap ((Go.bits .and .u64 (a0.fdiv (2 ^ (min (1 : Int).toNat 64))) 6148914691236517205) + (Go.bits .and .u64 a0 6148914691236517205))).fdiv (2 ^ (min (2 : Int).toNat 64))) 3689348814741910323) + (Go.bits .and .u64 (Go.IntKind.u64.wrap ((Go.bits .and .u64 (a0.fdiv (2 ^ (min (1 : Int).toNat 64))) 6148914691236517205) + (Go.bits .and .u64 a0 6148914691236517205))) 3689348814741910323))).fdiv (2 ^ (min (4 : Int).toNat 64))) + (Go.IntKind.u64.wrap ((Go.bits .and .u64 ((Go.IntKind.u64.wrap ((Go.bits .and .u64 (a0.fdiv (2 ^ (min (1 : Int).toNat 64))) 6148914691236517205) + (Go.bits .and .u64 a0 6148914691236517205))).fdiv (2 ^ (min (2 : Int).toNat 64))) 3689348814741910323) + (Go.bits .and .u64 (Go.IntKind.u64.wrap ((Go.bits .and .u64 (a0.fdiv (2 ^ (min (1 : Int).toNat 64))) 6148914691236517205) + (Go.bits .and .u64 a0 6148914691236517205))) 3689348814741910323))))) 1085102592571150095) + ((Go.bits .and .u64 (Go.IntKind.u64.wrap (((Go.IntKind.u64.wrap ((Go.bits .and .u64 ((Go.IntKind.u64.wrap ((Go.bits .and .u64 (a0.fdiv (2 ^ (min (1 : Int).toNat 64))) 6148914691236517205) + (Go.bits .and .u64 a0 6148914691236517205))).fdiv (2 ^ (min (2 : Int).toNat 64))) 3689348814741910323) + (Go.bits .and .u64 (Go.IntKind.u64.wrap ((Go.bits .and .u64 (a0.fdiv (2 ^ (min (1 : Int).toNat 64))) 6148914691236517205) + (Go.bits .and .u64 a0 6148914691236517205))) 3689348814741910323))).fdiv (2 ^ (min (4 : Int).toNat 64))) + (Go.IntKind.u64.wrap ((Go.bits .and .u64 ((Go.IntKind.u64.wrap ((Go.bits .and .u64 (a0.fdiv (2 ^ (min (1 : Int).toNat 64))) 6148914691236517205) + (Go.bits .and .u64 a0 6148914691236517205))).fdiv (2 ^ (min (2 : Int).toNat 64))) 3689348814741910323) + (Go.bits .and .u64 (Go.IntKind.u64.wrap ((Go.bits .and .u64 (a0.fdiv (2 ^ (min (1 : Int).toNat 64))) 6148914691236517205) + (Go.bits .and .u64 a0 6148914691236517205))) 3689348814741910323))))) 1085102592571150095).fdiv (2 ^ (min (8 : Int).toNat 64))))) + ((Go.IntKind.u64.wrap ((Go.bits .and .u64 (Go.IntKind.u64.wrap (((Go.IntKind.u64.wrap ((Go.bits .and .u64 ((Go.IntKind.u64.wrap ((Go.bits .and .u64 (a0.fdiv (2 ^ (min (1 : Int).toNat 64))) 6148914691236517205) + (Go.bits .and .u64 a0 6148914691236517205))).fdiv (2 ^ (min (2 : Int).toNat 64))) 3689348814741910323) + (Go.bits .and .u64 (Go.IntKind.u64.wrap ((Go.bits .and .u64 (a0.fdiv (2 ^ (min (1 : Int).toNat 64))) 6148914691236517205) + (Go.bits .and .u64 a0 6148914691236517205))) 3689348814741910323))).fdiv (2 ^ (min (4 : Int).toNat 64))) + (Go.IntKind.u64.wrap ((Go.bits .and .u64 ((Go.IntKind.u64.wrap ((Go.bits .and .u64 (a0.fdiv (2 ^ (min (1 : Int).toNat 64))) 6148914691236517205) + (Go.bits .and .u64 a0 6148914691236517205))).fdiv (2 ^ (min (2 : Int).toNat 64))) 3689348814741910323) + (Go.bits .and .u64 (Go.IntKind.u64.wrap ((Go.bits .and .u64 (a0.fdiv (2 ^ (min (1 : Int).toNat 64))) 6148914691236517205) + (Go.bits .and .u64 a0 6148914691236517205))) 3689348814741910323))))) 1085102592571150095) + ((Go.bits .and .u64 (Go.IntKind.u64.wrap (((Go.IntKind.u64.wrap ((Go.bits .and .u64 ((Go.IntKind.u64.wrap ((Go.bits .and .u64 (a0.fdiv (2 ^ (min (1 : Int).toNat 64))) 6148914691236517205) + (Go.bits .and .u64 a0 6148914691236517205))).fdiv (2 ^ (min (2 : Int).toNat 64))) 3689348814741910323) + (Go.bits .and .u64 (Go.IntKind.u64.wrap ((Go.bits .and .u64 (a0.fdiv (2 ^ (min (1 : Int).toNat 64))) 6148914691236517205) + (Go.bits .and .u64 a0 6148914691236517205))) 3689348814741910323))).fdiv (2 ^ (min (4 : Int).toNat 64))) + (Go.IntKind.u64.wrap ((Go.bits .and .u64 ((Go.IntKind.u64.wrap ((Go.bits .and .u64 (a0.fdiv (2 ^ (min (1 : Int).toNat 64))) 6148914691236517205) + (Go.bits .and .u64 a0 6148914691236517205))).fdiv (2 ^ (min (2 : Int).toNat 64))) 3689348814741910323) + (Go.bits .and .u64 (Go.IntKind.u64.wrap ((Go.bits .and .u64 (a0.fdiv (2 ^ (min (1 : Int).toNat 64))) 6148914691236517205) + (Go.bits .and .u64 a0 6148914691236517205))) 3689348814741910323))))) 1085102592571150095).fdiv (2 ^ (min (8 : Int).toNat 64))))).fdiv (2 ^ (min (16 : Int).toNat 64))))) + ((Go.IntKind.u64.wrap ((Go.IntKind.u64.wrap ((Go.bits .and .u64 (Go.IntKind.u64.wrap (((Go.IntKind.u64.wrap ((Go.bits .and .u64 ((Go.IntKind.u64.wrap ((Go.bits .and .u64 (a0.fdiv (2 ^ (min (1 : Int).toNat 64))) 6148914691236517205) + (Go.bits .and .u64 a0 6148914691236517205))).fdiv (2 ^ (min (2 : Int).toNat 64))) 3689348814741910323) + (Go.bits .and .u64 (Go.IntKind.u64.wrap ((Go.bits .and .u64 (a0.fdiv (2 ^ (min (1 : Int).toNat 64))) 6148914691236517205) + (Go.bits .and .u64 a0 6148914691236517205))) 3689348814741910323))).fdiv (2 ^ (min (4 : Int).toNat 64))) + (Go.IntKind.u64.wrap ((Go.bits .and .u64 ((Go.IntKind.u64.wrap ((Go.bits .and .u64 (a0.fdiv (2 ^ (min (1 : Int).toNat 64))) 6148914691236517205) + (Go.bits .and .u64 a0 6148914691236517205))).fdiv (2 ^ (min (2 : Int).toNat 64))) 3689348814741910323) + (Go.bits .and .u64 (Go.IntKind.u64.wrap ((Go.bits .and .u64 (a0.fdiv (2 ^ (min (1 : Int).toNat 64))) 6148914691236517205) + (Go.bits .and .u64 a0 6148914691236517205))) 3689348814741910323))))) 1085102592571150095) + ((Go.bits .and .u64 (Go.IntKind.u64.wrap (((Go.IntKind.u64.wrap ((Go.bits .and .u64 ((Go.IntKind.u64.wrap ((Go.bits .and .u64 (a0.fdiv (2 ^ (min (1 : Int).toNat 64))) 6148914691236517205) + (Go.bits .and .u64 a0 6148914691236517205))).fdiv (2 ^ (min (2 : Int).toNat 64))) 3689348814741910323) + (Go.bits .and .u64 (Go.IntKind.u64.wrap ((Go.bits .and .u64 (a0.fdiv (2 ^ (min (1 : Int).toNat 64))) 6148914691236517205) + (Go.bits .and .u64 a0 6148914691236517205))) 3689348814741910323))).fdiv (2 ^ (min (4 : Int).toNat 64))) + (Go.IntKind.u64.wrap ((Go.bits .and .u64 ((Go.IntKind.u64.wrap ((Go.bits .and .u64 (a0.fdiv (2 ^ (min (1 : Int).toNat 64))) 6148914691236517205) + (Go.bits .and .u64 a0 6148914691236517205))).fdiv (2 ^ (min (2 : Int).toNat 64))) 3689348814741910323) + (Go.bits .and .u64 (Go.IntKind.u64.wrap ((Go.bits .and .u64 (a0.fdiv (2 ^ (min (1 : Int).toNat 64))) 6148914691236517205) + (Go.bits .and .u64 a0 6148914691236517205))) 3689348814741910323))))) 1085102592571150095).fdiv (2 ^ (min (8 : Int).toNat 64))))) + ((Go.IntKind.u64.wrap ((Go.bits .and .u64 (Go.IntKind.u64.wrap (((Go.IntKind.u64.wrap ((Go.bits .and .u64 ((Go.IntKind.u64.wrap ((Go.bits .and .u64 (a0.fdiv (2 ^ (min (1 : Int).toNat 64))) 6148914691236517205) + (Go.bits .and .u64 a0 6148914691236517205))).fdiv (2 ^ (min (2 : Int).toNat 64))) 3689348814741910323) + (Go.bits .and .u64 (Go.IntKind.u64.wrap ((Go.bits .and .u64 (a0.fdiv (2 ^ (min (1 : Int).toNat 64))) 6148914691236517205) + (Go.bits .and .u64 a0 6148914691236517205))) 3689348814741910323))).fdiv (2 ^ (min (4 : Int).toNat 64))) + (Go.IntKind.u64.wrap ((Go.bits .and .u64 ((Go.IntKind.u64.wrap ((Go.bits .and .u64 (a0.fdiv (2 ^ (min (1 : Int).toNat 64))) 6148914691236517205) + (Go.bits .and .u64 a0 6148914691236517205))).fdiv (2 ^ (min (2 : Int).toNat 64))) 3689348814741910323) + (Go.bits .and .u64 (Go.IntKind.u64.wrap ((Go.bits .and .u64 (a0.fdiv (2 ^ (min (1 : Int).toNat 64))) 6148914691236517205) + (Go.bits .and .u64 a0 6148914691236517205))) 3689348814741910323))))) 1085102592571150095) + ((Go.bits .and .u64 (Go.IntKind.u64.wrap (((Go.IntKind.u64.wrap ((Go.bits .and .u64 ((Go.IntKind.u64.wrap ((Go.bits .and .u64 (a0.fdiv (2 ^ (min (1 : Int).toNat 64))) 6148914691236517205) + (Go.bits .and .u64 a0 6148914691236517205))).fdiv (2 ^ (min (2 : Int).toNat 64))) 3689348814741910323) + (Go.bits .and .u64 (Go.IntKind.u64.wrap ((Go.bits .and .u64 (a0.fdiv (2 ^ (min (1 : Int).toNat 64))) 6148914691236517205) + (Go.bits .and .u64 a0 6148914691236517205))) 3689348814741910323))).fdiv (2 ^ (min (4 : Int).toNat 64))) + (Go.IntKind.u64.wrap ((Go.bits .and .u64 ((Go.IntKind.u64.wrap ((Go.bits .and .u64 (a0.fdiv (2 ^ (min (1 : Int).toNat 64))) 6148914691236517205) + (Go.bits .and .u64 a0 6148914691236517205))).fdiv (2 ^ (min (2 : Int).toNat 64))) 3689348814741910323) + (Go.bits .and .u64 (Go.IntKind.u64.wrap ((Go.bits .and .u64 (a0.fdiv (2 ^ (min (1 : Int).toNat 64))) 6148914691236517205) + (Go.bits .and .u64 a0 6148914691236517205))) 3689348814741910323))))) 1085102592571150095).fdiv (2 ^ (min (8 : Int).toNat 64))))).fdiv (2 ^ (min (16 : Int).toNat 64))))).fdiv (2 ^ (min (32 : Int).toNat 64)))))) 127)] hF Try.results108 ⟨rfl, trivial⟩ ?_
  exact ⟨_, rfl, hM.frm, rfl⟩

/-! ### math/bits.OnesCount: function 93 -/
def bits_OnesCount.f (K : Nat) (a0 : Int) : Option Int := (bits_OnesCount64.f K a0).bind fun t1 => some t1
set_option maxRecDepth 100000 in
set_option maxHeartbeats 4000000 in
theorem bits_OnesCount.calls {w0 : World} (K : Nat) (a0 : Int) (r : Int) (H : bits_OnesCount.f K a0 = some r) : Calls Try.prog 93 [Value.int .u64 a0].toArray w0 (Post w0 fun w v => v = Value.int .i64 r) := by
  rw [bits_OnesCount.f] at H
  refine s_start Try.func93 rfl Try.ntmps93 rfl ?_
  intro a hF
  have hM := Ms.start w0
  skip
  refine wp_seq ?_
  refine s_region ?_
  refine s_val hF rfl rfl rfl (e_assign hF rfl) ?_; intro a hF
  refine s_nil ?_
  refine then_n ?_
  refine wp_seq ?_
  refine s_cond_f hF rfl rfl ?_
  refine wp_skip ?_
  refine then_n ?_
  refine wp_seq ?_
  obtain ⟨t1, h2, H⟩ := bind_some H
  refine s_region ?_
  refine s_val hF rfl rfl rfl (e_move hF rfl) ?_; intro a hF
  refine s_call hF rfl rfl rfl Try.call108 (bits_OnesCount64.calls K a0 t1 h2) ?_; intro a w v hF hf hR
  subst hR; have hM := hM.grow hf
  refine s_val hF rfl rfl rfl (e_assign hF rfl) ?_; intro a hF
  refine s_nil ?_
  refine then_n ?_
  refine wp_ret ?_
  obtain rfl := some_some H
  refine s_ret [Value.int .i64 t1] hF Try.results93 ⟨rfl, trivial⟩ ?_
  exact ⟨_, rfl, hM.frm, rfl⟩

/-! ### loop.example/g01210/impl.fraction: function 67 -/
def impl_fraction.l0 (K : Nat) : Nat → Int → Int → Option Int
  | 0, _, _ => none
  | k + 1, x9, x10 => if x10 = 0 then (some x9) else (if x10 ≠ 0 then (impl_fraction.l0 K k x10 (x9.tmod x10)) else none)
def impl_fraction.f (K : Nat) (a0 : Int) (a1 : Int) : Option (Ar 2) := (impl_fraction.l0 K K a0 a1).bind fun x8 => if x8 ≠ 0 then (some (⟨[(wrap64 (a0.tdiv x8)), (wrap64 (a1.tdiv x8))], rfl⟩ : Ar 2)) else none
set_option maxRecDepth 100000 in
set_option maxHeartbeats 4000000 in
theorem impl_fraction.calls {w0 : World} (K : Nat) (a0 : Int) (a1 : Int) (r : (Ar 2)) (H : impl_fraction.f K a0 a1 = some r) : Calls Try.prog 67 [Value.int .i64 a0, Value.int .i64 a1].toArray w0 (Post w0 fun w v => v = ag [Pt.ar r]) := by
  rw [impl_fraction.f] at H
  refine s_start Try.func67 rfl Try.ntmps67 rfl ?_
  intro a hF
  have hM := Ms.start w0
  skip
  refine wp_seq ?_
  refine s_region ?_
  refine s_alloc (ps := [Pt.ar (Ar.zero 2)]) hF hM rfl rfl zv51 rfl ?_; intro a w b1 hF hM
  refine s_nil ?_
  refine then_n ?_
  refine wp_seq ?_
  refine s_region ?_
  refine s_val hF rfl rfl rfl (e_move hF rfl) ?_; intro a hF
  refine s_val hF rfl rfl rfl (e_move hF rfl) ?_; intro a hF
  refine s_val hF rfl rfl rfl (e_assign hF rfl) ?_; intro a hF
  refine s_val hF rfl rfl rfl (e_assign hF rfl) ?_; intro a hF
  refine s_nil ?_
  refine then_n ?_
  refine wp_seq ?_
  refine wp_block ?_
  obtain ⟨o13, h14, H⟩ := bind_some H
  refine wp_mono (Q := fun e a w => (e = Exit.exit 0 ∧ ∃ x8 : Int, x8 = o13 ∧ Fr 22 a [(0, Value.int .i64 a0), (1, Value.int .i64 a1), (4, pt b1 0), (5, Value.int .i64 x8)] ∧ Ms [] w0 w [boxR b1 [Pt.ar (Ar.zero 2)] 51])) ?_ ?_
  · refine s_loop (fun kq a w => ∃ x9 : Int, ∃ x10 : Int, impl_fraction.l0 K kq x9 x10 = some o13 ∧ Fr 22 a [(0, Value.int .i64 a0), (1, Value.int .i64 a1), (4, pt b1 0), (5, Value.int .i64 x9), (6, Value.int .i64 x10)] ∧ Ms [] w0 w [boxR b1 [Pt.ar (Ar.zero 2)] 51]) K ⟨a0, a1, h14, hF.sub _ ⟨rfl, rfl, rfl, rfl, rfl, trivial⟩, hM.pick [0] rfl rfl⟩ ?_ ?_
    · rintro a w ⟨_, _, H, _⟩; exact none_some H
    · rintro k a w ⟨x9, x10, H, hF, hM⟩; rw [impl_fraction.l0] at H
      refine wp_seq ?_
      refine wp_seq ?_
      refine s_region ?_
      refine s_val hF rfl rfl rfl (e_move hF rfl) ?_; intro a hF
      refine s_val hF rfl rfl rfl (e_neq hF rfl rfl) ?_; intro a hF
      refine s_nil ?_
      refine then_n ?_
      rcases ite_cases H with ⟨c11, H⟩ | ⟨c11, H⟩
      ·
        refine s_cond_f hF rfl (congrArg Bool.not (decide_eq_true c11)) ?_
        refine wp_exit ?_
        refine then_x ?_
        refine then_x ?_
        exact ⟨rfl, x9, some_some H, hF.sub _ ⟨rfl, rfl, rfl, rfl, trivial⟩, hM.pick [0] rfl rfl⟩
      ·
        refine s_cond_t hF rfl (congrArg Bool.not (decide_eq_false c11)) ?_
        refine wp_skip ?_
        refine then_n ?_
        refine wp_block ?_
        obtain ⟨c12, H⟩ := ite_some H
        refine s_held (fun w => Ms [] w0 w [boxR b1 [Pt.ar (Ar.zero 2)] 51]) #[false, false, false, false, false, false] mixed rfl rfl hM ?_; intro w hf hM; clear hf
        refine h_val 0 #[true, false, false, false, false, false] rfl (by kernel_rfl) hF rfl rfl rfl (fun w hS => e_move hF rfl) (hM.pick [0] rfl rfl) ?_; intro a hF
        refine h_val 1 #[true, true, false, false, false, false] rfl (by kernel_rfl) hF rfl rfl rfl (fun w hS => e_move hF rfl) (hM.pick [0] rfl rfl) ?_; intro a hF
        refine h_val 2 #[true, true, true, false, false, false] rfl (by kernel_rfl) hF rfl rfl rfl (fun w hS => e_move hF rfl) (hM.pick [0] rfl rfl) ?_; intro a hF
        refine h_val 3 #[true, true, true, true, false, false] rfl (by kernel_rfl) hF rfl rfl rfl (fun w hS => e_rem hF rfl rfl c12) (hM.pick [0] rfl rfl) ?_; intro a hF
        refine h_val 4 #[true, true, true, true, true, false] rfl (by kernel_rfl) hF rfl rfl rfl (fun w hS => e_assign hF rfl) (hM.pick [0] rfl rfl) ?_; intro a hF
        refine h_val 5 #[true, true, true, true, true, true] rfl (by kernel_rfl) hF rfl rfl rfl (fun w hS => e_assign hF rfl) (hM.pick [0] rfl rfl) ?_; intro a hF
        refine h_done rfl ?_
        refine blk_n ?_
        refine then_n ?_
        exact ⟨x10, (x9.tmod x10), H, hF.sub _ ⟨rfl, rfl, rfl, rfl, rfl, trivial⟩, hM.pick [0] rfl rfl⟩
  · rintro e a w ⟨rfl, x8, rfl, hF, hM⟩
    skip
    refine blk_x ?_
    refine then_n ?_
    refine wp_seq ?_
    obtain ⟨c15, H⟩ := ite_some H
    refine s_held (fun w => Ms [] w0 w []) #[false, false, false, false, false, false, false, false] mixed rfl rfl hM ?_; intro w hf hM; clear hf
    refine h_val 0 #[true, false, false, false, false, false, false, false] rfl (by kernel_rfl) hF rfl rfl rfl (fun w hS => e_move hF rfl) (hM.pick [] rfl rfl) ?_; intro a hF
    refine h_val 1 #[true, true, false, false, false, false, false, false] rfl (by kernel_rfl) hF rfl rfl rfl (fun w hS => e_move hF rfl) (hM.pick [] rfl rfl) ?_; intro a hF
    refine h_val 2 #[true, true, true, false, false, false, false, false] rfl (by kernel_rfl) hF rfl rfl rfl (fun w hS => e_quo hF rfl rfl c15) (hM.pick [] rfl rfl) ?_; intro a hF
    refine h_val 3 #[true, true, true, true, false, false, false, false] rfl (by kernel_rfl) hF rfl rfl rfl (fun w hS => e_move hF rfl) (hM.pick [] rfl rfl) ?_; intro a hF
    refine h_val 4 #[true, true, true, true, true, false, false, false] rfl (by kernel_rfl) hF rfl rfl rfl (fun w hS => e_move hF rfl) (hM.pick [] rfl rfl) ?_; intro a hF
    refine h_val 5 #[true, true, true, true, true, true, false, false] rfl (by kernel_rfl) hF rfl rfl rfl (fun w hS => e_quo hF rfl rfl c15) (hM.pick [] rfl rfl) ?_; intro a hF
    refine h_val 6 #[true, true, true, true, true, true, true, false] rfl (by kernel_rfl) hF rfl rfl rfl (fun w hS => e_build' (cells := cat [Pt.ar (⟨[(wrap64 (a0.tdiv x8)), (wrap64 (a1.tdiv x8))], rfl⟩ : Ar 2)]) hF rfl (by kernel_rfl)) (hM.pick [] rfl rfl) ?_; intro a hF
    refine h_one 7 #[true, true, true, true, true, true, true, true] rfl (by kernel_rfl) ?_
    refine s_stw (i := 0) (ps' := [Pt.ar (⟨[(wrap64 (a0.tdiv x8)), (wrap64 (a1.tdiv x8))], rfl⟩ : Ar 2)]) hF hM rfl rfl rfl rfl rfl rfl Try.sizeOf51 rfl ?_; intro a w hF hM
    refine s_nil ⟨rfl, (hM.pick [] rfl rfl), ?_⟩
    refine h_done rfl ?_
    refine then_n ?_
    refine wp_ret ?_
    obtain rfl := some_some H
    refine s_ret [ag [Pt.ar (⟨[(wrap64 (a0.tdiv x8)), (wrap64 (a1.tdiv x8))], rfl⟩ : Ar 2)]] hF Try.results67 ⟨⟨_, rfl, rv_box hM (i := 0) rfl Try.isAgg51 Try.sizeOf51 rfl⟩, trivial⟩ ?_
    exact ⟨_, rfl, hM.frm, rfl⟩

/-! ### (*loop.example/g01210/impl.again).mean: function 85 -/
def impl_again_mean__c.f (K : Nat) (y4 : (List (Ar 6))) (y7 : (List (List Int))) (a1 : Int) (a2 : Int) : Option (Ar 2) := (impl_power.f K (wrap64 ((y4.length : Int) * a2))).bind fun t11 => (impl_fraction.f K a1 t11).bind fun t13 => some t13
set_option maxRecDepth 100000 in
set_option maxHeartbeats 4000000 in
theorem impl_again_mean__c.calls {w0 : World} (K : Nat) (v3 : Value) (y4 : (List (Ar 6))) (q5 : SlR cd28 w0 v3 y4) (v6 : Value) (y7 : (List (List Int))) (z8 : List Value) (q9 : NeR cd3 33 w0 v6 z8 y7) (b1 : Nat) (q2 : (boxR b1 [Pt.any v3, Pt.any v6] 80).holds w0) (a1 : Int) (a2 : Int) (r : (Ar 2)) (H : impl_again_mean__c.f K y4 y7 a1 a2 = some r) : Calls Try.prog 85 [pt b1 0, Value.int .i64 a1, Value.int .i64 a2].toArray w0 (Post w0 fun w v => v = ag [Pt.ar r]) := by
  rw [impl_again_mean__c.f] at H
  refine s_start Try.func85 rfl Try.ntmps85 rfl ?_
  intro a hF
  have hM := Ms.start w0
  skip
  refine wp_seq ?_
  refine s_region ?_
  refine s_alloc (ps := [Pt.ar (Ar.zero 2)]) hF hM rfl rfl zv51 rfl ?_; intro a w b10 hF hM
  refine s_nil ?_
  refine then_n ?_
  refine wp_seq ?_
  obtain ⟨t11, h12, H⟩ := bind_some H
  obtain ⟨t13, h14, H⟩ := bind_some H
  refine s_region ?_
  refine s_val hF rfl rfl rfl (e_move hF rfl) ?_; intro a hF
  refine s_val hF rfl rfl rfl (e_move hF rfl) ?_; intro a hF
  refine s_val hF rfl rfl rfl (e_nilc hF rfl) ?_; intro a hF
  refine s_val hF rfl rfl rfl (e_fa hF rfl Try.underlying80 rfl Try.sizeOf43 rfl rfl) ?_; intro a hF
  refine s_val hF rfl rfl rfl (e_ld (i := 0) (k := 0) hF (lent_ms (box_frm q2 hM.frm)) rfl rfl rfl rfl Try.isAgg43 (any_cs (q5.frm hM.frm).toF.one)) ?_; intro a hF
  refine s_val hF rfl rfl rfl (e_len hF rfl (q5.frm hM.frm).toF Try.underlying43) ?_; intro a hF
  refine s_val hF rfl rfl rfl (e_move hF rfl) ?_; intro a hF
  refine s_val hF rfl rfl rfl (e_mul hF rfl rfl) ?_; intro a hF
  refine s_call hF rfl rfl rfl Try.call60 (impl_power.calls K (wrap64 ((y4.length : Int) * a2)) t11 h12) ?_; intro a w v hF hf hR
  subst hR; have hM := hM.grow hf
  refine s_call hF rfl rfl rfl Try.call67 (impl_fraction.calls K a1 t11 t13 h14) ?_; intro a w v hF hf hR
  subst hR; have hM := hM.grow hf
  refine s_stw (i := 0) (ps' := [Pt.ar t13]) hF hM rfl rfl rfl rfl rfl rfl Try.sizeOf51 rfl ?_; intro a w hF hM
  refine s_nil ?_
  refine then_n ?_
  refine wp_ret ?_
  obtain rfl := some_some H
  refine s_ret [ag [Pt.ar t13]] hF Try.results85 ⟨⟨_, rfl, rv_box hM (i := 0) rfl Try.isAgg51 Try.sizeOf51 rfl⟩, trivial⟩ ?_
  exact ⟨_, rfl, hM.frm, rfl⟩

/-! ### loop.example/g01210/impl.MeanRolled: function 52 -/
def impl_MeanRolled.l0 (K : Nat) (l0 : (List (Ar 6))) (a2 : Int) (t6 : (List (List Int))) (t11 : Int) : Nat → Int → Int → Option Int
  | 0, _, _ => none
  | k + 1, x30, x31 => if x31 < t11 then ((impl_again_bestSets__c.f K l0 t6 x31 a2).bind fun t33 => if (0 : Int) ≤ 0 ∧ 0 < (t33.length : Int) then ((bits_OnesCount.f K (Go.IntKind.u64.wrap (t33.getD (0 : Int).toNat (0 : Int)))).bind fun t37 => impl_MeanRolled.l0 K l0 a2 t6 t11 k (wrap64 (x30 + t37)) (wrap64 (x31 + 1))) else none) else (some x30)
def impl_MeanRolled.f (K : Nat) (l0 : (List (Ar 6))) (a1 : (Int × Int)) (a2 : Int) : Option ((Ar 2) × Bool) := (impl_isAgain.f K l0 a1 a2 1).bind fun t3 => if t3 = true then ((impl_againOf.f K l0 a1 a2).bind fun t6 => (impl_again_outcomes__c.f K l0 t6).bind fun t11 => (impl_MeanRolled.l0 K l0 a2 t6 t11 K 0 0).bind fun x29 => (impl_again_mean__c.f K l0 t6 x29 1).bind fun t41 => some (t41, true)) else (some ((⟨[0, 0], rfl⟩ : Ar 2), false))
set_option maxRecDepth 100000 in
set_option maxHeartbeats 4000000 in
theorem impl_MeanRolled.calls {w0 : World} (K : Nat) (l0 : (List (Ar 6))) (u0 : Value) (q0 : SlR cd28 w0 u0 l0) (a1 : (Int × Int)) (a2 : Int) (r : ((Ar 2) × Bool)) (H : impl_MeanRolled.f K l0 a1 a2 = some r) : Calls Try.prog 52 [u0, ag [Pt.int a1.1, Pt.int a1.2], Value.int .i64 a2].toArray w0 (Post w0 fun w v => v = Value.tuple #[ag [Pt.ar r.1], Value.bool r.2]) := by
  rw [impl_MeanRolled.f] at H
  refine s_start Try.func52 rfl Try.ntmps52 rfl ?_
  intro a hF
  have hM := Ms.start w0
  skip
  refine wp_seq ?_
  refine s_region ?_
  refine s_box (ps := [Pt.int a1.1, Pt.int a1.2]) hF hM rfl rfl rfl rfl ?_; intro a w b1 hF hM
  refine s_alloc (ps := [Pt.ar (Ar.zero 2)]) hF hM rfl rfl zv51 rfl ?_; intro a w b2 hF hM
  refine s_val hF rfl rfl rfl (e_assign hF rfl) ?_; intro a hF
  refine s_nil ?_
  refine then_n ?_
  refine wp_seq ?_
  refine wp_seq ?_
  obtain ⟨t3, h4, H⟩ := bind_some H
  refine s_region ?_
  refine s_val hF rfl rfl rfl (e_move hF rfl) ?_; intro a hF
  refine s_val hF rfl rfl rfl (e_lda (i := 1) 0 2 hF hM rfl rfl rfl rfl Try.isAgg25 Try.sizeOf25 rfl) ?_; intro a hF
  refine s_val hF rfl rfl rfl (e_move hF rfl) ?_; intro a hF
  refine s_call hF rfl rfl rfl Try.call83 (impl_isAgain.calls K l0 u0 (q0.frm hM.frm) a1 a2 1 t3 h4) ?_; intro a w v hF hf hR
  subst hR; have hM := hM.grow hf
  refine s_val hF rfl rfl rfl (e_not hF rfl) ?_; intro a hF
  refine s_nil ?_
  refine then_n ?_
  rcases ite_cases H with ⟨c5, H⟩ | ⟨c5, H⟩
  ·
    refine s_cond_f hF rfl (congrArg Bool.not c5) ?_
    refine wp_skip ?_
    refine then_n ?_
    refine wp_seq ?_
    obtain ⟨t6, h7, H⟩ := bind_some H
    refine s_region ?_
    refine s_val hF rfl rfl rfl (e_move hF rfl) ?_; intro a hF
    refine s_val hF rfl rfl rfl (e_lda (i := 1) 0 2 hF hM rfl rfl rfl rfl Try.isAgg25 Try.sizeOf25 rfl) ?_; intro a hF
    refine s_val hF rfl rfl rfl (e_move hF rfl) ?_; intro a hF
    refine s_callx hF rfl rfl rfl Try.call84 (impl_againOf.calls K l0 u0 (q0.frm hM.frm) (hM.apart_arg q0 (fun _ => List.not_mem_nil) [] rfl) a1 a2 (hM.lend [] rfl rfl) t6 h7) ?_; intro a w v hF hR
    obtain ⟨b8, v9, z10, hR, rfl⟩ := hR; have hM := hM.back [] [0, 1] (by decide) rfl rfl hR
    refine s_val hF rfl rfl rfl (e_assign hF rfl) ?_; intro a hF
    refine s_nil ?_
    refine then_n ?_
    refine wp_seq ?_
    refine s_region ?_
    refine s_val hF rfl rfl rfl (e_assign hF rfl) ?_; intro a hF
    refine s_nil ?_
    refine then_n ?_
    refine wp_seq ?_
    refine wp_seq ?_
    obtain ⟨t11, h12, H⟩ := bind_some H
    refine s_region ?_
    refine s_val hF rfl rfl rfl (e_move hF rfl) ?_; intro a hF
    refine s_call hF rfl rfl rfl Try.call89 (impl_again_outcomes__c.calls K u0 l0 (q0.frm hM.frm) v9 t6 z10 (hM.ne 1 rfl) b8 (hM.get 0 rfl) t11 h12) ?_; intro a w v hF hf hR
    subst hR; have hM := hM.grow hf
    refine s_val hF rfl rfl rfl (e_move hF rfl) ?_; intro a hF
    refine s_nil ?_
    refine then_n ?_
    refine wp_block ?_
    obtain ⟨o39, h40, H⟩ := bind_some H
    refine wp_mono (Q := fun e a w => (e = Exit.exit 0 ∧ ∃ x29 : Int, x29 = o39 ∧ Fr 40 a [(6, pt b2 0), (8, pt b8 0), (9, Value.int .i64 x29)] ∧ Ms [] w0 w [boxR b2 [Pt.ar (Ar.zero 2)] 51, boxR b8 [Pt.any u0, Pt.any v9] 80, nestR cd3 33 v9 z10 t6])) ?_ ?_
    · refine s_loop (fun kq a w => ∃ x30 : Int, ∃ x31 : Int, impl_MeanRolled.l0 K l0 a2 t6 t11 kq x30 x31 = some o39 ∧ Fr 40 a [(2, Value.int .i64 a2), (6, pt b2 0), (8, pt b8 0), (9, Value.int .i64 x30), (22, Value.int .i64 t11), (23, Value.int .i64 x31)] ∧ Ms [] w0 w [boxR b2 [Pt.ar (Ar.zero 2)] 51, boxR b8 [Pt.any u0, Pt.any v9] 80, nestR cd3 33 v9 z10 t6]) K ⟨0, 0, h40, hF.sub _ ⟨rfl, rfl, rfl, rfl, rfl, rfl, trivial⟩, hM.pick [2, 0, 1] rfl rfl⟩ ?_ ?_
      · rintro a w ⟨_, _, H, _⟩; exact none_some H
      · rintro k a w ⟨x30, x31, H, hF, hM⟩; rw [impl_MeanRolled.l0] at H
        refine wp_seq ?_
        refine s_region ?_
        refine s_val hF rfl rfl rfl (e_lss hF rfl rfl) ?_; intro a hF
        refine s_nil ?_
        refine then_n ?_
        refine wp_seq ?_
        rcases ite_cases H with ⟨c32, H⟩ | ⟨c32, H⟩
        ·
          refine s_cond_t hF rfl (decide_eq_true c32) ?_
          refine wp_skip ?_
          refine then_n ?_
          refine wp_seq ?_
          refine wp_block ?_
          refine wp_seq ?_
          refine s_region ?_
          refine s_val hF rfl rfl rfl (e_move hF rfl) ?_; intro a hF
          refine s_val hF rfl rfl rfl (e_assign hF rfl) ?_; intro a hF
          refine s_nil ?_
          refine then_n ?_
          obtain ⟨t33, h34, H⟩ := bind_some H
          obtain ⟨c36, H⟩ := ite_some H
          obtain ⟨t37, h38, H⟩ := bind_some H
          refine s_region ?_
          refine s_val hF rfl rfl rfl (e_move hF rfl) ?_; intro a hF
          refine s_val hF rfl rfl rfl (e_move hF rfl) ?_; intro a hF
          refine s_val hF rfl rfl rfl (e_move hF rfl) ?_; intro a hF
          refine s_val hF rfl rfl rfl (e_move hF rfl) ?_; intro a hF
          refine s_call hF rfl rfl rfl Try.call91 (impl_again_bestSets__c.calls K u0 l0 (q0.frm hM.frm) v9 t6 z10 (hM.ne 2 rfl) b8 (hM.get 1 rfl) x31 a2 t33 h34) ?_; intro a w v35 hF hf hR
          have hM := hM.fresh hf hR
          refine s_val hF rfl rfl rfl (e_ias cd3 hF rfl rfl (hM.sl 0 rfl).toF Try.underlying33 Try.sizeOf3 c36.1 c36.2) ?_; intro a hF
          refine s_val hF rfl rfl rfl (e_lds (m := 0) hF rfl (hM.sl 0 rfl) (getD_some (z := (0 : Int)) c36.1 c36.2) rfl rfl Try.isAgg3) ?_; intro a hF
          refine s_val hF rfl rfl rfl (ek_conv hF rfl Try.underlying3 Try.underlying93) ?_; intro a hF
          refine s_call hF rfl rfl rfl Try.call93 (bits_OnesCount.calls K (Go.IntKind.u64.wrap (t33.getD (0 : Int).toNat (0 : Int))) t37 h38) ?_; intro a w v hF hf hR
          subst hR; have hM := hM.grow hf
          refine s_val hF rfl rfl rfl (e_add hF rfl rfl) ?_; intro a hF
          refine s_val hF rfl rfl rfl (e_assign hF rfl) ?_; intro a hF
          refine s_nil ?_
          refine blk_n ?_
          refine then_n ?_
          refine s_region ?_
          refine s_val hF rfl rfl rfl (e_add hF rfl rfl) ?_; intro a hF
          refine s_val hF rfl rfl rfl (e_move hF rfl) ?_; intro a hF
          refine s_nil ?_
          refine then_n ?_
          exact ⟨(wrap64 (x30 + t37)), (wrap64 (x31 + 1)), H, hF.sub _ ⟨rfl, rfl, rfl, rfl, rfl, rfl, trivial⟩, hM.pick [1, 2, 3] rfl rfl⟩
        ·
          refine s_cond_f hF rfl (decide_eq_false c32) ?_
          refine wp_exit ?_
          refine then_x ?_
          refine then_x ?_
          exact ⟨rfl, x30, some_some H, hF.sub _ ⟨rfl, rfl, rfl, trivial⟩, hM.pick [0, 1, 2] rfl rfl⟩
    · rintro e a w ⟨rfl, x29, rfl, hF, hM⟩
      skip
      refine blk_x ?_
      refine then_n ?_
      refine wp_seq ?_
      obtain ⟨t41, h42, H⟩ := bind_some H
      refine s_region ?_
      refine s_val hF rfl rfl rfl (e_move hF rfl) ?_; intro a hF
      refine s_val hF rfl rfl rfl (e_move hF rfl) ?_; intro a hF
      refine s_call hF rfl rfl rfl Try.call85 (impl_again_mean__c.calls K u0 l0 (q0.frm hM.frm) v9 t6 z10 (hM.ne 2 rfl) b8 (hM.get 1 rfl) x29 1 t41 h42) ?_; intro a w v hF hf hR
      subst hR; have hM := hM.grow hf
      refine s_stw (i := 0) (ps' := [Pt.ar t41]) hF hM rfl rfl rfl rfl rfl rfl Try.sizeOf51 rfl ?_; intro a w hF hM
      refine s_val hF rfl rfl rfl (e_assign hF rfl) ?_; intro a hF
      refine s_nil ?_
      refine then_n ?_
      refine wp_ret ?_
      obtain rfl := some_some H
      refine s_ret [ag [Pt.ar t41], Value.bool true] hF Try.results52 ⟨⟨_, rfl, rv_box hM (i := 0) rfl Try.isAgg51 Try.sizeOf51 rfl⟩, rfl, trivial⟩ ?_
      exact ⟨_, rfl, hM.frm, rfl⟩
  ·
    refine s_cond_t hF rfl (congrArg Bool.not (bf c5)) ?_
    refine wp_seq ?_
    refine s_region ?_
    refine s_val hF rfl rfl rfl (e_build' (cells := cat [Pt.ar (⟨[0, 0], rfl⟩ : Ar 2)]) hF rfl (by kernel_rfl)) ?_; intro a hF
    refine s_stw (i := 0) (ps' := [Pt.ar (⟨[0, 0], rfl⟩ : Ar 2)]) hF hM rfl rfl rfl rfl rfl rfl Try.sizeOf51 rfl ?_; intro a w hF hM
    refine s_val hF rfl rfl rfl (e_assign hF rfl) ?_; intro a hF
    refine s_nil ?_
    refine then_n ?_
    refine wp_ret ?_
    refine then_r ?_
    obtain rfl := some_some H
    refine s_ret [ag [Pt.ar (⟨[0, 0], rfl⟩ : Ar 2)], Value.bool false] hF Try.results52 ⟨⟨_, rfl, rv_box hM (i := 0) rfl Try.isAgg51 Try.sizeOf51 rfl⟩, rfl, trivial⟩ ?_
    exact ⟨_, rfl, hM.frm, rfl⟩

/-! ### loop.example/g01210/laws.eqIntA2: function 40 -/
def laws_eqIntA2.l0 (K : Nat) (a0 : (Ar 2)) (a1 : (Ar 2)) : Nat → Int → Option (Sum Unit Bool)
  | 0, _ => none
  | k + 1, x8 => if x8 < 2 then (if (0 : Int) ≤ x8 ∧ x8 < 2 then (if (a0.get x8) = (a1.get x8) then (laws_eqIntA2.l0 K a0 a1 k (wrap64 (x8 + 1))) else (some (Sum.inr false))) else none) else (some (Sum.inl ()))
def laws_eqIntA2.f (K : Nat) (a0 : (Ar 2)) (a1 : (Ar 2)) : Option Bool := (laws_eqIntA2.l0 K a0 a1 K 0).bind fun o12 => (match o12 with | .inl () => some true | .inr r14 => some r14)
set_option maxRecDepth 100000 in
set_option maxHeartbeats 4000000 in
theorem laws_eqIntA2.calls {w0 : World} (K : Nat) (a0 : (Ar 2)) (a1 : (Ar 2)) (r : Bool) (H : laws_eqIntA2.f K a0 a1 = some r) : Calls Try.prog 40 [ag [Pt.ar a0], ag [Pt.ar a1]].toArray w0 (Post w0 fun w v => v = Value.bool r) := by
  rw [laws_eqIntA2.f] at H
  refine s_start Try.func40 rfl Try.ntmps40 rfl ?_
  intro a hF
  have hM := Ms.start w0
  skip
  refine wp_seq ?_
  refine s_region ?_
  refine s_box (ps := [Pt.ar a0]) hF hM rfl rfl rfl rfl ?_; intro a w b1 hF hM
  refine s_box (ps := [Pt.ar a1]) hF hM rfl rfl rfl rfl ?_; intro a w b2 hF hM
  refine s_val hF rfl rfl rfl (e_assign hF rfl) ?_; intro a hF
  refine s_nil ?_
  refine then_n ?_
  refine wp_seq ?_
  refine wp_seq ?_
  refine s_region ?_
  refine s_val hF rfl rfl rfl (e_assign hF rfl) ?_; intro a hF
  refine s_nil ?_
  refine then_n ?_
  refine wp_block ?_
  obtain ⟨o12, h13, H⟩ := bind_some H
  refine wp_mono (Q := fun e a w => (e = Exit.exit 0 ∧ Sum.inl () = o12 ∧ Fr 17 a [] ∧ Ms [] w0 w []) ∨ (e = Exit.ret ∧ ∃ r14 : Bool, Sum.inr r14 = o12 ∧ Fr 17 a [(4, Value.bool r14)] ∧ Ms [] w0 w [])) ?_ ?_
  · refine s_loop (fun kq a w => ∃ x8 : Int, laws_eqIntA2.l0 K a0 a1 kq x8 = some o12 ∧ Fr 17 a [(2, pt b1 0), (3, pt b2 0), (5, Value.int .i64 x8)] ∧ Ms [] w0 w [boxR b1 [Pt.ar a0] 51, boxR b2 [Pt.ar a1] 51]) K ⟨0, h13, hF.sub _ ⟨rfl, rfl, rfl, trivial⟩, hM.pick [1, 0] rfl rfl⟩ ?_ ?_
    · rintro a w ⟨_, H, _⟩; exact none_some H
    · rintro k a w ⟨x8, H, hF, hM⟩; rw [laws_eqIntA2.l0] at H
      refine wp_seq ?_
      refine wp_seq ?_
      refine s_region ?_
      refine s_val hF rfl rfl rfl (e_move hF rfl) ?_; intro a hF
      refine s_val hF rfl rfl rfl (e_lss hF rfl rfl) ?_; intro a hF
      refine s_nil ?_
      refine then_n ?_
      rcases ite_cases H with ⟨c9, H⟩ | ⟨c9, H⟩
      ·
        refine s_cond_t hF rfl (decide_eq_true c9) ?_
        refine wp_skip ?_
        refine then_n ?_
        refine wp_seq ?_
        refine wp_block ?_
        refine wp_seq ?_
        obtain ⟨c10, H⟩ := ite_some H
        refine s_held (fun w => Ms [] w0 w [boxR b1 [Pt.ar a0] 51, boxR b2 [Pt.ar a1] 51]) #[false, false, false, false, false, false, false] mixed rfl rfl hM ?_; intro w hf hM; clear hf
        refine h_val 0 #[true, false, false, false, false, false, false] rfl (by kernel_rfl) hF rfl rfl rfl (fun w hS => e_move hF rfl) (hM.pick [0, 1] rfl rfl) ?_; intro a hF
        refine h_val 1 #[true, true, false, false, false, false, false] rfl (by kernel_rfl) hF rfl rfl rfl (fun w hS => e_ia hF rfl rfl Try.underlying51 Try.sizeOf3 c10.1 c10.2) (hM.pick [0, 1] rfl rfl) ?_; intro a hF
        refine h_val 2 #[true, true, true, false, false, false, false] rfl (by kernel_rfl) hF rfl rfl rfl (fun w hS => e_ldi (i := 0) (k := 0) hF hS rfl rfl rfl rfl rfl Try.isAgg3 c10.1 c10.2) (hM.pick [0, 1] rfl rfl) ?_; intro a hF
        refine h_val 3 #[true, true, true, true, false, false, false] rfl (by kernel_rfl) hF rfl rfl rfl (fun w hS => e_move hF rfl) (hM.pick [0, 1] rfl rfl) ?_; intro a hF
        refine h_val 4 #[true, true, true, true, true, false, false] rfl (by kernel_rfl) hF rfl rfl rfl (fun w hS => e_ia hF rfl rfl Try.underlying51 Try.sizeOf3 c10.1 c10.2) (hM.pick [0, 1] rfl rfl) ?_; intro a hF
        refine h_val 5 #[true, true, true, true, true, true, false] rfl (by kernel_rfl) hF rfl rfl rfl (fun w hS => e_ldi (i := 1) (k := 0) hF hS rfl rfl rfl rfl rfl Try.isAgg3 c10.1 c10.2) (hM.pick [0, 1] rfl rfl) ?_; intro a hF
        refine h_val 6 #[true, true, true, true, true, true, true] rfl (by kernel_rfl) hF rfl rfl rfl (fun w hS => e_neq hF rfl rfl) (hM.pick [0, 1] rfl rfl) ?_; intro a hF
        refine h_done rfl ?_
        refine then_n ?_
        rcases ite_cases H with ⟨c11, H⟩ | ⟨c11, H⟩
        ·
          refine s_cond_f hF rfl (congrArg Bool.not (decide_eq_true c11)) ?_
          refine wp_skip ?_
          refine blk_n ?_
          refine then_n ?_
          refine s_region ?_
          refine s_val hF rfl rfl rfl (e_move hF rfl) ?_; intro a hF
          refine s_val hF rfl rfl rfl (e_add hF rfl rfl) ?_; intro a hF
          refine s_val hF rfl rfl rfl (e_assign hF rfl) ?_; intro a hF
          refine s_nil ?_
          refine then_n ?_
          exact ⟨(wrap64 (x8 + 1)), H, hF.sub _ ⟨rfl, rfl, rfl, trivial⟩, hM.pick [0, 1] rfl rfl⟩
        ·
          refine s_cond_t hF rfl (congrArg Bool.not (decide_eq_false c11)) ?_
          refine wp_seq ?_
          refine s_region ?_
          refine s_val hF rfl rfl rfl (e_assign hF rfl) ?_; intro a hF
          refine s_nil ?_
          refine then_n ?_
          refine wp_ret ?_
          refine blk_r ?_
          refine then_r ?_
          refine then_r ?_
          exact Or.inr (⟨rfl, false, some_some H, hF.sub _ ⟨rfl, trivial⟩, hM.pick [] rfl rfl⟩)
      ·
        refine s_cond_f hF rfl (decide_eq_false c9) ?_
        refine wp_exit ?_
        refine then_x ?_
        refine then_x ?_
        exact Or.inl (⟨rfl, some_some H, hF.sub _ trivial, hM.pick [] rfl rfl⟩)
  · rintro e a w (⟨rfl, rfl, hF, hM⟩ | ⟨rfl, r14, rfl, hF, hM⟩)
    ·
      dsimp only at H
      refine blk_x ?_
      refine then_n ?_
      refine wp_seq ?_
      refine s_region ?_
      refine s_val hF rfl rfl rfl (e_assign hF rfl) ?_; intro a hF
      refine s_nil ?_
      refine then_n ?_
      refine wp_ret ?_
      obtain rfl := some_some H
      refine s_ret [Value.bool true] hF Try.results40 ⟨rfl, trivial⟩ ?_
      exact ⟨_, rfl, hM.frm, rfl⟩
    ·
      dsimp only at H
      refine blk_r ?_
      refine then_r ?_
      obtain rfl := some_some H
      refine s_ret [Value.bool r14] hF Try.results40 ⟨rfl, trivial⟩ ?_
      exact ⟨_, rfl, hM.frm, rfl⟩

/-! ### loop.example/g01210/laws.eqIntA6: function 77 -/
def laws_eqIntA6.l0 (K : Nat) (a0 : (Ar 6)) (a1 : (Ar 6)) : Nat → Int → Option (Sum Unit Bool)
  | 0, _ => none
  | k + 1, x8 => if x8 < 6 then (if (0 : Int) ≤ x8 ∧ x8 < 6 then (if (a0.get x8) = (a1.get x8) then (laws_eqIntA6.l0 K a0 a1 k (wrap64 (x8 + 1))) else (some (Sum.inr false))) else none) else (some (Sum.inl ()))
def laws_eqIntA6.f (K : Nat) (a0 : (Ar 6)) (a1 : (Ar 6)) : Option Bool := (laws_eqIntA6.l0 K a0 a1 K 0).bind fun o12 => (match o12 with | .inl () => some true | .inr r14 => some r14)
set_option maxRecDepth 100000 in
set_option maxHeartbeats 4000000 in
theorem laws_eqIntA6.calls {w0 : World} (K : Nat) (a0 : (Ar 6)) (a1 : (Ar 6)) (r : Bool) (H : laws_eqIntA6.f K a0 a1 = some r) : Calls Try.prog 77 [ag [Pt.ar a0], ag [Pt.ar a1]].toArray w0 (Post w0 fun w v => v = Value.bool r) := by
  rw [laws_eqIntA6.f] at H
  refine s_start Try.func77 rfl Try.ntmps77 rfl ?_
  intro a hF
  have hM := Ms.start w0
  skip
  refine wp_seq ?_
  refine s_region ?_
  refine s_box (ps := [Pt.ar a0]) hF hM rfl rfl rfl rfl ?_; intro a w b1 hF hM
  refine s_box (ps := [Pt.ar a1]) hF hM rfl rfl rfl rfl ?_; intro a w b2 hF hM
  refine s_val hF rfl rfl rfl (e_assign hF rfl) ?_; intro a hF
  refine s_nil ?_
  refine then_n ?_
  refine wp_seq ?_
  refine wp_seq ?_
  refine s_region ?_
  refine s_val hF rfl rfl rfl (e_assign hF rfl) ?_; intro a hF
  refine s_nil ?_
  refine then_n ?_
  refine wp_block ?_
  obtain ⟨o12, h13, H⟩ := bind_some H
  refine wp_mono (Q := fun e a w => (e = Exit.exit 0 ∧ Sum.inl () = o12 ∧ Fr 17 a [] ∧ Ms [] w0 w []) ∨ (e = Exit.ret ∧ ∃ r14 : Bool, Sum.inr r14 = o12 ∧ Fr 17 a [(4, Value.bool r14)] ∧ Ms [] w0 w [])) ?_ ?_
  · refine s_loop (fun kq a w => ∃ x8 : Int, laws_eqIntA6.l0 K a0 a1 kq x8 = some o12 ∧ Fr 17 a [(2, pt b1 0), (3, pt b2 0), (5, Value.int .i64 x8)] ∧ Ms [] w0 w [boxR b1 [Pt.ar a0] 28, boxR b2 [Pt.ar a1] 28]) K ⟨0, h13, hF.sub _ ⟨rfl, rfl, rfl, trivial⟩, hM.pick [1, 0] rfl rfl⟩ ?_ ?_
    · rintro a w ⟨_, H, _⟩; exact none_some H
    · rintro k a w ⟨x8, H, hF, hM⟩; rw [laws_eqIntA6.l0] at H
      refine wp_seq ?_
      refine wp_seq ?_
      refine s_region ?_
      refine s_val hF rfl rfl rfl (e_move hF rfl) ?_; intro a hF
      refine s_val hF rfl rfl rfl (e_lss hF rfl rfl) ?_; intro a hF
      refine s_nil ?_
      refine then_n ?_
      rcases ite_cases H with ⟨c9, H⟩ | ⟨c9, H⟩
      ·
        refine s_cond_t hF rfl (decide_eq_true c9) ?_
        refine wp_skip ?_
        refine then_n ?_
        refine wp_seq ?_
        refine wp_block ?_
        refine wp_seq ?_
        obtain ⟨c10, H⟩ := ite_some H
        refine s_held (fun w => Ms [] w0 w [boxR b1 [Pt.ar a0] 28, boxR b2 [Pt.ar a1] 28]) #[false, false, false, false, false, false, false] mixed rfl rfl hM ?_; intro w hf hM; clear hf
        refine h_val 0 #[true, false, false, false, false, false, false] rfl (by kernel_rfl) hF rfl rfl rfl (fun w hS => e_move hF rfl) (hM.pick [0, 1] rfl rfl) ?_; intro a hF
        refine h_val 1 #[true, true, false, false, false, false, false] rfl (by kernel_rfl) hF rfl rfl rfl (fun w hS => e_ia hF rfl rfl Try.underlying28 Try.sizeOf3 c10.1 c10.2) (hM.pick [0, 1] rfl rfl) ?_; intro a hF
        refine h_val 2 #[true, true, true, false, false, false, false] rfl (by kernel_rfl) hF rfl rfl rfl (fun w hS => e_ldi (i := 0) (k := 0) hF hS rfl rfl rfl rfl rfl Try.isAgg3 c10.1 c10.2) (hM.pick [0, 1] rfl rfl) ?_; intro a hF
        refine h_val 3 #[true, true, true, true, false, false, false] rfl (by kernel_rfl) hF rfl rfl rfl (fun w hS => e_move hF rfl) (hM.pick [0, 1] rfl rfl) ?_; intro a hF
        refine h_val 4 #[true, true, true, true, true, false, false] rfl (by kernel_rfl) hF rfl rfl rfl (fun w hS => e_ia hF rfl rfl Try.underlying28 Try.sizeOf3 c10.1 c10.2) (hM.pick [0, 1] rfl rfl) ?_; intro a hF
        refine h_val 5 #[true, true, true, true, true, true, false] rfl (by kernel_rfl) hF rfl rfl rfl (fun w hS => e_ldi (i := 1) (k := 0) hF hS rfl rfl rfl rfl rfl Try.isAgg3 c10.1 c10.2) (hM.pick [0, 1] rfl rfl) ?_; intro a hF
        refine h_val 6 #[true, true, true, true, true, true, true] rfl (by kernel_rfl) hF rfl rfl rfl (fun w hS => e_neq hF rfl rfl) (hM.pick [0, 1] rfl rfl) ?_; intro a hF
        refine h_done rfl ?_
        refine then_n ?_
        rcases ite_cases H with ⟨c11, H⟩ | ⟨c11, H⟩
        ·
          refine s_cond_f hF rfl (congrArg Bool.not (decide_eq_true c11)) ?_
          refine wp_skip ?_
          refine blk_n ?_
          refine then_n ?_
          refine s_region ?_
          refine s_val hF rfl rfl rfl (e_move hF rfl) ?_; intro a hF
          refine s_val hF rfl rfl rfl (e_add hF rfl rfl) ?_; intro a hF
          refine s_val hF rfl rfl rfl (e_assign hF rfl) ?_; intro a hF
          refine s_nil ?_
          refine then_n ?_
          exact ⟨(wrap64 (x8 + 1)), H, hF.sub _ ⟨rfl, rfl, rfl, trivial⟩, hM.pick [0, 1] rfl rfl⟩
        ·
          refine s_cond_t hF rfl (congrArg Bool.not (decide_eq_false c11)) ?_
          refine wp_seq ?_
          refine s_region ?_
          refine s_val hF rfl rfl rfl (e_assign hF rfl) ?_; intro a hF
          refine s_nil ?_
          refine then_n ?_
          refine wp_ret ?_
          refine blk_r ?_
          refine then_r ?_
          refine then_r ?_
          exact Or.inr (⟨rfl, false, some_some H, hF.sub _ ⟨rfl, trivial⟩, hM.pick [] rfl rfl⟩)
      ·
        refine s_cond_f hF rfl (decide_eq_false c9) ?_
        refine wp_exit ?_
        refine then_x ?_
        refine then_x ?_
        exact Or.inl (⟨rfl, some_some H, hF.sub _ trivial, hM.pick [] rfl rfl⟩)
  · rintro e a w (⟨rfl, rfl, hF, hM⟩ | ⟨rfl, r14, rfl, hF, hM⟩)
    ·
      dsimp only at H
      refine blk_x ?_
      refine then_n ?_
      refine wp_seq ?_
      refine s_region ?_
      refine s_val hF rfl rfl rfl (e_assign hF rfl) ?_; intro a hF
      refine s_nil ?_
      refine then_n ?_
      refine wp_ret ?_
      obtain rfl := some_some H
      refine s_ret [Value.bool true] hF Try.results77 ⟨rfl, trivial⟩ ?_
      exact ⟨_, rfl, hM.frm, rfl⟩
    ·
      dsimp only at H
      refine blk_r ?_
      refine then_r ?_
      obtain rfl := some_some H
      refine s_ret [Value.bool r14] hF Try.results77 ⟨rfl, trivial⟩ ?_
      exact ⟨_, rfl, hM.frm, rfl⟩

/-! ### loop.example/g01210/laws.eqIntA6S: function 34 -/
def laws_eqIntA6S.l0 (K : Nat) (l0 : (List (Ar 6))) (l1 : (List (Ar 6))) : Nat → Int → Option (Sum Unit Bool)
  | 0, _ => none
  | k + 1, x15 => if x15 < (l0.length : Int) then (if (0 : Int) ≤ x15 ∧ x15 < (l0.length : Int) then (if (0 : Int) ≤ x15 ∧ x15 < (l1.length : Int) then ((laws_eqIntA6.f K (l0.getD (x15 : Int).toNat (Ar.zero 6)) (l1.getD (x15 : Int).toNat (Ar.zero 6))).bind fun t19 => if t19 = true then (laws_eqIntA6S.l0 K l0 l1 k (wrap64 (x15 + 1))) else (some (Sum.inr false))) else none) else none) else (some (Sum.inl ()))
def laws_eqIntA6S.f (K : Nat) (l0 : (List (Ar 6))) (l1 : (List (Ar 6))) : Option Bool := if (l0.length : Int) = (l1.length : Int) then ((laws_eqIntA6S.l0 K l0 l1 K 0).bind fun o24 => (match o24 with | .inl () => some true | .inr r26 => some r26)) else (some false)
set_option maxRecDepth 100000 in
set_option maxHeartbeats 4000000 in
theorem laws_eqIntA6S.calls {w0 : World} (K : Nat) (l0 : (List (Ar 6))) (u0 : Value) (q0 : SlR cd28 w0 u0 l0) (l1 : (List (Ar 6))) (u1 : Value) (q1 : SlR cd28 w0 u1 l1) (r : Bool) (H : laws_eqIntA6S.f K l0 l1 = some r) : Calls Try.prog 34 [u0, u1].toArray w0 (Post w0 fun w v => v = Value.bool r) := by
  rw [laws_eqIntA6S.f] at H
  refine s_start Try.func34 rfl Try.ntmps34 rfl ?_
  intro a hF
  have hM := Ms.start w0
  skip
  refine wp_seq ?_
  refine s_region ?_
  refine s_val hF rfl rfl rfl (e_assign hF rfl) ?_; intro a hF
  refine s_nil ?_
  refine then_n ?_
  refine wp_seq ?_
  refine wp_seq ?_
  refine s_region ?_
  refine s_val hF rfl rfl rfl (e_move hF rfl) ?_; intro a hF
  refine s_val hF rfl rfl rfl (e_len hF rfl (q0.frm hM.frm).toF Try.underlying43) ?_; intro a hF
  refine s_val hF rfl rfl rfl (e_move hF rfl) ?_; intro a hF
  refine s_val hF rfl rfl rfl (e_len hF rfl (q1.frm hM.frm).toF Try.underlying43) ?_; intro a hF
  refine s_val hF rfl rfl rfl (e_neq hF rfl rfl) ?_; intro a hF
  refine s_nil ?_
  refine then_n ?_
  rcases ite_cases H with ⟨c1, H⟩ | ⟨c1, H⟩
  ·
    refine s_cond_f hF rfl (congrArg Bool.not (decide_eq_true c1)) ?_
    refine wp_skip ?_
    refine then_n ?_
    refine wp_seq ?_
    refine wp_seq ?_
    refine s_region ?_
    refine s_val hF rfl rfl rfl (e_assign hF rfl) ?_; intro a hF
    refine s_nil ?_
    refine then_n ?_
    refine wp_block ?_
    obtain ⟨o24, h25, H⟩ := bind_some H
    refine wp_mono (Q := fun e a w => (e = Exit.exit 0 ∧ Sum.inl () = o24 ∧ Fr 27 a [] ∧ Ms [] w0 w []) ∨ (e = Exit.ret ∧ ∃ r26 : Bool, Sum.inr r26 = o24 ∧ Fr 27 a [(4, Value.bool r26)] ∧ Ms [] w0 w [])) ?_ ?_
    · refine s_loop (fun kq a w => ∃ x15 : Int, laws_eqIntA6S.l0 K l0 l1 kq x15 = some o24 ∧ Fr 27 a [(0, u0), (1, u1), (5, Value.int .i64 x15)] ∧ Ms [] w0 w []) K ⟨0, h25, hF.sub _ ⟨rfl, rfl, rfl, trivial⟩, hM.pick [] rfl rfl⟩ ?_ ?_
      · rintro a w ⟨_, H, _⟩; exact none_some H
      · rintro k a w ⟨x15, H, hF, hM⟩; rw [laws_eqIntA6S.l0] at H
        refine wp_seq ?_
        refine wp_seq ?_
        refine s_region ?_
        refine s_val hF rfl rfl rfl (e_move hF rfl) ?_; intro a hF
        refine s_val hF rfl rfl rfl (e_move hF rfl) ?_; intro a hF
        refine s_val hF rfl rfl rfl (e_len hF rfl (q0.frm hM.frm).toF Try.underlying43) ?_; intro a hF
        refine s_val hF rfl rfl rfl (e_lss hF rfl rfl) ?_; intro a hF
        refine s_nil ?_
        refine then_n ?_
        rcases ite_cases H with ⟨c16, H⟩ | ⟨c16, H⟩
        ·
          refine s_cond_t hF rfl (decide_eq_true c16) ?_
          refine wp_skip ?_
          refine then_n ?_
          refine wp_seq ?_
          refine wp_block ?_
          refine wp_seq ?_
          obtain ⟨c17, H⟩ := ite_some H
          obtain ⟨c18, H⟩ := ite_some H
          obtain ⟨t19, h20, H⟩ := bind_some H
          refine s_held (fun w => Ms [] w0 w []) #[false, false, false, false, false, false, false, false, false, false] mixed rfl rfl hM ?_; intro w hf hM; clear hf
          refine h_val 0 #[true, false, false, false, false, false, false, false, false, false] rfl (by kernel_rfl) hF rfl rfl rfl (fun w hS => e_move hF rfl) (hM.pick [] rfl rfl) ?_; intro a hF
          refine h_val 1 #[true, true, false, false, false, false, false, false, false, false] rfl (by kernel_rfl) hF rfl rfl rfl (fun w hS => e_move hF rfl) (hM.pick [] rfl rfl) ?_; intro a hF
          have f21 := (q0.frm hM.frm).toF
          refine h_val 2 #[true, true, true, false, false, false, false, false, false, false] rfl (by kernel_rfl) hF rfl rfl rfl (fun w hS => e_ias cd28 hF rfl rfl f21 Try.underlying43 Try.sizeOf28 c17.1 c17.2) (hM.pick [] rfl rfl) ?_; intro a hF
          refine h_val 3 #[true, true, true, true, false, false, false, false, false, false] rfl (by kernel_rfl) hF rfl rfl rfl (fun w hS => e_ldsa (m := x15) hF rfl (q0.frm hS.frm) (getD_some (z := (Ar.zero 6)) c17.1 c17.2) Try.isAgg28 Try.sizeOf28) (hM.pick [] rfl rfl) ?_; intro a hF
          refine h_val 4 #[true, true, true, true, true, false, false, false, false, false] rfl (by kernel_rfl) hF rfl rfl rfl (fun w hS => e_move hF rfl) (hM.pick [] rfl rfl) ?_; intro a hF
          refine h_val 5 #[true, true, true, true, true, true, false, false, false, false] rfl (by kernel_rfl) hF rfl rfl rfl (fun w hS => e_move hF rfl) (hM.pick [] rfl rfl) ?_; intro a hF
          have f22 := (q1.frm hM.frm).toF
          refine h_val 6 #[true, true, true, true, true, true, true, false, false, false] rfl (by kernel_rfl) hF rfl rfl rfl (fun w hS => e_ias cd28 hF rfl rfl f22 Try.underlying43 Try.sizeOf28 c18.1 c18.2) (hM.pick [] rfl rfl) ?_; intro a hF
          refine h_val 7 #[true, true, true, true, true, true, true, true, false, false] rfl (by kernel_rfl) hF rfl rfl rfl (fun w hS => e_ldsa (m := x15) hF rfl (q1.frm hS.frm) (getD_some (z := (Ar.zero 6)) c18.1 c18.2) Try.isAgg28 Try.sizeOf28) (hM.pick [] rfl rfl) ?_; intro a hF
          refine h_one 8 #[true, true, true, true, true, true, true, true, true, false] rfl (by kernel_rfl) ?_
          refine s_call hF rfl rfl rfl Try.call77 (laws_eqIntA6.calls K (l0.getD (x15 : Int).toNat (Ar.zero 6)) (l1.getD (x15 : Int).toNat (Ar.zero 6)) t19 h20) ?_; intro a w v hF hf hR
          subst hR; have hM := hM.grow hf
          refine s_nil ⟨rfl, (hM.pick [] rfl rfl), ?_⟩
          refine h_val 9 #[true, true, true, true, true, true, true, true, true, true] rfl (by kernel_rfl) hF rfl rfl rfl (fun w hS => e_not hF rfl) (hM.pick [] rfl rfl) ?_; intro a hF
          refine h_done rfl ?_
          refine then_n ?_
          rcases ite_cases H with ⟨c23, H⟩ | ⟨c23, H⟩
          ·
            refine s_cond_f hF rfl (congrArg Bool.not c23) ?_
            refine wp_skip ?_
            refine blk_n ?_
            refine then_n ?_
            refine s_region ?_
            refine s_val hF rfl rfl rfl (e_move hF rfl) ?_; intro a hF
            refine s_val hF rfl rfl rfl (e_add hF rfl rfl) ?_; intro a hF
            refine s_val hF rfl rfl rfl (e_assign hF rfl) ?_; intro a hF
            refine s_nil ?_
            refine then_n ?_
            exact ⟨(wrap64 (x15 + 1)), H, hF.sub _ ⟨rfl, rfl, rfl, trivial⟩, hM.pick [] rfl rfl⟩
          ·
            refine s_cond_t hF rfl (congrArg Bool.not (bf c23)) ?_
            refine wp_seq ?_
            refine s_region ?_
            refine s_val hF rfl rfl rfl (e_assign hF rfl) ?_; intro a hF
            refine s_nil ?_
            refine then_n ?_
            refine wp_ret ?_
            refine blk_r ?_
            refine then_r ?_
            refine then_r ?_
            exact Or.inr (⟨rfl, false, some_some H, hF.sub _ ⟨rfl, trivial⟩, hM.pick [] rfl rfl⟩)
        ·
          refine s_cond_f hF rfl (decide_eq_false c16) ?_
          refine wp_exit ?_
          refine then_x ?_
          refine then_x ?_
          exact Or.inl (⟨rfl, some_some H, hF.sub _ trivial, hM.pick [] rfl rfl⟩)
    · rintro e a w (⟨rfl, rfl, hF, hM⟩ | ⟨rfl, r26, rfl, hF, hM⟩)
      ·
        dsimp only at H
        refine blk_x ?_
        refine then_n ?_
        refine wp_seq ?_
        refine s_region ?_
        refine s_val hF rfl rfl rfl (e_assign hF rfl) ?_; intro a hF
        refine s_nil ?_
        refine then_n ?_
        refine wp_ret ?_
        obtain rfl := some_some H
        refine s_ret [Value.bool true] hF Try.results34 ⟨rfl, trivial⟩ ?_
        exact ⟨_, rfl, hM.frm, rfl⟩
      ·
        dsimp only at H
        refine blk_r ?_
        refine then_r ?_
        obtain rfl := some_some H
        refine s_ret [Value.bool r26] hF Try.results34 ⟨rfl, trivial⟩ ?_
        exact ⟨_, rfl, hM.frm, rfl⟩
  ·
    refine s_cond_t hF rfl (congrArg Bool.not (decide_eq_false c1)) ?_
    refine wp_seq ?_
    refine s_region ?_
    refine s_val hF rfl rfl rfl (e_assign hF rfl) ?_; intro a hF
    refine s_nil ?_
    refine then_n ?_
    refine wp_ret ?_
    refine then_r ?_
    obtain rfl := some_some H
    refine s_ret [Value.bool false] hF Try.results34 ⟨rfl, trivial⟩ ?_
    exact ⟨_, rfl, hM.frm, rfl⟩

/-! ### loop.example/g01210/laws.FnExactMeanRolled: function 14 -/
def laws_FnExactMeanRolled.f (K : Nat) (l0 : (List (Ar 6))) (a1 : (Int × Int)) (a2 : Int) : Option Bool := (laws_szIntA6S.f K l0 1048576).bind fun t2 => if t2 < 0 then (some true) else ((laws_toIntA6S.f K l0).bind fun t5 => (laws_toGoal.f K a1).bind fun t8 => (spec_MeanRolled.f K t5 t8 a2).bind fun t10 => (laws_toIntA6S.f K l0).bind fun t13 => (laws_toGoal.f K a1).bind fun t16 => (impl_MeanRolled.f K t13 t16 a2).bind fun t18 => (laws_eqIntA2.f K t18.1 t10.1).bind fun t21 => if t21 = true then (if (t18.2 == t10.2) = true then ((laws_toIntA6S.f K l0).bind fun t25 => (laws_eqIntA6S.f K t13 t25).bind fun t28 => if t28 = true then (some true) else (some false)) else (some false)) else (some false))
set_option maxRecDepth 100000 in
set_option maxHeartbeats 4000000 in
theorem laws_FnExactMeanRolled.calls {w0 : World} (K : Nat) (l0 : (List (Ar 6))) (u0 : Value) (q0 : SlR cd28 w0 u0 l0) (a1 : (Int × Int)) (a2 : Int) (r : Bool) (H : laws_FnExactMeanRolled.f K l0 a1 a2 = some r) : Calls Try.prog 14 [u0, ag [Pt.int a1.1, Pt.int a1.2], Value.int .i64 a2].toArray w0 (Post w0 fun w v => v = Value.bool r) := by
  rw [laws_FnExactMeanRolled.f] at H
  refine s_start Try.func14 rfl Try.ntmps14 rfl ?_
  intro a hF
  have hM := Ms.start w0
  skip
  refine wp_seq ?_
  refine s_region ?_
  refine s_box (ps := [Pt.int a1.1, Pt.int a1.2]) hF hM rfl rfl rfl rfl ?_; intro a w b1 hF hM
  refine s_val hF rfl rfl rfl (e_assign hF rfl) ?_; intro a hF
  refine s_nil ?_
  refine then_n ?_
  refine wp_seq ?_
  refine s_region ?_
  refine s_val hF rfl rfl rfl (e_assign hF rfl) ?_; intro a hF
  refine s_nil ?_
  refine then_n ?_
  refine wp_seq ?_
  obtain ⟨t2, h3, H⟩ := bind_some H
  refine s_region ?_
  refine s_val hF rfl rfl rfl (e_move hF rfl) ?_; intro a hF
  refine s_val hF rfl rfl rfl (e_move hF rfl) ?_; intro a hF
  refine s_call hF rfl rfl rfl Try.call30 (laws_szIntA6S.calls K l0 u0 (q0.frm hM.frm) 1048576 t2 h3) ?_; intro a w v hF hf hR
  subst hR; have hM := hM.grow hf
  refine s_val hF rfl rfl rfl (e_assign hF rfl) ?_; intro a hF
  refine s_nil ?_
  refine then_n ?_
  refine wp_seq ?_
  refine wp_seq ?_
  refine s_region ?_
  refine s_val hF rfl rfl rfl (e_move hF rfl) ?_; intro a hF
  refine s_val hF rfl rfl rfl (e_lss hF rfl rfl) ?_; intro a hF
  refine s_nil ?_
  refine then_n ?_
  rcases ite_cases H with ⟨c4, H⟩ | ⟨c4, H⟩
  ·
    refine s_cond_t hF rfl (decide_eq_true c4) ?_
    refine wp_seq ?_
    refine s_region ?_
    refine s_val hF rfl rfl rfl (e_assign hF rfl) ?_; intro a hF
    refine s_nil ?_
    refine then_n ?_
    refine wp_ret ?_
    refine then_r ?_
    obtain rfl := some_some H
    refine s_ret [Value.bool true] hF Try.results14 ⟨rfl, trivial⟩ ?_
    exact ⟨_, rfl, hM.frm, rfl⟩
  ·
    refine s_cond_f hF rfl (decide_eq_false c4) ?_
    refine wp_skip ?_
    refine then_n ?_
    refine wp_seq ?_
    obtain ⟨t5, h6, H⟩ := bind_some H
    obtain ⟨t8, h9, H⟩ := bind_some H
    obtain ⟨t10, h11, H⟩ := bind_some H
    refine wp_mono (Q := fun e a w => e = Exit.normal ∧ ∃ v7 : Value, ∃ b12 : Nat, Fr 51 a [(0, u0), (2, Value.int .i64 a2), (4, pt b1 0), (8, pt b12 0), (9, Value.bool t10.2)] ∧ Ms [] w0 w [rowR cd28 v7 t5, boxR b12 [Pt.ar t10.1] 51, boxR b1 [Pt.int a1.1, Pt.int a1.2] 23]) ?_ ?_
    · skip
      refine s_held (fun w => Ms [] w0 w [boxR b1 [Pt.int a1.1, Pt.int a1.2] 23]) #[false, false, false, false, false, false, false, false, false, false, false, false] mixed rfl rfl hM ?_; intro w hf hM; clear hf
      refine h_val 0 #[true, false, false, false, false, false, false, false, false, false, false, false] rfl (by kernel_rfl) hF rfl rfl rfl (fun w hS => e_move hF rfl) (hM.pick [0] rfl rfl) ?_; intro a hF
      refine h_val 2 #[true, false, true, false, false, false, false, false, false, false, false, false] rfl (by kernel_rfl) hF rfl rfl rfl (fun w hS => e_lda (i := 0) 0 2 hF hS rfl rfl rfl rfl Try.isAgg23 Try.sizeOf23 rfl) (hM.pick [0] rfl rfl) ?_; intro a hF
      refine h_val 4 #[true, false, true, false, true, false, false, false, false, false, false, false] rfl (by kernel_rfl) hF rfl rfl rfl (fun w hS => e_move hF rfl) (hM.pick [0] rfl rfl) ?_; intro a hF
      refine h_two 1 9 #[true, true, true, false, true, false, false, false, false, false, false, false] #[true, false, true, false, true, false, false, false, false, true, false, false] rfl rfl rfl rfl (by kernel_rfl) ?_ ?_
      · skip
        refine s_call hF rfl rfl rfl Try.call32 (laws_toIntA6S.calls K l0 u0 (q0.frm hM.frm) t5 h6) ?_; intro a w v7 hF hf hR
        have hM := hM.fresh hf hR
        refine s_nil ⟨rfl, (hM.pick [1] rfl rfl), ?_⟩
        refine h_two 3 9 #[true, true, true, true, true, false, false, false, false, false, false, false] #[true, true, true, false, true, false, false, false, false, true, false, false] rfl rfl rfl rfl (by kernel_rfl) ?_ ?_
        · skip
          refine s_call hF rfl rfl rfl Try.call16 (laws_toGoal.calls K a1 t8 h9) ?_; intro a w v hF hf hR
          subst hR; have hM := hM.grow hf
          refine s_nil ⟨rfl, (hM.pick [1] rfl rfl), ?_⟩
          refine h_two 5 9 #[true, true, true, true, true, true, false, false, false, false, false, false] #[true, true, true, true, true, false, false, false, false, true, false, false] rfl rfl rfl rfl (by kernel_rfl) ?_ ?_
          · skip
            refine s_call hF rfl rfl rfl Try.call51 (spec_MeanRolled.calls K t5 v7 (hM.sl 0 rfl) t8 a2 t10 h11) ?_; intro a w v hF hf hR
            subst hR; have hM := hM.grow hf
            refine s_nil ⟨rfl, (hM.pick [1] rfl rfl), ?_⟩
            refine h_val 6 #[true, true, true, true, true, true, true, false, false, false, false, false] rfl (by kernel_rfl) hF rfl rfl rfl (fun w hS => e_move hF rfl) (hM.pick [1] rfl rfl) ?_; intro a hF
            refine h_val 7 #[true, true, true, true, true, true, true, true, false, false, false, false] rfl (by kernel_rfl) hF rfl rfl rfl (fun w hS => e_extract hF rfl rfl) (hM.pick [1] rfl rfl) ?_; intro a hF
            refine h_val 8 #[true, true, true, true, true, true, true, true, true, false, false, false] rfl (by kernel_rfl) hF rfl rfl rfl (fun w hS => e_extract hF rfl rfl) (hM.pick [1] rfl rfl) ?_; intro a hF
            refine h_one 9 #[true, true, true, true, true, true, true, true, true, true, false, false] rfl (by kernel_rfl) ?_
            refine s_alloc (ps := [Pt.ar (Ar.zero 2)]) hF hM rfl rfl zv51 rfl ?_; intro a w b12 hF hM
            refine s_nil ⟨rfl, (hM.pick [2] rfl rfl), ?_⟩
            refine h_one 10 #[true, true, true, true, true, true, true, true, true, true, true, false] rfl (by kernel_rfl) ?_
            refine s_stw (i := 0) (ps' := [Pt.ar t10.1]) hF hM rfl rfl rfl rfl rfl rfl Try.sizeOf51 rfl ?_; intro a w hF hM
            refine s_nil ⟨rfl, (hM.pick [2] rfl rfl), ?_⟩
            refine h_val 11 #[true, true, true, true, true, true, true, true, true, true, true, true] rfl (by kernel_rfl) hF rfl rfl rfl (fun w hS => e_assign hF rfl) (hM.pick [2] rfl rfl) ?_; intro a hF
            exact h_done rfl ⟨rfl, v7, b12, hF.sub _ ⟨rfl, rfl, rfl, rfl, rfl, trivial⟩, hM.pick [1, 0, 2] rfl rfl⟩
          · skip
            refine s_alloc (ps := [Pt.ar (Ar.zero 2)]) hF hM rfl rfl zv51 rfl ?_; intro a w b12 hF hM
            refine s_nil ⟨rfl, (hM.pick [2] rfl rfl), ?_⟩
            refine h_one 5 #[true, true, true, true, true, true, false, false, false, true, false, false] rfl (by kernel_rfl) ?_
            refine s_call hF rfl rfl rfl Try.call51 (spec_MeanRolled.calls K t5 v7 (hM.sl 1 rfl) t8 a2 t10 h11) ?_; intro a w v hF hf hR
            subst hR; have hM := hM.grow hf
            refine s_nil ⟨rfl, (hM.pick [2] rfl rfl), ?_⟩
            refine h_val 6 #[true, true, true, true, true, true, true, false, false, true, false, false] rfl (by kernel_rfl) hF rfl rfl rfl (fun w hS => e_move hF rfl) (hM.pick [2] rfl rfl) ?_; intro a hF
            refine h_val 7 #[true, true, true, true, true, true, true, true, false, true, false, false] rfl (by kernel_rfl) hF rfl rfl rfl (fun w hS => e_extract hF rfl rfl) (hM.pick [2] rfl rfl) ?_; intro a hF
            refine h_val 8 #[true, true, true, true, true, true, true, true, true, true, false, false] rfl (by kernel_rfl) hF rfl rfl rfl (fun w hS => e_extract hF rfl rfl) (hM.pick [2] rfl rfl) ?_; intro a hF
            refine h_one 10 #[true, true, true, true, true, true, true, true, true, true, true, false] rfl (by kernel_rfl) ?_
            refine s_stw (i := 0) (ps' := [Pt.ar t10.1]) hF hM rfl rfl rfl rfl rfl rfl Try.sizeOf51 rfl ?_; intro a w hF hM
            refine s_nil ⟨rfl, (hM.pick [2] rfl rfl), ?_⟩
            refine h_val 11 #[true, true, true, true, true, true, true, true, true, true, true, true] rfl (by kernel_rfl) hF rfl rfl rfl (fun w hS => e_assign hF rfl) (hM.pick [2] rfl rfl) ?_; intro a hF
            exact h_done rfl ⟨rfl, v7, b12, hF.sub _ ⟨rfl, rfl, rfl, rfl, rfl, trivial⟩, hM.pick [1, 0, 2] rfl rfl⟩
        · skip
          refine s_alloc (ps := [Pt.ar (Ar.zero 2)]) hF hM rfl rfl zv51 rfl ?_; intro a w b12 hF hM
          refine s_nil ⟨rfl, (hM.pick [2] rfl rfl), ?_⟩
          refine h_one 3 #[true, true, true, true, true, false, false, false, false, true, false, false] rfl (by kernel_rfl) ?_
          refine s_call hF rfl rfl rfl Try.call16 (laws_toGoal.calls K a1 t8 h9) ?_; intro a w v hF hf hR
          subst hR; have hM := hM.grow hf
          refine s_nil ⟨rfl, (hM.pick [2] rfl rfl), ?_⟩
          refine h_one 5 #[true, true, true, true, true, true, false, false, false, true, false, false] rfl (by kernel_rfl) ?_
          refine s_call hF rfl rfl rfl Try.call51 (spec_MeanRolled.calls K t5 v7 (hM.sl 1 rfl) t8 a2 t10 h11) ?_; intro a w v hF hf hR
          subst hR; have hM := hM.grow hf
          refine s_nil ⟨rfl, (hM.pick [2] rfl rfl), ?_⟩
          refine h_val 6 #[true, true, true, true, true, true, true, false, false, true, false, false] rfl (by kernel_rfl) hF rfl rfl rfl (fun w hS => e_move hF rfl) (hM.pick [2] rfl rfl) ?_; intro a hF
          refine h_val 7 #[true, true, true, true, true, true, true, true, false, true, false, false] rfl (by kernel_rfl) hF rfl rfl rfl (fun w hS => e_extract hF rfl rfl) (hM.pick [2] rfl rfl) ?_; intro a hF
          refine h_val 8 #[true, true, true, true, true, true, true, true, true, true, false, false] rfl (by kernel_rfl) hF rfl rfl rfl (fun w hS => e_extract hF rfl rfl) (hM.pick [2] rfl rfl) ?_; intro a hF
          refine h_one 10 #[true, true, true, true, true, true, true, true, true, true, true, false] rfl (by kernel_rfl) ?_
          refine s_stw (i := 0) (ps' := [Pt.ar t10.1]) hF hM rfl rfl rfl rfl rfl rfl Try.sizeOf51 rfl ?_; intro a w hF hM
          refine s_nil ⟨rfl, (hM.pick [2] rfl rfl), ?_⟩
          refine h_val 11 #[true, true, true, true, true, true, true, true, true, true, true, true] rfl (by kernel_rfl) hF rfl rfl rfl (fun w hS => e_assign hF rfl) (hM.pick [2] rfl rfl) ?_; intro a hF
          exact h_done rfl ⟨rfl, v7, b12, hF.sub _ ⟨rfl, rfl, rfl, rfl, rfl, trivial⟩, hM.pick [1, 0, 2] rfl rfl⟩
      · skip
        refine s_alloc (ps := [Pt.ar (Ar.zero 2)]) hF hM rfl rfl zv51 rfl ?_; intro a w b12 hF hM
        refine s_nil ⟨rfl, (hM.pick [1] rfl rfl), ?_⟩
        refine h_one 1 #[true, true, true, false, true, false, false, false, false, true, false, false] rfl (by kernel_rfl) ?_
        refine s_call hF rfl rfl rfl Try.call32 (laws_toIntA6S.calls K l0 u0 (q0.frm hM.frm) t5 h6) ?_; intro a w v7 hF hf hR
        have hM := hM.fresh hf hR
        refine s_nil ⟨rfl, (hM.pick [2] rfl rfl), ?_⟩
        refine h_one 3 #[true, true, true, true, true, false, false, false, false, true, false, false] rfl (by kernel_rfl) ?_
        refine s_call hF rfl rfl rfl Try.call16 (laws_toGoal.calls K a1 t8 h9) ?_; intro a w v hF hf hR
        subst hR; have hM := hM.grow hf
        refine s_nil ⟨rfl, (hM.pick [2] rfl rfl), ?_⟩
        refine h_one 5 #[true, true, true, true, true, true, false, false, false, true, false, false] rfl (by kernel_rfl) ?_
        refine s_call hF rfl rfl rfl Try.call51 (spec_MeanRolled.calls K t5 v7 (hM.sl 0 rfl) t8 a2 t10 h11) ?_; intro a w v hF hf hR
        subst hR; have hM := hM.grow hf
        refine s_nil ⟨rfl, (hM.pick [2] rfl rfl), ?_⟩
        refine h_val 6 #[true, true, true, true, true, true, true, false, false, true, false, false] rfl (by kernel_rfl) hF rfl rfl rfl (fun w hS => e_move hF rfl) (hM.pick [2] rfl rfl) ?_; intro a hF
        refine h_val 7 #[true, true, true, true, true, true, true, true, false, true, false, false] rfl (by kernel_rfl) hF rfl rfl rfl (fun w hS => e_extract hF rfl rfl) (hM.pick [2] rfl rfl) ?_; intro a hF
        refine h_val 8 #[true, true, true, true, true, true, true, true, true, true, false, false] rfl (by kernel_rfl) hF rfl rfl rfl (fun w hS => e_extract hF rfl rfl) (hM.pick [2] rfl rfl) ?_; intro a hF
        refine h_one 10 #[true, true, true, true, true, true, true, true, true, true, true, false] rfl (by kernel_rfl) ?_
        refine s_stw (i := 1) (ps' := [Pt.ar t10.1]) hF hM rfl rfl rfl rfl rfl rfl Try.sizeOf51 rfl ?_; intro a w hF hM
        refine s_nil ⟨rfl, (hM.pick [2] rfl rfl), ?_⟩
        refine h_val 11 #[true, true, true, true, true, true, true, true, true, true, true, true] rfl (by kernel_rfl) hF rfl rfl rfl (fun w hS => e_assign hF rfl) (hM.pick [2] rfl rfl) ?_; intro a hF
        exact h_done rfl ⟨rfl, v7, b12, hF.sub _ ⟨rfl, rfl, rfl, rfl, rfl, trivial⟩, hM.pick [0, 1, 2] rfl rfl⟩
    rintro e a w ⟨rfl, v7, b12, hF, hM⟩
    refine then_n ?_
    refine wp_seq ?_
    obtain ⟨t13, h14, H⟩ := bind_some H
    refine s_region ?_
    refine s_val hF rfl rfl rfl (e_move hF rfl) ?_; intro a hF
    refine s_call hF rfl rfl rfl Try.call32 (laws_toIntA6S.calls K l0 u0 (q0.frm hM.frm) t13 h14) ?_; intro a w v15 hF hf hR
    have hM := hM.fresh hf hR
    refine s_val hF rfl rfl rfl (e_assign hF rfl) ?_; intro a hF
    refine s_nil ?_
    refine then_n ?_
    refine wp_seq ?_
    obtain ⟨t16, h17, H⟩ := bind_some H
    obtain ⟨t18, h19, H⟩ := bind_some H
    refine s_region ?_
    refine s_val hF rfl rfl rfl (e_move hF rfl) ?_; intro a hF
    refine s_val hF rfl rfl rfl (e_lda (i := 3) 0 2 hF hM rfl rfl rfl rfl Try.isAgg23 Try.sizeOf23 rfl) ?_; intro a hF
    refine s_call hF rfl rfl rfl Try.call16 (laws_toGoal.calls K a1 t16 h17) ?_; intro a w v hF hf hR
    subst hR; have hM := hM.grow hf
    refine s_val hF rfl rfl rfl (e_move hF rfl) ?_; intro a hF
    refine s_call hF rfl rfl rfl Try.call52 (impl_MeanRolled.calls K t13 v15 (hM.sl 0 rfl) t16 a2 t18 h19) ?_; intro a w v hF hf hR
    subst hR; have hM := hM.grow hf
    refine s_val hF rfl rfl rfl (e_move hF rfl) ?_; intro a hF
    refine s_val hF rfl rfl rfl (e_extract hF rfl rfl) ?_; intro a hF
    refine s_val hF rfl rfl rfl (e_extract hF rfl rfl) ?_; intro a hF
    refine s_alloc (ps := [Pt.ar (Ar.zero 2)]) hF hM rfl rfl zv51 rfl ?_; intro a w b20 hF hM
    refine s_stw (i := 0) (ps' := [Pt.ar t18.1]) hF hM rfl rfl rfl rfl rfl rfl Try.sizeOf51 rfl ?_; intro a w hF hM
    refine s_val hF rfl rfl rfl (e_assign hF rfl) ?_; intro a hF
    refine s_nil ?_
    refine then_n ?_
    refine wp_seq ?_
    refine wp_seq ?_
    obtain ⟨t21, h22, H⟩ := bind_some H
    rcases ite_cases H with ⟨c23, H⟩ | ⟨c23, H⟩
    ·
      refine s_region ?_
      refine s_val hF rfl rfl rfl (e_lda (i := 0) 0 1 hF hM rfl rfl rfl rfl Try.isAgg51 Try.sizeOf51 rfl) ?_; intro a hF
      refine s_val hF rfl rfl rfl (e_lda (i := 3) 0 1 hF hM rfl rfl rfl rfl Try.isAgg51 Try.sizeOf51 rfl) ?_; intro a hF
      refine s_call hF rfl rfl rfl Try.call40 (laws_eqIntA2.calls K t18.1 t10.1 t21 h22) ?_; intro a w v hF hf hR
      subst hR; have hM := hM.grow hf
      refine s_val hF rfl rfl rfl (e_not hF rfl) ?_; intro a hF
      refine s_val hF rfl rfl rfl (e_move hF rfl) ?_; intro a hF
      have hF := hF.topb (congrArg Bool.not c23)
      refine s_val hF rfl rfl rfl (e_move hF rfl) ?_; intro a hF
      refine s_val hF rfl rfl rfl (e_move hF rfl) ?_; intro a hF
      refine s_val hF rfl rfl rfl (e_bneq hF rfl rfl Try.underlying4) ?_; intro a hF
      refine s_val hF rfl rfl rfl (e_pick_f hF rfl rfl) ?_; intro a hF
      refine s_nil ?_
      refine then_n ?_
      rcases ite_cases H with ⟨c24, H⟩ | ⟨c24, H⟩
      ·
        refine s_cond_f hF rfl (congrArg Bool.not c24) ?_
        refine wp_skip ?_
        refine then_n ?_
        refine wp_seq ?_
        refine wp_seq ?_
        obtain ⟨t25, h26, H⟩ := bind_some H
        obtain ⟨t28, h29, H⟩ := bind_some H
        refine s_region ?_
        refine s_val hF rfl rfl rfl (e_move hF rfl) ?_; intro a hF
        refine s_val hF rfl rfl rfl (e_move hF rfl) ?_; intro a hF
        refine s_call hF rfl rfl rfl Try.call32 (laws_toIntA6S.calls K l0 u0 (q0.frm hM.frm) t25 h26) ?_; intro a w v27 hF hf hR
        have hM := hM.fresh hf hR
        refine s_call hF rfl rfl rfl Try.call34 (laws_eqIntA6S.calls K t13 v15 (hM.sl 2 rfl) t25 v27 (hM.sl 0 rfl) t28 h29) ?_; intro a w v hF hf hR
        subst hR; have hM := hM.grow hf
        refine s_val hF rfl rfl rfl (e_not hF rfl) ?_; intro a hF
        refine s_nil ?_
        refine then_n ?_
        rcases ite_cases H with ⟨c30, H⟩ | ⟨c30, H⟩
        ·
          refine s_cond_f hF rfl (congrArg Bool.not c30) ?_
          refine wp_skip ?_
          refine then_n ?_
          refine wp_seq ?_
          refine s_region ?_
          refine s_val hF rfl rfl rfl (e_assign hF rfl) ?_; intro a hF
          refine s_nil ?_
          refine then_n ?_
          refine wp_ret ?_
          obtain rfl := some_some H
          refine s_ret [Value.bool true] hF Try.results14 ⟨rfl, trivial⟩ ?_
          exact ⟨_, rfl, hM.frm, rfl⟩
        ·
          refine s_cond_t hF rfl (congrArg Bool.not (bf c30)) ?_
          refine wp_seq ?_
          refine s_region ?_
          refine s_val hF rfl rfl rfl (e_assign hF rfl) ?_; intro a hF
          refine s_nil ?_
          refine then_n ?_
          refine wp_ret ?_
          refine then_r ?_
          obtain rfl := some_some H
          refine s_ret [Value.bool false] hF Try.results14 ⟨rfl, trivial⟩ ?_
          exact ⟨_, rfl, hM.frm, rfl⟩
      ·
        refine s_cond_t hF rfl (congrArg Bool.not (bf c24)) ?_
        refine wp_seq ?_
        refine s_region ?_
        refine s_val hF rfl rfl rfl (e_assign hF rfl) ?_; intro a hF
        refine s_nil ?_
        refine then_n ?_
        refine wp_ret ?_
        refine then_r ?_
        obtain rfl := some_some H
        refine s_ret [Value.bool false] hF Try.results14 ⟨rfl, trivial⟩ ?_
        exact ⟨_, rfl, hM.frm, rfl⟩
    ·
      refine s_region ?_
      refine s_val hF rfl rfl rfl (e_lda (i := 0) 0 1 hF hM rfl rfl rfl rfl Try.isAgg51 Try.sizeOf51 rfl) ?_; intro a hF
      refine s_val hF rfl rfl rfl (e_lda (i := 3) 0 1 hF hM rfl rfl rfl rfl Try.isAgg51 Try.sizeOf51 rfl) ?_; intro a hF
      refine s_call hF rfl rfl rfl Try.call40 (laws_eqIntA2.calls K t18.1 t10.1 t21 h22) ?_; intro a w v hF hf hR
      subst hR; have hM := hM.grow hf
      refine s_val hF rfl rfl rfl (e_not hF rfl) ?_; intro a hF
      refine s_val hF rfl rfl rfl (e_move hF rfl) ?_; intro a hF
      have hF := hF.topb (congrArg Bool.not (bf c23))
      refine s_skip hF rfl rfl rfl ?_; intro a hF
      refine s_skip hF rfl rfl rfl ?_; intro a hF
      refine s_skip hF rfl rfl rfl ?_; intro a hF
      refine s_val hF rfl rfl rfl (e_pick_t hF rfl rfl) ?_; intro a hF
      refine s_nil ?_
      refine then_n ?_
      refine s_cond_t hF rfl rfl ?_
      refine wp_seq ?_
      refine s_region ?_
      refine s_val hF rfl rfl rfl (e_assign hF rfl) ?_; intro a hF
      refine s_nil ?_
      refine then_n ?_
      refine wp_ret ?_
      refine then_r ?_
      obtain rfl := some_some H
      refine s_ret [Value.bool false] hF Try.results14 ⟨rfl, trivial⟩ ?_
      exact ⟨_, rfl, hM.frm, rfl⟩

/-! ### loop.example/g01210/spec.l6Parts: function 82 -/
def spec_l6Parts.f (K : Nat) (l0 : (List (Ar 6))) (a1 : Int) : Option Int := (spec_l2All.f K (wrap64 ((l0.length : Int) * a1))).bind fun t1 => some t1
set_option maxRecDepth 100000 in
set_option maxHeartbeats 4000000 in
theorem spec_l6Parts.calls {w0 : World} (K : Nat) (l0 : (List (Ar 6))) (u0 : Value) (q0 : SlR cd28 w0 u0 l0) (a1 : Int) (r : Int) (H : spec_l6Parts.f K l0 a1 = some r) : Calls Try.prog 82 [u0, Value.int .i64 a1].toArray w0 (Post w0 fun w v => v = Value.int .i64 r) := by
  rw [spec_l6Parts.f] at H
  refine s_start Try.func82 rfl Try.ntmps82 rfl ?_
  intro a hF
  have hM := Ms.start w0
  skip
  refine wp_seq ?_
  refine s_region ?_
  refine s_val hF rfl rfl rfl (e_assign hF rfl) ?_; intro a hF
  refine s_nil ?_
  refine then_n ?_
  refine wp_seq ?_
  obtain ⟨t1, h2, H⟩ := bind_some H
  refine s_region ?_
  refine s_val hF rfl rfl rfl (e_move hF rfl) ?_; intro a hF
  refine s_val hF rfl rfl rfl (e_len hF rfl (q0.frm hM.frm).toF Try.underlying43) ?_; intro a hF
  refine s_val hF rfl rfl rfl (e_move hF rfl) ?_; intro a hF
  refine s_val hF rfl rfl rfl (e_mul hF rfl rfl) ?_; intro a hF
  refine s_call hF rfl rfl rfl Try.call101 (spec_l2All.calls K (wrap64 ((l0.length : Int) * a1)) t1 h2) ?_; intro a w v hF hf hR
  subst hR; have hM := hM.grow hf
  refine s_val hF rfl rfl rfl (e_assign hF rfl) ?_; intro a hF
  refine s_nil ?_
  refine then_n ?_
  refine wp_ret ?_
  obtain rfl := some_some H
  refine s_ret [Value.int .i64 t1] hF Try.results82 ⟨rfl, trivial⟩ ?_
  exact ⟨_, rfl, hM.frm, rfl⟩

end Go.Proofs.Ytlbedonjfihldaa.WMeanRolled

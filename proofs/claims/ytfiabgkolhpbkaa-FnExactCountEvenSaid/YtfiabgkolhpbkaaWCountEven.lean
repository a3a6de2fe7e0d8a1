/- The walk through the code that the statement reaches: what each function computes. Conditions: none but those in each line. -/
import Derived.Test.YtfiabgkolhpbkaaProg
import Derived.Test.YtfiabgkolhpbkaaK
namespace Go.Proofs.Ytfiabgkolhpbkaa.WCountEven
open Go.K Go.RowKit
set_option linter.unusedVariables false
set_option linter.unusedSimpArgs false

theorem mixed : Try.prog.follows .mixedOrders = true := by kernel_rfl

/-! ### loop.example/g01210/spec.l1In: function 43 -/
def spec_l1In.f (K : Nat) (a0 : Int) (a1 : Int) (a2 : Int) : Option Bool := if a1 ≤ a0 then (some (decide (a0 ≤ a2))) else (some false)
set_option maxRecDepth 100000 in
set_option maxHeartbeats 4000000 in
theorem spec_l1In.calls {w0 : World} (K : Nat) (a0 : Int) (a1 : Int) (a2 : Int) (r : Bool) (H : spec_l1In.f K a0 a1 a2 = some r) : Calls Try.prog 43 [Value.int .i64 a0, Value.int .i64 a1, Value.int .i64 a2].toArray w0 (Post w0 fun w v => v = Value.bool r) := by
  rw [spec_l1In.f] at H
  refine s_start Try.func43 rfl Try.ntmps43 rfl ?_
  intro a hF
  have hM := Ms.start w0
  skip
  refine wp_seq ?_
  refine s_region ?_
  refine s_val hF rfl rfl rfl (e_assign hF rfl) ?_; intro a hF
  refine s_nil ?_
  refine then_n ?_
  refine wp_seq ?_
  rcases ite_cases H with ⟨c1, H⟩ | ⟨c1, H⟩
  ·
    refine s_region ?_
    refine s_val hF rfl rfl rfl (e_move hF rfl) ?_; intro a hF
    refine s_val hF rfl rfl rfl (e_move hF rfl) ?_; intro a hF
    refine s_val hF rfl rfl rfl (e_geq hF rfl rfl) ?_; intro a hF
    refine s_val hF rfl rfl rfl (e_move hF rfl) ?_; intro a hF
    have hF := hF.topb (decide_eq_true c1)
    refine s_val hF rfl rfl rfl (e_move hF rfl) ?_; intro a hF
    refine s_val hF rfl rfl rfl (e_move hF rfl) ?_; intro a hF
    refine s_val hF rfl rfl rfl (e_leq hF rfl rfl) ?_; intro a hF
    refine s_val hF rfl rfl rfl (e_pick_t hF rfl rfl) ?_; intro a hF
    refine s_val hF rfl rfl rfl (e_assign hF rfl) ?_; intro a hF
    refine s_nil ?_
    refine then_n ?_
    refine wp_ret ?_
    obtain rfl := some_some H
    refine s_ret [Value.bool (decide (a0 ≤ a2))] hF Try.results43 ⟨rfl, trivial⟩ ?_
    exact ⟨_, rfl, hM.frm, rfl⟩
  ·
    refine s_region ?_
    refine s_val hF rfl rfl rfl (e_move hF rfl) ?_; intro a hF
    refine s_val hF rfl rfl rfl (e_move hF rfl) ?_; intro a hF
    refine s_val hF rfl rfl rfl (e_geq hF rfl rfl) ?_; intro a hF
    refine s_val hF rfl rfl rfl (e_move hF rfl) ?_; intro a hF
    have hF := hF.topb (decide_eq_false c1)
    refine s_skip hF rfl rfl rfl ?_; intro a hF
    refine s_skip hF rfl rfl rfl ?_; intro a hF
    refine s_skip hF rfl rfl rfl ?_; intro a hF
    refine s_val hF rfl rfl rfl (e_pick_f hF rfl rfl) ?_; intro a hF
    refine s_val hF rfl rfl rfl (e_assign hF rfl) ?_; intro a hF
    refine s_nil ?_
    refine then_n ?_
    refine wp_ret ?_
    obtain rfl := some_some H
    refine s_ret [Value.bool false] hF Try.results43 ⟨rfl, trivial⟩ ?_
    exact ⟨_, rfl, hM.frm, rfl⟩

/-! ### loop.example/g01210/spec.CountEven: function 12 -/
def spec_CountEven.l3 (K : Nat) (a0 : Int) (x62 : Int) : Nat → Int → Int → Int → Option (Int × Int)
  | 0, _, _, _ => none
  | k + 1, x80, x81, x82 => if x82 < (wrap64 (2 * a0)) then (if 0 ≤ x82 then (if (Go.bits .and .i64 (x62.fdiv (2 ^ (min (x82 : Int).toNat 64))) 1) = 1 then (spec_CountEven.l3 K a0 x62 k (wrap64 (x80 + 1)) x81 (wrap64 (x82 + 1))) else (spec_CountEven.l3 K a0 x62 k x80 (wrap64 (x81 + x80)) (wrap64 (x82 + 1)))) else none) else (some (x80, x81))
def spec_CountEven.l2 (K : Nat) (a0 : Int) : Nat → Int → Int → Option Int
  | 0, _, _ => none
  | k + 1, x61, x62 => if 0 ≤ (wrap64 (2 * a0)) then (if x62 < (wrap64 (1 * 2 ^ (min ((wrap64 (2 * a0)) : Int).toNat 64))) then ((spec_CountEven.l3 K a0 x62 K 0 0 0).bind fun (x78, x79) => if x78 = a0 then (if (wrap64 (2 * x79)) = (wrap64 (a0 * a0)) then (spec_CountEven.l2 K a0 k (wrap64 (x61 + 1)) (wrap64 (x62 + 1))) else (spec_CountEven.l2 K a0 k x61 (wrap64 (x62 + 1)))) else (spec_CountEven.l2 K a0 k x61 (wrap64 (x62 + 1)))) else (some x61)) else none
def spec_CountEven.f (K : Nat) (a0 : Int) : Option (Int × Bool) := (spec_l1In.f K a0 1 6).bind fun t1 => if t1 = true then ((spec_CountEven.l2 K a0 K 0 0).bind fun x60 => some (x60, true)) else (some (0, false))
set_option maxRecDepth 100000 in
set_option maxHeartbeats 4000000 in
theorem spec_CountEven.calls {w0 : World} (K : Nat) (a0 : Int) (r : (Int × Bool)) (H : spec_CountEven.f K a0 = some r) : Calls Try.prog 12 [Value.int .i64 a0].toArray w0 (Post w0 fun w v => v = Value.tuple #[Value.int .i64 r.1, Value.bool r.2]) := by
  rw [spec_CountEven.f] at H
  refine s_start Try.func12 rfl Try.ntmps12 rfl ?_
  intro a hF
  have hM := Ms.start w0
  skip
  refine wp_seq ?_
  refine s_region ?_
  refine s_val hF rfl rfl rfl (e_assign hF rfl) ?_; intro a hF
  refine s_val hF rfl rfl rfl (e_assign hF rfl) ?_; intro a hF
  refine s_nil ?_
  refine then_n ?_
  refine wp_seq ?_
  refine wp_seq ?_
  obtain ⟨t1, h2, H⟩ := bind_some H
  refine s_region ?_
  refine s_val hF rfl rfl rfl (e_move hF rfl) ?_; intro a hF
  refine s_call hF rfl rfl rfl Try.call43 (spec_l1In.calls K a0 1 6 t1 h2) ?_; intro a w v hF hf hR
  subst hR; have hM := hM.grow hf
  refine s_val hF rfl rfl rfl (e_not hF rfl) ?_; intro a hF
  refine s_nil ?_
  refine then_n ?_
  rcases ite_cases H with ⟨c3, H⟩ | ⟨c3, H⟩
  ·
    refine s_cond_f hF rfl (congrArg Bool.not c3) ?_
    refine wp_skip ?_
    refine then_n ?_
    refine wp_seq ?_
    refine s_region ?_
    refine s_val hF rfl rfl rfl (e_assign hF rfl) ?_; intro a hF
    refine s_nil ?_
    refine then_n ?_
    refine wp_seq ?_
    refine wp_seq ?_
    refine s_region ?_
    refine s_val hF rfl rfl rfl (e_assign hF rfl) ?_; intro a hF
    refine s_nil ?_
    refine then_n ?_
    refine wp_block ?_
    obtain ⟨o90, h91, H⟩ := bind_some H
    refine wp_mono (Q := fun e a w => (e = Exit.exit 0 ∧ ∃ x60 : Int, x60 = o90 ∧ Fr 49 a [(4, Value.int .i64 x60)] ∧ Ms [] w0 w [])) ?_ ?_
    · refine s_loop (fun kq a w => ∃ x61 : Int, ∃ x62 : Int, spec_CountEven.l2 K a0 kq x61 x62 = some o90 ∧ Fr 49 a [(0, Value.int .i64 a0), (4, Value.int .i64 x61), (5, Value.int .i64 x62)] ∧ Ms [] w0 w []) K ⟨0, 0, h91, hF.sub _ ⟨rfl, rfl, rfl, trivial⟩, hM.pick [] rfl rfl⟩ ?_ ?_
      · rintro a w ⟨_, _, H, _⟩; exact none_some H
      · rintro k a w ⟨x61, x62, H, hF, hM⟩; rw [spec_CountEven.l2] at H
        refine wp_seq ?_
        refine wp_seq ?_
        obtain ⟨c63, H⟩ := ite_some H
        refine s_region ?_
        refine s_val hF rfl rfl rfl (e_move hF rfl) ?_; intro a hF
        refine s_val hF rfl rfl rfl (e_move hF rfl) ?_; intro a hF
        refine s_val hF rfl rfl rfl (e_mul hF rfl rfl) ?_; intro a hF
        refine s_val hF rfl rfl rfl (e_shl hF rfl rfl c63) ?_; intro a hF
        refine s_val hF rfl rfl rfl (e_lss hF rfl rfl) ?_; intro a hF
        refine s_nil ?_
        refine then_n ?_
        rcases ite_cases H with ⟨c64, H⟩ | ⟨c64, H⟩
        ·
          refine s_cond_t hF rfl (decide_eq_true c64) ?_
          refine wp_skip ?_
          refine then_n ?_
          refine wp_seq ?_
          refine wp_block ?_
          refine wp_seq ?_
          refine s_region ?_
          refine s_val hF rfl rfl rfl (e_assign hF rfl) ?_; intro a hF
          refine s_val hF rfl rfl rfl (e_assign hF rfl) ?_; intro a hF
          refine s_nil ?_
          refine then_n ?_
          refine wp_seq ?_
          refine wp_seq ?_
          refine s_region ?_
          refine s_val hF rfl rfl rfl (e_assign hF rfl) ?_; intro a hF
          refine s_nil ?_
          refine then_n ?_
          refine wp_block ?_
          obtain ⟨o86, h87, H⟩ := bind_some H
          refine wp_mono (Q := fun e a w => (e = Exit.exit 2 ∧ ∃ x78 : Int, ∃ x79 : Int, (x78, x79) = o86 ∧ Fr 49 a [(0, Value.int .i64 a0), (4, Value.int .i64 x61), (5, Value.int .i64 x62), (6, Value.int .i64 x78), (7, Value.int .i64 x79)] ∧ Ms [] w0 w [])) ?_ ?_
          · refine s_loop (fun kq a w => ∃ x80 : Int, ∃ x81 : Int, ∃ x82 : Int, spec_CountEven.l3 K a0 x62 kq x80 x81 x82 = some o86 ∧ Fr 49 a [(0, Value.int .i64 a0), (4, Value.int .i64 x61), (5, Value.int .i64 x62), (6, Value.int .i64 x80), (7, Value.int .i64 x81), (8, Value.int .i64 x82)] ∧ Ms [] w0 w []) K ⟨0, 0, 0, h87, hF.sub _ ⟨rfl, rfl, rfl, rfl, rfl, rfl, trivial⟩, hM.pick [] rfl rfl⟩ ?_ ?_
            · rintro a w ⟨_, _, _, H, _⟩; exact none_some H
            · rintro k a w ⟨x80, x81, x82, H, hF, hM⟩; rw [spec_CountEven.l3] at H
              refine wp_seq ?_
              refine wp_seq ?_
              refine s_region ?_
              refine s_val hF rfl rfl rfl (e_move hF rfl) ?_; intro a hF
              refine s_val hF rfl rfl rfl (e_move hF rfl) ?_; intro a hF
              refine s_val hF rfl rfl rfl (e_mul hF rfl rfl) ?_; intro a hF
              refine s_val hF rfl rfl rfl (e_lss hF rfl rfl) ?_; intro a hF
              refine s_nil ?_
              refine then_n ?_
              rcases ite_cases H with ⟨c83, H⟩ | ⟨c83, H⟩
              ·
                refine s_cond_t hF rfl (decide_eq_true c83) ?_
                refine wp_skip ?_
                refine then_n ?_
                refine wp_seq ?_
                refine wp_block ?_
                refine wp_seq ?_
                obtain ⟨c84, H⟩ := ite_some H
                refine s_region ?_
                refine s_val hF rfl rfl rfl (e_move hF rfl) ?_; intro a hF
                refine s_val hF rfl rfl rfl (e_move hF rfl) ?_; intro a hF
                refine s_val hF rfl rfl rfl (e_shr hF rfl rfl c84) ?_; intro a hF
                refine s_val hF rfl rfl rfl (e_and hF rfl rfl) ?_; intro a hF
                refine s_val hF rfl rfl rfl (e_eql hF rfl rfl) ?_; intro a hF
                refine s_nil ?_
                refine then_n ?_
                rcases ite_cases H with ⟨c85, H⟩ | ⟨c85, H⟩
                ·
                  refine s_cond_t hF rfl (decide_eq_true c85) ?_
                  refine s_region ?_
                  refine s_val hF rfl rfl rfl (e_move hF rfl) ?_; intro a hF
                  refine s_val hF rfl rfl rfl (e_add hF rfl rfl) ?_; intro a hF
                  refine s_val hF rfl rfl rfl (e_assign hF rfl) ?_; intro a hF
                  refine s_nil ?_
                  refine blk_n ?_
                  refine then_n ?_
                  refine s_region ?_
                  refine s_val hF rfl rfl rfl (e_move hF rfl) ?_; intro a hF
                  refine s_val hF rfl rfl rfl (e_add hF rfl rfl) ?_; intro a hF
                  refine s_val hF rfl rfl rfl (e_assign hF rfl) ?_; intro a hF
                  refine s_nil ?_
                  refine then_n ?_
                  exact ⟨(wrap64 (x80 + 1)), x81, (wrap64 (x82 + 1)), H, hF.sub _ ⟨rfl, rfl, rfl, rfl, rfl, rfl, trivial⟩, hM.pick [] rfl rfl⟩
                ·
                  refine s_cond_f hF rfl (decide_eq_false c85) ?_
                  refine s_region ?_
                  refine s_val hF rfl rfl rfl (e_move hF rfl) ?_; intro a hF
                  refine s_val hF rfl rfl rfl (e_move hF rfl) ?_; intro a hF
                  refine s_val hF rfl rfl rfl (e_add hF rfl rfl) ?_; intro a hF
                  refine s_val hF rfl rfl rfl (e_assign hF rfl) ?_; intro a hF
                  refine s_nil ?_
                  refine blk_n ?_
                  refine then_n ?_
                  refine s_region ?_
                  refine s_val hF rfl rfl rfl (e_move hF rfl) ?_; intro a hF
                  refine s_val hF rfl rfl rfl (e_add hF rfl rfl) ?_; intro a hF
                  refine s_val hF rfl rfl rfl (e_assign hF rfl) ?_; intro a hF
                  refine s_nil ?_
                  refine then_n ?_
                  exact ⟨x80, (wrap64 (x81 + x80)), (wrap64 (x82 + 1)), H, hF.sub _ ⟨rfl, rfl, rfl, rfl, rfl, rfl, trivial⟩, hM.pick [] rfl rfl⟩
              ·
                refine s_cond_f hF rfl (decide_eq_false c83) ?_
                refine wp_exit ?_
                refine then_x ?_
                refine then_x ?_
                exact ⟨rfl, x80, x81, some_some H, hF.sub _ ⟨rfl, rfl, rfl, rfl, rfl, trivial⟩, hM.pick [] rfl rfl⟩
          · rintro e a w ⟨rfl, x78, x79, rfl, hF, hM⟩
            skip
            refine blk_x ?_
            refine then_n ?_
            refine wp_seq ?_
            rcases ite_cases H with ⟨c88, H⟩ | ⟨c88, H⟩
            ·
              refine s_region ?_
              refine s_val hF rfl rfl rfl (e_move hF rfl) ?_; intro a hF
              refine s_val hF rfl rfl rfl (e_move hF rfl) ?_; intro a hF
              refine s_val hF rfl rfl rfl (e_eql hF rfl rfl) ?_; intro a hF
              refine s_val hF rfl rfl rfl (e_move hF rfl) ?_; intro a hF
              have hF := hF.topb (decide_eq_true c88)
              refine s_val hF rfl rfl rfl (e_move hF rfl) ?_; intro a hF
              refine s_val hF rfl rfl rfl (e_mul hF rfl rfl) ?_; intro a hF
              refine s_val hF rfl rfl rfl (e_move hF rfl) ?_; intro a hF
              refine s_val hF rfl rfl rfl (e_move hF rfl) ?_; intro a hF
              refine s_val hF rfl rfl rfl (e_mul hF rfl rfl) ?_; intro a hF
              refine s_val hF rfl rfl rfl (e_eql hF rfl rfl) ?_; intro a hF
              refine s_val hF rfl rfl rfl (e_pick_t hF rfl rfl) ?_; intro a hF
              refine s_nil ?_
              refine then_n ?_
              rcases ite_cases H with ⟨c89, H⟩ | ⟨c89, H⟩
              ·
                refine s_cond_t hF rfl (decide_eq_true c89) ?_
                refine s_region ?_
                refine s_val hF rfl rfl rfl (e_move hF rfl) ?_; intro a hF
                refine s_val hF rfl rfl rfl (e_add hF rfl rfl) ?_; intro a hF
                refine s_val hF rfl rfl rfl (e_assign hF rfl) ?_; intro a hF
                refine s_nil ?_
                refine blk_n ?_
                refine then_n ?_
                refine s_region ?_
                refine s_val hF rfl rfl rfl (e_move hF rfl) ?_; intro a hF
                refine s_val hF rfl rfl rfl (e_add hF rfl rfl) ?_; intro a hF
                refine s_val hF rfl rfl rfl (e_assign hF rfl) ?_; intro a hF
                refine s_nil ?_
                refine then_n ?_
                exact ⟨(wrap64 (x61 + 1)), (wrap64 (x62 + 1)), H, hF.sub _ ⟨rfl, rfl, rfl, trivial⟩, hM.pick [] rfl rfl⟩
              ·
                refine s_cond_f hF rfl (decide_eq_false c89) ?_
                refine wp_skip ?_
                refine blk_n ?_
                refine then_n ?_
                refine s_region ?_
                refine s_val hF rfl rfl rfl (e_move hF rfl) ?_; intro a hF
                refine s_val hF rfl rfl rfl (e_add hF rfl rfl) ?_; intro a hF
                refine s_val hF rfl rfl rfl (e_assign hF rfl) ?_; intro a hF
                refine s_nil ?_
                refine then_n ?_
                exact ⟨x61, (wrap64 (x62 + 1)), H, hF.sub _ ⟨rfl, rfl, rfl, trivial⟩, hM.pick [] rfl rfl⟩
            ·
              refine s_region ?_
              refine s_val hF rfl rfl rfl (e_move hF rfl) ?_; intro a hF
              refine s_val hF rfl rfl rfl (e_move hF rfl) ?_; intro a hF
              refine s_val hF rfl rfl rfl (e_eql hF rfl rfl) ?_; intro a hF
              refine s_val hF rfl rfl rfl (e_move hF rfl) ?_; intro a hF
              have hF := hF.topb (decide_eq_false c88)
              refine s_skip hF rfl rfl rfl ?_; intro a hF
              refine s_skip hF rfl rfl rfl ?_; intro a hF
              refine s_skip hF rfl rfl rfl ?_; intro a hF
              refine s_skip hF rfl rfl rfl ?_; intro a hF
              refine s_skip hF rfl rfl rfl ?_; intro a hF
              refine s_skip hF rfl rfl rfl ?_; intro a hF
              refine s_val hF rfl rfl rfl (e_pick_f hF rfl rfl) ?_; intro a hF
              refine s_nil ?_
              refine then_n ?_
              refine s_cond_f hF rfl rfl ?_
              refine wp_skip ?_
              refine blk_n ?_
              refine then_n ?_
              refine s_region ?_
              refine s_val hF rfl rfl rfl (e_move hF rfl) ?_; intro a hF
              refine s_val hF rfl rfl rfl (e_add hF rfl rfl) ?_; intro a hF
              refine s_val hF rfl rfl rfl (e_assign hF rfl) ?_; intro a hF
              refine s_nil ?_
              refine then_n ?_
              exact ⟨x61, (wrap64 (x62 + 1)), H, hF.sub _ ⟨rfl, rfl, rfl, trivial⟩, hM.pick [] rfl rfl⟩
        ·
          refine s_cond_f hF rfl (decide_eq_false c64) ?_
          refine wp_exit ?_
          refine then_x ?_
          refine then_x ?_
          exact ⟨rfl, x61, some_some H, hF.sub _ ⟨rfl, trivial⟩, hM.pick [] rfl rfl⟩
    · rintro e a w ⟨rfl, x60, rfl, hF, hM⟩
      skip
      refine blk_x ?_
      refine then_n ?_
      refine wp_seq ?_
      refine s_region ?_
      refine s_val hF rfl rfl rfl (e_move hF rfl) ?_; intro a hF
      refine s_val hF rfl rfl rfl (e_assign hF rfl) ?_; intro a hF
      refine s_val hF rfl rfl rfl (e_assign hF rfl) ?_; intro a hF
      refine s_nil ?_
      refine then_n ?_
      refine wp_ret ?_
      obtain rfl := some_some H
      refine s_ret [Value.int .i64 x60, Value.bool true] hF Try.results12 ⟨rfl, rfl, trivial⟩ ?_
      exact ⟨_, rfl, hM.frm, rfl⟩
  ·
    refine s_cond_t hF rfl (congrArg Bool.not (bf c3)) ?_
    refine wp_seq ?_
    refine s_region ?_
    refine s_val hF rfl rfl rfl (e_assign hF rfl) ?_; intro a hF
    refine s_val hF rfl rfl rfl (e_assign hF rfl) ?_; intro a hF
    refine s_nil ?_
    refine then_n ?_
    refine wp_ret ?_
    refine then_r ?_
    obtain rfl := some_some H
    refine s_ret [Value.int .i64 0, Value.bool false] hF Try.results12 ⟨rfl, rfl, trivial⟩ ?_
    exact ⟨_, rfl, hM.frm, rfl⟩

/-! ### loop.example/g01210/impl.within: function 44 -/
def impl_within.f (K : Nat) (a0 : Int) (a1 : Int) (a2 : Int) : Option Bool := if a1 ≤ a0 then (some (decide (a0 ≤ a2))) else (some false)
set_option maxRecDepth 100000 in
set_option maxHeartbeats 4000000 in
theorem impl_within.calls {w0 : World} (K : Nat) (a0 : Int) (a1 : Int) (a2 : Int) (r : Bool) (H : impl_within.f K a0 a1 a2 = some r) : Calls Try.prog 44 [Value.int .i64 a0, Value.int .i64 a1, Value.int .i64 a2].toArray w0 (Post w0 fun w v => v = Value.bool r) := by
  rw [impl_within.f] at H
  refine s_start Try.func44 rfl Try.ntmps44 rfl ?_
  intro a hF
  have hM := Ms.start w0
  skip
  refine wp_seq ?_
  refine s_region ?_
  refine s_val hF rfl rfl rfl (e_assign hF rfl) ?_; intro a hF
  refine s_nil ?_
  refine then_n ?_
  refine wp_seq ?_
  rcases ite_cases H with ⟨c1, H⟩ | ⟨c1, H⟩
  ·
    refine s_region ?_
    refine s_val hF rfl rfl rfl (e_move hF rfl) ?_; intro a hF
    refine s_val hF rfl rfl rfl (e_move hF rfl) ?_; intro a hF
    refine s_val hF rfl rfl rfl (e_leq hF rfl rfl) ?_; intro a hF
    refine s_val hF rfl rfl rfl (e_move hF rfl) ?_; intro a hF
    have hF := hF.topb (decide_eq_true c1)
    refine s_val hF rfl rfl rfl (e_move hF rfl) ?_; intro a hF
    refine s_val hF rfl rfl rfl (e_move hF rfl) ?_; intro a hF
    refine s_val hF rfl rfl rfl (e_leq hF rfl rfl) ?_; intro a hF
    refine s_val hF rfl rfl rfl (e_pick_t hF rfl rfl) ?_; intro a hF
    refine s_val hF rfl rfl rfl (e_assign hF rfl) ?_; intro a hF
    refine s_nil ?_
    refine then_n ?_
    refine wp_ret ?_
    obtain rfl := some_some H
    refine s_ret [Value.bool (decide (a0 ≤ a2))] hF Try.results44 ⟨rfl, trivial⟩ ?_
    exact ⟨_, rfl, hM.frm, rfl⟩
  ·
    refine s_region ?_
    refine s_val hF rfl rfl rfl (e_move hF rfl) ?_; intro a hF
    refine s_val hF rfl rfl rfl (e_move hF rfl) ?_; intro a hF
    refine s_val hF rfl rfl rfl (e_leq hF rfl rfl) ?_; intro a hF
    refine s_val hF rfl rfl rfl (e_move hF rfl) ?_; intro a hF
    have hF := hF.topb (decide_eq_false c1)
    refine s_skip hF rfl rfl rfl ?_; intro a hF
    refine s_skip hF rfl rfl rfl ?_; intro a hF
    refine s_skip hF rfl rfl rfl ?_; intro a hF
    refine s_val hF rfl rfl rfl (e_pick_f hF rfl rfl) ?_; intro a hF
    refine s_val hF rfl rfl rfl (e_assign hF rfl) ?_; intro a hF
    refine s_nil ?_
    refine then_n ?_
    refine wp_ret ?_
    obtain rfl := some_some H
    refine s_ret [Value.bool false] hF Try.results44 ⟨rfl, trivial⟩ ?_
    exact ⟨_, rfl, hM.frm, rfl⟩

/-! ### loop.example/g01210/impl.isIn: function 45 -/
def impl_isIn.f (K : Nat) (a0 : Int) (a1 : Int) : Option Bool := if 0 ≤ a1 then (some (decide ((Go.bits .and .i64 (a0.fdiv (2 ^ (min (a1 : Int).toNat 64))) 1) = 1))) else none
set_option maxRecDepth 100000 in
set_option maxHeartbeats 4000000 in
theorem impl_isIn.calls {w0 : World} (K : Nat) (a0 : Int) (a1 : Int) (r : Bool) (H : impl_isIn.f K a0 a1 = some r) : Calls Try.prog 45 [Value.int .i64 a0, Value.int .i64 a1].toArray w0 (Post w0 fun w v => v = Value.bool r) := by
  rw [impl_isIn.f] at H
  refine s_start Try.func45 rfl Try.ntmps45 rfl ?_
  intro a hF
  have hM := Ms.start w0
  skip
  refine wp_seq ?_
  refine s_region ?_
  refine s_val hF rfl rfl rfl (e_assign hF rfl) ?_; intro a hF
  refine s_nil ?_
  refine then_n ?_
  refine wp_seq ?_
  obtain ⟨c1, H⟩ := ite_some H
  refine s_region ?_
  refine s_val hF rfl rfl rfl (e_move hF rfl) ?_; intro a hF
  refine s_val hF rfl rfl rfl (e_move hF rfl) ?_; intro a hF
  refine s_val hF rfl rfl rfl (e_shr hF rfl rfl c1) ?_; intro a hF
  refine s_val hF rfl rfl rfl (e_and hF rfl rfl) ?_; intro a hF
  refine s_val hF rfl rfl rfl (e_eql hF rfl rfl) ?_; intro a hF
  refine s_val hF rfl rfl rfl (e_assign hF rfl) ?_; intro a hF
  refine s_nil ?_
  refine then_n ?_
  refine wp_ret ?_
  obtain rfl := some_some H
  refine s_ret [Value.bool (decide ((Go.bits .and .i64 (a0.fdiv (2 ^ (min (a1 : Int).toNat 64))) 1) = 1))] hF Try.results45 ⟨rfl, trivial⟩ ?_
  exact ⟨_, rfl, hM.frm, rfl⟩

/-! ### loop.example/g01210/impl.truth: function 46 -/
def impl_truth.f (K : Nat) (a0 : Bool) : Option Int := if a0 = true then (some 1) else (some 0)
set_option maxRecDepth 100000 in
set_option maxHeartbeats 4000000 in
theorem impl_truth.calls {w0 : World} (K : Nat) (a0 : Bool) (r : Int) (H : impl_truth.f K a0 = some r) : Calls Try.prog 46 [Value.bool a0].toArray w0 (Post w0 fun w v => v = Value.int .i64 r) := by
  rw [impl_truth.f] at H
  refine s_start Try.func46 rfl Try.ntmps46 rfl ?_
  intro a hF
  have hM := Ms.start w0
  skip
  refine wp_seq ?_
  refine s_region ?_
  refine s_val hF rfl rfl rfl (e_assign hF rfl) ?_; intro a hF
  refine s_nil ?_
  refine then_n ?_
  refine wp_seq ?_
  refine wp_seq ?_
  refine s_region ?_
  refine s_val hF rfl rfl rfl (e_move hF rfl) ?_; intro a hF
  refine s_nil ?_
  refine then_n ?_
  rcases ite_cases H with ⟨c1, H⟩ | ⟨c1, H⟩
  ·
    refine s_cond_t hF rfl c1 ?_
    refine wp_seq ?_
    refine s_region ?_
    refine s_val hF rfl rfl rfl (e_assign hF rfl) ?_; intro a hF
    refine s_nil ?_
    refine then_n ?_
    refine wp_ret ?_
    refine then_r ?_
    obtain rfl := some_some H
    refine s_ret [Value.int .i64 1] hF Try.results46 ⟨rfl, trivial⟩ ?_
    exact ⟨_, rfl, hM.frm, rfl⟩
  ·
    refine s_cond_f hF rfl (bf c1) ?_
    refine wp_skip ?_
    refine then_n ?_
    refine wp_seq ?_
    refine s_region ?_
    refine s_val hF rfl rfl rfl (e_assign hF rfl) ?_; intro a hF
    refine s_nil ?_
    refine then_n ?_
    refine wp_ret ?_
    obtain rfl := some_some H
    refine s_ret [Value.int .i64 0] hF Try.results46 ⟨rfl, trivial⟩ ?_
    exact ⟨_, rfl, hM.frm, rfl⟩

/-! ### loop.example/g01210/impl.CountEven: function 13 -/
def impl_CountEven.l3 (K : Nat) (a0 : Int) (x77 : Int) : Nat → Int → Int → Int → Option (Int × Int)
  | 0, _, _, _ => none
  | k + 1, x98, x99, x100 => if x100 < (wrap64 (2 * a0)) then ((impl_isIn.f K x77 x100).bind fun t102 => if t102 = true then (impl_CountEven.l3 K a0 x77 k (wrap64 (x98 + 1)) x99 (wrap64 (x100 + 1))) else (impl_CountEven.l3 K a0 x77 k x98 (wrap64 (x99 + x98)) (wrap64 (x100 + 1)))) else (some (x98, x99))
def impl_CountEven.l2 (K : Nat) (a0 : Int) : Nat → Int → Int → Option Int
  | 0, _, _ => none
  | k + 1, x76, x77 => if x77 < (wrap64 (1 * 2 ^ (min ((wrap64 (2 * a0)) : Int).toNat 64))) then ((impl_CountEven.l3 K a0 x77 K 0 0 0).bind fun (x96, x97) => if x96 = a0 then ((impl_truth.f K (decide ((wrap64 (2 * x97)) = (wrap64 (a0 * a0))))).bind fun t108 => impl_CountEven.l2 K a0 k (wrap64 (x76 + t108)) (wrap64 (x77 + 1))) else ((impl_truth.f K false).bind fun t110 => impl_CountEven.l2 K a0 k (wrap64 (x76 + t110)) (wrap64 (x77 + 1)))) else (some x76)
def impl_CountEven.f (K : Nat) (a0 : Int) : Option (Int × Bool) := (impl_within.f K a0 1 6).bind fun t1 => if t1 = true then (if 0 ≤ (wrap64 (2 * a0)) then ((impl_CountEven.l2 K a0 K 0 0).bind fun x75 => some (x75, true)) else none) else (some (0, false))
set_option maxRecDepth 100000 in
set_option maxHeartbeats 4000000 in
theorem impl_CountEven.calls {w0 : World} (K : Nat) (a0 : Int) (r : (Int × Bool)) (H : impl_CountEven.f K a0 = some r) : Calls Try.prog 13 [Value.int .i64 a0].toArray w0 (Post w0 fun w v => v = Value.tuple #[Value.int .i64 r.1, Value.bool r.2]) := by
  rw [impl_CountEven.f] at H
  refine s_start Try.func13 rfl Try.ntmps13 rfl ?_
  intro a hF
  have hM := Ms.start w0
  skip
  refine wp_seq ?_
  refine s_region ?_
  refine s_val hF rfl rfl rfl (e_assign hF rfl) ?_; intro a hF
  refine s_val hF rfl rfl rfl (e_assign hF rfl) ?_; intro a hF
  refine s_nil ?_
  refine then_n ?_
  refine wp_seq ?_
  refine wp_seq ?_
  obtain ⟨t1, h2, H⟩ := bind_some H
  refine s_region ?_
  refine s_val hF rfl rfl rfl (e_move hF rfl) ?_; intro a hF
  refine s_call hF rfl rfl rfl Try.call44 (impl_within.calls K a0 1 6 t1 h2) ?_; intro a w v hF hf hR
  subst hR; have hM := hM.grow hf
  refine s_val hF rfl rfl rfl (e_not hF rfl) ?_; intro a hF
  refine s_nil ?_
  refine then_n ?_
  rcases ite_cases H with ⟨c3, H⟩ | ⟨c3, H⟩
  ·
    refine s_cond_f hF rfl (congrArg Bool.not c3) ?_
    refine wp_skip ?_
    refine then_n ?_
    refine wp_seq ?_
    refine s_region ?_
    refine s_val hF rfl rfl rfl (e_assign hF rfl) ?_; intro a hF
    refine s_nil ?_
    refine then_n ?_
    refine wp_seq ?_
    refine wp_seq ?_
    obtain ⟨c4, H⟩ := ite_some H
    refine s_region ?_
    refine s_val hF rfl rfl rfl (e_move hF rfl) ?_; intro a hF
    refine s_val hF rfl rfl rfl (e_mul hF rfl rfl) ?_; intro a hF
    refine s_val hF rfl rfl rfl (e_shl hF rfl rfl c4) ?_; intro a hF
    refine s_val hF rfl rfl rfl (e_move hF rfl) ?_; intro a hF
    refine s_nil ?_
    refine then_n ?_
    refine wp_block ?_
    obtain ⟨o112, h113, H⟩ := bind_some H
    refine wp_mono (Q := fun e a w => (e = Exit.exit 0 ∧ ∃ x75 : Int, x75 = o112 ∧ Fr 48 a [(4, Value.int .i64 x75)] ∧ Ms [] w0 w [])) ?_ ?_
    · refine s_loop (fun kq a w => ∃ x76 : Int, ∃ x77 : Int, impl_CountEven.l2 K a0 kq x76 x77 = some o112 ∧ Fr 48 a [(0, Value.int .i64 a0), (4, Value.int .i64 x76), (14, Value.int .i64 (wrap64 (1 * 2 ^ (min ((wrap64 (2 * a0)) : Int).toNat 64)))), (15, Value.int .i64 x77)] ∧ Ms [] w0 w []) K ⟨0, 0, h113, hF.sub _ ⟨rfl, rfl, rfl, rfl, trivial⟩, hM.pick [] rfl rfl⟩ ?_ ?_
      · rintro a w ⟨_, _, H, _⟩; exact none_some H
      · rintro k a w ⟨x76, x77, H, hF, hM⟩; rw [impl_CountEven.l2] at H
        refine wp_seq ?_
        refine s_region ?_
        refine s_val hF rfl rfl rfl (e_lss hF rfl rfl) ?_; intro a hF
        refine s_nil ?_
        refine then_n ?_
        refine wp_seq ?_
        rcases ite_cases H with ⟨c78, H⟩ | ⟨c78, H⟩
        ·
          refine s_cond_t hF rfl (decide_eq_true c78) ?_
          refine wp_skip ?_
          refine then_n ?_
          refine wp_seq ?_
          refine wp_block ?_
          refine wp_seq ?_
          refine s_region ?_
          refine s_val hF rfl rfl rfl (e_move hF rfl) ?_; intro a hF
          refine s_val hF rfl rfl rfl (e_assign hF rfl) ?_; intro a hF
          refine s_nil ?_
          refine then_n ?_
          refine wp_seq ?_
          refine s_region ?_
          refine s_val hF rfl rfl rfl (e_assign hF rfl) ?_; intro a hF
          refine s_val hF rfl rfl rfl (e_assign hF rfl) ?_; intro a hF
          refine s_nil ?_
          refine then_n ?_
          refine wp_seq ?_
          refine wp_seq ?_
          refine s_region ?_
          refine s_val hF rfl rfl rfl (e_move hF rfl) ?_; intro a hF
          refine s_val hF rfl rfl rfl (e_mul hF rfl rfl) ?_; intro a hF
          refine s_val hF rfl rfl rfl (e_move hF rfl) ?_; intro a hF
          refine s_nil ?_
          refine then_n ?_
          refine wp_block ?_
          obtain ⟨o105, h106, H⟩ := bind_some H
          refine wp_mono (Q := fun e a w => (e = Exit.exit 2 ∧ ∃ x96 : Int, ∃ x97 : Int, (x96, x97) = o105 ∧ Fr 48 a [(0, Value.int .i64 a0), (4, Value.int .i64 x76), (6, Value.int .i64 x96), (7, Value.int .i64 x97), (14, Value.int .i64 (wrap64 (1 * 2 ^ (min ((wrap64 (2 * a0)) : Int).toNat 64)))), (15, Value.int .i64 x77)] ∧ Ms [] w0 w [])) ?_ ?_
          · refine s_loop (fun kq a w => ∃ x98 : Int, ∃ x99 : Int, ∃ x100 : Int, impl_CountEven.l3 K a0 x77 kq x98 x99 x100 = some o105 ∧ Fr 48 a [(0, Value.int .i64 a0), (4, Value.int .i64 x76), (5, Value.int .i64 x77), (6, Value.int .i64 x98), (7, Value.int .i64 x99), (14, Value.int .i64 (wrap64 (1 * 2 ^ (min ((wrap64 (2 * a0)) : Int).toNat 64)))), (15, Value.int .i64 x77), (19, Value.int .i64 (wrap64 (2 * a0))), (20, Value.int .i64 x100)] ∧ Ms [] w0 w []) K ⟨0, 0, 0, h106, hF.sub _ ⟨rfl, rfl, rfl, rfl, rfl, rfl, rfl, rfl, rfl, trivial⟩, hM.pick [] rfl rfl⟩ ?_ ?_
            · rintro a w ⟨_, _, _, H, _⟩; exact none_some H
            · rintro k a w ⟨x98, x99, x100, H, hF, hM⟩; rw [impl_CountEven.l3] at H
              refine wp_seq ?_
              refine s_region ?_
              refine s_val hF rfl rfl rfl (e_lss hF rfl rfl) ?_; intro a hF
              refine s_nil ?_
              refine then_n ?_
              refine wp_seq ?_
              rcases ite_cases H with ⟨c101, H⟩ | ⟨c101, H⟩
              ·
                refine s_cond_t hF rfl (decide_eq_true c101) ?_
                refine wp_skip ?_
                refine then_n ?_
                refine wp_seq ?_
                refine wp_block ?_
                refine wp_seq ?_
                refine s_region ?_
                refine s_val hF rfl rfl rfl (e_move hF rfl) ?_; intro a hF
                refine s_val hF rfl rfl rfl (e_assign hF rfl) ?_; intro a hF
                refine s_nil ?_
                refine then_n ?_
                refine wp_seq ?_
                obtain ⟨t102, h103, H⟩ := bind_some H
                refine s_region ?_
                refine s_val hF rfl rfl rfl (e_move hF rfl) ?_; intro a hF
                refine s_val hF rfl rfl rfl (e_move hF rfl) ?_; intro a hF
                refine s_call hF rfl rfl rfl Try.call45 (impl_isIn.calls K x77 x100 t102 h103) ?_; intro a w v hF hf hR
                subst hR; have hM := hM.grow hf
                refine s_nil ?_
                refine then_n ?_
                rcases ite_cases H with ⟨c104, H⟩ | ⟨c104, H⟩
                ·
                  refine s_cond_t hF rfl c104 ?_
                  refine s_region ?_
                  refine s_val hF rfl rfl rfl (e_move hF rfl) ?_; intro a hF
                  refine s_val hF rfl rfl rfl (e_add hF rfl rfl) ?_; intro a hF
                  refine s_val hF rfl rfl rfl (e_assign hF rfl) ?_; intro a hF
                  refine s_nil ?_
                  refine blk_n ?_
                  refine then_n ?_
                  refine s_region ?_
                  refine s_val hF rfl rfl rfl (e_add hF rfl rfl) ?_; intro a hF
                  refine s_val hF rfl rfl rfl (e_move hF rfl) ?_; intro a hF
                  refine s_nil ?_
                  refine then_n ?_
                  exact ⟨(wrap64 (x98 + 1)), x99, (wrap64 (x100 + 1)), H, hF.sub _ ⟨rfl, rfl, rfl, rfl, rfl, rfl, rfl, rfl, rfl, trivial⟩, hM.pick [] rfl rfl⟩
                ·
                  refine s_cond_f hF rfl (bf c104) ?_
                  refine s_region ?_
                  refine s_val hF rfl rfl rfl (e_move hF rfl) ?_; intro a hF
                  refine s_val hF rfl rfl rfl (e_move hF rfl) ?_; intro a hF
                  refine s_val hF rfl rfl rfl (e_add hF rfl rfl) ?_; intro a hF
                  refine s_val hF rfl rfl rfl (e_assign hF rfl) ?_; intro a hF
                  refine s_nil ?_
                  refine blk_n ?_
                  refine then_n ?_
                  refine s_region ?_
                  refine s_val hF rfl rfl rfl (e_add hF rfl rfl) ?_; intro a hF
                  refine s_val hF rfl rfl rfl (e_move hF rfl) ?_; intro a hF
                  refine s_nil ?_
                  refine then_n ?_
                  exact ⟨x98, (wrap64 (x99 + x98)), (wrap64 (x100 + 1)), H, hF.sub _ ⟨rfl, rfl, rfl, rfl, rfl, rfl, rfl, rfl, rfl, trivial⟩, hM.pick [] rfl rfl⟩
              ·
                refine s_cond_f hF rfl (decide_eq_false c101) ?_
                refine wp_exit ?_
                refine then_x ?_
                refine then_x ?_
                exact ⟨rfl, x98, x99, some_some H, hF.sub _ ⟨rfl, rfl, rfl, rfl, rfl, rfl, trivial⟩, hM.pick [] rfl rfl⟩
          · rintro e a w ⟨rfl, x96, x97, rfl, hF, hM⟩
            skip
            refine blk_x ?_
            refine then_n ?_
            rcases ite_cases H with ⟨c107, H⟩ | ⟨c107, H⟩
            ·
              obtain ⟨t108, h109, H⟩ := bind_some H
              refine s_region ?_
              refine s_val hF rfl rfl rfl (e_move hF rfl) ?_; intro a hF
              refine s_val hF rfl rfl rfl (e_move hF rfl) ?_; intro a hF
              refine s_val hF rfl rfl rfl (e_move hF rfl) ?_; intro a hF
              refine s_val hF rfl rfl rfl (e_eql hF rfl rfl) ?_; intro a hF
              refine s_val hF rfl rfl rfl (e_move hF rfl) ?_; intro a hF
              have hF := hF.topb (decide_eq_true c107)
              refine s_val hF rfl rfl rfl (e_move hF rfl) ?_; intro a hF
              refine s_val hF rfl rfl rfl (e_mul hF rfl rfl) ?_; intro a hF
              refine s_val hF rfl rfl rfl (e_move hF rfl) ?_; intro a hF
              refine s_val hF rfl rfl rfl (e_move hF rfl) ?_; intro a hF
              refine s_val hF rfl rfl rfl (e_mul hF rfl rfl) ?_; intro a hF
              refine s_val hF rfl rfl rfl (e_eql hF rfl rfl) ?_; intro a hF
              refine s_val hF rfl rfl rfl (e_pick_t hF rfl rfl) ?_; intro a hF
              refine s_call hF rfl rfl rfl Try.call46 (impl_truth.calls K (decide ((wrap64 (2 * x97)) = (wrap64 (a0 * a0)))) t108 h109) ?_; intro a w v hF hf hR
              subst hR; have hM := hM.grow hf
              refine s_val hF rfl rfl rfl (e_add hF rfl rfl) ?_; intro a hF
              refine s_val hF rfl rfl rfl (e_assign hF rfl) ?_; intro a hF
              refine s_nil ?_
              refine blk_n ?_
              refine then_n ?_
              refine s_region ?_
              refine s_val hF rfl rfl rfl (e_add hF rfl rfl) ?_; intro a hF
              refine s_val hF rfl rfl rfl (e_move hF rfl) ?_; intro a hF
              refine s_nil ?_
              refine then_n ?_
              exact ⟨(wrap64 (x76 + t108)), (wrap64 (x77 + 1)), H, hF.sub _ ⟨rfl, rfl, rfl, rfl, trivial⟩, hM.pick [] rfl rfl⟩
            ·
              obtain ⟨t110, h111, H⟩ := bind_some H
              refine s_region ?_
              refine s_val hF rfl rfl rfl (e_move hF rfl) ?_; intro a hF
              refine s_val hF rfl rfl rfl (e_move hF rfl) ?_; intro a hF
              refine s_val hF rfl rfl rfl (e_move hF rfl) ?_; intro a hF
              refine s_val hF rfl rfl rfl (e_eql hF rfl rfl) ?_; intro a hF
              refine s_val hF rfl rfl rfl (e_move hF rfl) ?_; intro a hF
              have hF := hF.topb (decide_eq_false c107)
              refine s_skip hF rfl rfl rfl ?_; intro a hF
              refine s_skip hF rfl rfl rfl ?_; intro a hF
              refine s_skip hF rfl rfl rfl ?_; intro a hF
              refine s_skip hF rfl rfl rfl ?_; intro a hF
              refine s_skip hF rfl rfl rfl ?_; intro a hF
              refine s_skip hF rfl rfl rfl ?_; intro a hF
              refine s_val hF rfl rfl rfl (e_pick_f hF rfl rfl) ?_; intro a hF
              refine s_call hF rfl rfl rfl Try.call46 (impl_truth.calls K false t110 h111) ?_; intro a w v hF hf hR
              subst hR; have hM := hM.grow hf
              refine s_val hF rfl rfl rfl (e_add hF rfl rfl) ?_; intro a hF
              refine s_val hF rfl rfl rfl (e_assign hF rfl) ?_; intro a hF
              refine s_nil ?_
              refine blk_n ?_
              refine then_n ?_
              refine s_region ?_
              refine s_val hF rfl rfl rfl (e_add hF rfl rfl) ?_; intro a hF
              refine s_val hF rfl rfl rfl (e_move hF rfl) ?_; intro a hF
              refine s_nil ?_
              refine then_n ?_
              exact ⟨(wrap64 (x76 + t110)), (wrap64 (x77 + 1)), H, hF.sub _ ⟨rfl, rfl, rfl, rfl, trivial⟩, hM.pick [] rfl rfl⟩
        ·
          refine s_cond_f hF rfl (decide_eq_false c78) ?_
          refine wp_exit ?_
          refine then_x ?_
          refine then_x ?_
          exact ⟨rfl, x76, some_some H, hF.sub _ ⟨rfl, trivial⟩, hM.pick [] rfl rfl⟩
    · rintro e a w ⟨rfl, x75, rfl, hF, hM⟩
      skip
      refine blk_x ?_
      refine then_n ?_
      refine wp_seq ?_
      refine s_region ?_
      refine s_val hF rfl rfl rfl (e_move hF rfl) ?_; intro a hF
      refine s_val hF rfl rfl rfl (e_assign hF rfl) ?_; intro a hF
      refine s_val hF rfl rfl rfl (e_assign hF rfl) ?_; intro a hF
      refine s_nil ?_
      refine then_n ?_
      refine wp_ret ?_
      obtain rfl := some_some H
      refine s_ret [Value.int .i64 x75, Value.bool true] hF Try.results13 ⟨rfl, rfl, trivial⟩ ?_
      exact ⟨_, rfl, hM.frm, rfl⟩
  ·
    refine s_cond_t hF rfl (congrArg Bool.not (bf c3)) ?_
    refine wp_seq ?_
    refine s_region ?_
    refine s_val hF rfl rfl rfl (e_assign hF rfl) ?_; intro a hF
    refine s_val hF rfl rfl rfl (e_assign hF rfl) ?_; intro a hF
    refine s_nil ?_
    refine then_n ?_
    refine wp_ret ?_
    refine then_r ?_
    obtain rfl := some_some H
    refine s_ret [Value.int .i64 0, Value.bool false] hF Try.results13 ⟨rfl, rfl, trivial⟩ ?_
    exact ⟨_, rfl, hM.frm, rfl⟩

/-! ### loop.example/g01210/laws.FnExactCountEven: function 3 -/
def laws_FnExactCountEven.f (K : Nat) (a0 : Int) : Option Bool := (spec_CountEven.f K a0).bind fun t1 => (impl_CountEven.f K a0).bind fun t3 => if t3.1 = t1.1 then (if (t3.2 == t1.2) = true then (some true) else (some false)) else (some false)
set_option maxRecDepth 100000 in
set_option maxHeartbeats 4000000 in
theorem laws_FnExactCountEven.calls {w0 : World} (K : Nat) (a0 : Int) (r : Bool) (H : laws_FnExactCountEven.f K a0 = some r) : Calls Try.prog 3 [Value.int .i64 a0].toArray w0 (Post w0 fun w v => v = Value.bool r) := by
  rw [laws_FnExactCountEven.f] at H
  refine s_start Try.func3 rfl Try.ntmps3 rfl ?_
  intro a hF
  have hM := Ms.start w0
  skip
  refine wp_seq ?_
  refine s_region ?_
  refine s_val hF rfl rfl rfl (e_assign hF rfl) ?_; intro a hF
  refine s_nil ?_
  refine then_n ?_
  refine wp_seq ?_
  obtain ⟨t1, h2, H⟩ := bind_some H
  refine s_region ?_
  refine s_val hF rfl rfl rfl (e_move hF rfl) ?_; intro a hF
  refine s_call hF rfl rfl rfl Try.call12 (spec_CountEven.calls K a0 t1 h2) ?_; intro a w v hF hf hR
  subst hR; have hM := hM.grow hf
  refine s_val hF rfl rfl rfl (e_move hF rfl) ?_; intro a hF
  refine s_val hF rfl rfl rfl (e_extract hF rfl rfl) ?_; intro a hF
  refine s_val hF rfl rfl rfl (e_extract hF rfl rfl) ?_; intro a hF
  refine s_val hF rfl rfl rfl (e_assign hF rfl) ?_; intro a hF
  refine s_val hF rfl rfl rfl (e_assign hF rfl) ?_; intro a hF
  refine s_nil ?_
  refine then_n ?_
  refine wp_seq ?_
  obtain ⟨t3, h4, H⟩ := bind_some H
  refine s_region ?_
  refine s_val hF rfl rfl rfl (e_move hF rfl) ?_; intro a hF
  refine s_call hF rfl rfl rfl Try.call13 (impl_CountEven.calls K a0 t3 h4) ?_; intro a w v hF hf hR
  subst hR; have hM := hM.grow hf
  refine s_val hF rfl rfl rfl (e_move hF rfl) ?_; intro a hF
  refine s_val hF rfl rfl rfl (e_extract hF rfl rfl) ?_; intro a hF
  refine s_val hF rfl rfl rfl (e_extract hF rfl rfl) ?_; intro a hF
  refine s_val hF rfl rfl rfl (e_assign hF rfl) ?_; intro a hF
  refine s_val hF rfl rfl rfl (e_assign hF rfl) ?_; intro a hF
  refine s_nil ?_
  refine then_n ?_
  refine wp_seq ?_
  refine wp_seq ?_
  rcases ite_cases H with ⟨c5, H⟩ | ⟨c5, H⟩
  ·
    refine s_region ?_
    refine s_val hF rfl rfl rfl (e_move hF rfl) ?_; intro a hF
    refine s_val hF rfl rfl rfl (e_move hF rfl) ?_; intro a hF
    refine s_val hF rfl rfl rfl (e_neq hF rfl rfl) ?_; intro a hF
    refine s_val hF rfl rfl rfl (e_move hF rfl) ?_; intro a hF
    have hF := hF.topb (congrArg Bool.not (decide_eq_true c5))
    refine s_val hF rfl rfl rfl (e_move hF rfl) ?_; intro a hF
    refine s_val hF rfl rfl rfl (e_move hF rfl) ?_; intro a hF
    refine s_val hF rfl rfl rfl (e_bneq hF rfl rfl Try.underlying4) ?_; intro a hF
    refine s_val hF rfl rfl rfl (e_pick_f hF rfl rfl) ?_; intro a hF
    refine s_nil ?_
    refine then_n ?_
    rcases ite_cases H with ⟨c6, H⟩ | ⟨c6, H⟩
    ·
      refine s_cond_f hF rfl (congrArg Bool.not c6) ?_
      refine wp_skip ?_
      refine then_n ?_
      refine wp_seq ?_
      refine s_region ?_
      refine s_val hF rfl rfl rfl (e_assign hF rfl) ?_; intro a hF
      refine s_nil ?_
      refine then_n ?_
      refine wp_ret ?_
      obtain rfl := some_some H
      refine s_ret [Value.bool true] hF Try.results3 ⟨rfl, trivial⟩ ?_
      exact ⟨_, rfl, hM.frm, rfl⟩
    ·
      refine s_cond_t hF rfl (congrArg Bool.not (bf c6)) ?_
      refine wp_seq ?_
      refine s_region ?_
      refine s_val hF rfl rfl rfl (e_assign hF rfl) ?_; intro a hF
      refine s_nil ?_
      refine then_n ?_
      refine wp_ret ?_
      refine then_r ?_
      obtain rfl := some_some H
      refine s_ret [Value.bool false] hF Try.results3 ⟨rfl, trivial⟩ ?_
      exact ⟨_, rfl, hM.frm, rfl⟩
  ·
    refine s_region ?_
    refine s_val hF rfl rfl rfl (e_move hF rfl) ?_; intro a hF
    refine s_val hF rfl rfl rfl (e_move hF rfl) ?_; intro a hF
    refine s_val hF rfl rfl rfl (e_neq hF rfl rfl) ?_; intro a hF
    refine s_val hF rfl rfl rfl (e_move hF rfl) ?_; intro a hF
    have hF := hF.topb (congrArg Bool.not (decide_eq_false c5))
    refine s_skip hF rfl rfl rfl ?_; intro a hF
    refine s_skip hF rfl rfl rfl ?_; intro a hF
    refine s_skip hF rfl rfl rfl ?_; intro a hF
    refine s_val hF rfl rfl rfl (e_pick_t hF rfl rfl) ?_; intro a hF
    refine s_nil ?_
    refine then_n ?_
    refine s_cond_t hF rfl rfl ?_
    refine wp_seq ?_
    refine s_region ?_
    refine s_val hF rfl rfl rfl (e_assign hF rfl) ?_; intro a hF
    refine s_nil ?_
    refine then_n ?_
    refine wp_ret ?_
    refine then_r ?_
    obtain rfl := some_some H
    refine s_ret [Value.bool false] hF Try.results3 ⟨rfl, trivial⟩ ?_
    exact ⟨_, rfl, hM.frm, rfl⟩

end Go.Proofs.Ytfiabgkolhpbkaa.WCountEven

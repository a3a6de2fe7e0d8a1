/- The walk through the code that the statement reaches: what each function computes. Conditions: none but those in each line. -/
import Derived.Test.YtbknafijehakbaaProg
import Derived.Test.YtbknafijehakbaaK
namespace Go.Proofs.Ytbknafijehakbaa.WBestThrows
open Go.K Go.RowKit
set_option linter.unusedVariables false
set_option linter.unusedSimpArgs false

theorem zv27 (w : World) : (zeroValue 27).run Try.prog w = .ok (ag [Pt.ar (Ar.zero 2)]) w := by kernel_rfl
theorem mixed : Try.prog.follows .mixedOrders = true := by kernel_rfl

/-! ### loop.example/g01210/spec.l1In: function 51 -/
def spec_l1In.f (K : Nat) (a0 : Int) (a1 : Int) (a2 : Int) : Option Bool := if a1 ≤ a0 then (some (decide (a0 ≤ a2))) else (some false)
set_option maxRecDepth 100000 in
set_option maxHeartbeats 4000000 in
theorem spec_l1In.calls {w0 : World} (K : Nat) (a0 : Int) (a1 : Int) (a2 : Int) (r : Bool) (H : spec_l1In.f K a0 a1 a2 = some r) : Calls Try.prog 51 [Value.int .i64 a0, Value.int .i64 a1, Value.int .i64 a2].toArray w0 (Post w0 fun w v => v = Value.bool r) := by
  rw [spec_l1In.f] at H
  refine s_start Try.func51 rfl Try.ntmps51 rfl ?_
  intro a hF
  have hM := Ms.start w0
  skip
  refine wp_seq ?_
  refine s_region ?_
  refine s_val hF rfl rfl rfl (e_assign hF rfl) ?_; intro a hF
  refine s_nil ?_
  refine then_n ?_
  refine wp_seq ?_
  rcases ite_cases H with ⟨c1, H⟩ | ⟨c1, H⟩
  ·
    refine s_region ?_
    refine s_val hF rfl rfl rfl (e_move hF rfl) ?_; intro a hF
    refine s_val hF rfl rfl rfl (e_move hF rfl) ?_; intro a hF
    refine s_val hF rfl rfl rfl (e_geq hF rfl rfl) ?_; intro a hF
    refine s_val hF rfl rfl rfl (e_move hF rfl) ?_; intro a hF
    have hF := hF.topb (decide_eq_true c1)
    refine s_val hF rfl rfl rfl (e_move hF rfl) ?_; intro a hF
    refine s_val hF rfl rfl rfl (e_move hF rfl) ?_; intro a hF
    refine s_val hF rfl rfl rfl (e_leq hF rfl rfl) ?_; intro a hF
    refine s_val hF rfl rfl rfl (e_pick_t hF rfl rfl) ?_; intro a hF
    refine s_val hF rfl rfl rfl (e_assign hF rfl) ?_; intro a hF
    refine s_nil ?_
    refine then_n ?_
    refine wp_ret ?_
    obtain rfl := some_some H
    refine s_ret [Value.bool (decide (a0 ≤ a2))] hF Try.results51 ⟨rfl, trivial⟩ ?_
    exact ⟨_, rfl, hM.frm, rfl⟩
  ·
    refine s_region ?_
    refine s_val hF rfl rfl rfl (e_move hF rfl) ?_; intro a hF
    refine s_val hF rfl rfl rfl (e_move hF rfl) ?_; intro a hF
    refine s_val hF rfl rfl rfl (e_geq hF rfl rfl) ?_; intro a hF
    refine s_val hF rfl rfl rfl (e_move hF rfl) ?_; intro a hF
    have hF := hF.topb (decide_eq_false c1)
    refine s_skip hF rfl rfl rfl ?_; intro a hF
    refine s_skip hF rfl rfl rfl ?_; intro a hF
    refine s_skip hF rfl rfl rfl ?_; intro a hF
    refine s_val hF rfl rfl rfl (e_pick_f hF rfl rfl) ?_; intro a hF
    refine s_val hF rfl rfl rfl (e_assign hF rfl) ?_; intro a hF
    refine s_nil ?_
    refine then_n ?_
    refine wp_ret ?_
    obtain rfl := some_some H
    refine s_ret [Value.bool false] hF Try.results51 ⟨rfl, trivial⟩ ?_
    exact ⟨_, rfl, hM.frm, rfl⟩

/-! ### loop.example/g01210/spec.l2All: function 52 -/
def spec_l2All.l0 (K : Nat) (a0 : Int) : Nat → Int → Int → Option Int
  | 0, _, _ => none
  | k + 1, x6, x7 => if x7 < a0 then (spec_l2All.l0 K a0 k (wrap64 (x6 * 6)) (wrap64 (x7 + 1))) else (some x6)
def spec_l2All.f (K : Nat) (a0 : Int) : Option Int := (spec_l2All.l0 K a0 K 1 0).bind fun x5 => some x5
set_option maxRecDepth 100000 in
set_option maxHeartbeats 4000000 in
theorem spec_l2All.calls {w0 : World} (K : Nat) (a0 : Int) (r : Int) (H : spec_l2All.f K a0 = some r) : Calls Try.prog 52 [Value.int .i64 a0].toArray w0 (Post w0 fun w v => v = Value.int .i64 r) := by
  rw [spec_l2All.f] at H
  refine s_start Try.func52 rfl Try.ntmps52 rfl ?_
  intro a hF
  have hM := Ms.start w0
  skip
  refine wp_seq ?_
  refine s_region ?_
  refine s_val hF rfl rfl rfl (e_assign hF rfl) ?_; intro a hF
  refine s_nil ?_
  refine then_n ?_
  refine wp_seq ?_
  refine s_region ?_
  refine s_val hF rfl rfl rfl (e_assign hF rfl) ?_; intro a hF
  refine s_nil ?_
  refine then_n ?_
  refine wp_seq ?_
  refine wp_seq ?_
  refine s_region ?_
  refine s_val hF rfl rfl rfl (e_assign hF rfl) ?_; intro a hF
  refine s_nil ?_
  refine then_n ?_
  refine wp_block ?_
  obtain ⟨o9, h10, H⟩ := bind_some H
  refine wp_mono (Q := fun e a w => (e = Exit.exit 0 ∧ ∃ x5 : Int, x5 = o9 ∧ Fr 13 a [(3, Value.int .i64 x5)] ∧ Ms [] w0 w [])) ?_ ?_
  · refine s_loop (fun kq a w => ∃ x6 : Int, ∃ x7 : Int, spec_l2All.l0 K a0 kq x6 x7 = some o9 ∧ Fr 13 a [(0, Value.int .i64 a0), (3, Value.int .i64 x6), (4, Value.int .i64 x7)] ∧ Ms [] w0 w []) K ⟨1, 0, h10, hF.sub _ ⟨rfl, rfl, rfl, trivial⟩, hM.pick [] rfl rfl⟩ ?_ ?_
    · rintro a w ⟨_, _, H, _⟩; exact none_some H
    · rintro k a w ⟨x6, x7, H, hF, hM⟩; rw [spec_l2All.l0] at H
      refine wp_seq ?_
      refine wp_seq ?_
      refine s_region ?_
      refine s_val hF rfl rfl rfl (e_move hF rfl) ?_; intro a hF
      refine s_val hF rfl rfl rfl (e_move hF rfl) ?_; intro a hF
      refine s_val hF rfl rfl rfl (e_lss hF rfl rfl) ?_; intro a hF
      refine s_nil ?_
      refine then_n ?_
      rcases ite_cases H with ⟨c8, H⟩ | ⟨c8, H⟩
      ·
        refine s_cond_t hF rfl (decide_eq_true c8) ?_
        refine wp_skip ?_
        refine then_n ?_
        refine wp_seq ?_
        refine wp_block ?_
        refine s_region ?_
        refine s_val hF rfl rfl rfl (e_move hF rfl) ?_; intro a hF
        refine s_val hF rfl rfl rfl (e_mul hF rfl rfl) ?_; intro a hF
        refine s_val hF rfl rfl rfl (e_assign hF rfl) ?_; intro a hF
        refine s_nil ?_
        refine blk_n ?_
        refine then_n ?_
        refine s_region ?_
        refine s_val hF rfl rfl rfl (e_move hF rfl) ?_; intro a hF
        refine s_val hF rfl rfl rfl (e_add hF rfl rfl) ?_; intro a hF
        refine s_val hF rfl rfl rfl (e_assign hF rfl) ?_; intro a hF
        refine s_nil ?_
        refine then_n ?_
        exact ⟨(wrap64 (x6 * 6)), (wrap64 (x7 + 1)), H, hF.sub _ ⟨rfl, rfl, rfl, trivial⟩, hM.pick [] rfl rfl⟩
      ·
        refine s_cond_f hF rfl (decide_eq_false c8) ?_
        refine wp_exit ?_
        refine then_x ?_
        refine then_x ?_
        exact ⟨rfl, x6, some_some H, hF.sub _ ⟨rfl, trivial⟩, hM.pick [] rfl rfl⟩
  · rintro e a w ⟨rfl, x5, rfl, hF, hM⟩
    skip
    refine blk_x ?_
    refine then_n ?_
    refine wp_seq ?_
    refine s_region ?_
    refine s_val hF rfl rfl rfl (e_move hF rfl) ?_; intro a hF
    refine s_val hF rfl rfl rfl (e_assign hF rfl) ?_; intro a hF
    refine s_nil ?_
    refine then_n ?_
    refine wp_ret ?_
    obtain rfl := some_some H
    refine s_ret [Value.int .i64 x5] hF Try.results52 ⟨rfl, trivial⟩ ?_
    exact ⟨_, rfl, hM.frm, rfl⟩

/-! ### loop.example/g01210/spec.l9Good: function 55 -/
def spec_l9Good.f (K : Nat) (a0 : Int) (a1 : Int) : Option Bool := (spec_l1In.f K a0 1 1000).bind fun t1 => if t1 = true then ((spec_l1In.f K a1 1 6).bind fun t4 => if t4 = true then ((spec_l2All.f K a1).bind fun t7 => some (decide (a0 ≤ t7))) else (some false)) else (some false)
set_option maxRecDepth 100000 in
set_option maxHeartbeats 4000000 in
theorem spec_l9Good.calls {w0 : World} (K : Nat) (a0 : Int) (a1 : Int) (r : Bool) (H : spec_l9Good.f K a0 a1 = some r) : Calls Try.prog 55 [Value.int .i64 a0, Value.int .i64 a1].toArray w0 (Post w0 fun w v => v = Value.bool r) := by
  rw [spec_l9Good.f] at H
  refine s_start Try.func55 rfl Try.ntmps55 rfl ?_
  intro a hF
  have hM := Ms.start w0
  skip
  refine wp_seq ?_
  refine s_region ?_
  refine s_val hF rfl rfl rfl (e_assign hF rfl) ?_; intro a hF
  refine s_nil ?_
  refine then_n ?_
  refine wp_seq ?_
  obtain ⟨t1, h2, H⟩ := bind_some H
  rcases ite_cases H with ⟨c3, H⟩ | ⟨c3, H⟩
  ·
    obtain ⟨t4, h5, H⟩ := bind_some H
    rcases ite_cases H with ⟨c6, H⟩ | ⟨c6, H⟩
    ·
      obtain ⟨t7, h8, H⟩ := bind_some H
      refine s_region ?_
      refine s_val hF rfl rfl rfl (e_move hF rfl) ?_; intro a hF
      refine s_call hF rfl rfl rfl Try.call51 (spec_l1In.calls K a0 1 1000 t1 h2) ?_; intro a w v hF hf hR
      subst hR; have hM := hM.grow hf
      refine s_val hF rfl rfl rfl (e_move hF rfl) ?_; intro a hF
      have hF := hF.topb c3
      refine s_val hF rfl rfl rfl (e_move hF rfl) ?_; intro a hF
      refine s_call hF rfl rfl rfl Try.call51 (spec_l1In.calls K a1 1 6 t4 h5) ?_; intro a w v hF hf hR
      subst hR; have hM := hM.grow hf
      refine s_val hF rfl rfl rfl (e_pick_t hF rfl rfl) ?_; intro a hF
      refine s_val hF rfl rfl rfl (e_move hF rfl) ?_; intro a hF
      have hF := hF.topb c6
      refine s_val hF rfl rfl rfl (e_move hF rfl) ?_; intro a hF
      refine s_call hF rfl rfl rfl Try.call52 (spec_l2All.calls K a1 t7 h8) ?_; intro a w v hF hf hR
      subst hR; have hM := hM.grow hf
      refine s_val hF rfl rfl rfl (e_move hF rfl) ?_; intro a hF
      refine s_val hF rfl rfl rfl (e_geq hF rfl rfl) ?_; intro a hF
      refine s_val hF rfl rfl rfl (e_pick_t hF rfl rfl) ?_; intro a hF
      refine s_val hF rfl rfl rfl (e_assign hF rfl) ?_; intro a hF
      refine s_nil ?_
      refine then_n ?_
      refine wp_ret ?_
      obtain rfl := some_some H
      refine s_ret [Value.bool (decide (a0 ≤ t7))] hF Try.results55 ⟨rfl, trivial⟩ ?_
      exact ⟨_, rfl, hM.frm, rfl⟩
    ·
      refine s_region ?_
      refine s_val hF rfl rfl rfl (e_move hF rfl) ?_; intro a hF
      refine s_call hF rfl rfl rfl Try.call51 (spec_l1In.calls K a0 1 1000 t1 h2) ?_; intro a w v hF hf hR
      subst hR; have hM := hM.grow hf
      refine s_val hF rfl rfl rfl (e_move hF rfl) ?_; intro a hF
      have hF := hF.topb c3
      refine s_val hF rfl rfl rfl (e_move hF rfl) ?_; intro a hF
      refine s_call hF rfl rfl rfl Try.call51 (spec_l1In.calls K a1 1 6 t4 h5) ?_; intro a w v hF hf hR
      subst hR; have hM := hM.grow hf
      refine s_val hF rfl rfl rfl (e_pick_t hF rfl rfl) ?_; intro a hF
      refine s_val hF rfl rfl rfl (e_move hF rfl) ?_; intro a hF
      have hF := hF.topb (bf c6)
      refine s_skip hF rfl rfl rfl ?_; intro a hF
      refine s_skip hF rfl rfl rfl ?_; intro a hF
      refine s_skip hF rfl rfl rfl ?_; intro a hF
      refine s_skip hF rfl rfl rfl ?_; intro a hF
      refine s_val hF rfl rfl rfl (e_pick_f hF rfl rfl) ?_; intro a hF
      refine s_val hF rfl rfl rfl (e_assign hF rfl) ?_; intro a hF
      refine s_nil ?_
      refine then_n ?_
      refine wp_ret ?_
      obtain rfl := some_some H
      refine s_ret [Value.bool false] hF Try.results55 ⟨rfl, trivial⟩ ?_
      exact ⟨_, rfl, hM.frm, rfl⟩
  ·
    refine s_region ?_
    refine s_val hF rfl rfl rfl (e_move hF rfl) ?_; intro a hF
    refine s_call hF rfl rfl rfl Try.call51 (spec_l1In.calls K a0 1 1000 t1 h2) ?_; intro a w v hF hf hR
    subst hR; have hM := hM.grow hf
    refine s_val hF rfl rfl rfl (e_move hF rfl) ?_; intro a hF
    have hF := hF.topb (bf c3)
    refine s_skip hF rfl rfl rfl ?_; intro a hF
    refine s_skip hF rfl rfl rfl ?_; intro a hF
    refine s_val hF rfl rfl rfl (e_pick_f hF rfl rfl) ?_; intro a hF
    refine s_val hF rfl rfl rfl (e_move hF rfl) ?_; intro a hF
    refine s_skip hF rfl rfl rfl ?_; intro a hF
    refine s_skip hF rfl rfl rfl ?_; intro a hF
    refine s_skip hF rfl rfl rfl ?_; intro a hF
    refine s_skip hF rfl rfl rfl ?_; intro a hF
    refine s_val hF rfl rfl rfl (e_pick_f hF rfl rfl) ?_; intro a hF
    refine s_val hF rfl rfl rfl (e_assign hF rfl) ?_; intro a hF
    refine s_nil ?_
    refine then_n ?_
    refine wp_ret ?_
    obtain rfl := some_some H
    refine s_ret [Value.bool false] hF Try.results55 ⟨rfl, trivial⟩ ?_
    exact ⟨_, rfl, hM.frm, rfl⟩

/-! ### loop.example/g01210/spec.l9Taken: function 56 -/
def spec_l9Taken.f (K : Nat) (a0 : Int) (a1 : Int) : Option Int := (spec_l2All.f K a1).bind fun t1 => if a0 ≠ 0 then (some (wrap64 ((wrap64 (t1.tdiv a0)) * a0))) else none
set_option maxRecDepth 100000 in
set_option maxHeartbeats 4000000 in
theorem spec_l9Taken.calls {w0 : World} (K : Nat) (a0 : Int) (a1 : Int) (r : Int) (H : spec_l9Taken.f K a0 a1 = some r) : Calls Try.prog 56 [Value.int .i64 a0, Value.int .i64 a1].toArray w0 (Post w0 fun w v => v = Value.int .i64 r) := by
  rw [spec_l9Taken.f] at H
  refine s_start Try.func56 rfl Try.ntmps56 rfl ?_
  intro a hF
  have hM := Ms.start w0
  skip
  refine wp_seq ?_
  refine s_region ?_
  refine s_val hF rfl rfl rfl (e_assign hF rfl) ?_; intro a hF
  refine s_nil ?_
  refine then_n ?_
  refine wp_seq ?_
  obtain ⟨t1, h2, H⟩ := bind_some H
  obtain ⟨c3, H⟩ := ite_some H
  refine s_region ?_
  refine s_val hF rfl rfl rfl (e_move hF rfl) ?_; intro a hF
  refine s_call hF rfl rfl rfl Try.call52 (spec_l2All.calls K a1 t1 h2) ?_; intro a w v hF hf hR
  subst hR; have hM := hM.grow hf
  refine s_val hF rfl rfl rfl (e_move hF rfl) ?_; intro a hF
  refine s_val hF rfl rfl rfl (e_quo hF rfl rfl c3) ?_; intro a hF
  refine s_val hF rfl rfl rfl (e_move hF rfl) ?_; intro a hF
  refine s_val hF rfl rfl rfl (e_mul hF rfl rfl) ?_; intro a hF
  refine s_val hF rfl rfl rfl (e_assign hF rfl) ?_; intro a hF
  refine s_nil ?_
  refine then_n ?_
  refine wp_ret ?_
  obtain rfl := some_some H
  refine s_ret [Value.int .i64 (wrap64 ((wrap64 (t1.tdiv a0)) * a0))] hF Try.results56 ⟨rfl, trivial⟩ ?_
  exact ⟨_, rfl, hM.frm, rfl⟩

/-! ### loop.example/g01210/spec.l1Most: function 82 -/
def spec_l1Most.f (K : Nat) (a0 : Int) (a1 : Int) : Option Int := if a1 < a0 then (some a0) else (some a1)
set_option maxRecDepth 100000 in
set_option maxHeartbeats 4000000 in
theorem spec_l1Most.calls {w0 : World} (K : Nat) (a0 : Int) (a1 : Int) (r : Int) (H : spec_l1Most.f K a0 a1 = some r) : Calls Try.prog 82 [Value.int .i64 a0, Value.int .i64 a1].toArray w0 (Post w0 fun w v => v = Value.int .i64 r) := by
  rw [spec_l1Most.f] at H
  refine s_start Try.func82 rfl Try.ntmps82 rfl ?_
  intro a hF
  have hM := Ms.start w0
  skip
  refine wp_seq ?_
  refine s_region ?_
  refine s_val hF rfl rfl rfl (e_assign hF rfl) ?_; intro a hF
  refine s_nil ?_
  refine then_n ?_
  refine wp_seq ?_
  refine wp_seq ?_
  refine s_region ?_
  refine s_val hF rfl rfl rfl (e_move hF rfl) ?_; intro a hF
  refine s_val hF rfl rfl rfl (e_move hF rfl) ?_; intro a hF
  refine s_val hF rfl rfl rfl (e_gtr hF rfl rfl) ?_; intro a hF
  refine s_nil ?_
  refine then_n ?_
  rcases ite_cases H with ⟨c1, H⟩ | ⟨c1, H⟩
  ·
    refine s_cond_t hF rfl (decide_eq_true c1) ?_
    refine wp_seq ?_
    refine s_region ?_
    refine s_val hF rfl rfl rfl (e_move hF rfl) ?_; intro a hF
    refine s_val hF rfl rfl rfl (e_assign hF rfl) ?_; intro a hF
    refine s_nil ?_
    refine then_n ?_
    refine wp_ret ?_
    refine then_r ?_
    obtain rfl := some_some H
    refine s_ret [Value.int .i64 a0] hF Try.results82 ⟨rfl, trivial⟩ ?_
    exact ⟨_, rfl, hM.frm, rfl⟩
  ·
    refine s_cond_f hF rfl (decide_eq_false c1) ?_
    refine wp_skip ?_
    refine then_n ?_
    refine wp_seq ?_
    refine s_region ?_
    refine s_val hF rfl rfl rfl (e_move hF rfl) ?_; intro a hF
    refine s_val hF rfl rfl rfl (e_assign hF rfl) ?_; intro a hF
    refine s_nil ?_
    refine then_n ?_
    refine wp_ret ?_
    obtain rfl := some_some H
    refine s_ret [Value.int .i64 a1] hF Try.results82 ⟨rfl, trivial⟩ ?_
    exact ⟨_, rfl, hM.frm, rfl⟩

/-! ### loop.example/g01210/spec.l2Cut: function 59 -/
def spec_l2Cut.l0 (K : Nat) : Nat → Int → Int → Option Int
  | 0, _, _ => none
  | k + 1, x9, x10 => if 0 < x10 then (if x10 ≠ 0 then (spec_l2Cut.l0 K k x10 (x9.tmod x10)) else none) else (some x9)
def spec_l2Cut.f (K : Nat) (a0 : Int) (a1 : Int) : Option (Ar 2) := (spec_l2Cut.l0 K K a0 a1).bind fun x8 => (spec_l1Most.f K x8 1).bind fun t15 => if t15 ≠ 0 then ((spec_l1Most.f K x8 1).bind fun t18 => if t18 ≠ 0 then (some (⟨[(wrap64 (a0.tdiv t15)), (wrap64 (a1.tdiv t18))], rfl⟩ : Ar 2)) else none) else none
set_option maxRecDepth 100000 in
set_option maxHeartbeats 4000000 in
theorem spec_l2Cut.calls {w0 : World} (K : Nat) (a0 : Int) (a1 : Int) (r : (Ar 2)) (H : spec_l2Cut.f K a0 a1 = some r) : Calls Try.prog 59 [Value.int .i64 a0, Value.int .i64 a1].toArray w0 (Post w0 fun w v => v = ag [Pt.ar r]) := by
  rw [spec_l2Cut.f] at H
  refine s_start Try.func59 rfl Try.ntmps59 rfl ?_
  intro a hF
  have hM := Ms.start w0
  skip
  refine wp_seq ?_
  refine s_region ?_
  refine s_alloc (ps := [Pt.ar (Ar.zero 2)]) hF hM rfl rfl zv27 rfl ?_; intro a w b1 hF hM
  refine s_nil ?_
  refine then_n ?_
  refine wp_seq ?_
  refine s_region ?_
  refine s_val hF rfl rfl rfl (e_move hF rfl) ?_; intro a hF
  refine s_val hF rfl rfl rfl (e_move hF rfl) ?_; intro a hF
  refine s_val hF rfl rfl rfl (e_assign hF rfl) ?_; intro a hF
  refine s_val hF rfl rfl rfl (e_assign hF rfl) ?_; intro a hF
  refine s_nil ?_
  refine then_n ?_
  refine wp_seq ?_
  refine wp_block ?_
  obtain ⟨o13, h14, H⟩ := bind_some H
  refine wp_mono (Q := fun e a w => (e = Exit.exit 0 ∧ ∃ x8 : Int, x8 = o13 ∧ Fr 24 a [(0, Value.int .i64 a0), (1, Value.int .i64 a1), (4, pt b1 0), (5, Value.int .i64 x8)] ∧ Ms [] w0 w [boxR b1 [Pt.ar (Ar.zero 2)] 27])) ?_ ?_
  · refine s_loop (fun kq a w => ∃ x9 : Int, ∃ x10 : Int, spec_l2Cut.l0 K kq x9 x10 = some o13 ∧ Fr 24 a [(0, Value.int .i64 a0), (1, Value.int .i64 a1), (4, pt b1 0), (5, Value.int .i64 x9), (6, Value.int .i64 x10)] ∧ Ms [] w0 w [boxR b1 [Pt.ar (Ar.zero 2)] 27]) K ⟨a0, a1, h14, hF.sub _ ⟨rfl, rfl, rfl, rfl, rfl, trivial⟩, hM.pick [0] rfl rfl⟩ ?_ ?_
    · rintro a w ⟨_, _, H, _⟩; exact none_some H
    · rintro k a w ⟨x9, x10, H, hF, hM⟩; rw [spec_l2Cut.l0] at H
      refine wp_seq ?_
      refine wp_seq ?_
      refine s_region ?_
      refine s_val hF rfl rfl rfl (e_move hF rfl) ?_; intro a hF
      refine s_val hF rfl rfl rfl (e_gtr hF rfl rfl) ?_; intro a hF
      refine s_nil ?_
      refine then_n ?_
      rcases ite_cases H with ⟨c11, H⟩ | ⟨c11, H⟩
      ·
        refine s_cond_t hF rfl (decide_eq_true c11) ?_
        refine wp_skip ?_
        refine then_n ?_
        refine wp_block ?_
        obtain ⟨c12, H⟩ := ite_some H
        refine s_held (fun w => Ms [] w0 w [boxR b1 [Pt.ar (Ar.zero 2)] 27]) #[false, false, false, false, false, false] mixed rfl rfl hM ?_; intro w hf hM; clear hf
        refine h_val 0 #[true, false, false, false, false, false] rfl (by kernel_rfl) hF rfl rfl rfl (fun w hS => e_move hF rfl) (hM.pick [0] rfl rfl) ?_; intro a hF
        refine h_val 1 #[true, true, false, false, false, false] rfl (by kernel_rfl) hF rfl rfl rfl (fun w hS => e_move hF rfl) (hM.pick [0] rfl rfl) ?_; intro a hF
        refine h_val 2 #[true, true, true, false, false, false] rfl (by kernel_rfl) hF rfl rfl rfl (fun w hS => e_move hF rfl) (hM.pick [0] rfl rfl) ?_; intro a hF
        refine h_val 3 #[true, true, true, true, false, false] rfl (by kernel_rfl) hF rfl rfl rfl (fun w hS => e_rem hF rfl rfl c12) (hM.pick [0] rfl rfl) ?_; intro a hF
        refine h_val 4 #[true, true, true, true, true, false] rfl (by kernel_rfl) hF rfl rfl rfl (fun w hS => e_assign hF rfl) (hM.pick [0] rfl rfl) ?_; intro a hF
        refine h_val 5 #[true, true, true, true, true, true] rfl (by kernel_rfl) hF rfl rfl rfl (fun w hS => e_assign hF rfl) (hM.pick [0] rfl rfl) ?_; intro a hF
        refine h_done rfl ?_
        refine blk_n ?_
        refine then_n ?_
        exact ⟨x10, (x9.tmod x10), H, hF.sub _ ⟨rfl, rfl, rfl, rfl, rfl, trivial⟩, hM.pick [0] rfl rfl⟩
      ·
        refine s_cond_f hF rfl (decide_eq_false c11) ?_
        refine wp_exit ?_
        refine then_x ?_
        refine then_x ?_
        exact ⟨rfl, x9, some_some H, hF.sub _ ⟨rfl, rfl, rfl, rfl, trivial⟩, hM.pick [0] rfl rfl⟩
  · rintro e a w ⟨rfl, x8, rfl, hF, hM⟩
    skip
    refine blk_x ?_
    refine then_n ?_
    refine wp_seq ?_
    obtain ⟨t15, h16, H⟩ := bind_some H
    obtain ⟨c17, H⟩ := ite_some H
    obtain ⟨t18, h19, H⟩ := bind_some H
    obtain ⟨c20, H⟩ := ite_some H
    refine s_held (fun w => Ms [] w0 w []) #[false, false, false, false, false, false, false, false, false, false] mixed rfl rfl hM ?_; intro w hf hM; clear hf
    refine h_val 0 #[true, false, false, false, false, false, false, false, false, false] rfl (by kernel_rfl) hF rfl rfl rfl (fun w hS => e_move hF rfl) (hM.pick [] rfl rfl) ?_; intro a hF
    refine h_val 1 #[true, true, false, false, false, false, false, false, false, false] rfl (by kernel_rfl) hF rfl rfl rfl (fun w hS => e_move hF rfl) (hM.pick [] rfl rfl) ?_; intro a hF
    refine h_val 4 #[true, true, false, false, true, false, false, false, false, false] rfl (by kernel_rfl) hF rfl rfl rfl (fun w hS => e_move hF rfl) (hM.pick [] rfl rfl) ?_; intro a hF
    refine h_val 5 #[true, true, false, false, true, true, false, false, false, false] rfl (by kernel_rfl) hF rfl rfl rfl (fun w hS => e_move hF rfl) (hM.pick [] rfl rfl) ?_; intro a hF
    refine h_one 2 #[true, true, true, false, true, true, false, false, false, false] rfl (by kernel_rfl) ?_
    refine s_call hF rfl rfl rfl Try.call82 (spec_l1Most.calls K x8 1 t15 h16) ?_; intro a w v hF hf hR
    subst hR; have hM := hM.grow hf
    refine s_nil ⟨rfl, (hM.pick [] rfl rfl), ?_⟩
    refine h_val 3 #[true, true, true, true, true, true, false, false, false, false] rfl (by kernel_rfl) hF rfl rfl rfl (fun w hS => e_quo hF rfl rfl c17) (hM.pick [] rfl rfl) ?_; intro a hF
    refine h_one 6 #[true, true, true, true, true, true, true, false, false, false] rfl (by kernel_rfl) ?_
    refine s_call hF rfl rfl rfl Try.call82 (spec_l1Most.calls K x8 1 t18 h19) ?_; intro a w v hF hf hR
    subst hR; have hM := hM.grow hf
    refine s_nil ⟨rfl, (hM.pick [] rfl rfl), ?_⟩
    refine h_val 7 #[true, true, true, true, true, true, true, true, false, false] rfl (by kernel_rfl) hF rfl rfl rfl (fun w hS => e_quo hF rfl rfl c20) (hM.pick [] rfl rfl) ?_; intro a hF
    refine h_val 8 #[true, true, true, true, true, true, true, true, true, false] rfl (by kernel_rfl) hF rfl rfl rfl (fun w hS => e_build' (cells := cat [Pt.ar (⟨[(wrap64 (a0.tdiv t15)), (wrap64 (a1.tdiv t18))], rfl⟩ : Ar 2)]) hF rfl (by kernel_rfl)) (hM.pick [] rfl rfl) ?_; intro a hF
    refine h_one 9 #[true, true, true, true, true, true, true, true, true, true] rfl (by kernel_rfl) ?_
    refine s_stw (i := 0) (ps' := [Pt.ar (⟨[(wrap64 (a0.tdiv t15)), (wrap64 (a1.tdiv t18))], rfl⟩ : Ar 2)]) hF hM rfl rfl rfl rfl rfl rfl Try.sizeOf27 rfl ?_; intro a w hF hM
    refine s_nil ⟨rfl, (hM.pick [] rfl rfl), ?_⟩
    refine h_done rfl ?_
    refine then_n ?_
    refine wp_ret ?_
    obtain rfl := some_some H
    refine s_ret [ag [Pt.ar (⟨[(wrap64 (a0.tdiv t15)), (wrap64 (a1.tdiv t18))], rfl⟩ : Ar 2)]] hF Try.results59 ⟨⟨_, rfl, rv_box hM (i := 0) rfl Try.isAgg27 Try.sizeOf27 rfl⟩, trivial⟩ ?_
    exact ⟨_, rfl, hM.frm, rfl⟩

/-! ### loop.example/g01210/spec.MeanThrows: function 23 -/
def spec_MeanThrows.f (K : Nat) (a0 : Int) (a1 : Int) : Option ((Ar 2) × Bool) := (spec_l9Good.f K a0 a1).bind fun t2 => if t2 = true then ((spec_l2All.f K a1).bind fun t5 => (spec_l9Taken.f K a0 a1).bind fun t7 => (spec_l2Cut.f K (wrap64 (a1 * t5)) t7).bind fun t9 => some (t9, true)) else (some ((⟨[0, 0], rfl⟩ : Ar 2), false))
set_option maxRecDepth 100000 in
set_option maxHeartbeats 4000000 in
theorem spec_MeanThrows.calls {w0 : World} (K : Nat) (a0 : Int) (a1 : Int) (r : ((Ar 2) × Bool)) (H : spec_MeanThrows.f K a0 a1 = some r) : Calls Try.prog 23 [Value.int .i64 a0, Value.int .i64 a1].toArray w0 (Post w0 fun w v => v = Value.tuple #[ag [Pt.ar r.1], Value.bool r.2]) := by
  rw [spec_MeanThrows.f] at H
  refine s_start Try.func23 rfl Try.ntmps23 rfl ?_
  intro a hF
  have hM := Ms.start w0
  skip
  refine wp_seq ?_
  refine s_region ?_
  refine s_alloc (ps := [Pt.ar (Ar.zero 2)]) hF hM rfl rfl zv27 rfl ?_; intro a w b1 hF hM
  refine s_val hF rfl rfl rfl (e_assign hF rfl) ?_; intro a hF
  refine s_nil ?_
  refine then_n ?_
  refine wp_seq ?_
  refine wp_seq ?_
  obtain ⟨t2, h3, H⟩ := bind_some H
  refine s_region ?_
  refine s_val hF rfl rfl rfl (e_move hF rfl) ?_; intro a hF
  refine s_val hF rfl rfl rfl (e_move hF rfl) ?_; intro a hF
  refine s_call hF rfl rfl rfl Try.call55 (spec_l9Good.calls K a0 a1 t2 h3) ?_; intro a w v hF hf hR
  subst hR; have hM := hM.grow hf
  refine s_val hF rfl rfl rfl (e_not hF rfl) ?_; intro a hF
  refine s_nil ?_
  refine then_n ?_
  rcases ite_cases H with ⟨c4, H⟩ | ⟨c4, H⟩
  ·
    refine s_cond_f hF rfl (congrArg Bool.not c4) ?_
    refine wp_skip ?_
    refine then_n ?_
    refine wp_seq ?_
    obtain ⟨t5, h6, H⟩ := bind_some H
    obtain ⟨t7, h8, H⟩ := bind_some H
    obtain ⟨t9, h10, H⟩ := bind_some H
    refine s_region ?_
    refine s_val hF rfl rfl rfl (e_move hF rfl) ?_; intro a hF
    refine s_val hF rfl rfl rfl (e_move hF rfl) ?_; intro a hF
    refine s_call hF rfl rfl rfl Try.call52 (spec_l2All.calls K a1 t5 h6) ?_; intro a w v hF hf hR
    subst hR; have hM := hM.grow hf
    refine s_val hF rfl rfl rfl (e_mul hF rfl rfl) ?_; intro a hF
    refine s_val hF rfl rfl rfl (e_move hF rfl) ?_; intro a hF
    refine s_val hF rfl rfl rfl (e_move hF rfl) ?_; intro a hF
    refine s_call hF rfl rfl rfl Try.call56 (spec_l9Taken.calls K a0 a1 t7 h8) ?_; intro a w v hF hf hR
    subst hR; have hM := hM.grow hf
    refine s_call hF rfl rfl rfl Try.call59 (spec_l2Cut.calls K (wrap64 (a1 * t5)) t7 t9 h10) ?_; intro a w v hF hf hR
    subst hR; have hM := hM.grow hf
    refine s_stw (i := 0) (ps' := [Pt.ar t9]) hF hM rfl rfl rfl rfl rfl rfl Try.sizeOf27 rfl ?_; intro a w hF hM
    refine s_val hF rfl rfl rfl (e_assign hF rfl) ?_; intro a hF
    refine s_nil ?_
    refine then_n ?_
    refine wp_ret ?_
    obtain rfl := some_some H
    refine s_ret [ag [Pt.ar t9], Value.bool true] hF Try.results23 ⟨⟨_, rfl, rv_box hM (i := 0) rfl Try.isAgg27 Try.sizeOf27 rfl⟩, rfl, trivial⟩ ?_
    exact ⟨_, rfl, hM.frm, rfl⟩
  ·
    refine s_cond_t hF rfl (congrArg Bool.not (bf c4)) ?_
    refine wp_seq ?_
    refine s_region ?_
    refine s_val hF rfl rfl rfl (e_build' (cells := cat [Pt.ar (⟨[0, 0], rfl⟩ : Ar 2)]) hF rfl (by kernel_rfl)) ?_; intro a hF
    refine s_stw (i := 0) (ps' := [Pt.ar (⟨[0, 0], rfl⟩ : Ar 2)]) hF hM rfl rfl rfl rfl rfl rfl Try.sizeOf27 rfl ?_; intro a w hF hM
    refine s_val hF rfl rfl rfl (e_assign hF rfl) ?_; intro a hF
    refine s_nil ?_
    refine then_n ?_
    refine wp_ret ?_
    refine then_r ?_
    obtain rfl := some_some H
    refine s_ret [ag [Pt.ar (⟨[0, 0], rfl⟩ : Ar 2)], Value.bool false] hF Try.results23 ⟨⟨_, rfl, rv_box hM (i := 0) rfl Try.isAgg27 Try.sizeOf27 rfl⟩, rfl, trivial⟩ ?_
    exact ⟨_, rfl, hM.frm, rfl⟩

/-! ### loop.example/g01210/spec.l2Less: function 66 -/
def spec_l2Less.f (K : Nat) (a0 : (Ar 2)) (a1 : (Ar 2)) : Option Bool := some (decide ((wrap64 ((a0.get 0) * (a1.get 1))) < (wrap64 ((a1.get 0) * (a0.get 1)))))
set_option maxRecDepth 100000 in
set_option maxHeartbeats 4000000 in
theorem spec_l2Less.calls {w0 : World} (K : Nat) (a0 : (Ar 2)) (a1 : (Ar 2)) (r : Bool) (H : spec_l2Less.f K a0 a1 = some r) : Calls Try.prog 66 [ag [Pt.ar a0], ag [Pt.ar a1]].toArray w0 (Post w0 fun w v => v = Value.bool r) := by
  rw [spec_l2Less.f] at H
  refine s_start Try.func66 rfl Try.ntmps66 rfl ?_
  intro a hF
  have hM := Ms.start w0
  skip
  refine wp_seq ?_
  refine s_region ?_
  refine s_box (ps := [Pt.ar a0]) hF hM rfl rfl rfl rfl ?_; intro a w b1 hF hM
  refine s_box (ps := [Pt.ar a1]) hF hM rfl rfl rfl rfl ?_; intro a w b2 hF hM
  refine s_val hF rfl rfl rfl (e_assign hF rfl) ?_; intro a hF
  refine s_nil ?_
  refine then_n ?_
  refine wp_seq ?_
  refine s_region ?_
  refine s_val hF rfl rfl rfl (e_ia hF rfl rfl Try.underlying27 Try.sizeOf3 (by decide) (by decide)) ?_; intro a hF
  refine s_val hF rfl rfl rfl (e_ldi (i := 1) (k := 0) hF hM rfl rfl rfl rfl rfl Try.isAgg3 (by decide) (by decide)) ?_; intro a hF
  refine s_val hF rfl rfl rfl (e_ia hF rfl rfl Try.underlying27 Try.sizeOf3 (by decide) (by decide)) ?_; intro a hF
  refine s_val hF rfl rfl rfl (e_ldi (i := 0) (k := 0) hF hM rfl rfl rfl rfl rfl Try.isAgg3 (by decide) (by decide)) ?_; intro a hF
  refine s_val hF rfl rfl rfl (e_mul hF rfl rfl) ?_; intro a hF
  refine s_val hF rfl rfl rfl (e_ia hF rfl rfl Try.underlying27 Try.sizeOf3 (by decide) (by decide)) ?_; intro a hF
  refine s_val hF rfl rfl rfl (e_ldi (i := 0) (k := 0) hF hM rfl rfl rfl rfl rfl Try.isAgg3 (by decide) (by decide)) ?_; intro a hF
  refine s_val hF rfl rfl rfl (e_ia hF rfl rfl Try.underlying27 Try.sizeOf3 (by decide) (by decide)) ?_; intro a hF
  refine s_val hF rfl rfl rfl (e_ldi (i := 1) (k := 0) hF hM rfl rfl rfl rfl rfl Try.isAgg3 (by decide) (by decide)) ?_; intro a hF
  refine s_val hF rfl rfl rfl (e_mul hF rfl rfl) ?_; intro a hF
  refine s_val hF rfl rfl rfl (e_lss hF rfl rfl) ?_; intro a hF
  refine s_val hF rfl rfl rfl (e_assign hF rfl) ?_; intro a hF
  refine s_nil ?_
  refine then_n ?_
  refine wp_ret ?_
  obtain rfl := some_some H
  refine s_ret [Value.bool (decide ((wrap64 ((a0.get 0) * (a1.get 1))) < (wrap64 ((a1.get 0) * (a0.get 1)))))] hF Try.results66 ⟨rfl, trivial⟩ ?_
  exact ⟨_, rfl, hM.frm, rfl⟩

/-! ### loop.example/g01210/spec.BestThrows: function 33 -/
def spec_BestThrows.l0 (K : Nat) (a0 : Int) : Nat → Int → Int → (Ar 2) → Option (Int × (Ar 2))
  | 0, _, _, _ => none
  | k + 1, x21, x22, x23 => if x22 ≤ 6 then ((spec_MeanThrows.f K a0 x22).bind fun t25 => if t25.2 = true then (if x21 = 0 then (spec_BestThrows.l0 K a0 k x22 (wrap64 (x22 + 1)) t25.1) else ((spec_l2Less.f K t25.1 x23).bind fun t30 => if t30 = true then (spec_BestThrows.l0 K a0 k x22 (wrap64 (x22 + 1)) t25.1) else (spec_BestThrows.l0 K a0 k x21 (wrap64 (x22 + 1)) x23))) else (spec_BestThrows.l0 K a0 k x21 (wrap64 (x22 + 1)) x23)) else (some (x21, x23))
def spec_BestThrows.f (K : Nat) (a0 : Int) : Option (Int × (Ar 2) × Bool) := (spec_BestThrows.l0 K a0 K 0 1 (⟨[0, 0], rfl⟩ : Ar 2)).bind fun (x19, x20) => some (x19, x20, (decide (0 < x19)))
set_option maxRecDepth 100000 in
set_option maxHeartbeats 4000000 in
theorem spec_BestThrows.calls {w0 : World} (K : Nat) (a0 : Int) (r : (Int × (Ar 2) × Bool)) (H : spec_BestThrows.f K a0 = some r) : Calls Try.prog 33 [Value.int .i64 a0].toArray w0 (Post w0 fun w v => v = Value.tuple #[Value.int .i64 r.1, ag [Pt.ar r.2.1], Value.bool r.2.2]) := by
  rw [spec_BestThrows.f] at H
  refine s_start Try.func33 rfl Try.ntmps33 rfl ?_
  intro a hF
  have hM := Ms.start w0
  skip
  refine wp_seq ?_
  refine s_region ?_
  refine s_val hF rfl rfl rfl (e_assign hF rfl) ?_; intro a hF
  refine s_alloc (ps := [Pt.ar (Ar.zero 2)]) hF hM rfl rfl zv27 rfl ?_; intro a w b1 hF hM
  refine s_val hF rfl rfl rfl (e_assign hF rfl) ?_; intro a hF
  refine s_nil ?_
  refine then_n ?_
  refine wp_seq ?_
  refine s_region ?_
  refine s_val hF rfl rfl rfl (e_build' (cells := cat [Pt.ar (⟨[0, 0], rfl⟩ : Ar 2)]) hF rfl (by kernel_rfl)) ?_; intro a hF
  refine s_alloc (ps := [Pt.ar (Ar.zero 2)]) hF hM rfl rfl zv27 rfl ?_; intro a w b2 hF hM
  refine s_val hF rfl rfl rfl (e_assign hF rfl) ?_; intro a hF
  refine s_stw (i := 0) (ps' := [Pt.ar (⟨[0, 0], rfl⟩ : Ar 2)]) hF hM rfl rfl rfl rfl rfl rfl Try.sizeOf27 rfl ?_; intro a w hF hM
  refine s_nil ?_
  refine then_n ?_
  refine wp_seq ?_
  refine wp_seq ?_
  refine s_region ?_
  refine s_val hF rfl rfl rfl (e_assign hF rfl) ?_; intro a hF
  refine s_nil ?_
  refine then_n ?_
  refine wp_block ?_
  obtain ⟨o33, h34, H⟩ := bind_some H
  refine wp_mono (Q := fun e a w => (e = Exit.exit 0 ∧ ∃ x19 : Int, ∃ x20 : (Ar 2), (x19, x20) = o33 ∧ Fr 37 a [(3, pt b1 0), (5, Value.int .i64 x19), (6, pt b2 0)] ∧ Ms [] w0 w [boxR b1 [Pt.ar (Ar.zero 2)] 27, boxR b2 [Pt.ar x20] 27])) ?_ ?_
  · refine s_loop (fun kq a w => ∃ x21 : Int, ∃ x22 : Int, ∃ x23 : (Ar 2), spec_BestThrows.l0 K a0 kq x21 x22 x23 = some o33 ∧ Fr 37 a [(0, Value.int .i64 a0), (3, pt b1 0), (5, Value.int .i64 x21), (6, pt b2 0), (7, Value.int .i64 x22)] ∧ Ms [] w0 w [boxR b1 [Pt.ar (Ar.zero 2)] 27, boxR b2 [Pt.ar x23] 27]) K ⟨0, 1, (⟨[0, 0], rfl⟩ : Ar 2), h34, hF.sub _ ⟨rfl, rfl, rfl, rfl, rfl, trivial⟩, hM.pick [1, 0] rfl rfl⟩ ?_ ?_
    · rintro a w ⟨_, _, _, H, _⟩; exact none_some H
    · rintro k a w ⟨x21, x22, x23, H, hF, hM⟩; rw [spec_BestThrows.l0] at H
      refine wp_seq ?_
      refine wp_seq ?_
      refine s_region ?_
      refine s_val hF rfl rfl rfl (e_move hF rfl) ?_; intro a hF
      refine s_val hF rfl rfl rfl (e_leq hF rfl rfl) ?_; intro a hF
      refine s_nil ?_
      refine then_n ?_
      rcases ite_cases H with ⟨c24, H⟩ | ⟨c24, H⟩
      ·
        refine s_cond_t hF rfl (decide_eq_true c24) ?_
        refine wp_skip ?_
        refine then_n ?_
        refine wp_seq ?_
        refine wp_block ?_
        refine wp_seq ?_
        obtain ⟨t25, h26, H⟩ := bind_some H
        refine s_region ?_
        refine s_val hF rfl rfl rfl (e_move hF rfl) ?_; intro a hF
        refine s_val hF rfl rfl rfl (e_move hF rfl) ?_; intro a hF
        refine s_call hF rfl rfl rfl Try.call23 (spec_MeanThrows.calls K a0 x22 t25 h26) ?_; intro a w v hF hf hR
        subst hR; have hM := hM.grow hf
        refine s_val hF rfl rfl rfl (e_move hF rfl) ?_; intro a hF
        refine s_val hF rfl rfl rfl (e_extract hF rfl rfl) ?_; intro a hF
        refine s_val hF rfl rfl rfl (e_extract hF rfl rfl) ?_; intro a hF
        refine s_alloc (ps := [Pt.ar (Ar.zero 2)]) hF hM rfl rfl zv27 rfl ?_; intro a w b27 hF hM
        refine s_stw (i := 0) (ps' := [Pt.ar t25.1]) hF hM rfl rfl rfl rfl rfl rfl Try.sizeOf27 rfl ?_; intro a w hF hM
        refine s_val hF rfl rfl rfl (e_assign hF rfl) ?_; intro a hF
        refine s_nil ?_
        refine then_n ?_
        refine wp_seq ?_
        rcases ite_cases H with ⟨c28, H⟩ | ⟨c28, H⟩
        ·
          rcases ite_cases H with ⟨c29, H⟩ | ⟨c29, H⟩
          ·
            refine s_region ?_
            refine s_val hF rfl rfl rfl (e_move hF rfl) ?_; intro a hF
            refine s_val hF rfl rfl rfl (e_move hF rfl) ?_; intro a hF
            have hF := hF.topb c28
            refine s_val hF rfl rfl rfl (e_move hF rfl) ?_; intro a hF
            refine s_val hF rfl rfl rfl (e_eql hF rfl rfl) ?_; intro a hF
            refine s_val hF rfl rfl rfl (e_move hF rfl) ?_; intro a hF
            have hF := hF.topb (decide_eq_true c29)
            refine s_skip hF rfl rfl rfl ?_; intro a hF
            refine s_skip hF rfl rfl rfl ?_; intro a hF
            refine s_skip hF rfl rfl rfl ?_; intro a hF
            refine s_val hF rfl rfl rfl (e_pick_t hF rfl rfl) ?_; intro a hF
            refine s_val hF rfl rfl rfl (e_pick_t hF rfl rfl) ?_; intro a hF
            refine s_nil ?_
            refine then_n ?_
            refine s_cond_t hF rfl rfl ?_
            refine wp_seq ?_
            refine s_region ?_
            refine s_val hF rfl rfl rfl (e_move hF rfl) ?_; intro a hF
            refine s_val hF rfl rfl rfl (e_assign hF rfl) ?_; intro a hF
            refine s_nil ?_
            refine then_n ?_
            refine s_region ?_
            refine s_val hF rfl rfl rfl (e_lda (i := 0) 0 1 hF hM rfl rfl rfl rfl Try.isAgg27 Try.sizeOf27 rfl) ?_; intro a hF
            refine s_stw (i := 2) (ps' := [Pt.ar t25.1]) hF hM rfl rfl rfl rfl rfl rfl Try.sizeOf27 rfl ?_; intro a w hF hM
            refine s_nil ?_
            refine blk_n ?_
            refine then_n ?_
            refine s_region ?_
            refine s_val hF rfl rfl rfl (e_move hF rfl) ?_; intro a hF
            refine s_val hF rfl rfl rfl (e_add hF rfl rfl) ?_; intro a hF
            refine s_val hF rfl rfl rfl (e_assign hF rfl) ?_; intro a hF
            refine s_nil ?_
            refine then_n ?_
            exact ⟨x22, (wrap64 (x22 + 1)), t25.1, H, hF.sub _ ⟨rfl, rfl, rfl, rfl, rfl, trivial⟩, hM.pick [1, 2] rfl rfl⟩
          ·
            obtain ⟨t30, h31, H⟩ := bind_some H
            refine s_region ?_
            refine s_val hF rfl rfl rfl (e_move hF rfl) ?_; intro a hF
            refine s_val hF rfl rfl rfl (e_move hF rfl) ?_; intro a hF
            have hF := hF.topb c28
            refine s_val hF rfl rfl rfl (e_move hF rfl) ?_; intro a hF
            refine s_val hF rfl rfl rfl (e_eql hF rfl rfl) ?_; intro a hF
            refine s_val hF rfl rfl rfl (e_move hF rfl) ?_; intro a hF
            have hF := hF.topb (decide_eq_false c29)
            refine s_val hF rfl rfl rfl (e_lda (i := 0) 0 1 hF hM rfl rfl rfl rfl Try.isAgg27 Try.sizeOf27 rfl) ?_; intro a hF
            refine s_val hF rfl rfl rfl (e_lda (i := 2) 0 1 hF hM rfl rfl rfl rfl Try.isAgg27 Try.sizeOf27 rfl) ?_; intro a hF
            refine s_call hF rfl rfl rfl Try.call66 (spec_l2Less.calls K t25.1 x23 t30 h31) ?_; intro a w v hF hf hR
            subst hR; have hM := hM.grow hf
            refine s_val hF rfl rfl rfl (e_pick_f hF rfl rfl) ?_; intro a hF
            refine s_val hF rfl rfl rfl (e_pick_t hF rfl rfl) ?_; intro a hF
            refine s_nil ?_
            refine then_n ?_
            rcases ite_cases H with ⟨c32, H⟩ | ⟨c32, H⟩
            ·
              refine s_cond_t hF rfl c32 ?_
              refine wp_seq ?_
              refine s_region ?_
              refine s_val hF rfl rfl rfl (e_move hF rfl) ?_; intro a hF
              refine s_val hF rfl rfl rfl (e_assign hF rfl) ?_; intro a hF
              refine s_nil ?_
              refine then_n ?_
              refine s_region ?_
              refine s_val hF rfl rfl rfl (e_lda (i := 0) 0 1 hF hM rfl rfl rfl rfl Try.isAgg27 Try.sizeOf27 rfl) ?_; intro a hF
              refine s_stw (i := 2) (ps' := [Pt.ar t25.1]) hF hM rfl rfl rfl rfl rfl rfl Try.sizeOf27 rfl ?_; intro a w hF hM
              refine s_nil ?_
              refine blk_n ?_
              refine then_n ?_
              refine s_region ?_
              refine s_val hF rfl rfl rfl (e_move hF rfl) ?_; intro a hF
              refine s_val hF rfl rfl rfl (e_add hF rfl rfl) ?_; intro a hF
              refine s_val hF rfl rfl rfl (e_assign hF rfl) ?_; intro a hF
              refine s_nil ?_
              refine then_n ?_
              exact ⟨x22, (wrap64 (x22 + 1)), t25.1, H, hF.sub _ ⟨rfl, rfl, rfl, rfl, rfl, trivial⟩, hM.pick [1, 2] rfl rfl⟩
            ·
              refine s_cond_f hF rfl (bf c32) ?_
              refine wp_skip ?_
              refine blk_n ?_
              refine then_n ?_
              refine s_region ?_
              refine s_val hF rfl rfl rfl (e_move hF rfl) ?_; intro a hF
              refine s_val hF rfl rfl rfl (e_add hF rfl rfl) ?_; intro a hF
              refine s_val hF rfl rfl rfl (e_assign hF rfl) ?_; intro a hF
              refine s_nil ?_
              refine then_n ?_
              exact ⟨x21, (wrap64 (x22 + 1)), x23, H, hF.sub _ ⟨rfl, rfl, rfl, rfl, rfl, trivial⟩, hM.pick [1, 2] rfl rfl⟩
        ·
          refine s_region ?_
          refine s_val hF rfl rfl rfl (e_move hF rfl) ?_; intro a hF
          refine s_val hF rfl rfl rfl (e_move hF rfl) ?_; intro a hF
          have hF := hF.topb (bf c28)
          refine s_skip hF rfl rfl rfl ?_; intro a hF
          refine s_skip hF rfl rfl rfl ?_; intro a hF
          refine s_skip hF rfl rfl rfl ?_; intro a hF
          refine s_skip hF rfl rfl rfl ?_; intro a hF
          refine s_skip hF rfl rfl rfl ?_; intro a hF
          refine s_skip hF rfl rfl rfl ?_; intro a hF
          refine s_skip hF rfl rfl rfl ?_; intro a hF
          refine s_val hF rfl rfl rfl (e_pick_f hF rfl rfl) ?_; intro a hF
          refine s_nil ?_
          refine then_n ?_
          refine s_cond_f hF rfl rfl ?_
          refine wp_skip ?_
          refine blk_n ?_
          refine then_n ?_
          refine s_region ?_
          refine s_val hF rfl rfl rfl (e_move hF rfl) ?_; intro a hF
          refine s_val hF rfl rfl rfl (e_add hF rfl rfl) ?_; intro a hF
          refine s_val hF rfl rfl rfl (e_assign hF rfl) ?_; intro a hF
          refine s_nil ?_
          refine then_n ?_
          exact ⟨x21, (wrap64 (x22 + 1)), x23, H, hF.sub _ ⟨rfl, rfl, rfl, rfl, rfl, trivial⟩, hM.pick [1, 2] rfl rfl⟩
      ·
        refine s_cond_f hF rfl (decide_eq_false c24) ?_
        refine wp_exit ?_
        refine then_x ?_
        refine then_x ?_
        exact ⟨rfl, x21, x23, some_some H, hF.sub _ ⟨rfl, rfl, rfl, trivial⟩, hM.pick [0, 1] rfl rfl⟩
  · rintro e a w ⟨rfl, x19, x20, rfl, hF, hM⟩
    skip
    refine blk_x ?_
    refine then_n ?_
    refine wp_seq ?_
    refine s_held (fun w => Ms [] w0 w [boxR b2 [Pt.ar x20] 27]) #[false, false, false, false, false, false, false] mixed rfl rfl hM ?_; intro w hf hM; clear hf
    refine h_val 0 #[true, false, false, false, false, false, false] rfl (by kernel_rfl) hF rfl rfl rfl (fun w hS => e_move hF rfl) (hM.pick [1] rfl rfl) ?_; intro a hF
    refine h_val 1 #[true, true, false, false, false, false, false] rfl (by kernel_rfl) hF rfl rfl rfl (fun w hS => e_lda (i := 0) 0 1 hF hS rfl rfl rfl rfl Try.isAgg27 Try.sizeOf27 rfl) (hM.pick [1] rfl rfl) ?_; intro a hF
    refine h_val 2 #[true, true, true, false, false, false, false] rfl (by kernel_rfl) hF rfl rfl rfl (fun w hS => e_move hF rfl) (hM.pick [1] rfl rfl) ?_; intro a hF
    refine h_val 3 #[true, true, true, true, false, false, false] rfl (by kernel_rfl) hF rfl rfl rfl (fun w hS => e_gtr hF rfl rfl) (hM.pick [1] rfl rfl) ?_; intro a hF
    refine h_val 4 #[true, true, true, true, true, false, false] rfl (by kernel_rfl) hF rfl rfl rfl (fun w hS => e_assign hF rfl) (hM.pick [1] rfl rfl) ?_; intro a hF
    refine h_one 5 #[true, true, true, true, true, true, false] rfl (by kernel_rfl) ?_
    refine s_stw (i := 0) (ps' := [Pt.ar x20]) hF hM rfl rfl rfl rfl rfl rfl Try.sizeOf27 rfl ?_; intro a w hF hM
    refine s_nil ⟨rfl, (hM.pick [1] rfl rfl), ?_⟩
    refine h_val 6 #[true, true, true, true, true, true, true] rfl (by kernel_rfl) hF rfl rfl rfl (fun w hS => e_assign hF rfl) (hM.pick [1] rfl rfl) ?_; intro a hF
    refine h_done rfl ?_
    refine then_n ?_
    refine wp_ret ?_
    obtain rfl := some_some H
    refine s_ret [Value.int .i64 x19, ag [Pt.ar x20], Value.bool (decide (0 < x19))] hF Try.results33 ⟨rfl, ⟨_, rfl, rv_box hM (i := 0) rfl Try.isAgg27 Try.sizeOf27 rfl⟩, rfl, trivial⟩ ?_
    exact ⟨_, rfl, hM.frm, rfl⟩

/-! ### loop.example/g01210/impl.within: function 53 -/
def impl_within.f (K : Nat) (a0 : Int) (a1 : Int) (a2 : Int) : Option Bool := if a1 ≤ a0 then (some (decide (a0 ≤ a2))) else (some false)
set_option maxRecDepth 100000 in
set_option maxHeartbeats 4000000 in
theorem impl_within.calls {w0 : World} (K : Nat) (a0 : Int) (a1 : Int) (a2 : Int) (r : Bool) (H : impl_within.f K a0 a1 a2 = some r) : Calls Try.prog 53 [Value.int .i64 a0, Value.int .i64 a1, Value.int .i64 a2].toArray w0 (Post w0 fun w v => v = Value.bool r) := by
  rw [impl_within.f] at H
  refine s_start Try.func53 rfl Try.ntmps53 rfl ?_
  intro a hF
  have hM := Ms.start w0
  skip
  refine wp_seq ?_
  refine s_region ?_
  refine s_val hF rfl rfl rfl (e_assign hF rfl) ?_; intro a hF
  refine s_nil ?_
  refine then_n ?_
  refine wp_seq ?_
  rcases ite_cases H with ⟨c1, H⟩ | ⟨c1, H⟩
  ·
    refine s_region ?_
    refine s_val hF rfl rfl rfl (e_move hF rfl) ?_; intro a hF
    refine s_val hF rfl rfl rfl (e_move hF rfl) ?_; intro a hF
    refine s_val hF rfl rfl rfl (e_leq hF rfl rfl) ?_; intro a hF
    refine s_val hF rfl rfl rfl (e_move hF rfl) ?_; intro a hF
    have hF := hF.topb (decide_eq_true c1)
    refine s_val hF rfl rfl rfl (e_move hF rfl) ?_; intro a hF
    refine s_val hF rfl rfl rfl (e_move hF rfl) ?_; intro a hF
    refine s_val hF rfl rfl rfl (e_leq hF rfl rfl) ?_; intro a hF
    refine s_val hF rfl rfl rfl (e_pick_t hF rfl rfl) ?_; intro a hF
    refine s_val hF rfl rfl rfl (e_assign hF rfl) ?_; intro a hF
    refine s_nil ?_
    refine then_n ?_
    refine wp_ret ?_
    obtain rfl := some_some H
    refine s_ret [Value.bool (decide (a0 ≤ a2))] hF Try.results53 ⟨rfl, trivial⟩ ?_
    exact ⟨_, rfl, hM.frm, rfl⟩
  ·
    refine s_region ?_
    refine s_val hF rfl rfl rfl (e_move hF rfl) ?_; intro a hF
    refine s_val hF rfl rfl rfl (e_move hF rfl) ?_; intro a hF
    refine s_val hF rfl rfl rfl (e_leq hF rfl rfl) ?_; intro a hF
    refine s_val hF rfl rfl rfl (e_move hF rfl) ?_; intro a hF
    have hF := hF.topb (decide_eq_false c1)
    refine s_skip hF rfl rfl rfl ?_; intro a hF
    refine s_skip hF rfl rfl rfl ?_; intro a hF
    refine s_skip hF rfl rfl rfl ?_; intro a hF
    refine s_val hF rfl rfl rfl (e_pick_f hF rfl rfl) ?_; intro a hF
    refine s_val hF rfl rfl rfl (e_assign hF rfl) ?_; intro a hF
    refine s_nil ?_
    refine then_n ?_
    refine wp_ret ?_
    obtain rfl := some_some H
    refine s_ret [Value.bool false] hF Try.results53 ⟨rfl, trivial⟩ ?_
    exact ⟨_, rfl, hM.frm, rfl⟩

/-! ### loop.example/g01210/impl.power: function 54 -/
def impl_power.l0 (K : Nat) (a0 : Int) : Nat → Int → Int → Option Int
  | 0, _, _ => none
  | k + 1, x6, x7 => if x7 < a0 then (impl_power.l0 K a0 k (wrap64 (x6 * 6)) (wrap64 (x7 + 1))) else (some x6)
def impl_power.f (K : Nat) (a0 : Int) : Option Int := (impl_power.l0 K a0 K 1 0).bind fun x5 => some x5
set_option maxRecDepth 100000 in
set_option maxHeartbeats 4000000 in
theorem impl_power.calls {w0 : World} (K : Nat) (a0 : Int) (r : Int) (H : impl_power.f K a0 = some r) : Calls Try.prog 54 [Value.int .i64 a0].toArray w0 (Post w0 fun w v => v = Value.int .i64 r) := by
  rw [impl_power.f] at H
  refine s_start Try.func54 rfl Try.ntmps54 rfl ?_
  intro a hF
  have hM := Ms.start w0
  skip
  refine wp_seq ?_
  refine s_region ?_
  refine s_val hF rfl rfl rfl (e_assign hF rfl) ?_; intro a hF
  refine s_nil ?_
  refine then_n ?_
  refine wp_seq ?_
  refine s_region ?_
  refine s_val hF rfl rfl rfl (e_assign hF rfl) ?_; intro a hF
  refine s_nil ?_
  refine then_n ?_
  refine wp_seq ?_
  refine wp_seq ?_
  refine s_region ?_
  refine s_val hF rfl rfl rfl (e_move hF rfl) ?_; intro a hF
  refine s_val hF rfl rfl rfl (e_move hF rfl) ?_; intro a hF
  refine s_nil ?_
  refine then_n ?_
  refine wp_block ?_
  obtain ⟨o9, h10, H⟩ := bind_some H
  refine wp_mono (Q := fun e a w => (e = Exit.exit 0 ∧ ∃ x5 : Int, x5 = o9 ∧ Fr 11 a [(3, Value.int .i64 x5)] ∧ Ms [] w0 w [])) ?_ ?_
  · refine s_loop (fun kq a w => ∃ x6 : Int, ∃ x7 : Int, impl_power.l0 K a0 kq x6 x7 = some o9 ∧ Fr 11 a [(3, Value.int .i64 x6), (4, Value.int .i64 a0), (5, Value.int .i64 x7)] ∧ Ms [] w0 w []) K ⟨1, 0, h10, hF.sub _ ⟨rfl, rfl, rfl, trivial⟩, hM.pick [] rfl rfl⟩ ?_ ?_
    · rintro a w ⟨_, _, H, _⟩; exact none_some H
    · rintro k a w ⟨x6, x7, H, hF, hM⟩; rw [impl_power.l0] at H
      refine wp_seq ?_
      refine s_region ?_
      refine s_val hF rfl rfl rfl (e_lss hF rfl rfl) ?_; intro a hF
      refine s_nil ?_
      refine then_n ?_
      refine wp_seq ?_
      rcases ite_cases H with ⟨c8, H⟩ | ⟨c8, H⟩
      ·
        refine s_cond_t hF rfl (decide_eq_true c8) ?_
        refine wp_skip ?_
        refine then_n ?_
        refine wp_seq ?_
        refine wp_block ?_
        refine s_region ?_
        refine s_val hF rfl rfl rfl (e_move hF rfl) ?_; intro a hF
        refine s_val hF rfl rfl rfl (e_mul hF rfl rfl) ?_; intro a hF
        refine s_val hF rfl rfl rfl (e_assign hF rfl) ?_; intro a hF
        refine s_nil ?_
        refine blk_n ?_
        refine then_n ?_
        refine s_region ?_
        refine s_val hF rfl rfl rfl (e_add hF rfl rfl) ?_; intro a hF
        refine s_val hF rfl rfl rfl (e_move hF rfl) ?_; intro a hF
        refine s_nil ?_
        refine then_n ?_
        exact ⟨(wrap64 (x6 * 6)), (wrap64 (x7 + 1)), H, hF.sub _ ⟨rfl, rfl, rfl, trivial⟩, hM.pick [] rfl rfl⟩
      ·
        refine s_cond_f hF rfl (decide_eq_false c8) ?_
        refine wp_exit ?_
        refine then_x ?_
        refine then_x ?_
        exact ⟨rfl, x6, some_some H, hF.sub _ ⟨rfl, trivial⟩, hM.pick [] rfl rfl⟩
  · rintro e a w ⟨rfl, x5, rfl, hF, hM⟩
    skip
    refine blk_x ?_
    refine then_n ?_
    refine wp_seq ?_
    refine s_region ?_
    refine s_val hF rfl rfl rfl (e_move hF rfl) ?_; intro a hF
    refine s_val hF rfl rfl rfl (e_assign hF rfl) ?_; intro a hF
    refine s_nil ?_
    refine then_n ?_
    refine wp_ret ?_
    obtain rfl := some_some H
    refine s_ret [Value.int .i64 x5] hF Try.results54 ⟨rfl, trivial⟩ ?_
    exact ⟨_, rfl, hM.frm, rfl⟩

/-! ### loop.example/g01210/impl.isMade: function 57 -/
def impl_isMade.f (K : Nat) (a0 : Int) (a1 : Int) : Option Bool := (impl_within.f K a0 1 1000).bind fun t1 => if t1 = true then ((impl_within.f K a1 1 6).bind fun t4 => if t4 = true then ((impl_power.f K a1).bind fun t7 => some (decide (a0 ≤ t7))) else (some false)) else (some false)
set_option maxRecDepth 100000 in
set_option maxHeartbeats 4000000 in
theorem impl_isMade.calls {w0 : World} (K : Nat) (a0 : Int) (a1 : Int) (r : Bool) (H : impl_isMade.f K a0 a1 = some r) : Calls Try.prog 57 [Value.int .i64 a0, Value.int .i64 a1].toArray w0 (Post w0 fun w v => v = Value.bool r) := by
  rw [impl_isMade.f] at H
  refine s_start Try.func57 rfl Try.ntmps57 rfl ?_
  intro a hF
  have hM := Ms.start w0
  skip
  refine wp_seq ?_
  refine s_region ?_
  refine s_val hF rfl rfl rfl (e_assign hF rfl) ?_; intro a hF
  refine s_nil ?_
  refine then_n ?_
  refine wp_seq ?_
  obtain ⟨t1, h2, H⟩ := bind_some H
  rcases ite_cases H with ⟨c3, H⟩ | ⟨c3, H⟩
  ·
    obtain ⟨t4, h5, H⟩ := bind_some H
    rcases ite_cases H with ⟨c6, H⟩ | ⟨c6, H⟩
    ·
      obtain ⟨t7, h8, H⟩ := bind_some H
      refine s_region ?_
      refine s_val hF rfl rfl rfl (e_move hF rfl) ?_; intro a hF
      refine s_call hF rfl rfl rfl Try.call53 (impl_within.calls K a0 1 1000 t1 h2) ?_; intro a w v hF hf hR
      subst hR; have hM := hM.grow hf
      refine s_val hF rfl rfl rfl (e_move hF rfl) ?_; intro a hF
      have hF := hF.topb c3
      refine s_val hF rfl rfl rfl (e_move hF rfl) ?_; intro a hF
      refine s_call hF rfl rfl rfl Try.call53 (impl_within.calls K a1 1 6 t4 h5) ?_; intro a w v hF hf hR
      subst hR; have hM := hM.grow hf
      refine s_val hF rfl rfl rfl (e_pick_t hF rfl rfl) ?_; intro a hF
      refine s_val hF rfl rfl rfl (e_move hF rfl) ?_; intro a hF
      have hF := hF.topb c6
      refine s_val hF rfl rfl rfl (e_move hF rfl) ?_; intro a hF
      refine s_call hF rfl rfl rfl Try.call54 (impl_power.calls K a1 t7 h8) ?_; intro a w v hF hf hR
      subst hR; have hM := hM.grow hf
      refine s_val hF rfl rfl rfl (e_move hF rfl) ?_; intro a hF
      refine s_val hF rfl rfl rfl (e_geq hF rfl rfl) ?_; intro a hF
      refine s_val hF rfl rfl rfl (e_pick_t hF rfl rfl) ?_; intro a hF
      refine s_val hF rfl rfl rfl (e_assign hF rfl) ?_; intro a hF
      refine s_nil ?_
      refine then_n ?_
      refine wp_ret ?_
      obtain rfl := some_some H
      refine s_ret [Value.bool (decide (a0 ≤ t7))] hF Try.results57 ⟨rfl, trivial⟩ ?_
      exact ⟨_, rfl, hM.frm, rfl⟩
    ·
      refine s_region ?_
      refine s_val hF rfl rfl rfl (e_move hF rfl) ?_; intro a hF
      refine s_call hF rfl rfl rfl Try.call53 (impl_within.calls K a0 1 1000 t1 h2) ?_; intro a w v hF hf hR
      subst hR; have hM := hM.grow hf
      refine s_val hF rfl rfl rfl (e_move hF rfl) ?_; intro a hF
      have hF := hF.topb c3
      refine s_val hF rfl rfl rfl (e_move hF rfl) ?_; intro a hF
      refine s_call hF rfl rfl rfl Try.call53 (impl_within.calls K a1 1 6 t4 h5) ?_; intro a w v hF hf hR
      subst hR; have hM := hM.grow hf
      refine s_val hF rfl rfl rfl (e_pick_t hF rfl rfl) ?_; intro a hF
      refine s_val hF rfl rfl rfl (e_move hF rfl) ?_; intro a hF
      have hF := hF.topb (bf c6)
      refine s_skip hF rfl rfl rfl ?_; intro a hF
      refine s_skip hF rfl rfl rfl ?_; intro a hF
      refine s_skip hF rfl rfl rfl ?_; intro a hF
      refine s_skip hF rfl rfl rfl ?_; intro a hF
      refine s_val hF rfl rfl rfl (e_pick_f hF rfl rfl) ?_; intro a hF
      refine s_val hF rfl rfl rfl (e_assign hF rfl) ?_; intro a hF
      refine s_nil ?_
      refine then_n ?_
      refine wp_ret ?_
      obtain rfl := some_some H
      refine s_ret [Value.bool false] hF Try.results57 ⟨rfl, trivial⟩ ?_
      exact ⟨_, rfl, hM.frm, rfl⟩
  ·
    refine s_region ?_
    refine s_val hF rfl rfl rfl (e_move hF rfl) ?_; intro a hF
    refine s_call hF rfl rfl rfl Try.call53 (impl_within.calls K a0 1 1000 t1 h2) ?_; intro a w v hF hf hR
    subst hR; have hM := hM.grow hf
    refine s_val hF rfl rfl rfl (e_move hF rfl) ?_; intro a hF
    have hF := hF.topb (bf c3)
    refine s_skip hF rfl rfl rfl ?_; intro a hF
    refine s_skip hF rfl rfl rfl ?_; intro a hF
    refine s_val hF rfl rfl rfl (e_pick_f hF rfl rfl) ?_; intro a hF
    refine s_val hF rfl rfl rfl (e_move hF rfl) ?_; intro a hF
    refine s_skip hF rfl rfl rfl ?_; intro a hF
    refine s_skip hF rfl rfl rfl ?_; intro a hF
    refine s_skip hF rfl rfl rfl ?_; intro a hF
    refine s_skip hF rfl rfl rfl ?_; intro a hF
    refine s_val hF rfl rfl rfl (e_pick_f hF rfl rfl) ?_; intro a hF
    refine s_val hF rfl rfl rfl (e_assign hF rfl) ?_; intro a hF
    refine s_nil ?_
    refine then_n ?_
    refine wp_ret ?_
    obtain rfl := some_some H
    refine s_ret [Value.bool false] hF Try.results57 ⟨rfl, trivial⟩ ?_
    exact ⟨_, rfl, hM.frm, rfl⟩

/-! ### loop.example/g01210/impl.taken: function 58 -/
def impl_taken.f (K : Nat) (a0 : Int) (a1 : Int) : Option Int := (impl_power.f K a1).bind fun t1 => if a0 ≠ 0 then (some (wrap64 ((wrap64 (t1.tdiv a0)) * a0))) else none
set_option maxRecDepth 100000 in
set_option maxHeartbeats 4000000 in
theorem impl_taken.calls {w0 : World} (K : Nat) (a0 : Int) (a1 : Int) (r : Int) (H : impl_taken.f K a0 a1 = some r) : Calls Try.prog 58 [Value.int .i64 a0, Value.int .i64 a1].toArray w0 (Post w0 fun w v => v = Value.int .i64 r) := by
  rw [impl_taken.f] at H
  refine s_start Try.func58 rfl Try.ntmps58 rfl ?_
  intro a hF
  have hM := Ms.start w0
  skip
  refine wp_seq ?_
  refine s_region ?_
  refine s_val hF rfl rfl rfl (e_assign hF rfl) ?_; intro a hF
  refine s_nil ?_
  refine then_n ?_
  refine wp_seq ?_
  obtain ⟨t1, h2, H⟩ := bind_some H
  obtain ⟨c3, H⟩ := ite_some H
  refine s_region ?_
  refine s_val hF rfl rfl rfl (e_move hF rfl) ?_; intro a hF
  refine s_call hF rfl rfl rfl Try.call54 (impl_power.calls K a1 t1 h2) ?_; intro a w v hF hf hR
  subst hR; have hM := hM.grow hf
  refine s_val hF rfl rfl rfl (e_move hF rfl) ?_; intro a hF
  refine s_val hF rfl rfl rfl (e_quo hF rfl rfl c3) ?_; intro a hF
  refine s_val hF rfl rfl rfl (e_move hF rfl) ?_; intro a hF
  refine s_val hF rfl rfl rfl (e_mul hF rfl rfl) ?_; intro a hF
  refine s_val hF rfl rfl rfl (e_assign hF rfl) ?_; intro a hF
  refine s_nil ?_
  refine then_n ?_
  refine wp_ret ?_
  obtain rfl := some_some H
  refine s_ret [Value.int .i64 (wrap64 ((wrap64 (t1.tdiv a0)) * a0))] hF Try.results58 ⟨rfl, trivial⟩ ?_
  exact ⟨_, rfl, hM.frm, rfl⟩

/-! ### loop.example/g01210/impl.fraction: function 60 -/
def impl_fraction.l0 (K : Nat) : Nat → Int → Int → Option Int
  | 0, _, _ => none
  | k + 1, x9, x10 => if x10 = 0 then (some x9) else (if x10 ≠ 0 then (impl_fraction.l0 K k x10 (x9.tmod x10)) else none)
def impl_fraction.f (K : Nat) (a0 : Int) (a1 : Int) : Option (Ar 2) := (impl_fraction.l0 K K a0 a1).bind fun x8 => if x8 ≠ 0 then (some (⟨[(wrap64 (a0.tdiv x8)), (wrap64 (a1.tdiv x8))], rfl⟩ : Ar 2)) else none
set_option maxRecDepth 100000 in
set_option maxHeartbeats 4000000 in
theorem impl_fraction.calls {w0 : World} (K : Nat) (a0 : Int) (a1 : Int) (r : (Ar 2)) (H : impl_fraction.f K a0 a1 = some r) : Calls Try.prog 60 [Value.int .i64 a0, Value.int .i64 a1].toArray w0 (Post w0 fun w v => v = ag [Pt.ar r]) := by
  rw [impl_fraction.f] at H
  refine s_start Try.func60 rfl Try.ntmps60 rfl ?_
  intro a hF
  have hM := Ms.start w0
  skip
  refine wp_seq ?_
  refine s_region ?_
  refine s_alloc (ps := [Pt.ar (Ar.zero 2)]) hF hM rfl rfl zv27 rfl ?_; intro a w b1 hF hM
  refine s_nil ?_
  refine then_n ?_
  refine wp_seq ?_
  refine s_region ?_
  refine s_val hF rfl rfl rfl (e_move hF rfl) ?_; intro a hF
  refine s_val hF rfl rfl rfl (e_move hF rfl) ?_; intro a hF
  refine s_val hF rfl rfl rfl (e_assign hF rfl) ?_; intro a hF
  refine s_val hF rfl rfl rfl (e_assign hF rfl) ?_; intro a hF
  refine s_nil ?_
  refine then_n ?_
  refine wp_seq ?_
  refine wp_block ?_
  obtain ⟨o13, h14, H⟩ := bind_some H
  refine wp_mono (Q := fun e a w => (e = Exit.exit 0 ∧ ∃ x8 : Int, x8 = o13 ∧ Fr 22 a [(0, Value.int .i64 a0), (1, Value.int .i64 a1), (4, pt b1 0), (5, Value.int .i64 x8)] ∧ Ms [] w0 w [boxR b1 [Pt.ar (Ar.zero 2)] 27])) ?_ ?_
  · refine s_loop (fun kq a w => ∃ x9 : Int, ∃ x10 : Int, impl_fraction.l0 K kq x9 x10 = some o13 ∧ Fr 22 a [(0, Value.int .i64 a0), (1, Value.int .i64 a1), (4, pt b1 0), (5, Value.int .i64 x9), (6, Value.int .i64 x10)] ∧ Ms [] w0 w [boxR b1 [Pt.ar (Ar.zero 2)] 27]) K ⟨a0, a1, h14, hF.sub _ ⟨rfl, rfl, rfl, rfl, rfl, trivial⟩, hM.pick [0] rfl rfl⟩ ?_ ?_
    · rintro a w ⟨_, _, H, _⟩; exact none_some H
    · rintro k a w ⟨x9, x10, H, hF, hM⟩; rw [impl_fraction.l0] at H
      refine wp_seq ?_
      refine wp_seq ?_
      refine s_region ?_
      refine s_val hF rfl rfl rfl (e_move hF rfl) ?_; intro a hF
      refine s_val hF rfl rfl rfl (e_neq hF rfl rfl) ?_; intro a hF
      refine s_nil ?_
      refine then_n ?_
      rcases ite_cases H with ⟨c11, H⟩ | ⟨c11, H⟩
      ·
        refine s_cond_f hF rfl (congrArg Bool.not (decide_eq_true c11)) ?_
        refine wp_exit ?_
        refine then_x ?_
        refine then_x ?_
        exact ⟨rfl, x9, some_some H, hF.sub _ ⟨rfl, rfl, rfl, rfl, trivial⟩, hM.pick [0] rfl rfl⟩
      ·
        refine s_cond_t hF rfl (congrArg Bool.not (decide_eq_false c11)) ?_
        refine wp_skip ?_
        refine then_n ?_
        refine wp_block ?_
        obtain ⟨c12, H⟩ := ite_some H
        refine s_held (fun w => Ms [] w0 w [boxR b1 [Pt.ar (Ar.zero 2)] 27]) #[false, false, false, false, false, false] mixed rfl rfl hM ?_; intro w hf hM; clear hf
        refine h_val 0 #[true, false, false, false, false, false] rfl (by kernel_rfl) hF rfl rfl rfl (fun w hS => e_move hF rfl) (hM.pick [0] rfl rfl) ?_; intro a hF
        refine h_val 1 #[true, true, false, false, false, false] rfl (by kernel_rfl) hF rfl rfl rfl (fun w hS => e_move hF rfl) (hM.pick [0] rfl rfl) ?_; intro a hF
        refine h_val 2 #[true, true, true, false, false, false] rfl (by kernel_rfl) hF rfl rfl rfl (fun w hS => e_move hF rfl) (hM.pick [0] rfl rfl) ?_; intro a hF
        refine h_val 3 #[true, true, true, true, false, false] rfl (by kernel_rfl) hF rfl rfl rfl (fun w hS => e_rem hF rfl rfl c12) (hM.pick [0] rfl rfl) ?_; intro a hF
        refine h_val 4 #[true, true, true, true, true, false] rfl (by kernel_rfl) hF rfl rfl rfl (fun w hS => e_assign hF rfl) (hM.pick [0] rfl rfl) ?_; intro a hF
        refine h_val 5 #[true, true, true, true, true, true] rfl (by kernel_rfl) hF rfl rfl rfl (fun w hS => e_assign hF rfl) (hM.pick [0] rfl rfl) ?_; intro a hF
        refine h_done rfl ?_
        refine blk_n ?_
        refine then_n ?_
        exact ⟨x10, (x9.tmod x10), H, hF.sub _ ⟨rfl, rfl, rfl, rfl, rfl, trivial⟩, hM.pick [0] rfl rfl⟩
  · rintro e a w ⟨rfl, x8, rfl, hF, hM⟩
    skip
    refine blk_x ?_
    refine then_n ?_
    refine wp_seq ?_
    obtain ⟨c15, H⟩ := ite_some H
    refine s_held (fun w => Ms [] w0 w []) #[false, false, false, false, false, false, false, false] mixed rfl rfl hM ?_; intro w hf hM; clear hf
    refine h_val 0 #[true, false, false, false, false, false, false, false] rfl (by kernel_rfl) hF rfl rfl rfl (fun w hS => e_move hF rfl) (hM.pick [] rfl rfl) ?_; intro a hF
    refine h_val 1 #[true, true, false, false, false, false, false, false] rfl (by kernel_rfl) hF rfl rfl rfl (fun w hS => e_move hF rfl) (hM.pick [] rfl rfl) ?_; intro a hF
    refine h_val 2 #[true, true, true, false, false, false, false, false] rfl (by kernel_rfl) hF rfl rfl rfl (fun w hS => e_quo hF rfl rfl c15) (hM.pick [] rfl rfl) ?_; intro a hF
    refine h_val 3 #[true, true, true, true, false, false, false, false] rfl (by kernel_rfl) hF rfl rfl rfl (fun w hS => e_move hF rfl) (hM.pick [] rfl rfl) ?_; intro a hF
    refine h_val 4 #[true, true, true, true, true, false, false, false] rfl (by kernel_rfl) hF rfl rfl rfl (fun w hS => e_move hF rfl) (hM.pick [] rfl rfl) ?_; intro a hF
    refine h_val 5 #[true, true, true, true, true, true, false, false] rfl (by kernel_rfl) hF rfl rfl rfl (fun w hS => e_quo hF rfl rfl c15) (hM.pick [] rfl rfl) ?_; intro a hF
    refine h_val 6 #[true, true, true, true, true, true, true, false] rfl (by kernel_rfl) hF rfl rfl rfl (fun w hS => e_build' (cells := cat [Pt.ar (⟨[(wrap64 (a0.tdiv x8)), (wrap64 (a1.tdiv x8))], rfl⟩ : Ar 2)]) hF rfl (by kernel_rfl)) (hM.pick [] rfl rfl) ?_; intro a hF
    refine h_one 7 #[true, true, true, true, true, true, true, true] rfl (by kernel_rfl) ?_
    refine s_stw (i := 0) (ps' := [Pt.ar (⟨[(wrap64 (a0.tdiv x8)), (wrap64 (a1.tdiv x8))], rfl⟩ : Ar 2)]) hF hM rfl rfl rfl rfl rfl rfl Try.sizeOf27 rfl ?_; intro a w hF hM
    refine s_nil ⟨rfl, (hM.pick [] rfl rfl), ?_⟩
    refine h_done rfl ?_
    refine then_n ?_
    refine wp_ret ?_
    obtain rfl := some_some H
    refine s_ret [ag [Pt.ar (⟨[(wrap64 (a0.tdiv x8)), (wrap64 (a1.tdiv x8))], rfl⟩ : Ar 2)]] hF Try.results60 ⟨⟨_, rfl, rv_box hM (i := 0) rfl Try.isAgg27 Try.sizeOf27 rfl⟩, trivial⟩ ?_
    exact ⟨_, rfl, hM.frm, rfl⟩

/-! ### loop.example/g01210/impl.MeanThrows: function 24 -/
def impl_MeanThrows.f (K : Nat) (a0 : Int) (a1 : Int) : Option ((Ar 2) × Bool) := (impl_isMade.f K a0 a1).bind fun t2 => if t2 = true then ((impl_power.f K a1).bind fun t5 => (impl_taken.f K a0 a1).bind fun t7 => (impl_fraction.f K (wrap64 (a1 * t5)) t7).bind fun t9 => some (t9, true)) else (some ((⟨[0, 0], rfl⟩ : Ar 2), false))
set_option maxRecDepth 100000 in
set_option maxHeartbeats 4000000 in
theorem impl_MeanThrows.calls {w0 : World} (K : Nat) (a0 : Int) (a1 : Int) (r : ((Ar 2) × Bool)) (H : impl_MeanThrows.f K a0 a1 = some r) : Calls Try.prog 24 [Value.int .i64 a0, Value.int .i64 a1].toArray w0 (Post w0 fun w v => v = Value.tuple #[ag [Pt.ar r.1], Value.bool r.2]) := by
  rw [impl_MeanThrows.f] at H
  refine s_start Try.func24 rfl Try.ntmps24 rfl ?_
  intro a hF
  have hM := Ms.start w0
  skip
  refine wp_seq ?_
  refine s_region ?_
  refine s_alloc (ps := [Pt.ar (Ar.zero 2)]) hF hM rfl rfl zv27 rfl ?_; intro a w b1 hF hM
  refine s_val hF rfl rfl rfl (e_assign hF rfl) ?_; intro a hF
  refine s_nil ?_
  refine then_n ?_
  refine wp_seq ?_
  refine wp_seq ?_
  obtain ⟨t2, h3, H⟩ := bind_some H
  refine s_region ?_
  refine s_val hF rfl rfl rfl (e_move hF rfl) ?_; intro a hF
  refine s_val hF rfl rfl rfl (e_move hF rfl) ?_; intro a hF
  refine s_call hF rfl rfl rfl Try.call57 (impl_isMade.calls K a0 a1 t2 h3) ?_; intro a w v hF hf hR
  subst hR; have hM := hM.grow hf
  refine s_val hF rfl rfl rfl (e_not hF rfl) ?_; intro a hF
  refine s_nil ?_
  refine then_n ?_
  rcases ite_cases H with ⟨c4, H⟩ | ⟨c4, H⟩
  ·
    refine s_cond_f hF rfl (congrArg Bool.not c4) ?_
    refine wp_skip ?_
    refine then_n ?_
    refine wp_seq ?_
    obtain ⟨t5, h6, H⟩ := bind_some H
    obtain ⟨t7, h8, H⟩ := bind_some H
    obtain ⟨t9, h10, H⟩ := bind_some H
    refine s_region ?_
    refine s_val hF rfl rfl rfl (e_move hF rfl) ?_; intro a hF
    refine s_val hF rfl rfl rfl (e_move hF rfl) ?_; intro a hF
    refine s_call hF rfl rfl rfl Try.call54 (impl_power.calls K a1 t5 h6) ?_; intro a w v hF hf hR
    subst hR; have hM := hM.grow hf
    refine s_val hF rfl rfl rfl (e_mul hF rfl rfl) ?_; intro a hF
    refine s_val hF rfl rfl rfl (e_move hF rfl) ?_; intro a hF
    refine s_val hF rfl rfl rfl (e_move hF rfl) ?_; intro a hF
    refine s_call hF rfl rfl rfl Try.call58 (impl_taken.calls K a0 a1 t7 h8) ?_; intro a w v hF hf hR
    subst hR; have hM := hM.grow hf
    refine s_call hF rfl rfl rfl Try.call60 (impl_fraction.calls K (wrap64 (a1 * t5)) t7 t9 h10) ?_; intro a w v hF hf hR
    subst hR; have hM := hM.grow hf
    refine s_stw (i := 0) (ps' := [Pt.ar t9]) hF hM rfl rfl rfl rfl rfl rfl Try.sizeOf27 rfl ?_; intro a w hF hM
    refine s_val hF rfl rfl rfl (e_assign hF rfl) ?_; intro a hF
    refine s_nil ?_
    refine then_n ?_
    refine wp_ret ?_
    obtain rfl := some_some H
    refine s_ret [ag [Pt.ar t9], Value.bool true] hF Try.results24 ⟨⟨_, rfl, rv_box hM (i := 0) rfl Try.isAgg27 Try.sizeOf27 rfl⟩, rfl, trivial⟩ ?_
    exact ⟨_, rfl, hM.frm, rfl⟩
  ·
    refine s_cond_t hF rfl (congrArg Bool.not (bf c4)) ?_
    refine wp_seq ?_
    refine s_region ?_
    refine s_val hF rfl rfl rfl (e_build' (cells := cat [Pt.ar (⟨[0, 0], rfl⟩ : Ar 2)]) hF rfl (by kernel_rfl)) ?_; intro a hF
    refine s_stw (i := 0) (ps' := [Pt.ar (⟨[0, 0], rfl⟩ : Ar 2)]) hF hM rfl rfl rfl rfl rfl rfl Try.sizeOf27 rfl ?_; intro a w hF hM
    refine s_val hF rfl rfl rfl (e_assign hF rfl) ?_; intro a hF
    refine s_nil ?_
    refine then_n ?_
    refine wp_ret ?_
    refine then_r ?_
    obtain rfl := some_some H
    refine s_ret [ag [Pt.ar (⟨[0, 0], rfl⟩ : Ar 2)], Value.bool false] hF Try.results24 ⟨⟨_, rfl, rv_box hM (i := 0) rfl Try.isAgg27 Try.sizeOf27 rfl⟩, rfl, trivial⟩ ?_
    exact ⟨_, rfl, hM.frm, rfl⟩

/-! ### loop.example/g01210/impl.BestThrows: function 34 -/
def impl_BestThrows.l0 (K : Nat) (a0 : Int) : Nat → Int → Int → (Ar 2) → Option (Int × (Ar 2))
  | 0, _, _, _ => none
  | k + 1, x19, x20, x21 => if x20 ≤ 6 then ((impl_MeanThrows.f K a0 x20).bind fun t23 => if t23.2 = true then (if x19 = 0 then (impl_BestThrows.l0 K a0 k x20 (wrap64 (x20 + 1)) t23.1) else (if (wrap64 ((t23.1.get 0) * (x21.get 1))) < (wrap64 ((x21.get 0) * (t23.1.get 1))) then (impl_BestThrows.l0 K a0 k x20 (wrap64 (x20 + 1)) t23.1) else (impl_BestThrows.l0 K a0 k x19 (wrap64 (x20 + 1)) x21))) else (impl_BestThrows.l0 K a0 k x19 (wrap64 (x20 + 1)) x21)) else (some (x19, x21))
def impl_BestThrows.f (K : Nat) (a0 : Int) : Option (Int × (Ar 2) × Bool) := (impl_BestThrows.l0 K a0 K 0 1 (Ar.zero 2)).bind fun (x17, x18) => some (x17, x18, (decide (0 < x17)))
set_option maxRecDepth 100000 in
set_option maxHeartbeats 4000000 in
theorem impl_BestThrows.calls {w0 : World} (K : Nat) (a0 : Int) (r : (Int × (Ar 2) × Bool)) (H : impl_BestThrows.f K a0 = some r) : Calls Try.prog 34 [Value.int .i64 a0].toArray w0 (Post w0 fun w v => v = Value.tuple #[Value.int .i64 r.1, ag [Pt.ar r.2.1], Value.bool r.2.2]) := by
  rw [impl_BestThrows.f] at H
  refine s_start Try.func34 rfl Try.ntmps34 rfl ?_
  intro a hF
  have hM := Ms.start w0
  skip
  refine wp_seq ?_
  refine s_region ?_
  refine s_val hF rfl rfl rfl (e_assign hF rfl) ?_; intro a hF
  refine s_alloc (ps := [Pt.ar (Ar.zero 2)]) hF hM rfl rfl zv27 rfl ?_; intro a w b1 hF hM
  refine s_val hF rfl rfl rfl (e_assign hF rfl) ?_; intro a hF
  refine s_nil ?_
  refine then_n ?_
  refine wp_seq ?_
  refine s_region ?_
  refine s_val hF rfl rfl rfl (e_assign hF rfl) ?_; intro a hF
  refine s_nil ?_
  refine then_n ?_
  refine wp_seq ?_
  refine s_region ?_
  refine s_alloc (ps := [Pt.ar (Ar.zero 2)]) hF hM rfl rfl zv27 rfl ?_; intro a w b2 hF hM
  refine s_nil ?_
  refine then_n ?_
  refine wp_seq ?_
  refine wp_seq ?_
  refine s_region ?_
  refine s_val hF rfl rfl rfl (e_assign hF rfl) ?_; intro a hF
  refine s_nil ?_
  refine then_n ?_
  refine wp_block ?_
  obtain ⟨o29, h30, H⟩ := bind_some H
  refine wp_mono (Q := fun e a w => (e = Exit.exit 0 ∧ ∃ x17 : Int, ∃ x18 : (Ar 2), (x17, x18) = o29 ∧ Fr 44 a [(3, pt b1 0), (5, Value.int .i64 x17), (6, pt b2 0)] ∧ Ms [] w0 w [boxR b1 [Pt.ar (Ar.zero 2)] 27, boxR b2 [Pt.ar x18] 27])) ?_ ?_
  · refine s_loop (fun kq a w => ∃ x19 : Int, ∃ x20 : Int, ∃ x21 : (Ar 2), impl_BestThrows.l0 K a0 kq x19 x20 x21 = some o29 ∧ Fr 44 a [(0, Value.int .i64 a0), (3, pt b1 0), (5, Value.int .i64 x19), (6, pt b2 0), (7, Value.int .i64 x20)] ∧ Ms [] w0 w [boxR b1 [Pt.ar (Ar.zero 2)] 27, boxR b2 [Pt.ar x21] 27]) K ⟨0, 1, (Ar.zero 2), h30, hF.sub _ ⟨rfl, rfl, rfl, rfl, rfl, trivial⟩, hM.pick [1, 0] rfl rfl⟩ ?_ ?_
    · rintro a w ⟨_, _, _, H, _⟩; exact none_some H
    · rintro k a w ⟨x19, x20, x21, H, hF, hM⟩; rw [impl_BestThrows.l0] at H
      refine wp_seq ?_
      refine wp_seq ?_
      refine s_region ?_
      refine s_val hF rfl rfl rfl (e_move hF rfl) ?_; intro a hF
      refine s_val hF rfl rfl rfl (e_leq hF rfl rfl) ?_; intro a hF
      refine s_nil ?_
      refine then_n ?_
      rcases ite_cases H with ⟨c22, H⟩ | ⟨c22, H⟩
      ·
        refine s_cond_t hF rfl (decide_eq_true c22) ?_
        refine wp_skip ?_
        refine then_n ?_
        refine wp_seq ?_
        refine wp_block ?_
        refine wp_seq ?_
        obtain ⟨t23, h24, H⟩ := bind_some H
        refine s_region ?_
        refine s_val hF rfl rfl rfl (e_move hF rfl) ?_; intro a hF
        refine s_val hF rfl rfl rfl (e_move hF rfl) ?_; intro a hF
        refine s_call hF rfl rfl rfl Try.call24 (impl_MeanThrows.calls K a0 x20 t23 h24) ?_; intro a w v hF hf hR
        subst hR; have hM := hM.grow hf
        refine s_val hF rfl rfl rfl (e_move hF rfl) ?_; intro a hF
        refine s_val hF rfl rfl rfl (e_extract hF rfl rfl) ?_; intro a hF
        refine s_val hF rfl rfl rfl (e_extract hF rfl rfl) ?_; intro a hF
        refine s_alloc (ps := [Pt.ar (Ar.zero 2)]) hF hM rfl rfl zv27 rfl ?_; intro a w b25 hF hM
        refine s_stw (i := 0) (ps' := [Pt.ar t23.1]) hF hM rfl rfl rfl rfl rfl rfl Try.sizeOf27 rfl ?_; intro a w hF hM
        refine s_val hF rfl rfl rfl (e_assign hF rfl) ?_; intro a hF
        refine s_nil ?_
        refine then_n ?_
        refine wp_seq ?_
        rcases ite_cases H with ⟨c26, H⟩ | ⟨c26, H⟩
        ·
          rcases ite_cases H with ⟨c27, H⟩ | ⟨c27, H⟩
          ·
            refine s_region ?_
            refine s_val hF rfl rfl rfl (e_move hF rfl) ?_; intro a hF
            refine s_val hF rfl rfl rfl (e_move hF rfl) ?_; intro a hF
            have hF := hF.topb c26
            refine s_val hF rfl rfl rfl (e_move hF rfl) ?_; intro a hF
            refine s_val hF rfl rfl rfl (e_eql hF rfl rfl) ?_; intro a hF
            refine s_val hF rfl rfl rfl (e_move hF rfl) ?_; intro a hF
            have hF := hF.topb (decide_eq_true c27)
            refine s_skip hF rfl rfl rfl ?_; intro a hF
            refine s_skip hF rfl rfl rfl ?_; intro a hF
            refine s_skip hF rfl rfl rfl ?_; intro a hF
            refine s_skip hF rfl rfl rfl ?_; intro a hF
            refine s_skip hF rfl rfl rfl ?_; intro a hF
            refine s_skip hF rfl rfl rfl ?_; intro a hF
            refine s_skip hF rfl rfl rfl ?_; intro a hF
            refine s_skip hF rfl rfl rfl ?_; intro a hF
            refine s_skip hF rfl rfl rfl ?_; intro a hF
            refine s_skip hF rfl rfl rfl ?_; intro a hF
            refine s_skip hF rfl rfl rfl ?_; intro a hF
            refine s_val hF rfl rfl rfl (e_pick_t hF rfl rfl) ?_; intro a hF
            refine s_val hF rfl rfl rfl (e_pick_t hF rfl rfl) ?_; intro a hF
            refine s_nil ?_
            refine then_n ?_
            refine s_cond_t hF rfl rfl ?_
            refine s_held (fun w => Ms [] w0 w [boxR b25 [Pt.ar t23.1] 27, boxR b1 [Pt.ar (Ar.zero 2)] 27]) #[false, false, false, false] mixed rfl rfl hM ?_; intro w hf hM; clear hf
            refine h_val 0 #[true, false, false, false] rfl (by kernel_rfl) hF rfl rfl rfl (fun w hS => e_move hF rfl) (hM.pick [0, 1] rfl rfl) ?_; intro a hF
            refine h_val 1 #[true, true, false, false] rfl (by kernel_rfl) hF rfl rfl rfl (fun w hS => e_lda (i := 0) 0 1 hF hS rfl rfl rfl rfl Try.isAgg27 Try.sizeOf27 rfl) (hM.pick [0, 1] rfl rfl) ?_; intro a hF
            refine h_val 2 #[true, true, true, false] rfl (by kernel_rfl) hF rfl rfl rfl (fun w hS => e_assign hF rfl) (hM.pick [0, 1] rfl rfl) ?_; intro a hF
            refine h_one 3 #[true, true, true, true] rfl (by kernel_rfl) ?_
            refine s_stw (i := 2) (ps' := [Pt.ar t23.1]) hF hM rfl rfl rfl rfl rfl rfl Try.sizeOf27 rfl ?_; intro a w hF hM
            refine s_nil ⟨rfl, (hM.pick [0, 1] rfl rfl), ?_⟩
            refine h_done rfl ?_
            refine blk_n ?_
            refine then_n ?_
            refine s_region ?_
            refine s_val hF rfl rfl rfl (e_move hF rfl) ?_; intro a hF
            refine s_val hF rfl rfl rfl (e_add hF rfl rfl) ?_; intro a hF
            refine s_val hF rfl rfl rfl (e_assign hF rfl) ?_; intro a hF
            refine s_nil ?_
            refine then_n ?_
            exact ⟨x20, (wrap64 (x20 + 1)), t23.1, H, hF.sub _ ⟨rfl, rfl, rfl, rfl, rfl, trivial⟩, hM.pick [1, 2] rfl rfl⟩
          ·
            refine s_region ?_
            refine s_val hF rfl rfl rfl (e_move hF rfl) ?_; intro a hF
            refine s_val hF rfl rfl rfl (e_move hF rfl) ?_; intro a hF
            have hF := hF.topb c26
            refine s_val hF rfl rfl rfl (e_move hF rfl) ?_; intro a hF
            refine s_val hF rfl rfl rfl (e_eql hF rfl rfl) ?_; intro a hF
            refine s_val hF rfl rfl rfl (e_move hF rfl) ?_; intro a hF
            have hF := hF.topb (decide_eq_false c27)
            refine s_val hF rfl rfl rfl (e_ia hF rfl rfl Try.underlying27 Try.sizeOf3 (by decide) (by decide)) ?_; intro a hF
            refine s_val hF rfl rfl rfl (e_ldi (i := 0) (k := 0) hF hM rfl rfl rfl rfl rfl Try.isAgg3 (by decide) (by decide)) ?_; intro a hF
            refine s_val hF rfl rfl rfl (e_ia hF rfl rfl Try.underlying27 Try.sizeOf3 (by decide) (by decide)) ?_; intro a hF
            refine s_val hF rfl rfl rfl (e_ldi (i := 2) (k := 0) hF hM rfl rfl rfl rfl rfl Try.isAgg3 (by decide) (by decide)) ?_; intro a hF
            refine s_val hF rfl rfl rfl (e_mul hF rfl rfl) ?_; intro a hF
            refine s_val hF rfl rfl rfl (e_ia hF rfl rfl Try.underlying27 Try.sizeOf3 (by decide) (by decide)) ?_; intro a hF
            refine s_val hF rfl rfl rfl (e_ldi (i := 2) (k := 0) hF hM rfl rfl rfl rfl rfl Try.isAgg3 (by decide) (by decide)) ?_; intro a hF
            refine s_val hF rfl rfl rfl (e_ia hF rfl rfl Try.underlying27 Try.sizeOf3 (by decide) (by decide)) ?_; intro a hF
            refine s_val hF rfl rfl rfl (e_ldi (i := 0) (k := 0) hF hM rfl rfl rfl rfl rfl Try.isAgg3 (by decide) (by decide)) ?_; intro a hF
            refine s_val hF rfl rfl rfl (e_mul hF rfl rfl) ?_; intro a hF
            refine s_val hF rfl rfl rfl (e_lss hF rfl rfl) ?_; intro a hF
            refine s_val hF rfl rfl rfl (e_pick_f hF rfl rfl) ?_; intro a hF
            refine s_val hF rfl rfl rfl (e_pick_t hF rfl rfl) ?_; intro a hF
            refine s_nil ?_
            refine then_n ?_
            rcases ite_cases H with ⟨c28, H⟩ | ⟨c28, H⟩
            ·
              refine s_cond_t hF rfl (decide_eq_true c28) ?_
              refine s_held (fun w => Ms [] w0 w [boxR b25 [Pt.ar t23.1] 27, boxR b1 [Pt.ar (Ar.zero 2)] 27]) #[false, false, false, false] mixed rfl rfl hM ?_; intro w hf hM; clear hf
              refine h_val 0 #[true, false, false, false] rfl (by kernel_rfl) hF rfl rfl rfl (fun w hS => e_move hF rfl) (hM.pick [0, 1] rfl rfl) ?_; intro a hF
              refine h_val 1 #[true, true, false, false] rfl (by kernel_rfl) hF rfl rfl rfl (fun w hS => e_lda (i := 0) 0 1 hF hS rfl rfl rfl rfl Try.isAgg27 Try.sizeOf27 rfl) (hM.pick [0, 1] rfl rfl) ?_; intro a hF
              refine h_val 2 #[true, true, true, false] rfl (by kernel_rfl) hF rfl rfl rfl (fun w hS => e_assign hF rfl) (hM.pick [0, 1] rfl rfl) ?_; intro a hF
              refine h_one 3 #[true, true, true, true] rfl (by kernel_rfl) ?_
              refine s_stw (i := 2) (ps' := [Pt.ar t23.1]) hF hM rfl rfl rfl rfl rfl rfl Try.sizeOf27 rfl ?_; intro a w hF hM
              refine s_nil ⟨rfl, (hM.pick [0, 1] rfl rfl), ?_⟩
              refine h_done rfl ?_
              refine blk_n ?_
              refine then_n ?_
              refine s_region ?_
              refine s_val hF rfl rfl rfl (e_move hF rfl) ?_; intro a hF
              refine s_val hF rfl rfl rfl (e_add hF rfl rfl) ?_; intro a hF
              refine s_val hF rfl rfl rfl (e_assign hF rfl) ?_; intro a hF
              refine s_nil ?_
              refine then_n ?_
              exact ⟨x20, (wrap64 (x20 + 1)), t23.1, H, hF.sub _ ⟨rfl, rfl, rfl, rfl, rfl, trivial⟩, hM.pick [1, 2] rfl rfl⟩
            ·
              refine s_cond_f hF rfl (decide_eq_false c28) ?_
              refine wp_skip ?_
              refine blk_n ?_
              refine then_n ?_
              refine s_region ?_
              refine s_val hF rfl rfl rfl (e_move hF rfl) ?_; intro a hF
              refine s_val hF rfl rfl rfl (e_add hF rfl rfl) ?_; intro a hF
              refine s_val hF rfl rfl rfl (e_assign hF rfl) ?_; intro a hF
              refine s_nil ?_
              refine then_n ?_
              exact ⟨x19, (wrap64 (x20 + 1)), x21, H, hF.sub _ ⟨rfl, rfl, rfl, rfl, rfl, trivial⟩, hM.pick [1, 2] rfl rfl⟩
        ·
          refine s_region ?_
          refine s_val hF rfl rfl rfl (e_move hF rfl) ?_; intro a hF
          refine s_val hF rfl rfl rfl (e_move hF rfl) ?_; intro a hF
          have hF := hF.topb (bf c26)
          refine s_skip hF rfl rfl rfl ?_; intro a hF
          refine s_skip hF rfl rfl rfl ?_; intro a hF
          refine s_skip hF rfl rfl rfl ?_; intro a hF
          refine s_skip hF rfl rfl rfl ?_; intro a hF
          refine s_skip hF rfl rfl rfl ?_; intro a hF
          refine s_skip hF rfl rfl rfl ?_; intro a hF
          refine s_skip hF rfl rfl rfl ?_; intro a hF
          refine s_skip hF rfl rfl rfl ?_; intro a hF
          refine s_skip hF rfl rfl rfl ?_; intro a hF
          refine s_skip hF rfl rfl rfl ?_; intro a hF
          refine s_skip hF rfl rfl rfl ?_; intro a hF
          refine s_skip hF rfl rfl rfl ?_; intro a hF
          refine s_skip hF rfl rfl rfl ?_; intro a hF
          refine s_skip hF rfl rfl rfl ?_; intro a hF
          refine s_skip hF rfl rfl rfl ?_; intro a hF
          refine s_val hF rfl rfl rfl (e_pick_f hF rfl rfl) ?_; intro a hF
          refine s_nil ?_
          refine then_n ?_
          refine s_cond_f hF rfl rfl ?_
          refine wp_skip ?_
          refine blk_n ?_
          refine then_n ?_
          refine s_region ?_
          refine s_val hF rfl rfl rfl (e_move hF rfl) ?_; intro a hF
          refine s_val hF rfl rfl rfl (e_add hF rfl rfl) ?_; intro a hF
          refine s_val hF rfl rfl rfl (e_assign hF rfl) ?_; intro a hF
          refine s_nil ?_
          refine then_n ?_
          exact ⟨x19, (wrap64 (x20 + 1)), x21, H, hF.sub _ ⟨rfl, rfl, rfl, rfl, rfl, trivial⟩, hM.pick [1, 2] rfl rfl⟩
      ·
        refine s_cond_f hF rfl (decide_eq_false c22) ?_
        refine wp_exit ?_
        refine then_x ?_
        refine then_x ?_
        exact ⟨rfl, x19, x21, some_some H, hF.sub _ ⟨rfl, rfl, rfl, trivial⟩, hM.pick [0, 1] rfl rfl⟩
  · rintro e a w ⟨rfl, x17, x18, rfl, hF, hM⟩
    skip
    refine blk_x ?_
    refine then_n ?_
    refine wp_seq ?_
    refine s_held (fun w => Ms [] w0 w [boxR b2 [Pt.ar x18] 27]) #[false, false, false, false, false, false, false] mixed rfl rfl hM ?_; intro w hf hM; clear hf
    refine h_val 0 #[true, false, false, false, false, false, false] rfl (by kernel_rfl) hF rfl rfl rfl (fun w hS => e_move hF rfl) (hM.pick [1] rfl rfl) ?_; intro a hF
    refine h_val 1 #[true, true, false, false, false, false, false] rfl (by kernel_rfl) hF rfl rfl rfl (fun w hS => e_lda (i := 0) 0 1 hF hS rfl rfl rfl rfl Try.isAgg27 Try.sizeOf27 rfl) (hM.pick [1] rfl rfl) ?_; intro a hF
    refine h_val 2 #[true, true, true, false, false, false, false] rfl (by kernel_rfl) hF rfl rfl rfl (fun w hS => e_move hF rfl) (hM.pick [1] rfl rfl) ?_; intro a hF
    refine h_val 3 #[true, true, true, true, false, false, false] rfl (by kernel_rfl) hF rfl rfl rfl (fun w hS => e_gtr hF rfl rfl) (hM.pick [1] rfl rfl) ?_; intro a hF
    refine h_val 4 #[true, true, true, true, true, false, false] rfl (by kernel_rfl) hF rfl rfl rfl (fun w hS => e_assign hF rfl) (hM.pick [1] rfl rfl) ?_; intro a hF
    refine h_one 5 #[true, true, true, true, true, true, false] rfl (by kernel_rfl) ?_
    refine s_stw (i := 0) (ps' := [Pt.ar x18]) hF hM rfl rfl rfl rfl rfl rfl Try.sizeOf27 rfl ?_; intro a w hF hM
    refine s_nil ⟨rfl, (hM.pick [1] rfl rfl), ?_⟩
    refine h_val 6 #[true, true, true, true, true, true, true] rfl (by kernel_rfl) hF rfl rfl rfl (fun w hS => e_assign hF rfl) (hM.pick [1] rfl rfl) ?_; intro a hF
    refine h_done rfl ?_
    refine then_n ?_
    refine wp_ret ?_
    obtain rfl := some_some H
    refine s_ret [Value.int .i64 x17, ag [Pt.ar x18], Value.bool (decide (0 < x17))] hF Try.results34 ⟨rfl, ⟨_, rfl, rv_box hM (i := 0) rfl Try.isAgg27 Try.sizeOf27 rfl⟩, rfl, trivial⟩ ?_
    exact ⟨_, rfl, hM.frm, rfl⟩

/-! ### loop.example/g01210/laws.eqIntA2: function 22 -/
def laws_eqIntA2.l0 (K : Nat) (a0 : (Ar 2)) (a1 : (Ar 2)) : Nat → Int → Option (Sum Unit Bool)
  | 0, _ => none
  | k + 1, x8 => if x8 < 2 then (if (0 : Int) ≤ x8 ∧ x8 < 2 then (if (a0.get x8) = (a1.get x8) then (laws_eqIntA2.l0 K a0 a1 k (wrap64 (x8 + 1))) else (some (Sum.inr false))) else none) else (some (Sum.inl ()))
def laws_eqIntA2.f (K : Nat) (a0 : (Ar 2)) (a1 : (Ar 2)) : Option Bool := (laws_eqIntA2.l0 K a0 a1 K 0).bind fun o12 => (match o12 with | .inl () => some true | .inr r14 => some r14)
set_option maxRecDepth 100000 in
set_option maxHeartbeats 4000000 in
theorem laws_eqIntA2.calls {w0 : World} (K : Nat) (a0 : (Ar 2)) (a1 : (Ar 2)) (r : Bool) (H : laws_eqIntA2.f K a0 a1 = some r) : Calls Try.prog 22 [ag [Pt.ar a0], ag [Pt.ar a1]].toArray w0 (Post w0 fun w v => v = Value.bool r) := by
  rw [laws_eqIntA2.f] at H
  refine s_start Try.func22 rfl Try.ntmps22 rfl ?_
  intro a hF
  have hM := Ms.start w0
  skip
  refine wp_seq ?_
  refine s_region ?_
  refine s_box (ps := [Pt.ar a0]) hF hM rfl rfl rfl rfl ?_; intro a w b1 hF hM
  refine s_box (ps := [Pt.ar a1]) hF hM rfl rfl rfl rfl ?_; intro a w b2 hF hM
  refine s_val hF rfl rfl rfl (e_assign hF rfl) ?_; intro a hF
  refine s_nil ?_
  refine then_n ?_
  refine wp_seq ?_
  refine wp_seq ?_
  refine s_region ?_
  refine s_val hF rfl rfl rfl (e_assign hF rfl) ?_; intro a hF
  refine s_nil ?_
  refine then_n ?_
  refine wp_block ?_
  obtain ⟨o12, h13, H⟩ := bind_some H
  refine wp_mono (Q := fun e a w => (e = Exit.exit 0 ∧ Sum.inl () = o12 ∧ Fr 17 a [] ∧ Ms [] w0 w []) ∨ (e = Exit.ret ∧ ∃ r14 : Bool, Sum.inr r14 = o12 ∧ Fr 17 a [(4, Value.bool r14)] ∧ Ms [] w0 w [])) ?_ ?_
  · refine s_loop (fun kq a w => ∃ x8 : Int, laws_eqIntA2.l0 K a0 a1 kq x8 = some o12 ∧ Fr 17 a [(2, pt b1 0), (3, pt b2 0), (5, Value.int .i64 x8)] ∧ Ms [] w0 w [boxR b1 [Pt.ar a0] 27, boxR b2 [Pt.ar a1] 27]) K ⟨0, h13, hF.sub _ ⟨rfl, rfl, rfl, trivial⟩, hM.pick [1, 0] rfl rfl⟩ ?_ ?_
    · rintro a w ⟨_, H, _⟩; exact none_some H
    · rintro k a w ⟨x8, H, hF, hM⟩; rw [laws_eqIntA2.l0] at H
      refine wp_seq ?_
      refine wp_seq ?_
      refine s_region ?_
      refine s_val hF rfl rfl rfl (e_move hF rfl) ?_; intro a hF
      refine s_val hF rfl rfl rfl (e_lss hF rfl rfl) ?_; intro a hF
      refine s_nil ?_
      refine then_n ?_
      rcases ite_cases H with ⟨c9, H⟩ | ⟨c9, H⟩
      ·
        refine s_cond_t hF rfl (decide_eq_true c9) ?_
        refine wp_skip ?_
        refine then_n ?_
        refine wp_seq ?_
        refine wp_block ?_
        refine wp_seq ?_
        obtain ⟨c10, H⟩ := ite_some H
        refine s_held (fun w => Ms [] w0 w [boxR b1 [Pt.ar a0] 27, boxR b2 [Pt.ar a1] 27]) #[false, false, false, false, false, false, false] mixed rfl rfl hM ?_; intro w hf hM; clear hf
        refine h_val 0 #[true, false, false, false, false, false, false] rfl (by kernel_rfl) hF rfl rfl rfl (fun w hS => e_move hF rfl) (hM.pick [0, 1] rfl rfl) ?_; intro a hF
        refine h_val 1 #[true, true, false, false, false, false, false] rfl (by kernel_rfl) hF rfl rfl rfl (fun w hS => e_ia hF rfl rfl Try.underlying27 Try.sizeOf3 c10.1 c10.2) (hM.pick [0, 1] rfl rfl) ?_; intro a hF
        refine h_val 2 #[true, true, true, false, false, false, false] rfl (by kernel_rfl) hF rfl rfl rfl (fun w hS => e_ldi (i := 0) (k := 0) hF hS rfl rfl rfl rfl rfl Try.isAgg3 c10.1 c10.2) (hM.pick [0, 1] rfl rfl) ?_; intro a hF
        refine h_val 3 #[true, true, true, true, false, false, false] rfl (by kernel_rfl) hF rfl rfl rfl (fun w hS => e_move hF rfl) (hM.pick [0, 1] rfl rfl) ?_; intro a hF
        refine h_val 4 #[true, true, true, true, true, false, false] rfl (by kernel_rfl) hF rfl rfl rfl (fun w hS => e_ia hF rfl rfl Try.underlying27 Try.sizeOf3 c10.1 c10.2) (hM.pick [0, 1] rfl rfl) ?_; intro a hF
        refine h_val 5 #[true, true, true, true, true, true, false] rfl (by kernel_rfl) hF rfl rfl rfl (fun w hS => e_ldi (i := 1) (k := 0) hF hS rfl rfl rfl rfl rfl Try.isAgg3 c10.1 c10.2) (hM.pick [0, 1] rfl rfl) ?_; intro a hF
        refine h_val 6 #[true, true, true, true, true, true, true] rfl (by kernel_rfl) hF rfl rfl rfl (fun w hS => e_neq hF rfl rfl) (hM.pick [0, 1] rfl rfl) ?_; intro a hF
        refine h_done rfl ?_
        refine then_n ?_
        rcases ite_cases H with ⟨c11, H⟩ | ⟨c11, H⟩
        ·
          refine s_cond_f hF rfl (congrArg Bool.not (decide_eq_true c11)) ?_
          refine wp_skip ?_
          refine blk_n ?_
          refine then_n ?_
          refine s_region ?_
          refine s_val hF rfl rfl rfl (e_move hF rfl) ?_; intro a hF
          refine s_val hF rfl rfl rfl (e_add hF rfl rfl) ?_; intro a hF
          refine s_val hF rfl rfl rfl (e_assign hF rfl) ?_; intro a hF
          refine s_nil ?_
          refine then_n ?_
          exact ⟨(wrap64 (x8 + 1)), H, hF.sub _ ⟨rfl, rfl, rfl, trivial⟩, hM.pick [0, 1] rfl rfl⟩
        ·
          refine s_cond_t hF rfl (congrArg Bool.not (decide_eq_false c11)) ?_
          refine wp_seq ?_
          refine s_region ?_
          refine s_val hF rfl rfl rfl (e_assign hF rfl) ?_; intro a hF
          refine s_nil ?_
          refine then_n ?_
          refine wp_ret ?_
          refine blk_r ?_
          refine then_r ?_
          refine then_r ?_
          exact Or.inr (⟨rfl, false, some_some H, hF.sub _ ⟨rfl, trivial⟩, hM.pick [] rfl rfl⟩)
      ·
        refine s_cond_f hF rfl (decide_eq_false c9) ?_
        refine wp_exit ?_
        refine then_x ?_
        refine then_x ?_
        exact Or.inl (⟨rfl, some_some H, hF.sub _ trivial, hM.pick [] rfl rfl⟩)
  · rintro e a w (⟨rfl, rfl, hF, hM⟩ | ⟨rfl, r14, rfl, hF, hM⟩)
    ·
      dsimp only at H
      refine blk_x ?_
      refine then_n ?_
      refine wp_seq ?_
      refine s_region ?_
      refine s_val hF rfl rfl rfl (e_assign hF rfl) ?_; intro a hF
      refine s_nil ?_
      refine then_n ?_
      refine wp_ret ?_
      obtain rfl := some_some H
      refine s_ret [Value.bool true] hF Try.results22 ⟨rfl, trivial⟩ ?_
      exact ⟨_, rfl, hM.frm, rfl⟩
    ·
      dsimp only at H
      refine blk_r ?_
      refine then_r ?_
      obtain rfl := some_some H
      refine s_ret [Value.bool r14] hF Try.results22 ⟨rfl, trivial⟩ ?_
      exact ⟨_, rfl, hM.frm, rfl⟩

/-! ### loop.example/g01210/laws.FnExactBestThrows: function 9 -/
def laws_FnExactBestThrows.f (K : Nat) (a0 : Int) : Option Bool := (spec_BestThrows.f K a0).bind fun t1 => (impl_BestThrows.f K a0).bind fun t4 => if t4.1 = t1.1 then ((laws_eqIntA2.f K t4.2.1 t1.2.1).bind fun t8 => if t8 = true then (if (t4.2.2 == t1.2.2) = true then (some true) else (some false)) else (some false)) else (some false)
set_option maxRecDepth 100000 in
set_option maxHeartbeats 4000000 in
theorem laws_FnExactBestThrows.calls {w0 : World} (K : Nat) (a0 : Int) (r : Bool) (H : laws_FnExactBestThrows.f K a0 = some r) : Calls Try.prog 9 [Value.int .i64 a0].toArray w0 (Post w0 fun w v => v = Value.bool r) := by
  rw [laws_FnExactBestThrows.f] at H
  refine s_start Try.func9 rfl Try.ntmps9 rfl ?_
  intro a hF
  have hM := Ms.start w0
  skip
  refine wp_seq ?_
  refine s_region ?_
  refine s_val hF rfl rfl rfl (e_assign hF rfl) ?_; intro a hF
  refine s_nil ?_
  refine then_n ?_
  refine wp_seq ?_
  obtain ⟨t1, h2, H⟩ := bind_some H
  refine s_region ?_
  refine s_val hF rfl rfl rfl (e_move hF rfl) ?_; intro a hF
  refine s_call hF rfl rfl rfl Try.call33 (spec_BestThrows.calls K a0 t1 h2) ?_; intro a w v hF hf hR
  subst hR; have hM := hM.grow hf
  refine s_val hF rfl rfl rfl (e_move hF rfl) ?_; intro a hF
  refine s_val hF rfl rfl rfl (e_extract hF rfl rfl) ?_; intro a hF
  refine s_val hF rfl rfl rfl (e_extract hF rfl rfl) ?_; intro a hF
  refine s_val hF rfl rfl rfl (e_extract hF rfl rfl) ?_; intro a hF
  refine s_alloc (ps := [Pt.ar (Ar.zero 2)]) hF hM rfl rfl zv27 rfl ?_; intro a w b3 hF hM
  refine s_val hF rfl rfl rfl (e_assign hF rfl) ?_; intro a hF
  refine s_stw (i := 0) (ps' := [Pt.ar t1.2.1]) hF hM rfl rfl rfl rfl rfl rfl Try.sizeOf27 rfl ?_; intro a w hF hM
  refine s_val hF rfl rfl rfl (e_assign hF rfl) ?_; intro a hF
  refine s_nil ?_
  refine then_n ?_
  refine wp_seq ?_
  obtain ⟨t4, h5, H⟩ := bind_some H
  refine s_region ?_
  refine s_val hF rfl rfl rfl (e_move hF rfl) ?_; intro a hF
  refine s_call hF rfl rfl rfl Try.call34 (impl_BestThrows.calls K a0 t4 h5) ?_; intro a w v hF hf hR
  subst hR; have hM := hM.grow hf
  refine s_val hF rfl rfl rfl (e_move hF rfl) ?_; intro a hF
  refine s_val hF rfl rfl rfl (e_extract hF rfl rfl) ?_; intro a hF
  refine s_val hF rfl rfl rfl (e_extract hF rfl rfl) ?_; intro a hF
  refine s_val hF rfl rfl rfl (e_extract hF rfl rfl) ?_; intro a hF
  refine s_alloc (ps := [Pt.ar (Ar.zero 2)]) hF hM rfl rfl zv27 rfl ?_; intro a w b6 hF hM
  refine s_val hF rfl rfl rfl (e_assign hF rfl) ?_; intro a hF
  refine s_stw (i := 0) (ps' := [Pt.ar t4.2.1]) hF hM rfl rfl rfl rfl rfl rfl Try.sizeOf27 rfl ?_; intro a w hF hM
  refine s_val hF rfl rfl rfl (e_assign hF rfl) ?_; intro a hF
  refine s_nil ?_
  refine then_n ?_
  refine wp_seq ?_
  refine wp_seq ?_
  rcases ite_cases H with ⟨c7, H⟩ | ⟨c7, H⟩
  ·
    obtain ⟨t8, h9, H⟩ := bind_some H
    rcases ite_cases H with ⟨c10, H⟩ | ⟨c10, H⟩
    ·
      refine s_region ?_
      refine s_val hF rfl rfl rfl (e_move hF rfl) ?_; intro a hF
      refine s_val hF rfl rfl rfl (e_move hF rfl) ?_; intro a hF
      refine s_val hF rfl rfl rfl (e_neq hF rfl rfl) ?_; intro a hF
      refine s_val hF rfl rfl rfl (e_move hF rfl) ?_; intro a hF
      have hF := hF.topb (congrArg Bool.not (decide_eq_true c7))
      refine s_val hF rfl rfl rfl (e_lda (i := 0) 0 1 hF hM rfl rfl rfl rfl Try.isAgg27 Try.sizeOf27 rfl) ?_; intro a hF
      refine s_val hF rfl rfl rfl (e_lda (i := 1) 0 1 hF hM rfl rfl rfl rfl Try.isAgg27 Try.sizeOf27 rfl) ?_; intro a hF
      refine s_call hF rfl rfl rfl Try.call22 (laws_eqIntA2.calls K t4.2.1 t1.2.1 t8 h9) ?_; intro a w v hF hf hR
      subst hR; have hM := hM.grow hf
      refine s_val hF rfl rfl rfl (e_not hF rfl) ?_; intro a hF
      refine s_val hF rfl rfl rfl (e_pick_f hF rfl rfl) ?_; intro a hF
      refine s_val hF rfl rfl rfl (e_move hF rfl) ?_; intro a hF
      have hF := hF.topb (congrArg Bool.not c10)
      refine s_val hF rfl rfl rfl (e_move hF rfl) ?_; intro a hF
      refine s_val hF rfl rfl rfl (e_move hF rfl) ?_; intro a hF
      refine s_val hF rfl rfl rfl (e_bneq hF rfl rfl Try.underlying4) ?_; intro a hF
      refine s_val hF rfl rfl rfl (e_pick_f hF rfl rfl) ?_; intro a hF
      refine s_nil ?_
      refine then_n ?_
      rcases ite_cases H with ⟨c11, H⟩ | ⟨c11, H⟩
      ·
        refine s_cond_f hF rfl (congrArg Bool.not c11) ?_
        refine wp_skip ?_
        refine then_n ?_
        refine wp_seq ?_
        refine s_region ?_
        refine s_val hF rfl rfl rfl (e_assign hF rfl) ?_; intro a hF
        refine s_nil ?_
        refine then_n ?_
        refine wp_ret ?_
        obtain rfl := some_some H
        refine s_ret [Value.bool true] hF Try.results9 ⟨rfl, trivial⟩ ?_
        exact ⟨_, rfl, hM.frm, rfl⟩
      ·
        refine s_cond_t hF rfl (congrArg Bool.not (bf c11)) ?_
        refine wp_seq ?_
        refine s_region ?_
        refine s_val hF rfl rfl rfl (e_assign hF rfl) ?_; intro a hF
        refine s_nil ?_
        refine then_n ?_
        refine wp_ret ?_
        refine then_r ?_
        obtain rfl := some_some H
        refine s_ret [Value.bool false] hF Try.results9 ⟨rfl, trivial⟩ ?_
        exact ⟨_, rfl, hM.frm, rfl⟩
    ·
      refine s_region ?_
      refine s_val hF rfl rfl rfl (e_move hF rfl) ?_; intro a hF
      refine s_val hF rfl rfl rfl (e_move hF rfl) ?_; intro a hF
      refine s_val hF rfl rfl rfl (e_neq hF rfl rfl) ?_; intro a hF
      refine s_val hF rfl rfl rfl (e_move hF rfl) ?_; intro a hF
      have hF := hF.topb (congrArg Bool.not (decide_eq_true c7))
      refine s_val hF rfl rfl rfl (e_lda (i := 0) 0 1 hF hM rfl rfl rfl rfl Try.isAgg27 Try.sizeOf27 rfl) ?_; intro a hF
      refine s_val hF rfl rfl rfl (e_lda (i := 1) 0 1 hF hM rfl rfl rfl rfl Try.isAgg27 Try.sizeOf27 rfl) ?_; intro a hF
      refine s_call hF rfl rfl rfl Try.call22 (laws_eqIntA2.calls K t4.2.1 t1.2.1 t8 h9) ?_; intro a w v hF hf hR
      subst hR; have hM := hM.grow hf
      refine s_val hF rfl rfl rfl (e_not hF rfl) ?_; intro a hF
      refine s_val hF rfl rfl rfl (e_pick_f hF rfl rfl) ?_; intro a hF
      refine s_val hF rfl rfl rfl (e_move hF rfl) ?_; intro a hF
      have hF := hF.topb (congrArg Bool.not (bf c10))
      refine s_skip hF rfl rfl rfl ?_; intro a hF
      refine s_skip hF rfl rfl rfl ?_; intro a hF
      refine s_skip hF rfl rfl rfl ?_; intro a hF
      refine s_val hF rfl rfl rfl (e_pick_t hF rfl rfl) ?_; intro a hF
      refine s_nil ?_
      refine then_n ?_
      refine s_cond_t hF rfl rfl ?_
      refine wp_seq ?_
      refine s_region ?_
      refine s_val hF rfl rfl rfl (e_assign hF rfl) ?_; intro a hF
      refine s_nil ?_
      refine then_n ?_
      refine wp_ret ?_
      refine then_r ?_
      obtain rfl := some_some H
      refine s_ret [Value.bool false] hF Try.results9 ⟨rfl, trivial⟩ ?_
      exact ⟨_, rfl, hM.frm, rfl⟩
  ·
    refine s_region ?_
    refine s_val hF rfl rfl rfl (e_move hF rfl) ?_; intro a hF
    refine s_val hF rfl rfl rfl (e_move hF rfl) ?_; intro a hF
    refine s_val hF rfl rfl rfl (e_neq hF rfl rfl) ?_; intro a hF
    refine s_val hF rfl rfl rfl (e_move hF rfl) ?_; intro a hF
    have hF := hF.topb (congrArg Bool.not (decide_eq_false c7))
    refine s_skip hF rfl rfl rfl ?_; intro a hF
    refine s_skip hF rfl rfl rfl ?_; intro a hF
    refine s_skip hF rfl rfl rfl ?_; intro a hF
    refine s_skip hF rfl rfl rfl ?_; intro a hF
    refine s_val hF rfl rfl rfl (e_pick_t hF rfl rfl) ?_; intro a hF
    refine s_val hF rfl rfl rfl (e_move hF rfl) ?_; intro a hF
    refine s_skip hF rfl rfl rfl ?_; intro a hF
    refine s_skip hF rfl rfl rfl ?_; intro a hF
    refine s_skip hF rfl rfl rfl ?_; intro a hF
    refine s_val hF rfl rfl rfl (e_pick_t hF rfl rfl) ?_; intro a hF
    refine s_nil ?_
    refine then_n ?_
    refine s_cond_t hF rfl rfl ?_
    refine wp_seq ?_
    refine s_region ?_
    refine s_val hF rfl rfl rfl (e_assign hF rfl) ?_; intro a hF
    refine s_nil ?_
    refine then_n ?_
    refine wp_ret ?_
    refine then_r ?_
    obtain rfl := some_some H
    refine s_ret [Value.bool false] hF Try.results9 ⟨rfl, trivial⟩ ?_
    exact ⟨_, rfl, hM.frm, rfl⟩

end Go.Proofs.Ytbknafijehakbaa.WBestThrows

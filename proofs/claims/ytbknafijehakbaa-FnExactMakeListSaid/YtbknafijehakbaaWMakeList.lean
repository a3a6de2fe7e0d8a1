/- The walk through the code that the statement reaches: what each function computes. Conditions: none but those in each line. -/
import Derived.Test.YtbknafijehakbaaProg
import Derived.Test.YtbknafijehakbaaK
namespace Go.Proofs.Ytbknafijehakbaa.WMakeList
open Go.K Go.RowKit
set_option linter.unusedVariables false
set_option linter.unusedSimpArgs false

def cd3 : Cd Int := ⟨3, 1, 8, fun x => [Pt.int x], fun x => Value.int .i64 x, (0 : Int), fun _ => rfl, fun _ => rfl, by decide⟩
theorem cdok3 : CdOk Try.prog cd3 := by
  obtain ⟨i, h1, h2, h3, h4⟩ := info_parts (by kernel_rfl : (Try.prog.info? 3).map (fun i => (i.zero, i.size, i.bytes)) = some (some (cd3.v cd3.z), 1, 8))
  exact ⟨⟨i, h1, h3, h4, h2⟩, by decide⟩
theorem zv3 (w : World) : (zeroValue 3).run Try.prog w = .ok (Value.int .i64 (0 : Int)) w := by kernel_rfl
theorem zv32 (w : World) : (zeroValue 32).run Try.prog w = .ok (Value.slice none 0 0) w := by kernel_rfl
theorem mixed : Try.prog.follows .mixedOrders = true := by kernel_rfl

/-! ### loop.example/g01210/laws.toIntS: function 26 -/
def laws_toIntS.l0 (K : Nat) (l0 : (List Int)) : Nat → Int → (List Int) → Option (List Int)
  | 0, _, _ => none
  | k + 1, x12, x13 => if x12 < (l0.length : Int) then (if (0 : Int) ≤ x12 ∧ x12 < (l0.length : Int) then (if (0 : Int) ≤ x12 ∧ x12 < (x13.length : Int) then (laws_toIntS.l0 K l0 k (wrap64 (x12 + 1)) (x13.set (x12 : Int).toNat (l0.getD (x12 : Int).toNat (0 : Int)))) else none) else none) else (some x13)
def laws_toIntS.f (K : Nat) (l0 : (List Int)) : Option (List Int) := if (0 : Int) ≤ (l0.length : Int) ∧ (l0.length : Int) ≤ 1073741824 then ((laws_toIntS.l0 K l0 K 0 (List.replicate (l0.length : Int).toNat (0 : Int))).bind fun x11 => some x11) else none
set_option maxRecDepth 100000 in
set_option maxHeartbeats 4000000 in
theorem laws_toIntS.calls {w0 : World} (K : Nat) (l0 : (List Int)) (u0 : Value) (q0 : SlR cd3 w0 u0 l0) (r : (List Int)) (H : laws_toIntS.f K l0 = some r) : Calls Try.prog 26 [u0].toArray w0 (Post w0 fun w v => Fresh cd3 w0.heap.size w v r) := by
  rw [laws_toIntS.f] at H
  refine s_start Try.func26 rfl Try.ntmps26 rfl ?_
  intro a hF
  have hM := Ms.start w0
  skip
  refine wp_seq ?_
  refine s_region ?_
  refine s_val hF rfl rfl rfl (e_assign hF rfl) ?_; intro a hF
  refine s_nil ?_
  refine then_n ?_
  refine wp_seq ?_
  obtain ⟨c2, H⟩ := ite_some H
  refine s_region ?_
  refine s_val hF rfl rfl rfl (e_move hF rfl) ?_; intro a hF
  refine s_val hF rfl rfl rfl (e_len hF rfl (q0.frm hM.frm).toF Try.underlying32) ?_; intro a hF
  refine s_make (C := cd3) cdok3 hF hM rfl rfl rfl rfl Try.underlying32 c2.1 c2.2 ?_; intro a w v1 hF hM
  refine s_val hF rfl rfl rfl (e_assign hF rfl) ?_; intro a hF
  refine s_nil ?_
  refine then_n ?_
  refine wp_seq ?_
  refine wp_seq ?_
  refine s_region ?_
  refine s_val hF rfl rfl rfl (e_assign hF rfl) ?_; intro a hF
  refine s_nil ?_
  refine then_n ?_
  refine wp_block ?_
  obtain ⟨o17, h18, H⟩ := bind_some H
  refine wp_mono (Q := fun e a w => (e = Exit.exit 0 ∧ ∃ x11 : (List Int), x11 = o17 ∧ Fr 22 a [(3, v1)] ∧ Ms [] w0 w [rowR cd3 v1 x11])) ?_ ?_
  · refine s_loop (fun kq a w => ∃ x12 : Int, ∃ x13 : (List Int), laws_toIntS.l0 K l0 kq x12 x13 = some o17 ∧ Fr 22 a [(0, u0), (3, v1), (4, Value.int .i64 x12)] ∧ Ms [] w0 w [rowR cd3 v1 x13]) K ⟨0, (List.replicate (l0.length : Int).toNat (0 : Int)), h18, hF.sub _ ⟨rfl, rfl, rfl, trivial⟩, hM.pick [0] rfl rfl⟩ ?_ ?_
    · rintro a w ⟨_, _, H, _⟩; exact none_some H
    · rintro k a w ⟨x12, x13, H, hF, hM⟩; rw [laws_toIntS.l0] at H
      refine wp_seq ?_
      refine wp_seq ?_
      refine s_region ?_
      refine s_val hF rfl rfl rfl (e_move hF rfl) ?_; intro a hF
      refine s_val hF rfl rfl rfl (e_move hF rfl) ?_; intro a hF
      refine s_val hF rfl rfl rfl (e_len hF rfl (q0.frm hM.frm).toF Try.underlying32) ?_; intro a hF
      refine s_val hF rfl rfl rfl (e_lss hF rfl rfl) ?_; intro a hF
      refine s_nil ?_
      refine then_n ?_
      rcases ite_cases H with ⟨c14, H⟩ | ⟨c14, H⟩
      ·
        refine s_cond_t hF rfl (decide_eq_true c14) ?_
        refine wp_skip ?_
        refine then_n ?_
        refine wp_seq ?_
        refine wp_block ?_
        obtain ⟨c15, H⟩ := ite_some H
        obtain ⟨c16, H⟩ := ite_some H
        refine s_region ?_
        refine s_val hF rfl rfl rfl (e_move hF rfl) ?_; intro a hF
        refine s_val hF rfl rfl rfl (e_move hF rfl) ?_; intro a hF
        refine s_val hF rfl rfl rfl (e_move hF rfl) ?_; intro a hF
        refine s_val hF rfl rfl rfl (e_move hF rfl) ?_; intro a hF
        refine s_val hF rfl rfl rfl (e_ias cd3 hF rfl rfl (q0.frm hM.frm).toF Try.underlying32 Try.sizeOf3 c15.1 c15.2) ?_; intro a hF
        refine s_val hF rfl rfl rfl (e_lds (m := x12) hF rfl (q0.frm hM.frm) (getD_some (z := (0 : Int)) c15.1 c15.2) rfl rfl Try.isAgg3) ?_; intro a hF
        refine s_val hF rfl rfl rfl (e_ias cd3 hF rfl rfl (hM.sl 0 rfl).toF Try.underlying32 Try.sizeOf3 c16.1 c16.2) ?_; intro a hF
        refine s_sts (i := 0) (l0.getD (x12 : Int).toNat (0 : Int)) hF hM rfl rfl rfl rfl rfl c16.1 c16.2 Try.sizeOf3 ?_; intro a w hF hM
        refine s_nil ?_
        refine blk_n ?_
        refine then_n ?_
        refine s_region ?_
        refine s_val hF rfl rfl rfl (e_move hF rfl) ?_; intro a hF
        refine s_val hF rfl rfl rfl (e_add hF rfl rfl) ?_; intro a hF
        refine s_val hF rfl rfl rfl (e_assign hF rfl) ?_; intro a hF
        refine s_nil ?_
        refine then_n ?_
        exact ⟨(wrap64 (x12 + 1)), (x13.set (x12 : Int).toNat (l0.getD (x12 : Int).toNat (0 : Int))), H, hF.sub _ ⟨rfl, rfl, rfl, trivial⟩, hM.pick [0] rfl rfl⟩
      ·
        refine s_cond_f hF rfl (decide_eq_false c14) ?_
        refine wp_exit ?_
        refine then_x ?_
        refine then_x ?_
        exact ⟨rfl, x13, some_some H, hF.sub _ ⟨rfl, trivial⟩, hM.pick [0] rfl rfl⟩
  · rintro e a w ⟨rfl, x11, rfl, hF, hM⟩
    skip
    refine blk_x ?_
    refine then_n ?_
    refine wp_seq ?_
    refine s_region ?_
    refine s_val hF rfl rfl rfl (e_move hF rfl) ?_; intro a hF
    refine s_val hF rfl rfl rfl (e_assign hF rfl) ?_; intro a hF
    refine s_nil ?_
    refine then_n ?_
    refine wp_ret ?_
    obtain rfl := some_some H
    refine s_ret [v1] hF Try.results26 ⟨rfl, trivial⟩ ?_
    exact ⟨_, rfl, hM.frm, hM.give 0 rfl⟩

/-! ### loop.example/g01210/spec.l1In: function 51 -/
def spec_l1In.f (K : Nat) (a0 : Int) (a1 : Int) (a2 : Int) : Option Bool := if a1 ≤ a0 then (some (decide (a0 ≤ a2))) else (some false)
set_option maxRecDepth 100000 in
set_option maxHeartbeats 4000000 in
theorem spec_l1In.calls {w0 : World} (K : Nat) (a0 : Int) (a1 : Int) (a2 : Int) (r : Bool) (H : spec_l1In.f K a0 a1 a2 = some r) : Calls Try.prog 51 [Value.int .i64 a0, Value.int .i64 a1, Value.int .i64 a2].toArray w0 (Post w0 fun w v => v = Value.bool r) := by
  rw [spec_l1In.f] at H
  refine s_start Try.func51 rfl Try.ntmps51 rfl ?_
  intro a hF
  have hM := Ms.start w0
  skip
  refine wp_seq ?_
  refine s_region ?_
  refine s_val hF rfl rfl rfl (e_assign hF rfl) ?_; intro a hF
  refine s_nil ?_
  refine then_n ?_
  refine wp_seq ?_
  rcases ite_cases H with ⟨c1, H⟩ | ⟨c1, H⟩
  ·
    refine s_region ?_
    refine s_val hF rfl rfl rfl (e_move hF rfl) ?_; intro a hF
    refine s_val hF rfl rfl rfl (e_move hF rfl) ?_; intro a hF
    refine s_val hF rfl rfl rfl (e_geq hF rfl rfl) ?_; intro a hF
    refine s_val hF rfl rfl rfl (e_move hF rfl) ?_; intro a hF
    have hF := hF.topb (decide_eq_true c1)
    refine s_val hF rfl rfl rfl (e_move hF rfl) ?_; intro a hF
    refine s_val hF rfl rfl rfl (e_move hF rfl) ?_; intro a hF
    refine s_val hF rfl rfl rfl (e_leq hF rfl rfl) ?_; intro a hF
    refine s_val hF rfl rfl rfl (e_pick_t hF rfl rfl) ?_; intro a hF
    refine s_val hF rfl rfl rfl (e_assign hF rfl) ?_; intro a hF
    refine s_nil ?_
    refine then_n ?_
    refine wp_ret ?_
    obtain rfl := some_some H
    refine s_ret [Value.bool (decide (a0 ≤ a2))] hF Try.results51 ⟨rfl, trivial⟩ ?_
    exact ⟨_, rfl, hM.frm, rfl⟩
  ·
    refine s_region ?_
    refine s_val hF rfl rfl rfl (e_move hF rfl) ?_; intro a hF
    refine s_val hF rfl rfl rfl (e_move hF rfl) ?_; intro a hF
    refine s_val hF rfl rfl rfl (e_geq hF rfl rfl) ?_; intro a hF
    refine s_val hF rfl rfl rfl (e_move hF rfl) ?_; intro a hF
    have hF := hF.topb (decide_eq_false c1)
    refine s_skip hF rfl rfl rfl ?_; intro a hF
    refine s_skip hF rfl rfl rfl ?_; intro a hF
    refine s_skip hF rfl rfl rfl ?_; intro a hF
    refine s_val hF rfl rfl rfl (e_pick_f hF rfl rfl) ?_; intro a hF
    refine s_val hF rfl rfl rfl (e_assign hF rfl) ?_; intro a hF
    refine s_nil ?_
    refine then_n ?_
    refine wp_ret ?_
    obtain rfl := some_some H
    refine s_ret [Value.bool false] hF Try.results51 ⟨rfl, trivial⟩ ?_
    exact ⟨_, rfl, hM.frm, rfl⟩

/-! ### loop.example/g01210/spec.l2All: function 52 -/
def spec_l2All.l0 (K : Nat) (a0 : Int) : Nat → Int → Int → Option Int
  | 0, _, _ => none
  | k + 1, x6, x7 => if x7 < a0 then (spec_l2All.l0 K a0 k (wrap64 (x6 * 6)) (wrap64 (x7 + 1))) else (some x6)
def spec_l2All.f (K : Nat) (a0 : Int) : Option Int := (spec_l2All.l0 K a0 K 1 0).bind fun x5 => some x5
set_option maxRecDepth 100000 in
set_option maxHeartbeats 4000000 in
theorem spec_l2All.calls {w0 : World} (K : Nat) (a0 : Int) (r : Int) (H : spec_l2All.f K a0 = some r) : Calls Try.prog 52 [Value.int .i64 a0].toArray w0 (Post w0 fun w v => v = Value.int .i64 r) := by
  rw [spec_l2All.f] at H
  refine s_start Try.func52 rfl Try.ntmps52 rfl ?_
  intro a hF
  have hM := Ms.start w0
  skip
  refine wp_seq ?_
  refine s_region ?_
  refine s_val hF rfl rfl rfl (e_assign hF rfl) ?_; intro a hF
  refine s_nil ?_
  refine then_n ?_
  refine wp_seq ?_
  refine s_region ?_
  refine s_val hF rfl rfl rfl (e_assign hF rfl) ?_; intro a hF
  refine s_nil ?_
  refine then_n ?_
  refine wp_seq ?_
  refine wp_seq ?_
  refine s_region ?_
  refine s_val hF rfl rfl rfl (e_assign hF rfl) ?_; intro a hF
  refine s_nil ?_
  refine then_n ?_
  refine wp_block ?_
  obtain ⟨o9, h10, H⟩ := bind_some H
  refine wp_mono (Q := fun e a w => (e = Exit.exit 0 ∧ ∃ x5 : Int, x5 = o9 ∧ Fr 13 a [(3, Value.int .i64 x5)] ∧ Ms [] w0 w [])) ?_ ?_
  · refine s_loop (fun kq a w => ∃ x6 : Int, ∃ x7 : Int, spec_l2All.l0 K a0 kq x6 x7 = some o9 ∧ Fr 13 a [(0, Value.int .i64 a0), (3, Value.int .i64 x6), (4, Value.int .i64 x7)] ∧ Ms [] w0 w []) K ⟨1, 0, h10, hF.sub _ ⟨rfl, rfl, rfl, trivial⟩, hM.pick [] rfl rfl⟩ ?_ ?_
    · rintro a w ⟨_, _, H, _⟩; exact none_some H
    · rintro k a w ⟨x6, x7, H, hF, hM⟩; rw [spec_l2All.l0] at H
      refine wp_seq ?_
      refine wp_seq ?_
      refine s_region ?_
      refine s_val hF rfl rfl rfl (e_move hF rfl) ?_; intro a hF
      refine s_val hF rfl rfl rfl (e_move hF rfl) ?_; intro a hF
      refine s_val hF rfl rfl rfl (e_lss hF rfl rfl) ?_; intro a hF
      refine s_nil ?_
      refine then_n ?_
      rcases ite_cases H with ⟨c8, H⟩ | ⟨c8, H⟩
      ·
        refine s_cond_t hF rfl (decide_eq_true c8) ?_
        refine wp_skip ?_
        refine then_n ?_
        refine wp_seq ?_
        refine wp_block ?_
        refine s_region ?_
        refine s_val hF rfl rfl rfl (e_move hF rfl) ?_; intro a hF
        refine s_val hF rfl rfl rfl (e_mul hF rfl rfl) ?_; intro a hF
        refine s_val hF rfl rfl rfl (e_assign hF rfl) ?_; intro a hF
        refine s_nil ?_
        refine blk_n ?_
        refine then_n ?_
        refine s_region ?_
        refine s_val hF rfl rfl rfl (e_move hF rfl) ?_; intro a hF
        refine s_val hF rfl rfl rfl (e_add hF rfl rfl) ?_; intro a hF
        refine s_val hF rfl rfl rfl (e_assign hF rfl) ?_; intro a hF
        refine s_nil ?_
        refine then_n ?_
        exact ⟨(wrap64 (x6 * 6)), (wrap64 (x7 + 1)), H, hF.sub _ ⟨rfl, rfl, rfl, trivial⟩, hM.pick [] rfl rfl⟩
      ·
        refine s_cond_f hF rfl (decide_eq_false c8) ?_
        refine wp_exit ?_
        refine then_x ?_
        refine then_x ?_
        exact ⟨rfl, x6, some_some H, hF.sub _ ⟨rfl, trivial⟩, hM.pick [] rfl rfl⟩
  · rintro e a w ⟨rfl, x5, rfl, hF, hM⟩
    skip
    refine blk_x ?_
    refine then_n ?_
    refine wp_seq ?_
    refine s_region ?_
    refine s_val hF rfl rfl rfl (e_move hF rfl) ?_; intro a hF
    refine s_val hF rfl rfl rfl (e_assign hF rfl) ?_; intro a hF
    refine s_nil ?_
    refine then_n ?_
    refine wp_ret ?_
    obtain rfl := some_some H
    refine s_ret [Value.int .i64 x5] hF Try.results52 ⟨rfl, trivial⟩ ?_
    exact ⟨_, rfl, hM.frm, rfl⟩

/-! ### loop.example/g01210/spec.l9Good: function 55 -/
def spec_l9Good.f (K : Nat) (a0 : Int) (a1 : Int) : Option Bool := (spec_l1In.f K a0 1 1000).bind fun t1 => if t1 = true then ((spec_l1In.f K a1 1 6).bind fun t4 => if t4 = true then ((spec_l2All.f K a1).bind fun t7 => some (decide (a0 ≤ t7))) else (some false)) else (some false)
set_option maxRecDepth 100000 in
set_option maxHeartbeats 4000000 in
theorem spec_l9Good.calls {w0 : World} (K : Nat) (a0 : Int) (a1 : Int) (r : Bool) (H : spec_l9Good.f K a0 a1 = some r) : Calls Try.prog 55 [Value.int .i64 a0, Value.int .i64 a1].toArray w0 (Post w0 fun w v => v = Value.bool r) := by
  rw [spec_l9Good.f] at H
  refine s_start Try.func55 rfl Try.ntmps55 rfl ?_
  intro a hF
  have hM := Ms.start w0
  skip
  refine wp_seq ?_
  refine s_region ?_
  refine s_val hF rfl rfl rfl (e_assign hF rfl) ?_; intro a hF
  refine s_nil ?_
  refine then_n ?_
  refine wp_seq ?_
  obtain ⟨t1, h2, H⟩ := bind_some H
  rcases ite_cases H with ⟨c3, H⟩ | ⟨c3, H⟩
  ·
    obtain ⟨t4, h5, H⟩ := bind_some H
    rcases ite_cases H with ⟨c6, H⟩ | ⟨c6, H⟩
    ·
      obtain ⟨t7, h8, H⟩ := bind_some H
      refine s_region ?_
      refine s_val hF rfl rfl rfl (e_move hF rfl) ?_; intro a hF
      refine s_call hF rfl rfl rfl Try.call51 (spec_l1In.calls K a0 1 1000 t1 h2) ?_; intro a w v hF hf hR
      subst hR; have hM := hM.grow hf
      refine s_val hF rfl rfl rfl (e_move hF rfl) ?_; intro a hF
      have hF := hF.topb c3
      refine s_val hF rfl rfl rfl (e_move hF rfl) ?_; intro a hF
      refine s_call hF rfl rfl rfl Try.call51 (spec_l1In.calls K a1 1 6 t4 h5) ?_; intro a w v hF hf hR
      subst hR; have hM := hM.grow hf
      refine s_val hF rfl rfl rfl (e_pick_t hF rfl rfl) ?_; intro a hF
      refine s_val hF rfl rfl rfl (e_move hF rfl) ?_; intro a hF
      have hF := hF.topb c6
      refine s_val hF rfl rfl rfl (e_move hF rfl) ?_; intro a hF
      refine s_call hF rfl rfl rfl Try.call52 (spec_l2All.calls K a1 t7 h8) ?_; intro a w v hF hf hR
      subst hR; have hM := hM.grow hf
      refine s_val hF rfl rfl rfl (e_move hF rfl) ?_; intro a hF
      refine s_val hF rfl rfl rfl (e_geq hF rfl rfl) ?_; intro a hF
      refine s_val hF rfl rfl rfl (e_pick_t hF rfl rfl) ?_; intro a hF
      refine s_val hF rfl rfl rfl (e_assign hF rfl) ?_; intro a hF
      refine s_nil ?_
      refine then_n ?_
      refine wp_ret ?_
      obtain rfl := some_some H
      refine s_ret [Value.bool (decide (a0 ≤ t7))] hF Try.results55 ⟨rfl, trivial⟩ ?_
      exact ⟨_, rfl, hM.frm, rfl⟩
    ·
      refine s_region ?_
      refine s_val hF rfl rfl rfl (e_move hF rfl) ?_; intro a hF
      refine s_call hF rfl rfl rfl Try.call51 (spec_l1In.calls K a0 1 1000 t1 h2) ?_; intro a w v hF hf hR
      subst hR; have hM := hM.grow hf
      refine s_val hF rfl rfl rfl (e_move hF rfl) ?_; intro a hF
      have hF := hF.topb c3
      refine s_val hF rfl rfl rfl (e_move hF rfl) ?_; intro a hF
      refine s_call hF rfl rfl rfl Try.call51 (spec_l1In.calls K a1 1 6 t4 h5) ?_; intro a w v hF hf hR
      subst hR; have hM := hM.grow hf
      refine s_val hF rfl rfl rfl (e_pick_t hF rfl rfl) ?_; intro a hF
      refine s_val hF rfl rfl rfl (e_move hF rfl) ?_; intro a hF
      have hF := hF.topb (bf c6)
      refine s_skip hF rfl rfl rfl ?_; intro a hF
      refine s_skip hF rfl rfl rfl ?_; intro a hF
      refine s_skip hF rfl rfl rfl ?_; intro a hF
      refine s_skip hF rfl rfl rfl ?_; intro a hF
      refine s_val hF rfl rfl rfl (e_pick_f hF rfl rfl) ?_; intro a hF
      refine s_val hF rfl rfl rfl (e_assign hF rfl) ?_; intro a hF
      refine s_nil ?_
      refine then_n ?_
      refine wp_ret ?_
      obtain rfl := some_some H
      refine s_ret [Value.bool false] hF Try.results55 ⟨rfl, trivial⟩ ?_
      exact ⟨_, rfl, hM.frm, rfl⟩
  ·
    refine s_region ?_
    refine s_val hF rfl rfl rfl (e_move hF rfl) ?_; intro a hF
    refine s_call hF rfl rfl rfl Try.call51 (spec_l1In.calls K a0 1 1000 t1 h2) ?_; intro a w v hF hf hR
    subst hR; have hM := hM.grow hf
    refine s_val hF rfl rfl rfl (e_move hF rfl) ?_; intro a hF
    have hF := hF.topb (bf c3)
    refine s_skip hF rfl rfl rfl ?_; intro a hF
    refine s_skip hF rfl rfl rfl ?_; intro a hF
    refine s_val hF rfl rfl rfl (e_pick_f hF rfl rfl) ?_; intro a hF
    refine s_val hF rfl rfl rfl (e_move hF rfl) ?_; intro a hF
    refine s_skip hF rfl rfl rfl ?_; intro a hF
    refine s_skip hF rfl rfl rfl ?_; intro a hF
    refine s_skip hF rfl rfl rfl ?_; intro a hF
    refine s_skip hF rfl rfl rfl ?_; intro a hF
    refine s_val hF rfl rfl rfl (e_pick_f hF rfl rfl) ?_; intro a hF
    refine s_val hF rfl rfl rfl (e_assign hF rfl) ?_; intro a hF
    refine s_nil ?_
    refine then_n ?_
    refine wp_ret ?_
    obtain rfl := some_some H
    refine s_ret [Value.bool false] hF Try.results55 ⟨rfl, trivial⟩ ?_
    exact ⟨_, rfl, hM.frm, rfl⟩

/-! ### loop.example/g01210/spec.l9Throws: function 61 -/
def spec_l9Throws.l0 (K : Nat) (l0 : (List Int)) (a1 : Int) : Nat → Int → Option (Sum Unit Bool)
  | 0, _ => none
  | k + 1, x14 => if x14 < (l0.length : Int) then (if x14 ≤ a1 then (if (0 : Int) ≤ x14 ∧ x14 < (l0.length : Int) then ((spec_l1In.f K (l0.getD (x14 : Int).toNat (0 : Int)) 0 5).bind fun t18 => if t18 = true then (spec_l9Throws.l0 K l0 a1 k (wrap64 (x14 + 1))) else (some (Sum.inr false))) else none) else (some (Sum.inl ()))) else (some (Sum.inl ()))
def spec_l9Throws.f (K : Nat) (l0 : (List Int)) (a1 : Int) : Option Bool := (spec_l9Throws.l0 K l0 a1 K 0).bind fun o21 => (match o21 with | .inl () => some (decide ((l0.length : Int) ≤ a1)) | .inr r23 => some r23)
set_option maxRecDepth 100000 in
set_option maxHeartbeats 4000000 in
theorem spec_l9Throws.calls {w0 : World} (K : Nat) (l0 : (List Int)) (u0 : Value) (q0 : SlR cd3 w0 u0 l0) (a1 : Int) (r : Bool) (H : spec_l9Throws.f K l0 a1 = some r) : Calls Try.prog 61 [u0, Value.int .i64 a1].toArray w0 (Post w0 fun w v => v = Value.bool r) := by
  rw [spec_l9Throws.f] at H
  refine s_start Try.func61 rfl Try.ntmps61 rfl ?_
  intro a hF
  have hM := Ms.start w0
  skip
  refine wp_seq ?_
  refine s_region ?_
  refine s_val hF rfl rfl rfl (e_assign hF rfl) ?_; intro a hF
  refine s_nil ?_
  refine then_n ?_
  refine wp_seq ?_
  refine wp_seq ?_
  refine s_region ?_
  refine s_val hF rfl rfl rfl (e_assign hF rfl) ?_; intro a hF
  refine s_nil ?_
  refine then_n ?_
  refine wp_block ?_
  obtain ⟨o21, h22, H⟩ := bind_some H
  refine wp_mono (Q := fun e a w => (e = Exit.exit 0 ∧ Sum.inl () = o21 ∧ Fr 27 a [(0, u0), (1, Value.int .i64 a1)] ∧ Ms [] w0 w []) ∨ (e = Exit.ret ∧ ∃ r23 : Bool, Sum.inr r23 = o21 ∧ Fr 27 a [(4, Value.bool r23)] ∧ Ms [] w0 w [])) ?_ ?_
  · refine s_loop (fun kq a w => ∃ x14 : Int, spec_l9Throws.l0 K l0 a1 kq x14 = some o21 ∧ Fr 27 a [(0, u0), (1, Value.int .i64 a1), (5, Value.int .i64 x14)] ∧ Ms [] w0 w []) K ⟨0, h22, hF.sub _ ⟨rfl, rfl, rfl, trivial⟩, hM.pick [] rfl rfl⟩ ?_ ?_
    · rintro a w ⟨_, H, _⟩; exact none_some H
    · rintro k a w ⟨x14, H, hF, hM⟩; rw [spec_l9Throws.l0] at H
      refine wp_seq ?_
      refine wp_seq ?_
      rcases ite_cases H with ⟨c15, H⟩ | ⟨c15, H⟩
      ·
        refine s_region ?_
        refine s_val hF rfl rfl rfl (e_move hF rfl) ?_; intro a hF
        refine s_val hF rfl rfl rfl (e_move hF rfl) ?_; intro a hF
        refine s_val hF rfl rfl rfl (e_len hF rfl (q0.frm hM.frm).toF Try.underlying32) ?_; intro a hF
        refine s_val hF rfl rfl rfl (e_lss hF rfl rfl) ?_; intro a hF
        refine s_val hF rfl rfl rfl (e_move hF rfl) ?_; intro a hF
        have hF := hF.topb (decide_eq_true c15)
        refine s_val hF rfl rfl rfl (e_move hF rfl) ?_; intro a hF
        refine s_val hF rfl rfl rfl (e_move hF rfl) ?_; intro a hF
        refine s_val hF rfl rfl rfl (e_leq hF rfl rfl) ?_; intro a hF
        refine s_val hF rfl rfl rfl (e_pick_t hF rfl rfl) ?_; intro a hF
        refine s_nil ?_
        refine then_n ?_
        rcases ite_cases H with ⟨c16, H⟩ | ⟨c16, H⟩
        ·
          refine s_cond_t hF rfl (decide_eq_true c16) ?_
          refine wp_skip ?_
          refine then_n ?_
          refine wp_seq ?_
          refine wp_block ?_
          refine wp_seq ?_
          obtain ⟨c17, H⟩ := ite_some H
          obtain ⟨t18, h19, H⟩ := bind_some H
          refine s_region ?_
          refine s_val hF rfl rfl rfl (e_move hF rfl) ?_; intro a hF
          refine s_val hF rfl rfl rfl (e_move hF rfl) ?_; intro a hF
          refine s_val hF rfl rfl rfl (e_ias cd3 hF rfl rfl (q0.frm hM.frm).toF Try.underlying32 Try.sizeOf3 c17.1 c17.2) ?_; intro a hF
          refine s_val hF rfl rfl rfl (e_lds (m := x14) hF rfl (q0.frm hM.frm) (getD_some (z := (0 : Int)) c17.1 c17.2) rfl rfl Try.isAgg3) ?_; intro a hF
          refine s_call hF rfl rfl rfl Try.call51 (spec_l1In.calls K (l0.getD (x14 : Int).toNat (0 : Int)) 0 5 t18 h19) ?_; intro a w v hF hf hR
          subst hR; have hM := hM.grow hf
          refine s_val hF rfl rfl rfl (e_not hF rfl) ?_; intro a hF
          refine s_nil ?_
          refine then_n ?_
          rcases ite_cases H with ⟨c20, H⟩ | ⟨c20, H⟩
          ·
            refine s_cond_f hF rfl (congrArg Bool.not c20) ?_
            refine wp_skip ?_
            refine blk_n ?_
            refine then_n ?_
            refine s_region ?_
            refine s_val hF rfl rfl rfl (e_move hF rfl) ?_; intro a hF
            refine s_val hF rfl rfl rfl (e_add hF rfl rfl) ?_; intro a hF
            refine s_val hF rfl rfl rfl (e_assign hF rfl) ?_; intro a hF
            refine s_nil ?_
            refine then_n ?_
            exact ⟨(wrap64 (x14 + 1)), H, hF.sub _ ⟨rfl, rfl, rfl, trivial⟩, hM.pick [] rfl rfl⟩
          ·
            refine s_cond_t hF rfl (congrArg Bool.not (bf c20)) ?_
            refine wp_seq ?_
            refine s_region ?_
            refine s_val hF rfl rfl rfl (e_assign hF rfl) ?_; intro a hF
            refine s_nil ?_
            refine then_n ?_
            refine wp_ret ?_
            refine blk_r ?_
            refine then_r ?_
            refine then_r ?_
            exact Or.inr (⟨rfl, false, some_some H, hF.sub _ ⟨rfl, trivial⟩, hM.pick [] rfl rfl⟩)
        ·
          refine s_cond_f hF rfl (decide_eq_false c16) ?_
          refine wp_exit ?_
          refine then_x ?_
          refine then_x ?_
          exact Or.inl (⟨rfl, some_some H, hF.sub _ ⟨rfl, rfl, trivial⟩, hM.pick [] rfl rfl⟩)
      ·
        refine s_region ?_
        refine s_val hF rfl rfl rfl (e_move hF rfl) ?_; intro a hF
        refine s_val hF rfl rfl rfl (e_move hF rfl) ?_; intro a hF
        refine s_val hF rfl rfl rfl (e_len hF rfl (q0.frm hM.frm).toF Try.underlying32) ?_; intro a hF
        refine s_val hF rfl rfl rfl (e_lss hF rfl rfl) ?_; intro a hF
        refine s_val hF rfl rfl rfl (e_move hF rfl) ?_; intro a hF
        have hF := hF.topb (decide_eq_false c15)
        refine s_skip hF rfl rfl rfl ?_; intro a hF
        refine s_skip hF rfl rfl rfl ?_; intro a hF
        refine s_skip hF rfl rfl rfl ?_; intro a hF
        refine s_val hF rfl rfl rfl (e_pick_f hF rfl rfl) ?_; intro a hF
        refine s_nil ?_
        refine then_n ?_
        refine s_cond_f hF rfl rfl ?_
        refine wp_exit ?_
        refine then_x ?_
        refine then_x ?_
        exact Or.inl (⟨rfl, some_some H, hF.sub _ ⟨rfl, rfl, trivial⟩, hM.pick [] rfl rfl⟩)
  · rintro e a w (⟨rfl, rfl, hF, hM⟩ | ⟨rfl, r23, rfl, hF, hM⟩)
    ·
      dsimp only at H
      refine blk_x ?_
      refine then_n ?_
      refine wp_seq ?_
      refine s_region ?_
      refine s_val hF rfl rfl rfl (e_move hF rfl) ?_; intro a hF
      refine s_val hF rfl rfl rfl (e_len hF rfl (q0.frm hM.frm).toF Try.underlying32) ?_; intro a hF
      refine s_val hF rfl rfl rfl (e_move hF rfl) ?_; intro a hF
      refine s_val hF rfl rfl rfl (e_leq hF rfl rfl) ?_; intro a hF
      refine s_val hF rfl rfl rfl (e_assign hF rfl) ?_; intro a hF
      refine s_nil ?_
      refine then_n ?_
      refine wp_ret ?_
      obtain rfl := some_some H
      refine s_ret [Value.bool (decide ((l0.length : Int) ≤ a1))] hF Try.results61 ⟨rfl, trivial⟩ ?_
      exact ⟨_, rfl, hM.frm, rfl⟩
    ·
      dsimp only at H
      refine blk_r ?_
      refine then_r ?_
      obtain rfl := some_some H
      refine s_ret [Value.bool r23] hF Try.results61 ⟨rfl, trivial⟩ ?_
      exact ⟨_, rfl, hM.frm, rfl⟩

/-! ### loop.example/g01210/spec.l9Number: function 62 -/
def spec_l9Number.l0 (K : Nat) (l0 : (List Int)) : Nat → Int → Int → Option Int
  | 0, _, _ => none
  | k + 1, x8, x9 => if x9 < (l0.length : Int) then (if (0 : Int) ≤ x9 ∧ x9 < (l0.length : Int) then (spec_l9Number.l0 K l0 k (wrap64 ((wrap64 (6 * x8)) + (l0.getD (x9 : Int).toNat (0 : Int)))) (wrap64 (x9 + 1))) else none) else (some x8)
def spec_l9Number.f (K : Nat) (l0 : (List Int)) : Option Int := (spec_l9Number.l0 K l0 K 0 0).bind fun x7 => some x7
set_option maxRecDepth 100000 in
set_option maxHeartbeats 4000000 in
theorem spec_l9Number.calls {w0 : World} (K : Nat) (l0 : (List Int)) (u0 : Value) (q0 : SlR cd3 w0 u0 l0) (r : Int) (H : spec_l9Number.f K l0 = some r) : Calls Try.prog 62 [u0].toArray w0 (Post w0 fun w v => v = Value.int .i64 r) := by
  rw [spec_l9Number.f] at H
  refine s_start Try.func62 rfl Try.ntmps62 rfl ?_
  intro a hF
  have hM := Ms.start w0
  skip
  refine wp_seq ?_
  refine s_region ?_
  refine s_val hF rfl rfl rfl (e_assign hF rfl) ?_; intro a hF
  refine s_nil ?_
  refine then_n ?_
  refine wp_seq ?_
  refine s_region ?_
  refine s_val hF rfl rfl rfl (e_assign hF rfl) ?_; intro a hF
  refine s_nil ?_
  refine then_n ?_
  refine wp_seq ?_
  refine wp_seq ?_
  refine s_region ?_
  refine s_val hF rfl rfl rfl (e_assign hF rfl) ?_; intro a hF
  refine s_nil ?_
  refine then_n ?_
  refine wp_block ?_
  obtain ⟨o12, h13, H⟩ := bind_some H
  refine wp_mono (Q := fun e a w => (e = Exit.exit 0 ∧ ∃ x7 : Int, x7 = o12 ∧ Fr 19 a [(3, Value.int .i64 x7)] ∧ Ms [] w0 w [])) ?_ ?_
  · refine s_loop (fun kq a w => ∃ x8 : Int, ∃ x9 : Int, spec_l9Number.l0 K l0 kq x8 x9 = some o12 ∧ Fr 19 a [(0, u0), (3, Value.int .i64 x8), (4, Value.int .i64 x9)] ∧ Ms [] w0 w []) K ⟨0, 0, h13, hF.sub _ ⟨rfl, rfl, rfl, trivial⟩, hM.pick [] rfl rfl⟩ ?_ ?_
    · rintro a w ⟨_, _, H, _⟩; exact none_some H
    · rintro k a w ⟨x8, x9, H, hF, hM⟩; rw [spec_l9Number.l0] at H
      refine wp_seq ?_
      refine wp_seq ?_
      refine s_region ?_
      refine s_val hF rfl rfl rfl (e_move hF rfl) ?_; intro a hF
      refine s_val hF rfl rfl rfl (e_move hF rfl) ?_; intro a hF
      refine s_val hF rfl rfl rfl (e_len hF rfl (q0.frm hM.frm).toF Try.underlying32) ?_; intro a hF
      refine s_val hF rfl rfl rfl (e_lss hF rfl rfl) ?_; intro a hF
      refine s_nil ?_
      refine then_n ?_
      rcases ite_cases H with ⟨c10, H⟩ | ⟨c10, H⟩
      ·
        refine s_cond_t hF rfl (decide_eq_true c10) ?_
        refine wp_skip ?_
        refine then_n ?_
        refine wp_seq ?_
        refine wp_block ?_
        obtain ⟨c11, H⟩ := ite_some H
        refine s_region ?_
        refine s_val hF rfl rfl rfl (e_move hF rfl) ?_; intro a hF
        refine s_val hF rfl rfl rfl (e_mul hF rfl rfl) ?_; intro a hF
        refine s_val hF rfl rfl rfl (e_move hF rfl) ?_; intro a hF
        refine s_val hF rfl rfl rfl (e_move hF rfl) ?_; intro a hF
        refine s_val hF rfl rfl rfl (e_ias cd3 hF rfl rfl (q0.frm hM.frm).toF Try.underlying32 Try.sizeOf3 c11.1 c11.2) ?_; intro a hF
        refine s_val hF rfl rfl rfl (e_lds (m := x9) hF rfl (q0.frm hM.frm) (getD_some (z := (0 : Int)) c11.1 c11.2) rfl rfl Try.isAgg3) ?_; intro a hF
        refine s_val hF rfl rfl rfl (e_add hF rfl rfl) ?_; intro a hF
        refine s_val hF rfl rfl rfl (e_assign hF rfl) ?_; intro a hF
        refine s_nil ?_
        refine blk_n ?_
        refine then_n ?_
        refine s_region ?_
        refine s_val hF rfl rfl rfl (e_move hF rfl) ?_; intro a hF
        refine s_val hF rfl rfl rfl (e_add hF rfl rfl) ?_; intro a hF
        refine s_val hF rfl rfl rfl (e_assign hF rfl) ?_; intro a hF
        refine s_nil ?_
        refine then_n ?_
        exact ⟨(wrap64 ((wrap64 (6 * x8)) + (l0.getD (x9 : Int).toNat (0 : Int)))), (wrap64 (x9 + 1)), H, hF.sub _ ⟨rfl, rfl, rfl, trivial⟩, hM.pick [] rfl rfl⟩
      ·
        refine s_cond_f hF rfl (decide_eq_false c10) ?_
        refine wp_exit ?_
        refine then_x ?_
        refine then_x ?_
        exact ⟨rfl, x8, some_some H, hF.sub _ ⟨rfl, trivial⟩, hM.pick [] rfl rfl⟩
  · rintro e a w ⟨rfl, x7, rfl, hF, hM⟩
    skip
    refine blk_x ?_
    refine then_n ?_
    refine wp_seq ?_
    refine s_region ?_
    refine s_val hF rfl rfl rfl (e_move hF rfl) ?_; intro a hF
    refine s_val hF rfl rfl rfl (e_assign hF rfl) ?_; intro a hF
    refine s_nil ?_
    refine then_n ?_
    refine wp_ret ?_
    obtain rfl := some_some H
    refine s_ret [Value.int .i64 x7] hF Try.results62 ⟨rfl, trivial⟩ ?_
    exact ⟨_, rfl, hM.frm, rfl⟩

/-! ### loop.example/g01210/spec.l9Taken: function 56 -/
def spec_l9Taken.f (K : Nat) (a0 : Int) (a1 : Int) : Option Int := (spec_l2All.f K a1).bind fun t1 => if a0 ≠ 0 then (some (wrap64 ((wrap64 (t1.tdiv a0)) * a0))) else none
set_option maxRecDepth 100000 in
set_option maxHeartbeats 4000000 in
theorem spec_l9Taken.calls {w0 : World} (K : Nat) (a0 : Int) (a1 : Int) (r : Int) (H : spec_l9Taken.f K a0 a1 = some r) : Calls Try.prog 56 [Value.int .i64 a0, Value.int .i64 a1].toArray w0 (Post w0 fun w v => v = Value.int .i64 r) := by
  rw [spec_l9Taken.f] at H
  refine s_start Try.func56 rfl Try.ntmps56 rfl ?_
  intro a hF
  have hM := Ms.start w0
  skip
  refine wp_seq ?_
  refine s_region ?_
  refine s_val hF rfl rfl rfl (e_assign hF rfl) ?_; intro a hF
  refine s_nil ?_
  refine then_n ?_
  refine wp_seq ?_
  obtain ⟨t1, h2, H⟩ := bind_some H
  obtain ⟨c3, H⟩ := ite_some H
  refine s_region ?_
  refine s_val hF rfl rfl rfl (e_move hF rfl) ?_; intro a hF
  refine s_call hF rfl rfl rfl Try.call52 (spec_l2All.calls K a1 t1 h2) ?_; intro a w v hF hf hR
  subst hR; have hM := hM.grow hf
  refine s_val hF rfl rfl rfl (e_move hF rfl) ?_; intro a hF
  refine s_val hF rfl rfl rfl (e_quo hF rfl rfl c3) ?_; intro a hF
  refine s_val hF rfl rfl rfl (e_move hF rfl) ?_; intro a hF
  refine s_val hF rfl rfl rfl (e_mul hF rfl rfl) ?_; intro a hF
  refine s_val hF rfl rfl rfl (e_assign hF rfl) ?_; intro a hF
  refine s_nil ?_
  refine then_n ?_
  refine wp_ret ?_
  obtain rfl := some_some H
  refine s_ret [Value.int .i64 (wrap64 ((wrap64 (t1.tdiv a0)) * a0))] hF Try.results56 ⟨rfl, trivial⟩ ?_
  exact ⟨_, rfl, hM.frm, rfl⟩

/-! ### loop.example/g01210/spec.MakeList: function 41 -/
def spec_MakeList.l0 (K : Nat) (a0 : Int) (a1 : Int) (l2 : (List Int)) : Nat → Int → Int → (List Int) → Option (Int × (List Int))
  | 0, _, _, _ => none
  | k + 1, x37, x38, x40 => if (wrap64 (x38 + a1)) ≤ (l2.length : Int) then (if (0 : Int) ≤ x38 ∧ x38 ≤ (wrap64 (x38 + a1)) ∧ (wrap64 (x38 + a1)) ≤ (l2.length : Int) then ((spec_l9Number.f K ((l2.take ((wrap64 (x38 + a1)) : Int).toNat).drop (x38 : Int).toNat)).bind fun t43 => (spec_l9Taken.f K a0 a1).bind fun t45 => if t43 < t45 then (if a0 ≠ 0 then (if x40.length + [(t43.tmod a0)].length ≤ 1073741824 then (spec_MakeList.l0 K a0 a1 l2 k x37 (wrap64 (x38 + a1)) (x40 ++ [(t43.tmod a0)])) else none) else none) else (spec_MakeList.l0 K a0 a1 l2 k (wrap64 (x37 + 1)) (wrap64 (x38 + a1)) x40)) else none) else (some (x37, x40))
def spec_MakeList.f (K : Nat) (a0 : Int) (a1 : Int) (l2 : (List Int)) : Option ((List Int) × Int × Bool) := (spec_l9Good.f K a0 a1).bind fun t2 => if t2 = true then ((spec_l9Throws.f K l2 40).bind fun t5 => if t5 = true then ((spec_MakeList.l0 K a0 a1 l2 K 0 0 ([] : List Int)).bind fun (x34, x36) => some (x36, x34, true)) else (some (([] : List Int), 0, false))) else (some (([] : List Int), 0, false))
set_option maxRecDepth 100000 in
set_option maxHeartbeats 4000000 in
theorem spec_MakeList.calls {w0 : World} (K : Nat) (a0 : Int) (a1 : Int) (l2 : (List Int)) (u2 : Value) (q2 : SlR cd3 w0 u2 l2) (r : ((List Int) × Int × Bool)) (H : spec_MakeList.f K a0 a1 l2 = some r) : Calls Try.prog 41 [Value.int .i64 a0, Value.int .i64 a1, u2].toArray w0 (Post w0 fun w v => ∃ v0 : Value, v = Value.tuple #[v0, Value.int .i64 r.2.1, Value.bool r.2.2] ∧ Fresh cd3 w0.heap.size w v0 r.1) := by
  rw [spec_MakeList.f] at H
  refine s_start Try.func41 rfl Try.ntmps41 rfl ?_
  intro a hF
  have hM := Ms.start w0
  skip
  refine wp_seq ?_
  refine s_region ?_
  refine s_val hF rfl rfl rfl (e_assign hF rfl) ?_; intro a hF
  refine s_val hF rfl rfl rfl (e_assign hF rfl) ?_; intro a hF
  refine s_val hF rfl rfl rfl (e_assign hF rfl) ?_; intro a hF
  refine s_nil ?_
  refine then_n ?_
  refine wp_seq ?_
  refine s_region ?_
  refine s_bsl (C := cd3) ([] : List Int) cdok3 hF hM rfl rfl rfl rfl Try.underlying32 rfl ?_; intro a w v1 hF hM
  refine s_val hF rfl rfl rfl (e_assign hF rfl) ?_; intro a hF
  refine s_val hF rfl rfl rfl (e_assign hF rfl) ?_; intro a hF
  refine s_nil ?_
  refine then_n ?_
  refine wp_seq ?_
  refine wp_seq ?_
  obtain ⟨t2, h3, H⟩ := bind_some H
  rcases ite_cases H with ⟨c4, H⟩ | ⟨c4, H⟩
  ·
    obtain ⟨t5, h6, H⟩ := bind_some H
    refine s_region ?_
    refine s_val hF rfl rfl rfl (e_move hF rfl) ?_; intro a hF
    refine s_val hF rfl rfl rfl (e_move hF rfl) ?_; intro a hF
    refine s_call hF rfl rfl rfl Try.call55 (spec_l9Good.calls K a0 a1 t2 h3) ?_; intro a w v hF hf hR
    subst hR; have hM := hM.grow hf
    refine s_val hF rfl rfl rfl (e_not hF rfl) ?_; intro a hF
    refine s_val hF rfl rfl rfl (e_move hF rfl) ?_; intro a hF
    have hF := hF.topb (congrArg Bool.not c4)
    refine s_val hF rfl rfl rfl (e_move hF rfl) ?_; intro a hF
    refine s_call hF rfl rfl rfl Try.call61 (spec_l9Throws.calls K l2 u2 (q2.frm hM.frm) 40 t5 h6) ?_; intro a w v hF hf hR
    subst hR; have hM := hM.grow hf
    refine s_val hF rfl rfl rfl (e_not hF rfl) ?_; intro a hF
    refine s_val hF rfl rfl rfl (e_pick_f hF rfl rfl) ?_; intro a hF
    refine s_nil ?_
    refine then_n ?_
    rcases ite_cases H with ⟨c7, H⟩ | ⟨c7, H⟩
    ·
      refine s_cond_f hF rfl (congrArg Bool.not c7) ?_
      refine wp_skip ?_
      refine then_n ?_
      refine wp_seq ?_
      refine wp_seq ?_
      refine s_region ?_
      refine s_val hF rfl rfl rfl (e_assign hF rfl) ?_; intro a hF
      refine s_nil ?_
      refine then_n ?_
      refine wp_block ?_
      obtain ⟨o52, h53, H⟩ := bind_some H
      refine wp_mono (Q := fun e a w => (e = Exit.exit 0 ∧ ∃ v35 : Value, ∃ x34 : Int, ∃ x36 : (List Int), (x34, x36) = o52 ∧ Fr 55 a [(9, v35), (10, Value.int .i64 x34)] ∧ Ms [] w0 w [rowR cd3 v35 x36])) ?_ ?_
      · refine s_loop (fun kq a w => ∃ v39 : Value, ∃ x37 : Int, ∃ x38 : Int, ∃ x40 : (List Int), spec_MakeList.l0 K a0 a1 l2 kq x37 x38 x40 = some o52 ∧ Fr 55 a [(0, Value.int .i64 a0), (1, Value.int .i64 a1), (2, u2), (9, v39), (10, Value.int .i64 x37), (11, Value.int .i64 x38)] ∧ Ms [] w0 w [rowR cd3 v39 x40]) K ⟨v1, 0, 0, ([] : List Int), h53, hF.sub _ ⟨rfl, rfl, rfl, rfl, rfl, rfl, trivial⟩, hM.pick [0] rfl rfl⟩ ?_ ?_
        · rintro a w ⟨_, _, _, _, H, _⟩; exact none_some H
        · rintro k a w ⟨v39, x37, x38, x40, H, hF, hM⟩; rw [spec_MakeList.l0] at H
          refine wp_seq ?_
          refine wp_seq ?_
          refine s_region ?_
          refine s_val hF rfl rfl rfl (e_move hF rfl) ?_; intro a hF
          refine s_val hF rfl rfl rfl (e_move hF rfl) ?_; intro a hF
          refine s_val hF rfl rfl rfl (e_add hF rfl rfl) ?_; intro a hF
          refine s_val hF rfl rfl rfl (e_move hF rfl) ?_; intro a hF
          refine s_val hF rfl rfl rfl (e_len hF rfl (q2.frm hM.frm).toF Try.underlying32) ?_; intro a hF
          refine s_val hF rfl rfl rfl (e_leq hF rfl rfl) ?_; intro a hF
          refine s_nil ?_
          refine then_n ?_
          rcases ite_cases H with ⟨c41, H⟩ | ⟨c41, H⟩
          ·
            refine s_cond_t hF rfl (decide_eq_true c41) ?_
            refine wp_skip ?_
            refine then_n ?_
            refine wp_seq ?_
            refine wp_block ?_
            refine wp_seq ?_
            obtain ⟨c42, H⟩ := ite_some H
            obtain ⟨t43, h44, H⟩ := bind_some H
            refine s_region ?_
            refine s_val hF rfl rfl rfl (e_move hF rfl) ?_; intro a hF
            refine s_val hF rfl rfl rfl (e_move hF rfl) ?_; intro a hF
            refine s_val hF rfl rfl rfl (e_move hF rfl) ?_; intro a hF
            refine s_val hF rfl rfl rfl (e_move hF rfl) ?_; intro a hF
            refine s_val hF rfl rfl rfl (e_add hF rfl rfl) ?_; intro a hF
            refine s_val hF rfl rfl rfl (e_sl_lh hF rfl rfl rfl (q2.frm hM.frm).toF Try.underlying32 Try.sizeOf3 c42) ?_; intro a hF
            refine s_call hF rfl rfl rfl Try.call62 (spec_l9Number.calls K ((l2.take ((wrap64 (x38 + a1)) : Int).toNat).drop (x38 : Int).toNat) (subv u2 (x38 : Int).toNat ((wrap64 (x38 + a1)) : Int).toNat 1) ((q2.frm hM.frm).sub (x38 : Int).toNat ((wrap64 (x38 + a1)) : Int).toNat (sl_lo_i' c42).1 (sl_lo_i' c42).2) t43 h44) ?_; intro a w v hF hf hR
            subst hR; have hM := hM.grow hf
            refine s_val hF rfl rfl rfl (e_assign hF rfl) ?_; intro a hF
            refine s_nil ?_
            refine then_n ?_
            refine wp_seq ?_
            obtain ⟨t45, h46, H⟩ := bind_some H
            refine s_region ?_
            refine s_val hF rfl rfl rfl (e_move hF rfl) ?_; intro a hF
            refine s_val hF rfl rfl rfl (e_move hF rfl) ?_; intro a hF
            refine s_val hF rfl rfl rfl (e_move hF rfl) ?_; intro a hF
            refine s_call hF rfl rfl rfl Try.call56 (spec_l9Taken.calls K a0 a1 t45 h46) ?_; intro a w v hF hf hR
            subst hR; have hM := hM.grow hf
            refine s_val hF rfl rfl rfl (e_lss hF rfl rfl) ?_; intro a hF
            refine s_nil ?_
            refine then_n ?_
            rcases ite_cases H with ⟨c47, H⟩ | ⟨c47, H⟩
            ·
              refine s_cond_t hF rfl (decide_eq_true c47) ?_
              obtain ⟨c48, H⟩ := ite_some H
              obtain ⟨c51, H⟩ := ite_some H
              refine s_region ?_
              refine s_val hF rfl rfl rfl (e_move hF rfl) ?_; intro a hF
              refine s_val hF rfl rfl rfl (e_move hF rfl) ?_; intro a hF
              refine s_val hF rfl rfl rfl (e_move hF rfl) ?_; intro a hF
              refine s_val hF rfl rfl rfl (e_rem hF rfl rfl c48) ?_; intro a hF
              refine s_bsl (C := cd3) [(t43.tmod a0)] cdok3 hF hM rfl rfl rfl rfl Try.underlying32 rfl ?_; intro a w v49 hF hM
              refine s_append (i := 1) cdok3 hF hM rfl rfl rfl rfl rfl (hM.sl 0 rfl) Try.underlying32 c51 ?_; intro a w v50 hF hM
              refine s_val hF rfl rfl rfl (e_assign hF rfl) ?_; intro a hF
              refine s_nil ?_
              refine blk_n ?_
              refine then_n ?_
              refine s_region ?_
              refine s_val hF rfl rfl rfl (e_move hF rfl) ?_; intro a hF
              refine s_val hF rfl rfl rfl (e_move hF rfl) ?_; intro a hF
              refine s_val hF rfl rfl rfl (e_add hF rfl rfl) ?_; intro a hF
              refine s_val hF rfl rfl rfl (e_assign hF rfl) ?_; intro a hF
              refine s_nil ?_
              refine then_n ?_
              exact ⟨v50, x37, (wrap64 (x38 + a1)), (x40 ++ [(t43.tmod a0)]), H, hF.sub _ ⟨rfl, rfl, rfl, rfl, rfl, rfl, trivial⟩, hM.pick [1] rfl rfl⟩
            ·
              refine s_cond_f hF rfl (decide_eq_false c47) ?_
              refine s_region ?_
              refine s_val hF rfl rfl rfl (e_move hF rfl) ?_; intro a hF
              refine s_val hF rfl rfl rfl (e_add hF rfl rfl) ?_; intro a hF
              refine s_val hF rfl rfl rfl (e_assign hF rfl) ?_; intro a hF
              refine s_nil ?_
              refine blk_n ?_
              refine then_n ?_
              refine s_region ?_
              refine s_val hF rfl rfl rfl (e_move hF rfl) ?_; intro a hF
              refine s_val hF rfl rfl rfl (e_move hF rfl) ?_; intro a hF
              refine s_val hF rfl rfl rfl (e_add hF rfl rfl) ?_; intro a hF
              refine s_val hF rfl rfl rfl (e_assign hF rfl) ?_; intro a hF
              refine s_nil ?_
              refine then_n ?_
              exact ⟨v39, (wrap64 (x37 + 1)), (wrap64 (x38 + a1)), x40, H, hF.sub _ ⟨rfl, rfl, rfl, rfl, rfl, rfl, trivial⟩, hM.pick [0] rfl rfl⟩
          ·
            refine s_cond_f hF rfl (decide_eq_false c41) ?_
            refine wp_exit ?_
            refine then_x ?_
            refine then_x ?_
            exact ⟨rfl, v39, x37, x40, some_some H, hF.sub _ ⟨rfl, rfl, trivial⟩, hM.pick [0] rfl rfl⟩
      · rintro e a w ⟨rfl, v35, x34, x36, rfl, hF, hM⟩
        skip
        refine blk_x ?_
        refine then_n ?_
        refine wp_seq ?_
        refine s_region ?_
        refine s_val hF rfl rfl rfl (e_move hF rfl) ?_; intro a hF
        refine s_val hF rfl rfl rfl (e_move hF rfl) ?_; intro a hF
        refine s_val hF rfl rfl rfl (e_assign hF rfl) ?_; intro a hF
        refine s_val hF rfl rfl rfl (e_assign hF rfl) ?_; intro a hF
        refine s_val hF rfl rfl rfl (e_assign hF rfl) ?_; intro a hF
        refine s_nil ?_
        refine then_n ?_
        refine wp_ret ?_
        obtain rfl := some_some H
        refine s_ret [v35, Value.int .i64 x34, Value.bool true] hF Try.results41 ⟨rfl, rfl, rfl, trivial⟩ ?_
        exact ⟨_, rfl, hM.frm, ⟨v35, rfl, hM.give 0 rfl⟩⟩
    ·
      refine s_cond_t hF rfl (congrArg Bool.not (bf c7)) ?_
      refine wp_seq ?_
      refine s_region ?_
      refine s_val hF rfl rfl rfl (e_move hF rfl) ?_; intro a hF
      refine s_val hF rfl rfl rfl (e_assign hF rfl) ?_; intro a hF
      refine s_val hF rfl rfl rfl (e_assign hF rfl) ?_; intro a hF
      refine s_val hF rfl rfl rfl (e_assign hF rfl) ?_; intro a hF
      refine s_nil ?_
      refine then_n ?_
      refine wp_ret ?_
      refine then_r ?_
      obtain rfl := some_some H
      refine s_ret [v1, Value.int .i64 0, Value.bool false] hF Try.results41 ⟨rfl, rfl, rfl, trivial⟩ ?_
      exact ⟨_, rfl, hM.frm, ⟨v1, rfl, hM.give 0 rfl⟩⟩
  ·
    refine s_region ?_
    refine s_val hF rfl rfl rfl (e_move hF rfl) ?_; intro a hF
    refine s_val hF rfl rfl rfl (e_move hF rfl) ?_; intro a hF
    refine s_call hF rfl rfl rfl Try.call55 (spec_l9Good.calls K a0 a1 t2 h3) ?_; intro a w v hF hf hR
    subst hR; have hM := hM.grow hf
    refine s_val hF rfl rfl rfl (e_not hF rfl) ?_; intro a hF
    refine s_val hF rfl rfl rfl (e_move hF rfl) ?_; intro a hF
    have hF := hF.topb (congrArg Bool.not (bf c4))
    refine s_skip hF rfl rfl rfl ?_; intro a hF
    refine s_skip hF rfl rfl rfl ?_; intro a hF
    refine s_skip hF rfl rfl rfl ?_; intro a hF
    refine s_val hF rfl rfl rfl (e_pick_t hF rfl rfl) ?_; intro a hF
    refine s_nil ?_
    refine then_n ?_
    refine s_cond_t hF rfl rfl ?_
    refine wp_seq ?_
    refine s_region ?_
    refine s_val hF rfl rfl rfl (e_move hF rfl) ?_; intro a hF
    refine s_val hF rfl rfl rfl (e_assign hF rfl) ?_; intro a hF
    refine s_val hF rfl rfl rfl (e_assign hF rfl) ?_; intro a hF
    refine s_val hF rfl rfl rfl (e_assign hF rfl) ?_; intro a hF
    refine s_nil ?_
    refine then_n ?_
    refine wp_ret ?_
    refine then_r ?_
    obtain rfl := some_some H
    refine s_ret [v1, Value.int .i64 0, Value.bool false] hF Try.results41 ⟨rfl, rfl, rfl, trivial⟩ ?_
    exact ⟨_, rfl, hM.frm, ⟨v1, rfl, hM.give 0 rfl⟩⟩

/-! ### loop.example/g01210/impl.within: function 53 -/
def impl_within.f (K : Nat) (a0 : Int) (a1 : Int) (a2 : Int) : Option Bool := if a1 ≤ a0 then (some (decide (a0 ≤ a2))) else (some false)
set_option maxRecDepth 100000 in
set_option maxHeartbeats 4000000 in
theorem impl_within.calls {w0 : World} (K : Nat) (a0 : Int) (a1 : Int) (a2 : Int) (r : Bool) (H : impl_within.f K a0 a1 a2 = some r) : Calls Try.prog 53 [Value.int .i64 a0, Value.int .i64 a1, Value.int .i64 a2].toArray w0 (Post w0 fun w v => v = Value.bool r) := by
  rw [impl_within.f] at H
  refine s_start Try.func53 rfl Try.ntmps53 rfl ?_
  intro a hF
  have hM := Ms.start w0
  skip
  refine wp_seq ?_
  refine s_region ?_
  refine s_val hF rfl rfl rfl (e_assign hF rfl) ?_; intro a hF
  refine s_nil ?_
  refine then_n ?_
  refine wp_seq ?_
  rcases ite_cases H with ⟨c1, H⟩ | ⟨c1, H⟩
  ·
    refine s_region ?_
    refine s_val hF rfl rfl rfl (e_move hF rfl) ?_; intro a hF
    refine s_val hF rfl rfl rfl (e_move hF rfl) ?_; intro a hF
    refine s_val hF rfl rfl rfl (e_leq hF rfl rfl) ?_; intro a hF
    refine s_val hF rfl rfl rfl (e_move hF rfl) ?_; intro a hF
    have hF := hF.topb (decide_eq_true c1)
    refine s_val hF rfl rfl rfl (e_move hF rfl) ?_; intro a hF
    refine s_val hF rfl rfl rfl (e_move hF rfl) ?_; intro a hF
    refine s_val hF rfl rfl rfl (e_leq hF rfl rfl) ?_; intro a hF
    refine s_val hF rfl rfl rfl (e_pick_t hF rfl rfl) ?_; intro a hF
    refine s_val hF rfl rfl rfl (e_assign hF rfl) ?_; intro a hF
    refine s_nil ?_
    refine then_n ?_
    refine wp_ret ?_
    obtain rfl := some_some H
    refine s_ret [Value.bool (decide (a0 ≤ a2))] hF Try.results53 ⟨rfl, trivial⟩ ?_
    exact ⟨_, rfl, hM.frm, rfl⟩
  ·
    refine s_region ?_
    refine s_val hF rfl rfl rfl (e_move hF rfl) ?_; intro a hF
    refine s_val hF rfl rfl rfl (e_move hF rfl) ?_; intro a hF
    refine s_val hF rfl rfl rfl (e_leq hF rfl rfl) ?_; intro a hF
    refine s_val hF rfl rfl rfl (e_move hF rfl) ?_; intro a hF
    have hF := hF.topb (decide_eq_false c1)
    refine s_skip hF rfl rfl rfl ?_; intro a hF
    refine s_skip hF rfl rfl rfl ?_; intro a hF
    refine s_skip hF rfl rfl rfl ?_; intro a hF
    refine s_val hF rfl rfl rfl (e_pick_f hF rfl rfl) ?_; intro a hF
    refine s_val hF rfl rfl rfl (e_assign hF rfl) ?_; intro a hF
    refine s_nil ?_
    refine then_n ?_
    refine wp_ret ?_
    obtain rfl := some_some H
    refine s_ret [Value.bool false] hF Try.results53 ⟨rfl, trivial⟩ ?_
    exact ⟨_, rfl, hM.frm, rfl⟩

/-! ### loop.example/g01210/impl.power: function 54 -/
def impl_power.l0 (K : Nat) (a0 : Int) : Nat → Int → Int → Option Int
  | 0, _, _ => none
  | k + 1, x6, x7 => if x7 < a0 then (impl_power.l0 K a0 k (wrap64 (x6 * 6)) (wrap64 (x7 + 1))) else (some x6)
def impl_power.f (K : Nat) (a0 : Int) : Option Int := (impl_power.l0 K a0 K 1 0).bind fun x5 => some x5
set_option maxRecDepth 100000 in
set_option maxHeartbeats 4000000 in
theorem impl_power.calls {w0 : World} (K : Nat) (a0 : Int) (r : Int) (H : impl_power.f K a0 = some r) : Calls Try.prog 54 [Value.int .i64 a0].toArray w0 (Post w0 fun w v => v = Value.int .i64 r) := by
  rw [impl_power.f] at H
  refine s_start Try.func54 rfl Try.ntmps54 rfl ?_
  intro a hF
  have hM := Ms.start w0
  skip
  refine wp_seq ?_
  refine s_region ?_
  refine s_val hF rfl rfl rfl (e_assign hF rfl) ?_; intro a hF
  refine s_nil ?_
  refine then_n ?_
  refine wp_seq ?_
  refine s_region ?_
  refine s_val hF rfl rfl rfl (e_assign hF rfl) ?_; intro a hF
  refine s_nil ?_
  refine then_n ?_
  refine wp_seq ?_
  refine wp_seq ?_
  refine s_region ?_
  refine s_val hF rfl rfl rfl (e_move hF rfl) ?_; intro a hF
  refine s_val hF rfl rfl rfl (e_move hF rfl) ?_; intro a hF
  refine s_nil ?_
  refine then_n ?_
  refine wp_block ?_
  obtain ⟨o9, h10, H⟩ := bind_some H
  refine wp_mono (Q := fun e a w => (e = Exit.exit 0 ∧ ∃ x5 : Int, x5 = o9 ∧ Fr 11 a [(3, Value.int .i64 x5)] ∧ Ms [] w0 w [])) ?_ ?_
  · refine s_loop (fun kq a w => ∃ x6 : Int, ∃ x7 : Int, impl_power.l0 K a0 kq x6 x7 = some o9 ∧ Fr 11 a [(3, Value.int .i64 x6), (4, Value.int .i64 a0), (5, Value.int .i64 x7)] ∧ Ms [] w0 w []) K ⟨1, 0, h10, hF.sub _ ⟨rfl, rfl, rfl, trivial⟩, hM.pick [] rfl rfl⟩ ?_ ?_
    · rintro a w ⟨_, _, H, _⟩; exact none_some H
    · rintro k a w ⟨x6, x7, H, hF, hM⟩; rw [impl_power.l0] at H
      refine wp_seq ?_
      refine s_region ?_
      refine s_val hF rfl rfl rfl (e_lss hF rfl rfl) ?_; intro a hF
      refine s_nil ?_
      refine then_n ?_
      refine wp_seq ?_
      rcases ite_cases H with ⟨c8, H⟩ | ⟨c8, H⟩
      ·
        refine s_cond_t hF rfl (decide_eq_true c8) ?_
        refine wp_skip ?_
        refine then_n ?_
        refine wp_seq ?_
        refine wp_block ?_
        refine s_region ?_
        refine s_val hF rfl rfl rfl (e_move hF rfl) ?_; intro a hF
        refine s_val hF rfl rfl rfl (e_mul hF rfl rfl) ?_; intro a hF
        refine s_val hF rfl rfl rfl (e_assign hF rfl) ?_; intro a hF
        refine s_nil ?_
        refine blk_n ?_
        refine then_n ?_
        refine s_region ?_
        refine s_val hF rfl rfl rfl (e_add hF rfl rfl) ?_; intro a hF
        refine s_val hF rfl rfl rfl (e_move hF rfl) ?_; intro a hF
        refine s_nil ?_
        refine then_n ?_
        exact ⟨(wrap64 (x6 * 6)), (wrap64 (x7 + 1)), H, hF.sub _ ⟨rfl, rfl, rfl, trivial⟩, hM.pick [] rfl rfl⟩
      ·
        refine s_cond_f hF rfl (decide_eq_false c8) ?_
        refine wp_exit ?_
        refine then_x ?_
        refine then_x ?_
        exact ⟨rfl, x6, some_some H, hF.sub _ ⟨rfl, trivial⟩, hM.pick [] rfl rfl⟩
  · rintro e a w ⟨rfl, x5, rfl, hF, hM⟩
    skip
    refine blk_x ?_
    refine then_n ?_
    refine wp_seq ?_
    refine s_region ?_
    refine s_val hF rfl rfl rfl (e_move hF rfl) ?_; intro a hF
    refine s_val hF rfl rfl rfl (e_assign hF rfl) ?_; intro a hF
    refine s_nil ?_
    refine then_n ?_
    refine wp_ret ?_
    obtain rfl := some_some H
    refine s_ret [Value.int .i64 x5] hF Try.results54 ⟨rfl, trivial⟩ ?_
    exact ⟨_, rfl, hM.frm, rfl⟩

/-! ### loop.example/g01210/impl.isMade: function 57 -/
def impl_isMade.f (K : Nat) (a0 : Int) (a1 : Int) : Option Bool := (impl_within.f K a0 1 1000).bind fun t1 => if t1 = true then ((impl_within.f K a1 1 6).bind fun t4 => if t4 = true then ((impl_power.f K a1).bind fun t7 => some (decide (a0 ≤ t7))) else (some false)) else (some false)
set_option maxRecDepth 100000 in
set_option maxHeartbeats 4000000 in
theorem impl_isMade.calls {w0 : World} (K : Nat) (a0 : Int) (a1 : Int) (r : Bool) (H : impl_isMade.f K a0 a1 = some r) : Calls Try.prog 57 [Value.int .i64 a0, Value.int .i64 a1].toArray w0 (Post w0 fun w v => v = Value.bool r) := by
  rw [impl_isMade.f] at H
  refine s_start Try.func57 rfl Try.ntmps57 rfl ?_
  intro a hF
  have hM := Ms.start w0
  skip
  refine wp_seq ?_
  refine s_region ?_
  refine s_val hF rfl rfl rfl (e_assign hF rfl) ?_; intro a hF
  refine s_nil ?_
  refine then_n ?_
  refine wp_seq ?_
  obtain ⟨t1, h2, H⟩ := bind_some H
  rcases ite_cases H with ⟨c3, H⟩ | ⟨c3, H⟩
  ·
    obtain ⟨t4, h5, H⟩ := bind_some H
    rcases ite_cases H with ⟨c6, H⟩ | ⟨c6, H⟩
    ·
      obtain ⟨t7, h8, H⟩ := bind_some H
      refine s_region ?_
      refine s_val hF rfl rfl rfl (e_move hF rfl) ?_; intro a hF
      refine s_call hF rfl rfl rfl Try.call53 (impl_within.calls K a0 1 1000 t1 h2) ?_; intro a w v hF hf hR
      subst hR; have hM := hM.grow hf
      refine s_val hF rfl rfl rfl (e_move hF rfl) ?_; intro a hF
      have hF := hF.topb c3
      refine s_val hF rfl rfl rfl (e_move hF rfl) ?_; intro a hF
      refine s_call hF rfl rfl rfl Try.call53 (impl_within.calls K a1 1 6 t4 h5) ?_; intro a w v hF hf hR
      subst hR; have hM := hM.grow hf
      refine s_val hF rfl rfl rfl (e_pick_t hF rfl rfl) ?_; intro a hF
      refine s_val hF rfl rfl rfl (e_move hF rfl) ?_; intro a hF
      have hF := hF.topb c6
      refine s_val hF rfl rfl rfl (e_move hF rfl) ?_; intro a hF
      refine s_call hF rfl rfl rfl Try.call54 (impl_power.calls K a1 t7 h8) ?_; intro a w v hF hf hR
      subst hR; have hM := hM.grow hf
      refine s_val hF rfl rfl rfl (e_move hF rfl) ?_; intro a hF
      refine s_val hF rfl rfl rfl (e_geq hF rfl rfl) ?_; intro a hF
      refine s_val hF rfl rfl rfl (e_pick_t hF rfl rfl) ?_; intro a hF
      refine s_val hF rfl rfl rfl (e_assign hF rfl) ?_; intro a hF
      refine s_nil ?_
      refine then_n ?_
      refine wp_ret ?_
      obtain rfl := some_some H
      refine s_ret [Value.bool (decide (a0 ≤ t7))] hF Try.results57 ⟨rfl, trivial⟩ ?_
      exact ⟨_, rfl, hM.frm, rfl⟩
    ·
      refine s_region ?_
      refine s_val hF rfl rfl rfl (e_move hF rfl) ?_; intro a hF
      refine s_call hF rfl rfl rfl Try.call53 (impl_within.calls K a0 1 1000 t1 h2) ?_; intro a w v hF hf hR
      subst hR; have hM := hM.grow hf
      refine s_val hF rfl rfl rfl (e_move hF rfl) ?_; intro a hF
      have hF := hF.topb c3
      refine s_val hF rfl rfl rfl (e_move hF rfl) ?_; intro a hF
      refine s_call hF rfl rfl rfl Try.call53 (impl_within.calls K a1 1 6 t4 h5) ?_; intro a w v hF hf hR
      subst hR; have hM := hM.grow hf
      refine s_val hF rfl rfl rfl (e_pick_t hF rfl rfl) ?_; intro a hF
      refine s_val hF rfl rfl rfl (e_move hF rfl) ?_; intro a hF
      have hF := hF.topb (bf c6)
      refine s_skip hF rfl rfl rfl ?_; intro a hF
      refine s_skip hF rfl rfl rfl ?_; intro a hF
      refine s_skip hF rfl rfl rfl ?_; intro a hF
      refine s_skip hF rfl rfl rfl ?_; intro a hF
      refine s_val hF rfl rfl rfl (e_pick_f hF rfl rfl) ?_; intro a hF
      refine s_val hF rfl rfl rfl (e_assign hF rfl) ?_; intro a hF
      refine s_nil ?_
      refine then_n ?_
      refine wp_ret ?_
      obtain rfl := some_some H
      refine s_ret [Value.bool false] hF Try.results57 ⟨rfl, trivial⟩ ?_
      exact ⟨_, rfl, hM.frm, rfl⟩
  ·
    refine s_region ?_
    refine s_val hF rfl rfl rfl (e_move hF rfl) ?_; intro a hF
    refine s_call hF rfl rfl rfl Try.call53 (impl_within.calls K a0 1 1000 t1 h2) ?_; intro a w v hF hf hR
    subst hR; have hM := hM.grow hf
    refine s_val hF rfl rfl rfl (e_move hF rfl) ?_; intro a hF
    have hF := hF.topb (bf c3)
    refine s_skip hF rfl rfl rfl ?_; intro a hF
    refine s_skip hF rfl rfl rfl ?_; intro a hF
    refine s_val hF rfl rfl rfl (e_pick_f hF rfl rfl) ?_; intro a hF
    refine s_val hF rfl rfl rfl (e_move hF rfl) ?_; intro a hF
    refine s_skip hF rfl rfl rfl ?_; intro a hF
    refine s_skip hF rfl rfl rfl ?_; intro a hF
    refine s_skip hF rfl rfl rfl ?_; intro a hF
    refine s_skip hF rfl rfl rfl ?_; intro a hF
    refine s_val hF rfl rfl rfl (e_pick_f hF rfl rfl) ?_; intro a hF
    refine s_val hF rfl rfl rfl (e_assign hF rfl) ?_; intro a hF
    refine s_nil ?_
    refine then_n ?_
    refine wp_ret ?_
    obtain rfl := some_some H
    refine s_ret [Value.bool false] hF Try.results57 ⟨rfl, trivial⟩ ?_
    exact ⟨_, rfl, hM.frm, rfl⟩

/-! ### loop.example/g01210/impl.isList: function 65 -/
def impl_isList.f (K : Nat) (l0 : (List Int)) : Option Bool := some (decide ((l0.length : Int) ≤ 40))
set_option maxRecDepth 100000 in
set_option maxHeartbeats 4000000 in
theorem impl_isList.calls {w0 : World} (K : Nat) (l0 : (List Int)) (u0 : Value) (q0 : SlR cd3 w0 u0 l0) (r : Bool) (H : impl_isList.f K l0 = some r) : Calls Try.prog 65 [u0].toArray w0 (Post w0 fun w v => v = Value.bool r) := by
  rw [impl_isList.f] at H
  refine s_start Try.func65 rfl Try.ntmps65 rfl ?_
  intro a hF
  have hM := Ms.start w0
  skip
  refine wp_seq ?_
  refine s_region ?_
  refine s_val hF rfl rfl rfl (e_assign hF rfl) ?_; intro a hF
  refine s_nil ?_
  refine then_n ?_
  refine wp_seq ?_
  refine s_region ?_
  refine s_val hF rfl rfl rfl (e_move hF rfl) ?_; intro a hF
  refine s_val hF rfl rfl rfl (e_len hF rfl (q0.frm hM.frm).toF Try.underlying32) ?_; intro a hF
  refine s_val hF rfl rfl rfl (e_leq hF rfl rfl) ?_; intro a hF
  refine s_val hF rfl rfl rfl (e_assign hF rfl) ?_; intro a hF
  refine s_nil ?_
  refine then_n ?_
  refine wp_ret ?_
  obtain rfl := some_some H
  refine s_ret [Value.bool (decide ((l0.length : Int) ≤ 40))] hF Try.results65 ⟨rfl, trivial⟩ ?_
  exact ⟨_, rfl, hM.frm, rfl⟩

/-! ### loop.example/g01210/impl.isSide: function 72 -/
def impl_isSide.f (K : Nat) (a0 : Int) : Option Bool := (impl_within.f K a0 0 5).bind fun t1 => some t1
set_option maxRecDepth 100000 in
set_option maxHeartbeats 4000000 in
theorem impl_isSide.calls {w0 : World} (K : Nat) (a0 : Int) (r : Bool) (H : impl_isSide.f K a0 = some r) : Calls Try.prog 72 [Value.int .i64 a0].toArray w0 (Post w0 fun w v => v = Value.bool r) := by
  rw [impl_isSide.f] at H
  refine s_start Try.func72 rfl Try.ntmps72 rfl ?_
  intro a hF
  have hM := Ms.start w0
  skip
  refine wp_seq ?_
  refine s_region ?_
  refine s_val hF rfl rfl rfl (e_assign hF rfl) ?_; intro a hF
  refine s_nil ?_
  refine then_n ?_
  refine wp_seq ?_
  obtain ⟨t1, h2, H⟩ := bind_some H
  refine s_region ?_
  refine s_val hF rfl rfl rfl (e_move hF rfl) ?_; intro a hF
  refine s_call hF rfl rfl rfl Try.call53 (impl_within.calls K a0 0 5 t1 h2) ?_; intro a w v hF hf hR
  subst hR; have hM := hM.grow hf
  refine s_val hF rfl rfl rfl (e_assign hF rfl) ?_; intro a hF
  refine s_nil ?_
  refine then_n ?_
  refine wp_ret ?_
  obtain rfl := some_some H
  refine s_ret [Value.bool t1] hF Try.results72 ⟨rfl, trivial⟩ ?_
  exact ⟨_, rfl, hM.frm, rfl⟩

/-! ### loop.example/g01210/impl.areAll[int]$1: function 84 -/
def impl_areAll_int_1__isSide.f (K : Nat) (a0 : Int) : Option Bool := (impl_isSide.f K a0).bind fun t3 => some (!t3)
set_option maxRecDepth 100000 in
set_option maxHeartbeats 4000000 in
theorem impl_areAll_int_1__isSide.calls {w0 : World} (K : Nat) (a0 : Int) (b1 : Nat) (q2 : (boxR b1 [Pt.val (Value.func (.func 72) #[] #[]) rfl] 24).holds w0) (r : Bool) (H : impl_areAll_int_1__isSide.f K a0 = some r) : Calls Try.prog 84 [Value.int .i64 a0, pt b1 0].toArray w0 (Post w0 fun w v => v = Value.bool r) := by
  rw [impl_areAll_int_1__isSide.f] at H
  refine s_start Try.func84 rfl Try.ntmps84 rfl ?_
  intro a hF
  have hM := Ms.start w0
  skip
  refine wp_seq ?_
  refine s_region ?_
  refine s_val hF rfl rfl rfl (e_assign hF rfl) ?_; intro a hF
  refine s_nil ?_
  refine then_n ?_
  refine wp_seq ?_
  obtain ⟨t3, h4, H⟩ := bind_some H
  refine s_region ?_
  refine s_val hF rfl rfl rfl (e_ld (i := 0) (k := 0) hF (lent_ms (box_frm q2 hM.frm)) rfl rfl rfl rfl Try.isAgg24 rfl) ?_; intro a hF
  refine s_val hF rfl rfl rfl (e_move hF rfl) ?_; intro a hF
  refine s_callv hF rfl rfl rfl rfl (callsV_of Try.call72 (impl_isSide.calls K a0 t3 h4)) ?_; intro a w v hF ⟨hf, hR⟩
  subst hR; have hM := hM.grow hf
  refine s_val hF rfl rfl rfl (e_not hF rfl) ?_; intro a hF
  refine s_val hF rfl rfl rfl (e_assign hF rfl) ?_; intro a hF
  refine s_nil ?_
  refine then_n ?_
  refine wp_ret ?_
  obtain rfl := some_some H
  refine s_ret [Value.bool (!t3)] hF Try.results84 ⟨rfl, trivial⟩ ?_
  exact ⟨_, rfl, hM.frm, rfl⟩

/-! ### slices.IndexFunc[[]int,int]: function 91 -/
def slices_IndexFunc_int_int__areAll_int_1_isSide.l0 (K : Nat) (l0 : (List Int)) : Nat → Int → Option (Sum Unit Int)
  | 0, _ => none
  | k + 1, x14 => if x14 < (l0.length : Int) then (if (0 : Int) ≤ x14 ∧ x14 < (l0.length : Int) then ((impl_areAll_int_1__isSide.f K (l0.getD (x14 : Int).toNat (0 : Int))).bind fun t17 => if t17 = true then (some (Sum.inr x14)) else (slices_IndexFunc_int_int__areAll_int_1_isSide.l0 K l0 k (wrap64 (x14 + 1)))) else none) else (some (Sum.inl ()))
def slices_IndexFunc_int_int__areAll_int_1_isSide.f (K : Nat) (l0 : (List Int)) : Option Int := (slices_IndexFunc_int_int__areAll_int_1_isSide.l0 K l0 K 0).bind fun o20 => (match o20 with | .inl () => some (-1) | .inr r22 => some r22)
set_option maxRecDepth 100000 in
set_option maxHeartbeats 4000000 in
theorem slices_IndexFunc_int_int__areAll_int_1_isSide.calls {w0 : World} (K : Nat) (l0 : (List Int)) (u0 : Value) (q0 : SlR cd3 w0 u0 l0) (b1 : Nat) (q2 : (boxR b1 [Pt.val (Value.func (.func 72) #[] #[]) rfl] 24).holds w0) (r : Int) (H : slices_IndexFunc_int_int__areAll_int_1_isSide.f K l0 = some r) : Calls Try.prog 91 [u0, Value.func (.func 84) #[] #[pt b1 0]].toArray w0 (Post w0 fun w v => v = Value.int .i64 r) := by
  rw [slices_IndexFunc_int_int__areAll_int_1_isSide.f] at H
  refine s_start Try.func91 rfl Try.ntmps91 rfl ?_
  intro a hF
  have hM := Ms.start w0
  skip
  refine wp_seq ?_
  refine s_region ?_
  refine s_val hF rfl rfl rfl (e_assign hF rfl) ?_; intro a hF
  refine s_nil ?_
  refine then_n ?_
  refine wp_seq ?_
  refine wp_seq ?_
  refine s_region ?_
  refine s_val hF rfl rfl rfl (e_move hF rfl) ?_; intro a hF
  refine s_val hF rfl rfl rfl (e_len hF rfl (q0.frm hM.frm).toF Try.underlying32) ?_; intro a hF
  refine s_val hF rfl rfl rfl (e_move hF rfl) ?_; intro a hF
  refine s_nil ?_
  refine then_n ?_
  refine wp_block ?_
  obtain ⟨o20, h21, H⟩ := bind_some H
  refine wp_mono (Q := fun e a w => (e = Exit.exit 0 ∧ Sum.inl () = o20 ∧ Fr 19 a [] ∧ Ms [] w0 w []) ∨ (e = Exit.ret ∧ ∃ r22 : Int, Sum.inr r22 = o20 ∧ Fr 19 a [(4, Value.int .i64 r22)] ∧ Ms [] w0 w [])) ?_ ?_
  · refine s_loop (fun kq a w => ∃ x14 : Int, slices_IndexFunc_int_int__areAll_int_1_isSide.l0 K l0 kq x14 = some o20 ∧ Fr 19 a [(0, u0), (1, Value.func (.func 84) #[] #[pt b1 0]), (7, Value.int .i64 (l0.length : Int)), (8, Value.int .i64 x14)] ∧ Ms [] w0 w []) K ⟨0, h21, hF.sub _ ⟨rfl, rfl, rfl, rfl, trivial⟩, hM.pick [] rfl rfl⟩ ?_ ?_
    · rintro a w ⟨_, H, _⟩; exact none_some H
    · rintro k a w ⟨x14, H, hF, hM⟩; rw [slices_IndexFunc_int_int__areAll_int_1_isSide.l0] at H
      refine wp_seq ?_
      refine s_region ?_
      refine s_val hF rfl rfl rfl (e_lss hF rfl rfl) ?_; intro a hF
      refine s_nil ?_
      refine then_n ?_
      refine wp_seq ?_
      rcases ite_cases H with ⟨c15, H⟩ | ⟨c15, H⟩
      ·
        refine s_cond_t hF rfl (decide_eq_true c15) ?_
        refine wp_skip ?_
        refine then_n ?_
        refine wp_seq ?_
        refine wp_block ?_
        refine wp_seq ?_
        refine s_region ?_
        refine s_val hF rfl rfl rfl (e_move hF rfl) ?_; intro a hF
        refine s_val hF rfl rfl rfl (e_assign hF rfl) ?_; intro a hF
        refine s_nil ?_
        refine then_n ?_
        refine wp_seq ?_
        obtain ⟨c16, H⟩ := ite_some H
        obtain ⟨t17, h18, H⟩ := bind_some H
        refine s_region ?_
        refine s_val hF rfl rfl rfl (e_move hF rfl) ?_; intro a hF
        refine s_val hF rfl rfl rfl (e_move hF rfl) ?_; intro a hF
        refine s_val hF rfl rfl rfl (e_move hF rfl) ?_; intro a hF
        refine s_val hF rfl rfl rfl (e_ias cd3 hF rfl rfl (q0.frm hM.frm).toF Try.underlying32 Try.sizeOf3 c16.1 c16.2) ?_; intro a hF
        refine s_val hF rfl rfl rfl (e_lds (m := x14) hF rfl (q0.frm hM.frm) (getD_some (z := (0 : Int)) c16.1 c16.2) rfl rfl Try.isAgg3) ?_; intro a hF
        refine s_callv hF rfl rfl rfl rfl (callsV_of Try.call84 (impl_areAll_int_1__isSide.calls K (l0.getD (x14 : Int).toNat (0 : Int)) b1 (box_frm q2 hM.frm) t17 h18)) ?_; intro a w v hF ⟨hf, hR⟩
        subst hR; have hM := hM.grow hf
        refine s_nil ?_
        refine then_n ?_
        rcases ite_cases H with ⟨c19, H⟩ | ⟨c19, H⟩
        ·
          refine s_cond_t hF rfl c19 ?_
          refine wp_seq ?_
          refine s_region ?_
          refine s_val hF rfl rfl rfl (e_move hF rfl) ?_; intro a hF
          refine s_val hF rfl rfl rfl (e_assign hF rfl) ?_; intro a hF
          refine s_nil ?_
          refine then_n ?_
          refine wp_ret ?_
          refine blk_r ?_
          refine then_r ?_
          refine then_r ?_
          exact Or.inr (⟨rfl, x14, some_some H, hF.sub _ ⟨rfl, trivial⟩, hM.pick [] rfl rfl⟩)
        ·
          refine s_cond_f hF rfl (bf c19) ?_
          refine wp_skip ?_
          refine blk_n ?_
          refine then_n ?_
          refine s_region ?_
          refine s_val hF rfl rfl rfl (e_add hF rfl rfl) ?_; intro a hF
          refine s_val hF rfl rfl rfl (e_move hF rfl) ?_; intro a hF
          refine s_nil ?_
          refine then_n ?_
          exact ⟨(wrap64 (x14 + 1)), H, hF.sub _ ⟨rfl, rfl, rfl, rfl, trivial⟩, hM.pick [] rfl rfl⟩
      ·
        refine s_cond_f hF rfl (decide_eq_false c15) ?_
        refine wp_exit ?_
        refine then_x ?_
        refine then_x ?_
        exact Or.inl (⟨rfl, some_some H, hF.sub _ trivial, hM.pick [] rfl rfl⟩)
  · rintro e a w (⟨rfl, rfl, hF, hM⟩ | ⟨rfl, r22, rfl, hF, hM⟩)
    ·
      dsimp only at H
      refine blk_x ?_
      refine then_n ?_
      refine wp_seq ?_
      refine s_region ?_
      refine s_val hF rfl rfl rfl (e_assign hF rfl) ?_; intro a hF
      refine s_nil ?_
      refine then_n ?_
      refine wp_ret ?_
      obtain rfl := some_some H
      refine s_ret [Value.int .i64 (-1)] hF Try.results91 ⟨rfl, trivial⟩ ?_
      exact ⟨_, rfl, hM.frm, rfl⟩
    ·
      dsimp only at H
      refine blk_r ?_
      refine then_r ?_
      obtain rfl := some_some H
      refine s_ret [Value.int .i64 r22] hF Try.results91 ⟨rfl, trivial⟩ ?_
      exact ⟨_, rfl, hM.frm, rfl⟩

/-! ### slices.ContainsFunc[[]int,int]: function 83 -/
def slices_ContainsFunc_int_int__areAll_int_1_isSide.f (K : Nat) (l0 : (List Int)) : Option Bool := (slices_IndexFunc_int_int__areAll_int_1_isSide.f K l0).bind fun t3 => some (decide (0 ≤ t3))
set_option maxRecDepth 100000 in
set_option maxHeartbeats 4000000 in
theorem slices_ContainsFunc_int_int__areAll_int_1_isSide.calls {w0 : World} (K : Nat) (l0 : (List Int)) (u0 : Value) (q0 : SlR cd3 w0 u0 l0) (b1 : Nat) (q2 : (boxR b1 [Pt.val (Value.func (.func 72) #[] #[]) rfl] 24).holds w0) (r : Bool) (H : slices_ContainsFunc_int_int__areAll_int_1_isSide.f K l0 = some r) : Calls Try.prog 83 [u0, Value.func (.func 84) #[] #[pt b1 0]].toArray w0 (Post w0 fun w v => v = Value.bool r) := by
  rw [slices_ContainsFunc_int_int__areAll_int_1_isSide.f] at H
  refine s_start Try.func83 rfl Try.ntmps83 rfl ?_
  intro a hF
  have hM := Ms.start w0
  skip
  refine wp_seq ?_
  refine s_region ?_
  refine s_val hF rfl rfl rfl (e_assign hF rfl) ?_; intro a hF
  refine s_nil ?_
  refine then_n ?_
  refine wp_seq ?_
  obtain ⟨t3, h4, H⟩ := bind_some H
  refine s_region ?_
  refine s_val hF rfl rfl rfl (e_move hF rfl) ?_; intro a hF
  refine s_val hF rfl rfl rfl (e_move hF rfl) ?_; intro a hF
  refine s_call hF rfl rfl rfl Try.call91 (slices_IndexFunc_int_int__areAll_int_1_isSide.calls K l0 u0 (q0.frm hM.frm) b1 (box_frm q2 hM.frm) t3 h4) ?_; intro a w v hF hf hR
  subst hR; have hM := hM.grow hf
  refine s_val hF rfl rfl rfl (e_geq hF rfl rfl) ?_; intro a hF
  refine s_val hF rfl rfl rfl (e_assign hF rfl) ?_; intro a hF
  refine s_nil ?_
  refine then_n ?_
  refine wp_ret ?_
  obtain rfl := some_some H
  refine s_ret [Value.bool (decide (0 ≤ t3))] hF Try.results83 ⟨rfl, trivial⟩ ?_
  exact ⟨_, rfl, hM.frm, rfl⟩

/-! ### loop.example/g01210/impl.areAll[int]: function 69 -/
def impl_areAll_int__isSide.f (K : Nat) (l0 : (List Int)) : Option Bool := (slices_ContainsFunc_int_int__areAll_int_1_isSide.f K l0).bind fun t2 => some (!t2)
set_option maxRecDepth 100000 in
set_option maxHeartbeats 4000000 in
theorem impl_areAll_int__isSide.calls {w0 : World} (K : Nat) (l0 : (List Int)) (u0 : Value) (q0 : SlR cd3 w0 u0 l0) (r : Bool) (H : impl_areAll_int__isSide.f K l0 = some r) : Calls Try.prog 69 [u0, Value.func (.func 72) #[] #[]].toArray w0 (Post w0 fun w v => v = Value.bool r) := by
  rw [impl_areAll_int__isSide.f] at H
  refine s_start Try.func69 rfl Try.ntmps69 rfl ?_
  intro a hF
  have hM := Ms.start w0
  skip
  refine wp_seq ?_
  refine s_region ?_
  refine s_box (ps := [Pt.val (Value.func (.func 72) #[] #[]) rfl]) hF hM rfl rfl rfl rfl ?_; intro a w b1 hF hM
  refine s_val hF rfl rfl rfl (e_assign hF rfl) ?_; intro a hF
  refine s_nil ?_
  refine then_n ?_
  refine wp_seq ?_
  obtain ⟨t2, h3, H⟩ := bind_some H
  refine s_region ?_
  refine s_val hF rfl rfl rfl (e_move hF rfl) ?_; intro a hF
  refine s_val hF rfl rfl rfl (e_mkfunc (hF.evs' rfl)) ?_; intro a hF
  refine s_call hF rfl rfl rfl Try.call83 (slices_ContainsFunc_int_int__areAll_int_1_isSide.calls K l0 u0 (q0.frm hM.frm) b1 (hM.get 0 rfl) t2 h3) ?_; intro a w v hF hf hR
  subst hR; have hM := hM.grow hf
  refine s_val hF rfl rfl rfl (e_not hF rfl) ?_; intro a hF
  refine s_val hF rfl rfl rfl (e_assign hF rfl) ?_; intro a hF
  refine s_nil ?_
  refine then_n ?_
  refine wp_ret ?_
  obtain rfl := some_some H
  refine s_ret [Value.bool (!t2)] hF Try.results69 ⟨rfl, trivial⟩ ?_
  exact ⟨_, rfl, hM.frm, rfl⟩

/-! ### loop.example/g01210/impl.areThrows: function 63 -/
def impl_areThrows.f (K : Nat) (l0 : (List Int)) : Option Bool := (impl_areAll_int__isSide.f K l0).bind fun t1 => some t1
set_option maxRecDepth 100000 in
set_option maxHeartbeats 4000000 in
theorem impl_areThrows.calls {w0 : World} (K : Nat) (l0 : (List Int)) (u0 : Value) (q0 : SlR cd3 w0 u0 l0) (r : Bool) (H : impl_areThrows.f K l0 = some r) : Calls Try.prog 63 [u0].toArray w0 (Post w0 fun w v => v = Value.bool r) := by
  rw [impl_areThrows.f] at H
  refine s_start Try.func63 rfl Try.ntmps63 rfl ?_
  intro a hF
  have hM := Ms.start w0
  skip
  refine wp_seq ?_
  refine s_region ?_
  refine s_val hF rfl rfl rfl (e_assign hF rfl) ?_; intro a hF
  refine s_nil ?_
  refine then_n ?_
  refine wp_seq ?_
  obtain ⟨t1, h2, H⟩ := bind_some H
  refine s_region ?_
  refine s_val hF rfl rfl rfl (e_move hF rfl) ?_; intro a hF
  refine s_call hF rfl rfl rfl Try.call69 (impl_areAll_int__isSide.calls K l0 u0 (q0.frm hM.frm) t1 h2) ?_; intro a w v hF hf hR
  subst hR; have hM := hM.grow hf
  refine s_val hF rfl rfl rfl (e_assign hF rfl) ?_; intro a hF
  refine s_nil ?_
  refine then_n ?_
  refine wp_ret ?_
  obtain rfl := some_some H
  refine s_ret [Value.bool t1] hF Try.results63 ⟨rfl, trivial⟩ ?_
  exact ⟨_, rfl, hM.frm, rfl⟩

/-! ### loop.example/g01210/impl.numberOf: function 64 -/
def impl_numberOf.l0 (K : Nat) (l0 : (List Int)) : Nat → Int → Int → Option Int
  | 0, _, _ => none
  | k + 1, x8, x9 => if x9 < (l0.length : Int) then (if (0 : Int) ≤ x9 ∧ x9 < (l0.length : Int) then (impl_numberOf.l0 K l0 k (wrap64 ((wrap64 (x8 * 6)) + (l0.getD (x9 : Int).toNat (0 : Int)))) (wrap64 (x9 + 1))) else none) else (some x8)
def impl_numberOf.f (K : Nat) (l0 : (List Int)) : Option Int := (impl_numberOf.l0 K l0 K 0 0).bind fun x7 => some x7
set_option maxRecDepth 100000 in
set_option maxHeartbeats 4000000 in
theorem impl_numberOf.calls {w0 : World} (K : Nat) (l0 : (List Int)) (u0 : Value) (q0 : SlR cd3 w0 u0 l0) (r : Int) (H : impl_numberOf.f K l0 = some r) : Calls Try.prog 64 [u0].toArray w0 (Post w0 fun w v => v = Value.int .i64 r) := by
  rw [impl_numberOf.f] at H
  refine s_start Try.func64 rfl Try.ntmps64 rfl ?_
  intro a hF
  have hM := Ms.start w0
  skip
  refine wp_seq ?_
  refine s_region ?_
  refine s_val hF rfl rfl rfl (e_assign hF rfl) ?_; intro a hF
  refine s_nil ?_
  refine then_n ?_
  refine wp_seq ?_
  refine s_region ?_
  refine s_val hF rfl rfl rfl (e_assign hF rfl) ?_; intro a hF
  refine s_nil ?_
  refine then_n ?_
  refine wp_seq ?_
  refine wp_seq ?_
  refine s_region ?_
  refine s_val hF rfl rfl rfl (e_move hF rfl) ?_; intro a hF
  refine s_val hF rfl rfl rfl (e_len hF rfl (q0.frm hM.frm).toF Try.underlying32) ?_; intro a hF
  refine s_val hF rfl rfl rfl (e_move hF rfl) ?_; intro a hF
  refine s_nil ?_
  refine then_n ?_
  refine wp_block ?_
  obtain ⟨o12, h13, H⟩ := bind_some H
  refine wp_mono (Q := fun e a w => (e = Exit.exit 0 ∧ ∃ x7 : Int, x7 = o12 ∧ Fr 18 a [(3, Value.int .i64 x7)] ∧ Ms [] w0 w [])) ?_ ?_
  · refine s_loop (fun kq a w => ∃ x8 : Int, ∃ x9 : Int, impl_numberOf.l0 K l0 kq x8 x9 = some o12 ∧ Fr 18 a [(3, Value.int .i64 x8), (6, u0), (7, Value.int .i64 (l0.length : Int)), (8, Value.int .i64 x9)] ∧ Ms [] w0 w []) K ⟨0, 0, h13, hF.sub _ ⟨rfl, rfl, rfl, rfl, trivial⟩, hM.pick [] rfl rfl⟩ ?_ ?_
    · rintro a w ⟨_, _, H, _⟩; exact none_some H
    · rintro k a w ⟨x8, x9, H, hF, hM⟩; rw [impl_numberOf.l0] at H
      refine wp_seq ?_
      refine s_region ?_
      refine s_val hF rfl rfl rfl (e_lss hF rfl rfl) ?_; intro a hF
      refine s_nil ?_
      refine then_n ?_
      refine wp_seq ?_
      rcases ite_cases H with ⟨c10, H⟩ | ⟨c10, H⟩
      ·
        refine s_cond_t hF rfl (decide_eq_true c10) ?_
        refine wp_skip ?_
        refine then_n ?_
        refine wp_seq ?_
        refine wp_block ?_
        refine wp_seq ?_
        obtain ⟨c11, H⟩ := ite_some H
        refine s_region ?_
        refine s_val hF rfl rfl rfl (e_ias cd3 hF rfl rfl (q0.frm hM.frm).toF Try.underlying32 Try.sizeOf3 c11.1 c11.2) ?_; intro a hF
        refine s_val hF rfl rfl rfl (e_lds (m := x9) hF rfl (q0.frm hM.frm) (getD_some (z := (0 : Int)) c11.1 c11.2) rfl rfl Try.isAgg3) ?_; intro a hF
        refine s_val hF rfl rfl rfl (e_assign hF rfl) ?_; intro a hF
        refine s_nil ?_
        refine then_n ?_
        refine s_region ?_
        refine s_val hF rfl rfl rfl (e_move hF rfl) ?_; intro a hF
        refine s_val hF rfl rfl rfl (e_mul hF rfl rfl) ?_; intro a hF
        refine s_val hF rfl rfl rfl (e_move hF rfl) ?_; intro a hF
        refine s_val hF rfl rfl rfl (e_add hF rfl rfl) ?_; intro a hF
        refine s_val hF rfl rfl rfl (e_assign hF rfl) ?_; intro a hF
        refine s_nil ?_
        refine blk_n ?_
        refine then_n ?_
        refine s_region ?_
        refine s_val hF rfl rfl rfl (e_add hF rfl rfl) ?_; intro a hF
        refine s_val hF rfl rfl rfl (e_move hF rfl) ?_; intro a hF
        refine s_nil ?_
        refine then_n ?_
        exact ⟨(wrap64 ((wrap64 (x8 * 6)) + (l0.getD (x9 : Int).toNat (0 : Int)))), (wrap64 (x9 + 1)), H, hF.sub _ ⟨rfl, rfl, rfl, rfl, trivial⟩, hM.pick [] rfl rfl⟩
      ·
        refine s_cond_f hF rfl (decide_eq_false c10) ?_
        refine wp_exit ?_
        refine then_x ?_
        refine then_x ?_
        exact ⟨rfl, x8, some_some H, hF.sub _ ⟨rfl, trivial⟩, hM.pick [] rfl rfl⟩
  · rintro e a w ⟨rfl, x7, rfl, hF, hM⟩
    skip
    refine blk_x ?_
    refine then_n ?_
    refine wp_seq ?_
    refine s_region ?_
    refine s_val hF rfl rfl rfl (e_move hF rfl) ?_; intro a hF
    refine s_val hF rfl rfl rfl (e_assign hF rfl) ?_; intro a hF
    refine s_nil ?_
    refine then_n ?_
    refine wp_ret ?_
    obtain rfl := some_some H
    refine s_ret [Value.int .i64 x7] hF Try.results64 ⟨rfl, trivial⟩ ?_
    exact ⟨_, rfl, hM.frm, rfl⟩

/-! ### loop.example/g01210/impl.taken: function 58 -/
def impl_taken.f (K : Nat) (a0 : Int) (a1 : Int) : Option Int := (impl_power.f K a1).bind fun t1 => if a0 ≠ 0 then (some (wrap64 ((wrap64 (t1.tdiv a0)) * a0))) else none
set_option maxRecDepth 100000 in
set_option maxHeartbeats 4000000 in
theorem impl_taken.calls {w0 : World} (K : Nat) (a0 : Int) (a1 : Int) (r : Int) (H : impl_taken.f K a0 a1 = some r) : Calls Try.prog 58 [Value.int .i64 a0, Value.int .i64 a1].toArray w0 (Post w0 fun w v => v = Value.int .i64 r) := by
  rw [impl_taken.f] at H
  refine s_start Try.func58 rfl Try.ntmps58 rfl ?_
  intro a hF
  have hM := Ms.start w0
  skip
  refine wp_seq ?_
  refine s_region ?_
  refine s_val hF rfl rfl rfl (e_assign hF rfl) ?_; intro a hF
  refine s_nil ?_
  refine then_n ?_
  refine wp_seq ?_
  obtain ⟨t1, h2, H⟩ := bind_some H
  obtain ⟨c3, H⟩ := ite_some H
  refine s_region ?_
  refine s_val hF rfl rfl rfl (e_move hF rfl) ?_; intro a hF
  refine s_call hF rfl rfl rfl Try.call54 (impl_power.calls K a1 t1 h2) ?_; intro a w v hF hf hR
  subst hR; have hM := hM.grow hf
  refine s_val hF rfl rfl rfl (e_move hF rfl) ?_; intro a hF
  refine s_val hF rfl rfl rfl (e_quo hF rfl rfl c3) ?_; intro a hF
  refine s_val hF rfl rfl rfl (e_move hF rfl) ?_; intro a hF
  refine s_val hF rfl rfl rfl (e_mul hF rfl rfl) ?_; intro a hF
  refine s_val hF rfl rfl rfl (e_assign hF rfl) ?_; intro a hF
  refine s_nil ?_
  refine then_n ?_
  refine wp_ret ?_
  obtain rfl := some_some H
  refine s_ret [Value.int .i64 (wrap64 ((wrap64 (t1.tdiv a0)) * a0))] hF Try.results58 ⟨rfl, trivial⟩ ?_
  exact ⟨_, rfl, hM.frm, rfl⟩

/-! ### loop.example/g01210/impl.MakeNumber: function 36 -/
def impl_MakeNumber.f (K : Nat) (a0 : Int) (l1 : (List Int)) : Option (Int × Bool × Bool) := (impl_isMade.f K a0 (l1.length : Int)).bind fun t1 => if t1 = true then ((impl_areThrows.f K l1).bind fun t4 => if t4 = true then ((impl_numberOf.f K l1).bind fun t7 => (impl_taken.f K a0 (l1.length : Int)).bind fun t9 => if t9 ≤ t7 then (some (0, false, true)) else (if a0 ≠ 0 then (some ((t7.tmod a0), true, true)) else none)) else (some (0, false, false))) else (some (0, false, false))
set_option maxRecDepth 100000 in
set_option maxHeartbeats 4000000 in
theorem impl_MakeNumber.calls {w0 : World} (K : Nat) (a0 : Int) (l1 : (List Int)) (u1 : Value) (q1 : SlR cd3 w0 u1 l1) (r : (Int × Bool × Bool)) (H : impl_MakeNumber.f K a0 l1 = some r) : Calls Try.prog 36 [Value.int .i64 a0, u1].toArray w0 (Post w0 fun w v => v = Value.tuple #[Value.int .i64 r.1, Value.bool r.2.1, Value.bool r.2.2]) := by
  rw [impl_MakeNumber.f] at H
  refine s_start Try.func36 rfl Try.ntmps36 rfl ?_
  intro a hF
  have hM := Ms.start w0
  skip
  refine wp_seq ?_
  refine s_region ?_
  refine s_val hF rfl rfl rfl (e_assign hF rfl) ?_; intro a hF
  refine s_val hF rfl rfl rfl (e_assign hF rfl) ?_; intro a hF
  refine s_val hF rfl rfl rfl (e_assign hF rfl) ?_; intro a hF
  refine s_nil ?_
  refine then_n ?_
  refine wp_seq ?_
  refine wp_seq ?_
  obtain ⟨t1, h2, H⟩ := bind_some H
  rcases ite_cases H with ⟨c3, H⟩ | ⟨c3, H⟩
  ·
    obtain ⟨t4, h5, H⟩ := bind_some H
    refine s_region ?_
    refine s_val hF rfl rfl rfl (e_move hF rfl) ?_; intro a hF
    refine s_val hF rfl rfl rfl (e_move hF rfl) ?_; intro a hF
    refine s_val hF rfl rfl rfl (e_len hF rfl (q1.frm hM.frm).toF Try.underlying32) ?_; intro a hF
    refine s_call hF rfl rfl rfl Try.call57 (impl_isMade.calls K a0 (l1.length : Int) t1 h2) ?_; intro a w v hF hf hR
    subst hR; have hM := hM.grow hf
    refine s_val hF rfl rfl rfl (e_not hF rfl) ?_; intro a hF
    refine s_val hF rfl rfl rfl (e_move hF rfl) ?_; intro a hF
    have hF := hF.topb (congrArg Bool.not c3)
    refine s_val hF rfl rfl rfl (e_move hF rfl) ?_; intro a hF
    refine s_call hF rfl rfl rfl Try.call63 (impl_areThrows.calls K l1 u1 (q1.frm hM.frm) t4 h5) ?_; intro a w v hF hf hR
    subst hR; have hM := hM.grow hf
    refine s_val hF rfl rfl rfl (e_not hF rfl) ?_; intro a hF
    refine s_val hF rfl rfl rfl (e_pick_f hF rfl rfl) ?_; intro a hF
    refine s_nil ?_
    refine then_n ?_
    rcases ite_cases H with ⟨c6, H⟩ | ⟨c6, H⟩
    ·
      refine s_cond_f hF rfl (congrArg Bool.not c6) ?_
      refine wp_skip ?_
      refine then_n ?_
      refine wp_seq ?_
      obtain ⟨t7, h8, H⟩ := bind_some H
      refine s_region ?_
      refine s_val hF rfl rfl rfl (e_move hF rfl) ?_; intro a hF
      refine s_call hF rfl rfl rfl Try.call64 (impl_numberOf.calls K l1 u1 (q1.frm hM.frm) t7 h8) ?_; intro a w v hF hf hR
      subst hR; have hM := hM.grow hf
      refine s_val hF rfl rfl rfl (e_assign hF rfl) ?_; intro a hF
      refine s_nil ?_
      refine then_n ?_
      refine wp_seq ?_
      refine wp_seq ?_
      obtain ⟨t9, h10, H⟩ := bind_some H
      refine s_region ?_
      refine s_val hF rfl rfl rfl (e_move hF rfl) ?_; intro a hF
      refine s_val hF rfl rfl rfl (e_move hF rfl) ?_; intro a hF
      refine s_val hF rfl rfl rfl (e_move hF rfl) ?_; intro a hF
      refine s_val hF rfl rfl rfl (e_len hF rfl (q1.frm hM.frm).toF Try.underlying32) ?_; intro a hF
      refine s_call hF rfl rfl rfl Try.call58 (impl_taken.calls K a0 (l1.length : Int) t9 h10) ?_; intro a w v hF hf hR
      subst hR; have hM := hM.grow hf
      refine s_val hF rfl rfl rfl (e_geq hF rfl rfl) ?_; intro a hF
      refine s_nil ?_
      refine then_n ?_
      rcases ite_cases H with ⟨c11, H⟩ | ⟨c11, H⟩
      ·
        refine s_cond_t hF rfl (decide_eq_true c11) ?_
        refine wp_seq ?_
        refine s_region ?_
        refine s_val hF rfl rfl rfl (e_assign hF rfl) ?_; intro a hF
        refine s_val hF rfl rfl rfl (e_assign hF rfl) ?_; intro a hF
        refine s_val hF rfl rfl rfl (e_assign hF rfl) ?_; intro a hF
        refine s_nil ?_
        refine then_n ?_
        refine wp_ret ?_
        refine then_r ?_
        obtain rfl := some_some H
        refine s_ret [Value.int .i64 0, Value.bool false, Value.bool true] hF Try.results36 ⟨rfl, rfl, rfl, trivial⟩ ?_
        exact ⟨_, rfl, hM.frm, rfl⟩
      ·
        refine s_cond_f hF rfl (decide_eq_false c11) ?_
        refine wp_skip ?_
        refine then_n ?_
        refine wp_seq ?_
        obtain ⟨c12, H⟩ := ite_some H
        refine s_region ?_
        refine s_val hF rfl rfl rfl (e_move hF rfl) ?_; intro a hF
        refine s_val hF rfl rfl rfl (e_move hF rfl) ?_; intro a hF
        refine s_val hF rfl rfl rfl (e_rem hF rfl rfl c12) ?_; intro a hF
        refine s_val hF rfl rfl rfl (e_assign hF rfl) ?_; intro a hF
        refine s_val hF rfl rfl rfl (e_assign hF rfl) ?_; intro a hF
        refine s_val hF rfl rfl rfl (e_assign hF rfl) ?_; intro a hF
        refine s_nil ?_
        refine then_n ?_
        refine wp_ret ?_
        obtain rfl := some_some H
        refine s_ret [Value.int .i64 (t7.tmod a0), Value.bool true, Value.bool true] hF Try.results36 ⟨rfl, rfl, rfl, trivial⟩ ?_
        exact ⟨_, rfl, hM.frm, rfl⟩
    ·
      refine s_cond_t hF rfl (congrArg Bool.not (bf c6)) ?_
      refine wp_seq ?_
      refine s_region ?_
      refine s_val hF rfl rfl rfl (e_assign hF rfl) ?_; intro a hF
      refine s_val hF rfl rfl rfl (e_assign hF rfl) ?_; intro a hF
      refine s_val hF rfl rfl rfl (e_assign hF rfl) ?_; intro a hF
      refine s_nil ?_
      refine then_n ?_
      refine wp_ret ?_
      refine then_r ?_
      obtain rfl := some_some H
      refine s_ret [Value.int .i64 0, Value.bool false, Value.bool false] hF Try.results36 ⟨rfl, rfl, rfl, trivial⟩ ?_
      exact ⟨_, rfl, hM.frm, rfl⟩
  ·
    refine s_region ?_
    refine s_val hF rfl rfl rfl (e_move hF rfl) ?_; intro a hF
    refine s_val hF rfl rfl rfl (e_move hF rfl) ?_; intro a hF
    refine s_val hF rfl rfl rfl (e_len hF rfl (q1.frm hM.frm).toF Try.underlying32) ?_; intro a hF
    refine s_call hF rfl rfl rfl Try.call57 (impl_isMade.calls K a0 (l1.length : Int) t1 h2) ?_; intro a w v hF hf hR
    subst hR; have hM := hM.grow hf
    refine s_val hF rfl rfl rfl (e_not hF rfl) ?_; intro a hF
    refine s_val hF rfl rfl rfl (e_move hF rfl) ?_; intro a hF
    have hF := hF.topb (congrArg Bool.not (bf c3))
    refine s_skip hF rfl rfl rfl ?_; intro a hF
    refine s_skip hF rfl rfl rfl ?_; intro a hF
    refine s_skip hF rfl rfl rfl ?_; intro a hF
    refine s_val hF rfl rfl rfl (e_pick_t hF rfl rfl) ?_; intro a hF
    refine s_nil ?_
    refine then_n ?_
    refine s_cond_t hF rfl rfl ?_
    refine wp_seq ?_
    refine s_region ?_
    refine s_val hF rfl rfl rfl (e_assign hF rfl) ?_; intro a hF
    refine s_val hF rfl rfl rfl (e_assign hF rfl) ?_; intro a hF
    refine s_val hF rfl rfl rfl (e_assign hF rfl) ?_; intro a hF
    refine s_nil ?_
    refine then_n ?_
    refine wp_ret ?_
    refine then_r ?_
    obtain rfl := some_some H
    refine s_ret [Value.int .i64 0, Value.bool false, Value.bool false] hF Try.results36 ⟨rfl, rfl, rfl, trivial⟩ ?_
    exact ⟨_, rfl, hM.frm, rfl⟩

set_option maxRecDepth 100000 in
set_option maxHeartbeats 4000000 in
/-- slices.Chunk's closure gives the pieces, one behind the other. -/
theorem chunk_seq {w : World} (b1 b2 n0 : Nat) (Xb : List Nat) (u0 : Value) (xs : List Int) (sz N : Nat) (enc : Nat → Value) (hsz : 0 < sz) (hsz2 : sz ≤ 1073741824) (hL : xs.length ≤ 1073741824)
    (q0 : SlR cd3 w u0 xs) (hb1 : w.cell? ⟨b1, 0, none⟩ = some u0) (hb2 : w.cell? ⟨b2, 0, none⟩ = some (.int .i64 (sz : Int))) (h1 : b1 < n0 ∧ b1 ∉ Xb) (h2 : b2 < n0 ∧ b2 ∉ Xb) (hn0 : n0 ≤ w.heap.size)
    (hN : ∀ k, k < N ↔ k * sz < xs.length) (henc : ∀ k, k < N → enc k = sub3 u0 (k * sz) (min (k * sz + sz) xs.length) 1) :
    SeqStopsK Fence.wide 1 Try.prog 85 #[pt b1 0, pt b2 0] (fun j => #[enc j]) (Stay n0 Xb) (fun xs => xs = List.range N) (fun pre => ∃ k, k ≤ N ∧ pre = List.range k) N w := by
  intro l J Jx W hW hJa hJxa hY h0
  refine callsIn_wide.2 ?_
  have hF0 := q0.toF
  have hst : Stay n0 Xb w W := ⟨hW.size, fun k hk _ => hW.block k (by omega)⟩
  have hcell : ∀ {A : World} {b : Nat} {v : Value}, Stay n0 Xb w A → b < n0 ∧ b ∉ Xb → w.cell? ⟨b, 0, none⟩ = some v → A.cell? ⟨b, 0, none⟩ = some v := by
    intro A b v hs hb hc
    rw [World.cell?_of_block (w := w) (hs.block b hb.1 hb.2)]
    exact hc
  refine s_start (args := [.func (.yield l) #[] #[], pt b1 0, pt b2 0]) Try.func85 rfl Try.ntmps85 rfl ?_
  intro a hF
  refine wp_seq ?_
  refine s_region ?_
  refine s_val hF rfl rfl rfl (e_assign hF rfl) ?_; intro a hF
  refine s_nil ?_
  refine then_n ?_
  refine wp_block ?_
  refine s_loop (fun kq a A => ∃ j : Nat, j ≤ N ∧ j + kq = N + 1 ∧ J (List.range j) A ∧ Stay n0 Xb w A ∧ Fr 31 a [(0, .func (.yield l) #[] #[]), (1, pt b1 0), (2, pt b2 0), (4, .int .i64 ((j * sz : Nat) : Int))]) (N + 1) ⟨0, by omega, by omega, h0, hst, hF.sub _ ⟨rfl, rfl, rfl, by rw [Nat.zero_mul]; rfl, trivial⟩⟩ ?_ ?_
  · rintro a A ⟨j, h, h', _⟩; omega
  · rintro kq a A ⟨j, hj, hjk, hJ, hS, hF⟩
    have hc1 := hcell hS h1 hb1
    have hc2 := hcell hS h2 hb2
    refine wp_seq ?_
    refine wp_seq ?_
    refine s_region ?_
    refine s_val hF rfl rfl rfl (e_move hF rfl) ?_; intro a hF
    refine s_val hF rfl rfl rfl (e_ld0 hF rfl Try.isAgg32 hc1) ?_; intro a hF
    refine s_val hF rfl rfl rfl (e_len hF rfl hF0 Try.underlying32) ?_; intro a hF
    refine s_val hF rfl rfl rfl (e_lss hF rfl rfl) ?_; intro a hF
    refine s_nil ?_
    refine then_n ?_
    by_cases hlt : j < N
    · have hjs := (hN j).1 hlt
      have hpos : j * sz + sz = (j + 1) * sz := by rw [Nat.add_mul, Nat.one_mul]
      refine s_cond_t hF rfl (decide_eq_true (Int.ofNat_lt.2 hjs)) ?_
      refine wp_skip ?_
      refine then_n ?_
      refine wp_seq ?_
      refine wp_block ?_
      refine wp_seq ?_
      refine s_tail 6 mixed (by decide +kernel) (Ms.start A) ?_
      intro A' hf _
      have hS' : Stay n0 Xb w A' := hS.trans ⟨hf.size, fun k hk _ => hf.block k (by have := hS.size; omega) (by simp)⟩
      have hJ' : J (List.range j) A' := hJa _ A A' none hJ ⟨hf.os, hf.tape, hf.output, hf.size, fun k hk _ => hf.block k hk (by simp)⟩ (fun r e => by cases e)
      have hc1 := hcell hS' h1 hb1
      have hc2 := hcell hS' h2 hb2
      refine t_val hF rfl rfl rfl (e_ld0 hF rfl Try.isAgg3 hc2) ?_; intro a hF
      refine t_val hF rfl rfl rfl (e_ld0 hF rfl Try.isAgg32 hc1) ?_; intro a hF
      refine t_val hF rfl rfl rfl (e_move hF rfl) ?_; intro a hF
      refine t_val hF rfl rfl rfl (e_sl_l hF rfl rfl hF0 Try.underlying32 Try.sizeOf3 (hi := ((xs.length : Nat) : Int)) ⟨by omega, by omega, by omega⟩) ?_; intro a hF
      have hsubR := q0.sub (j * sz) xs.length (by omega) (Nat.le_refl _)
      have hsl : ((xs.take xs.length).drop (j * sz)).length = xs.length - j * sz := by rw [List.length_drop, List.length_take]; omega
      have hFs := hsubR.toF
      rw [hsl] at hFs
      refine t_val hF rfl rfl rfl (e_len hF rfl hFs Try.underlying32) ?_; intro a hF
      refine t_val hF rfl rfl rfl (e_min hF rfl rfl) ?_; intro a hF
      refine t_nil ?_
      have hend : (if (((xs.length - j * sz : Nat) : Int)) < (sz : Int) then ((xs.length - j * sz : Nat) : Int) else (sz : Int)) = ((min sz (xs.length - j * sz) : Nat) : Int) := by split <;> omega
      rw [hend] at hF
      refine s_val hF rfl rfl rfl (e_assign hF rfl) ?_; intro a hF
      refine s_nil ?_
      refine then_n ?_
      refine wp_seq ?_
      refine y_region 1 ?_
      refine y_val hF rfl rfl rfl (e_move hF rfl) ?_; intro a hF
      refine y_val hF rfl rfl rfl (e_ld0 hF rfl Try.isAgg32 hc1) ?_; intro a hF
      refine y_val hF rfl rfl rfl (e_move hF rfl) ?_; intro a hF
      refine y_val hF rfl rfl rfl (e_move hF rfl) ?_; intro a hF
      refine y_val hF rfl rfl rfl (e_move hF rfl) ?_; intro a hF
      refine y_val hF rfl rfl rfl (e_add hF rfl rfl) ?_; intro a hF
      have hadd : wrap64 (((j * sz : Nat) : Int) + ((min sz (xs.length - j * sz) : Nat) : Int)) = ((min (j * sz + sz) xs.length : Nat) : Int) := by rw [w64 (by omega) (by omega)]; omega
      have hF := hF.top (congrArg (Value.int .i64) hadd)
      refine y_val hF rfl rfl rfl (e_move hF rfl) ?_; intro a hF
      refine y_val hF rfl rfl rfl (e_move hF rfl) ?_; intro a hF
      refine y_val hF rfl rfl rfl (e_add hF rfl rfl) ?_; intro a hF
      have hF := hF.top (congrArg (Value.int .i64) hadd)
      refine y_val hF rfl rfl rfl (e_sl_lhm hF rfl rfl rfl rfl hF0 Try.underlying32 Try.sizeOf3 ⟨by clear hadd; omega, by clear hadd; omega, by clear hadd; omega⟩) ?_; intro a hF
      have hF := hF.top (show sub3 u0 (((j * sz : Nat) : Int)).toNat (((min (j * sz + sz) xs.length : Nat) : Int)).toNat 1 = enc j by rw [henc j hlt, Int.toNat_natCast, Int.toNat_natCast])
      have hYj := hY (List.range j) j A' hJ' (by rw [List.length_range]; exact hlt)
      refine y_yield (R := fun b W' => (b = true ∧ J (List.range (j + 1)) W' ∧ Stay n0 Xb A' W') ∨ (b = false ∧ Jx (List.range (j + 1)) W')) hF rfl rfl rfl rfl ?_ ?_
      · obtain ⟨fn, tmps, assign, body, e1, e2⟩ := hYj
        refine ⟨fn, tmps, assign, body, e1, e2.mono ?_⟩
        rintro e W' (⟨rfl, g1, g2⟩ | ⟨rfl, g1⟩)
        · exact ⟨true, rfl, .inl ⟨rfl, by rw [List.range_succ]; exact g1, g2⟩⟩
        · exact ⟨false, rfl, .inr ⟨rfl, by rw [List.range_succ]; exact g1⟩⟩
      · intro a A2 b hF hR
        refine y_val hF rfl rfl rfl (e_not hF rfl) ?_; intro a hF
        refine y_nil ?_
        refine then_n ?_
        rcases hR with ⟨rfl, g1, g2⟩ | ⟨rfl, g1⟩
        · refine s_cond_f hF rfl rfl ?_
          refine wp_skip ?_
          refine blk_n ?_
          refine then_n ?_
          have hS2 := hS'.trans g2
          refine s_region ?_
          refine s_val hF rfl rfl rfl (e_move hF rfl) ?_; intro a hF
          refine s_val hF rfl rfl rfl (e_ld0 hF rfl Try.isAgg3 (hcell hS2 h2 hb2)) ?_; intro a hF
          refine s_val hF rfl rfl rfl (e_add hF rfl rfl) ?_; intro a hF
          have hnx : wrap64 (((j * sz : Nat) : Int) + (sz : Int)) = (((j + 1) * sz : Nat) : Int) := by rw [w64 (by clear hadd; omega) (by clear hadd; omega)]; clear hadd; omega
          refine s_val hF rfl rfl rfl (e_assign hF rfl) ?_; intro a hF
          have hF := hF.top (congrArg (Value.int .i64) hnx)
          refine s_nil ?_
          refine then_n ?_
          exact ⟨j + 1, by clear hadd hnx; omega, by clear hadd hnx; omega, g1, hS2, hF.sub _ ⟨rfl, rfl, rfl, rfl, trivial⟩⟩
        · refine s_cond_t hF rfl rfl ?_
          refine wp_ret ?_
          repeat (first | refine blk_r ?_ | refine then_r ?_)
          refine s_ret (l := []) [] hF Try.results85 trivial ?_
          exact ⟨⟨_, rfl⟩, .inr ⟨_, ⟨j + 1, by clear hadd; omega, rfl⟩, g1⟩⟩
    · have hjN : j = N := by omega
      subst hjN
      refine s_cond_f hF rfl (decide_eq_false (fun h => hlt ((hN j).2 (by omega)))) ?_
      refine wp_exit ?_
      refine then_x ?_
      refine then_x ?_
      refine blk_x ?_
      refine s_retn (l := []) [] hF Try.results85 trivial ?_
      exact ⟨⟨_, rfl⟩, .inl ⟨_, rfl, hJ⟩⟩
set_option maxRecDepth 100000 in
set_option maxHeartbeats 4000000 in
/-- slices.Chunk boxes what it is handed, and gives the closure over the two boxes. -/
theorem chunk_calls {w0 : World} (u0 : Value) (xs : List Int) (sz : Int) (hsz : 0 < sz) (q0 : SlR cd3 w0 u0 xs) : Calls Try.prog 71 [u0, Value.int .i64 sz].toArray w0 (Post w0 fun w v => ∃ b1 b2 : Nat, v = .func (.func 85) #[] #[pt b1 0, pt b2 0] ∧ (w0.heap.size ≤ b1 ∧ b1 < w.heap.size) ∧ (w0.heap.size ≤ b2 ∧ b2 < w.heap.size) ∧ w.cell? ⟨b1, 0, none⟩ = some u0 ∧ w.cell? ⟨b2, 0, none⟩ = some (.int .i64 sz)) := by
  obtain ⟨ad, hv, _⟩ := q0.toF.form
  refine s_start Try.func71 rfl Try.ntmps71 rfl ?_
  intro a hF
  have hM := Ms.start w0
  refine wp_seq ?_
  refine s_region ?_
  refine s_box (ps := [Pt.slice ad xs.length (scap u0)]) hF hM rfl rfl rfl (by rw [hv]; rfl) ?_; intro a w b1 hF hM
  refine s_box (ps := [Pt.int sz]) hF hM rfl rfl rfl rfl ?_; intro a w b2 hF hM
  refine s_val hF rfl rfl rfl (e_assign hF rfl) ?_; intro a hF
  refine s_nil ?_
  refine then_n ?_
  refine wp_seq ?_
  refine wp_seq ?_
  refine s_region ?_
  refine s_val hF rfl rfl rfl (e_ld (i := 0) (k := 0) hF hM rfl rfl rfl rfl Try.isAgg3 rfl) ?_; intro a hF
  refine s_val hF rfl rfl rfl (e_lss hF rfl rfl) ?_; intro a hF
  refine s_nil ?_
  refine then_n ?_
  refine s_cond_f hF rfl (decide_eq_false (by omega)) ?_
  refine wp_skip ?_
  refine then_n ?_
  refine wp_seq ?_
  refine s_region ?_
  refine s_val hF rfl rfl rfl (e_mkfunc (hF.evs' rfl)) ?_; intro a hF
  refine s_val hF rfl rfl rfl (e_assign hF rfl) ?_; intro a hF
  refine s_nil ?_
  refine then_n ?_
  refine wp_ret ?_
  refine s_ret [_] hF Try.results71 ⟨rfl, trivial⟩ ?_
  have f1 := hM.foots _ (List.mem_cons_of_mem _ (List.mem_cons_self)) b1 (by simp [boxR])
  have f2 := hM.foots _ List.mem_cons_self b2 (by simp [boxR])
  refine ⟨_, rfl, hM.frm, b1, b2, rfl, ⟨by rcases f1.1 with h | h; (· cases h); exact h, f1.2⟩, ⟨by rcases f2.1 with h | h; (· cases h); exact h, f2.2⟩, ?_, ?_⟩
  · have := hM.cell 1 (j := 0) rfl rfl
    rw [this, ← hv]
  · exact hM.cell 0 (j := 0) rfl rfl

/-! ### loop.example/g01210/impl.MakeList: function 42 -/
def impl_MakeList.x (K : Nat) (m : Int) (l : List Int) : Int × Bool × Bool := (impl_MakeNumber.f K m l).getD (0, false, false)
def impl_MakeList.o (K : Nat) (m : Int) (sz : Nat) (l : List Int) (s : List Nat) : List Int := s.flatMap fun j => if (impl_MakeList.x K m (chP l sz j)).2.1 = true then [(impl_MakeList.x K m (chP l sz j)).1] else []
def impl_MakeList.e (K : Nat) (m : Int) (sz : Nat) (l : List Int) (s : List Nat) : Int := ((s.filter fun j => !(impl_MakeList.x K m (chP l sz j)).2.1).length : Int)
def impl_MakeList.f (K : Nat) (a0 : Int) (a1 : Int) (l2 : (List Int)) : Option ((List Int) × Int × Bool) := (impl_isMade.f K a0 a1).bind fun t1 => if t1 = true then ((impl_isList.f K l2).bind fun t4 => if t4 = true then ((impl_areThrows.f K l2).bind fun t7 => if t7 = true then (if (1 ≤ a1 ∧ a1 ≤ 40 ∧ l2.length ≤ 40) ∧ ∀ j ∈ List.range (chN l2.length a1.toNat), (impl_MakeNumber.f K a0 (chP l2 a1.toNat j)).isSome = true then some (impl_MakeList.o K a0 a1.toNat l2 (List.range (l2.length / a1.toNat)), impl_MakeList.e K a0 a1.toNat l2 (List.range (l2.length / a1.toNat)), true) else none) else (some ([], 0, false))) else (some ([], 0, false))) else (some ([], 0, false))
theorem impl_MakeList.o_len (K : Nat) (m : Int) (sz : Nat) (l : List Int) : ∀ (s : List Nat), (impl_MakeList.o K m sz l s).length ≤ s.length
  | [] => Nat.le_refl _
  | j :: s => by
    have := impl_MakeList.o_len K m sz l s
    have e : impl_MakeList.o K m sz l (j :: s) = (if (impl_MakeList.x K m (chP l sz j)).2.1 = true then [(impl_MakeList.x K m (chP l sz j)).1] else []) ++ impl_MakeList.o K m sz l s := rfl
    rw [e, List.length_append, List.length_cons]
    split
    · rw [List.length_singleton]; omega
    · rw [List.length_nil]; omega
theorem impl_MakeList.e_le (K : Nat) (m : Int) (sz : Nat) (l : List Int) (s : List Nat) : impl_MakeList.e K m sz l s ≤ (s.length : Int) := by
  unfold impl_MakeList.e
  have := List.length_filter_le (fun j => !(impl_MakeList.x K m (chP l sz j)).2.1) s
  omega
set_option maxRecDepth 100000 in
set_option maxHeartbeats 4000000 in
theorem impl_MakeList.calls {w0 : World} (K : Nat) (a0 : Int) (a1 : Int) (l2 : (List Int)) (u2 : Value) (q2 : SlR cd3 w0 u2 l2) (r : ((List Int) × Int × Bool)) (H : impl_MakeList.f K a0 a1 l2 = some r) : Calls Try.prog 42 [Value.int .i64 a0, Value.int .i64 a1, u2].toArray w0 (Post w0 fun w v => ∃ v0 : Value, v = Value.tuple #[v0, Value.int .i64 r.2.1, Value.bool r.2.2] ∧ Fresh cd3 w0.heap.size w v0 r.1) := by
  rw [impl_MakeList.f] at H
  refine s_startM Try.func42 rfl Try.ntmps42 rfl ?_
  intro a hF
  have hM := Ms.start w0
  refine wp_seq ?_
  refine s_region ?_
  refine s_box (ps := [Pt.int a0]) hF hM rfl rfl rfl rfl ?_; intro a w bm hF hM
  refine s_box (ps := [Pt.int a1]) hF hM rfl rfl rfl rfl ?_; intro a w bn hF hM
  refine s_val hF rfl rfl rfl (e_assign hF rfl) ?_; intro a hF
  refine s_val hF rfl rfl rfl (e_assign hF rfl) ?_; intro a hF
  refine s_val hF rfl rfl rfl (e_assign hF rfl) ?_; intro a hF
  refine s_nil ?_
  refine then_n ?_
  refine wp_seq ?_
  refine wp_seq ?_
  obtain ⟨t1, h2, H⟩ := bind_some H
  rcases ite_cases H with ⟨c3, H⟩ | ⟨c3, H⟩
  ·
    obtain ⟨t4, h5, H⟩ := bind_some H
    refine s_region ?_
    refine s_val hF rfl rfl rfl (e_ld (i := 1) (k := 0) hF hM rfl rfl rfl rfl Try.isAgg3 rfl) ?_; intro a hF
    refine s_val hF rfl rfl rfl (e_ld (i := 0) (k := 0) hF hM rfl rfl rfl rfl Try.isAgg3 rfl) ?_; intro a hF
    refine s_call hF rfl rfl rfl Try.call57 (impl_isMade.calls K a0 a1 t1 h2) ?_; intro a w v hF hf hR
    subst hR; have hM := hM.grow hf
    refine s_val hF rfl rfl rfl (e_not hF rfl) ?_; intro a hF
    refine s_val hF rfl rfl rfl (e_move hF rfl) ?_; intro a hF
    have hF := hF.topb (congrArg Bool.not c3)
    refine s_val hF rfl rfl rfl (e_move hF rfl) ?_; intro a hF
    refine s_call hF rfl rfl rfl Try.call65 (impl_isList.calls K l2 u2 (q2.frm hM.frm) t4 h5) ?_; intro a w v hF hf hR
    subst hR; have hM := hM.grow hf
    refine s_val hF rfl rfl rfl (e_not hF rfl) ?_; intro a hF
    refine s_val hF rfl rfl rfl (e_pick_f hF rfl rfl) ?_; intro a hF
    rcases ite_cases H with ⟨c6, H⟩ | ⟨c6, H⟩
    ·
      obtain ⟨t7, h8, H⟩ := bind_some H
      refine s_val hF rfl rfl rfl (e_move hF rfl) ?_; intro a hF
      have hF := hF.topb (congrArg Bool.not c6)
      refine s_val hF rfl rfl rfl (e_move hF rfl) ?_; intro a hF
      refine s_call hF rfl rfl rfl Try.call63 (impl_areThrows.calls K l2 u2 (q2.frm hM.frm) t7 h8) ?_; intro a w v hF hf hR
      subst hR; have hM := hM.grow hf
      refine s_val hF rfl rfl rfl (e_not hF rfl) ?_; intro a hF
      refine s_val hF rfl rfl rfl (e_pick_f hF rfl rfl) ?_; intro a hF
      refine s_nil ?_
      refine then_n ?_
      rcases ite_cases H with ⟨c9, H⟩ | ⟨c9, H⟩
      ·
        obtain ⟨⟨⟨cn1, cn2, cL⟩, cB⟩, H⟩ := ite_some H
        obtain ⟨sz, rfl⟩ : ∃ sz : Nat, a1 = (sz : Int) := ⟨a1.toNat, by omega⟩
        rw [Int.toNat_natCast] at cB H
        have hsz : 0 < sz := by omega
        refine s_cond_f hF rfl (congrArg Bool.not c9) ?_
        refine wp_skip ?_
        refine then_n ?_
        refine wp_seq ?_
        refine s_region ?_
        refine s_alloc (ps := [Pt.any (Value.slice none 0 0)]) hF hM rfl rfl zv32 rfl ?_; intro a w bo hF hM
        refine s_nil ?_
        refine then_n ?_
        refine wp_seq ?_
        refine s_region ?_
        refine s_alloc (ps := [Pt.int 0]) hF hM rfl rfl zv3 rfl ?_; intro a w bl hF hM
        refine s_st (i := 0) (k := 0) (Pt.int 0) hF hM rfl rfl rfl rfl rfl rfl rfl rfl Try.sizeOf3 rfl ?_; intro a w hF hM
        refine s_nil ?_
        refine then_n ?_
        refine wp_seq ?_
        refine wp_seq ?_
        refine s_region ?_
        refine s_val hF rfl rfl rfl (e_move hF rfl) ?_; intro a hF
        refine s_val hF rfl rfl rfl (e_ld (i := 2) (k := 0) hF hM rfl rfl rfl rfl Try.isAgg3 rfl) ?_; intro a hF
        have fl := hM.foots _ List.mem_cons_self bl (by simp [boxR])
        have fo := hM.foots _ (List.mem_cons_of_mem _ (List.mem_cons_self)) bo (by simp [boxR])
        have fn := hM.foots _ (List.mem_cons_of_mem _ (List.mem_cons_of_mem _ (List.mem_cons_self))) bn (by simp [boxR])
        have fm := hM.foots _ (List.mem_cons_of_mem _ (List.mem_cons_of_mem _ (List.mem_cons_of_mem _ (List.mem_cons_self)))) bm (by simp [boxR])
        refine s_call hF rfl rfl rfl Try.call71 (chunk_calls u2 l2 (sz : Int) (by omega) (q2.frm hM.frm)) ?_
        rintro a w v hF hf ⟨b1, b2, rfl, g1, g2, k1, k2⟩
        have hM := hM.grow hf
        refine s_nil ?_
        refine then_n ?_
        refine wp_block ?_
        have hX := (hM.lend (A := [boxR bl [Pt.int 0] 3, boxR bo [Pt.any (Value.slice none 0 0)] 32, boxR bn [Pt.int (sz : Int)] 3, boxR bm [Pt.int a0] 3]) [0, 1, 2, 3] rfl rfl).nilRow cd3
        have hq := q2.frm hM.frm
        have hN0 : ∀ k, k < chN l2.length sz ↔ k * sz < l2.length := chN_lt hsz
        have hNl : chN l2.length sz ≤ 40 := by
          refine Nat.le_of_not_lt fun h => ?_
          have h1 := (hN0 40).1 h
          have h2 : 40 * 1 ≤ 40 * sz := Nat.mul_le_mul_left _ hsz
          omega
        refine wpIn_wide.1 (s_range (x := 0) (n := 53) (n0 := w.heap.size) (N := chN l2.length sz) (Xb := [bl, bo, bn, bm]) (gf := 85) (lb := #[pt b1 0, pt b2 0]) (fun j => sub3 u2 (chLo l2.length sz j) (min (chLo l2.length sz j + sz) l2.length) 1) hF rfl Try.call85 rfl rfl
          (chunk_seq b1 b2 w.heap.size [bl, bo, bn, bm] u2 l2 sz (chN l2.length sz) _ hsz (by omega) (by omega) hq k1 k2 ⟨g1.2, by simp; omega⟩ ⟨g2.2, by simp; omega⟩ (Nat.le_refl _) hN0 (fun k hk => by rw [chLo_eq k hk])) (Nat.le_refl _)
          (fun s W => ∃ mem, ((∀ j ∈ s, chLo l2.length sz j + sz ≤ l2.length) ∧ ∃ v, mem = [rowR cd3 v (impl_MakeList.o K a0 sz l2 s), boxR bl [Pt.int (impl_MakeList.e K a0 sz l2 s)] 3, boxR bo [Pt.any v] 32, boxR bn [Pt.int (sz : Int)] 3, boxR bm [Pt.int a0] 3]) ∧ Ms [bl, bo, bn, bm] w W mem)
          (fun s W => ∃ mem, (∃ pre j v, s = pre ++ [j] ∧ (∀ j ∈ pre, chLo l2.length sz j + sz ≤ l2.length) ∧ ¬ (chLo l2.length sz j + sz ≤ l2.length) ∧ mem = [rowR cd3 v (impl_MakeList.o K a0 sz l2 pre), boxR bl [Pt.int (impl_MakeList.e K a0 sz l2 pre)] 3, boxR bo [Pt.any v] 32, boxR bn [Pt.int (sz : Int)] 3, boxR bm [Pt.int a0] 3]) ∧ Ms [bl, bo, bn, bm] w W mem)
          ?_ ?_ ⟨_, ⟨by simp, _, rfl⟩, hX⟩ ?_ ?_ ?_)
        · refine own_ms (Nat.le_refl _) ?_
          rintro s mem ⟨_, v, rfl⟩ R hR
          simp only [List.mem_cons, List.not_mem_nil, or_false] at hR
          rcases hR with rfl | rfl | rfl | rfl | rfl
          · exact rowR_solid _ _ _
          · exact boxR_solid _ _ _
          · exact boxR_solid _ _ _
          · exact boxR_solid _ _ _
          · exact boxR_solid _ _ _
        · refine own_ms (Nat.le_refl _) ?_
          rintro s mem ⟨_, _, v, _, _, _, rfl⟩ R hR
          simp only [List.mem_cons, List.not_mem_nil, or_false] at hR
          rcases hR with rfl | rfl | rfl | rfl | rfl
          · exact rowR_solid _ _ _
          · exact boxR_solid _ _ _
          · exact boxR_solid _ _ _
          · exact boxR_solid _ _ _
          · exact boxR_solid _ _ _
        · rintro l pre j W a ⟨mem, ⟨hpre, v, rfl⟩, hI⟩ hlt hF
          have hM1 := hM.back (A := [boxR bl [Pt.int 0] 3, boxR bo [Pt.any (Value.slice none 0 0)] 32, boxR bn [Pt.int (sz : Int)] 3, boxR bm [Pt.int a0] 3]) (B := []) [0, 1, 2, 3] [] rfl rfl rfl hI
          have hq := q2.frm hM1.frm
          have hlo := chLo_lt (n := l2.length) (sz := sz) hsz j (by omega)
          have hP : SlR cd3 W (sub3 u2 (chLo l2.length sz j) (min (chLo l2.length sz j + sz) l2.length) 1) (chP l2 sz j) := hq.sub3 _ _ (by omega) (by omega)
          have hlen := chP_len l2 (sz := sz) j
          have hmn : impl_MakeNumber.f K a0 (chP l2 sz j) = some (impl_MakeList.x K a0 (chP l2 sz j)) := by
            have h1 := cB (min j (chN l2.length sz - 1)) (by rw [List.mem_range]; omega)
            have h2 : chP l2 sz (min j (chN l2.length sz - 1)) = chP l2 sz j := by
              unfold chP chLo
              rw [show min (min j (chN l2.length sz - 1)) (chN l2.length sz - 1) = min j (chN l2.length sz - 1) by omega]
            rw [h2] at h1
            unfold impl_MakeList.x
            obtain ⟨y, hy⟩ := Option.isSome_iff_exists.1 h1
            rw [hy]; rfl
          generalize hvp : sub3 u2 (chLo l2.length sz j) (min (chLo l2.length sz j + sz) l2.length) 1 = vp at *
          have hcell : ∀ R ∈ [rowR cd3 v (impl_MakeList.o K a0 sz l2 pre), boxR bl [Pt.int (impl_MakeList.e K a0 sz l2 pre)] 3, boxR bo [Pt.any v] 32, boxR bn [Pt.int (sz : Int)] 3, boxR bm [Pt.int a0] 3], ∀ b ∈ R.foot, ∃ o : Obj, W.heap[b]? = some o ∧ o.isCells = true := by
            intro R hR
            have hh := hI.holds R hR
            simp only [List.mem_cons, List.not_mem_nil, or_false] at hR
            rcases hR with rfl | rfl | rfl | rfl | rfl
            · exact rowR_solid _ _ _ _ hh
            · exact boxR_solid _ _ _ _ hh
            · exact boxR_solid _ _ _ _ hh
            · exact boxR_solid _ _ _ _ hh
            · exact boxR_solid _ _ _ _ hh
          have hcellX : ∀ b ∈ feet [rowR cd3 v (impl_MakeList.o K a0 sz l2 pre), boxR bl [Pt.int (impl_MakeList.e K a0 sz l2 pre)] 3, boxR bo [Pt.any v] 32, boxR bn [Pt.int (sz : Int)] 3, boxR bm [Pt.int a0] 3], ∃ o : Obj, W.heap[b]? = some o ∧ o.isCells = true := by
            intro b hb
            obtain ⟨R, hR, hbR⟩ := List.mem_flatMap.1 hb
            exact hcell R hR b hbR
          have hfeet : ∀ b ∈ feet [rowR cd3 v (impl_MakeList.o K a0 sz l2 pre), boxR bl [Pt.int (impl_MakeList.e K a0 sz l2 pre)] 3, boxR bo [Pt.any v] 32, boxR bn [Pt.int (sz : Int)] 3, boxR bm [Pt.int a0] 3], b < w.heap.size → b ∈ [bl, bo, bn, bm] := by
            intro b hb hlt
            obtain ⟨R, hR, hbR⟩ := List.mem_flatMap.1 hb
            exact (hI.foots R hR b hbR).1.resolve_right (by omega)
          have hM := hI.lend [0, 1, 2, 3, 4] rfl rfl
          refine wpIn_block ?_
          refine wpIn_seq ?_
          refine wpIn_seq ?_
          refine round_region (fun ⟨_, _, h⟩ => h) rfl ?_
          refine s_val hF rfl rfl rfl (e_move hF rfl) ?_; intro a hF
          refine s_val hF rfl rfl rfl (e_len hF rfl hP.toF Try.underlying32) ?_; intro a hF
          refine s_val hF rfl rfl rfl (e_ld (i := 3) (k := 0) hF hM rfl rfl rfl rfl Try.isAgg3 rfl) ?_; intro a hF
          refine s_val hF rfl rfl rfl (e_lss hF rfl rfl) ?_; intro a hF
          refine s_nil ?_
          refine then_n ?_
          by_cases hfull : chLo l2.length sz j + sz ≤ l2.length
          · have hl3 : (chP l2 sz j).length = sz := by omega
            refine r_cond_f hF rfl (decide_eq_false (by omega)) ?_
            refine wpIn_skip ?_
            refine then_n ?_
            refine wpIn_seq ?_
            refine round_region (fun ⟨_, _, h⟩ => h) rfl ?_
            refine s_val hF rfl rfl rfl (e_ld (i := 4) (k := 0) hF hM rfl rfl rfl rfl Try.isAgg3 rfl) ?_; intro a hF
            refine s_val hF rfl rfl rfl (e_move hF rfl) ?_; intro a hF
            refine s_call hF rfl rfl rfl Try.call36 (impl_MakeNumber.calls K a0 _ vp hP _ hmn) ?_; intro a w3 v3 hF hf hR
            subst hR; have hM := hM.grow hf
            refine s_val hF rfl rfl rfl (e_move hF rfl) ?_; intro a hF
            refine s_val hF rfl rfl rfl (e_extract hF rfl rfl) ?_; intro a hF
            refine s_val hF rfl rfl rfl (e_extract hF rfl rfl) ?_; intro a hF
            refine s_val hF rfl rfl rfl (e_extract hF rfl rfl) ?_; intro a hF
            refine s_val hF rfl rfl rfl (e_assign hF rfl) ?_; intro a hF
            refine s_val hF rfl rfl rfl (e_assign hF rfl) ?_; intro a hF
            refine s_val hF rfl rfl rfl (e_assign hF rfl) ?_; intro a hF
            refine s_nil ?_
            refine then_n ?_
            have hpre' : ∀ i ∈ pre ++ [j], chLo l2.length sz i + sz ≤ l2.length := by
              intro i hi
              rcases List.mem_append.1 hi with hi | hi
              · exact hpre i hi
              · rw [List.mem_singleton] at hi; subst hi; exact hfull
            refine wpIn_seq ?_
            refine round_region (fun ⟨_, _, h⟩ => h) rfl ?_
            refine s_val hF rfl rfl rfl (e_move hF rfl) ?_; intro a hF
            refine s_nil ?_
            refine then_n ?_
            by_cases hx5 : (impl_MakeList.x K a0 (chP l2 sz j)).2.1 = true
            · have ho : impl_MakeList.o K a0 sz l2 (pre ++ [j]) = impl_MakeList.o K a0 sz l2 pre ++ [(impl_MakeList.x K a0 (chP l2 sz j)).1] := by
                simp only [impl_MakeList.o, List.flatMap_append, List.flatMap_cons, List.flatMap_nil, List.append_nil, if_pos hx5]
              have he : impl_MakeList.e K a0 sz l2 (pre ++ [j]) = impl_MakeList.e K a0 sz l2 pre := by
                simp only [impl_MakeList.e, List.filter_append, List.filter_cons, List.filter_nil, hx5, Bool.not_true, if_false, Bool.false_eq_true, List.append_nil]
              have hol := impl_MakeList.o_len K a0 sz l2 pre
              refine r_cond_t hF rfl hx5 ?_
              refine round_region (fun ⟨_, _, h⟩ => h) rfl ?_
              refine s_val hF rfl rfl rfl (e_ld (i := 2) (k := 0) hF hM rfl rfl rfl rfl Try.isAgg32 (any_cs (hM.sl 0 rfl).toF.one)) ?_; intro a hF
              refine s_val hF rfl rfl rfl (e_move hF rfl) ?_; intro a hF
              refine s_bsl (C := cd3) [(impl_MakeList.x K a0 (chP l2 sz j)).1] cdok3 hF hM rfl rfl rfl rfl Try.underlying32 rfl ?_; intro a w4 v4 hF hM
              refine s_append (i := 1) cdok3 hF hM rfl rfl rfl rfl rfl (hM.sl 0 rfl) Try.underlying32 (by simp; omega) ?_; intro a w5 v5 hF hM
              refine s_st (i := 3) (k := 0) (Pt.any v5) hF hM rfl rfl rfl (any_cells (hM.sl 1 rfl).toF.one) rfl rfl rfl rfl Try.sizeOf32 rfl ?_; intro a w6 hF hM
              refine s_nil ?_
              refine blk_n ?_
              have hM := hM.pick [1, 2, 3, 4, 5] rfl rfl
              refine ⟨round_keeps hM.frm hcellX, round_stay hM.frm hI.frm.size hfeet, ?_⟩
              refine ⟨_, ⟨hpre', v5, ?_⟩, hI.back [0, 1, 2, 3, 4] [] rfl rfl rfl hM⟩
              rw [ho, he]; rfl
            · have ho : impl_MakeList.o K a0 sz l2 (pre ++ [j]) = impl_MakeList.o K a0 sz l2 pre := by
                simp only [impl_MakeList.o, List.flatMap_append, List.flatMap_cons, List.flatMap_nil, List.append_nil, if_neg hx5]
              have he : impl_MakeList.e K a0 sz l2 (pre ++ [j]) = impl_MakeList.e K a0 sz l2 pre + 1 := by
                simp only [impl_MakeList.e, List.filter_append, List.filter_cons, List.filter_nil, (by simpa using hx5 : (impl_MakeList.x K a0 (chP l2 sz j)).2.1 = false), Bool.not_false, if_true, List.length_append, List.length_singleton]
                omega
              have hel := impl_MakeList.e_le K a0 sz l2 pre
              have he0 : 0 ≤ impl_MakeList.e K a0 sz l2 pre := Int.natCast_nonneg _
              refine r_cond_f hF rfl (by simpa using hx5) ?_
              refine round_region (fun ⟨_, _, h⟩ => h) rfl ?_
              refine s_val hF rfl rfl rfl (e_ld (i := 1) (k := 0) hF hM rfl rfl rfl rfl Try.isAgg3 rfl) ?_; intro a hF
              refine s_val hF rfl rfl rfl (e_add hF rfl rfl) ?_; intro a hF
              have hF := hF.top (congrArg (Value.int .i64) (w64 (by omega) (by omega)))
              refine s_st (i := 1) (k := 0) (Pt.int (impl_MakeList.e K a0 sz l2 pre + 1)) hF hM rfl rfl rfl rfl rfl rfl rfl rfl Try.sizeOf3 rfl ?_; intro a w6 hF hM
              refine s_nil ?_
              refine blk_n ?_
              refine ⟨round_keeps hM.frm hcellX, round_stay hM.frm hI.frm.size hfeet, ?_⟩
              refine ⟨_, ⟨hpre', v, ?_⟩, hI.back [0, 1, 2, 3, 4] [] rfl rfl rfl hM⟩
              rw [ho, he]; rfl
          · refine r_cond_t hF rfl (decide_eq_true (by omega)) ?_
            refine wpIn_exit ?_
            refine then_x ?_
            refine blk_o rfl ?_
            refine ⟨round_keeps hM.frm hcellX, rfl, ?_⟩
            exact ⟨_, ⟨pre, j, v, rfl, hpre, hfull, rfl⟩, hI.back [0, 1, 2, 3, 4] [] rfl rfl rfl hM⟩
        · rintro D W hD ⟨mem, ⟨hpre, v, rfl⟩, hI⟩ hK hF
          have hM1 := hM.back (A := [boxR bl [Pt.int 0] 3, boxR bo [Pt.any (Value.slice none 0 0)] 32, boxR bn [Pt.int (sz : Int)] 3, boxR bm [Pt.int a0] 3]) (B := []) [0, 1, 2, 3] [] rfl rfl rfl hI
          have hDl := (Array.getElem?_eq_some_iff.1 hK).1
          have hall : l2.length / sz = chN l2.length sz := by
            by_cases h0 : chN l2.length sz = 0
            · rw [h0]
              have := mt (hN0 0).2 (by omega)
              rw [show l2.length = 0 by omega, Nat.zero_div]
            · have h1 := hpre (chN l2.length sz - 1) (by rw [List.mem_range]; omega)
              rw [chLo_eq _ (by omega)] at h1
              have h2 := mt (hN0 (chN l2.length sz)).2 (by omega)
              have h3 : (chN l2.length sz - 1) * sz + sz = chN l2.length sz * sz := by
                rw [← Nat.succ_mul, show (chN l2.length sz - 1).succ = chN l2.length sz by omega]
              have h4 : l2.length = chN l2.length sz * sz := by omega
              generalize chN l2.length sz = N at h4
              rw [h4, Nat.mul_div_cancel _ hsz]
          refine blk_n ?_
          refine then_n ?_
          refine wp_seq ?_
          refine s_quiet mixed (by decide +kernel) hM1 ?_
          refine qd_val hF rfl rfl rfl (fun w' hw => e_ld (i := 2) (k := 0) hF.bare hw.2 rfl rfl rfl rfl Try.isAgg32 (any_cs (hw.2.sl 0 rfl).toF.one)) ?_; intro a hF
          refine qd_val hF rfl rfl rfl (fun w' hw => e_ld (i := 1) (k := 0) hF.bare hw.2 rfl rfl rfl rfl Try.isAgg3 rfl) ?_; intro a hF
          refine qd_val hF rfl rfl rfl (fun w' hw => e_assign hF.bare rfl) ?_; intro a hF
          refine qd_val hF rfl rfl rfl (fun w' hw => e_assign hF.bare rfl) ?_; intro a hF
          refine qd_val hF rfl rfl rfl (fun w' hw => e_assign hF.bare rfl) ?_; intro a hF
          refine q_nil ?_
          rintro w2 ⟨hf2, hM2⟩
          refine then_n ?_
          refine wp_ret ?_
          have hK2 : w2.heap[D]? = some (.deferred (some [])) := by rw [hf2.block D hDl (by simp)]; exact hK
          obtain rfl := some_some H
          refine s_retD [v, Value.int .i64 (impl_MakeList.e K a0 sz l2 (List.range (chN l2.length sz))), Value.bool true] hF hK2 Try.results42 (fun _ => ⟨rfl, rfl, rfl, trivial⟩) ?_
          intro o
          have hM3 := hM2.bend (grownBy_putObj' w2 D o) (fun r e => by cases e; exact ⟨by have := hM.frm.size; omega, _, hK2, rfl⟩) (by
            intro R hR
            simp only [List.mem_cons, List.not_mem_nil, or_false, List.append_nil] at hR
            rcases hR with rfl | rfl | rfl | rfl | rfl
            · exact rowR_solid _ _ _
            · exact boxR_solid _ _ _
            · exact boxR_solid _ _ _
            · exact boxR_solid _ _ _
            · exact boxR_solid _ _ _)
          refine ⟨_, rfl, hM3.frm, ⟨v, ?_, ?_⟩⟩
          · show Value.tuple #[v, Value.int .i64 (impl_MakeList.e K a0 sz l2 (List.range (chN l2.length sz))), Value.bool true] = Value.tuple #[v, Value.int .i64 (impl_MakeList.e K a0 sz l2 (List.range (l2.length / sz))), Value.bool true]
            rw [hall]
          · have h3 := hM3.give 0 rfl
            rw [← hall] at h3
            exact h3
        · rintro D k W hD hk ⟨mem, ⟨pre, j, v, hs, hpre, hfull, rfl⟩, hI⟩ hK hF
          have hM1 := hM.back (A := [boxR bl [Pt.int 0] 3, boxR bo [Pt.any (Value.slice none 0 0)] 32, boxR bn [Pt.int (sz : Int)] 3, boxR bm [Pt.int a0] 3]) (B := []) [0, 1, 2, 3] [] rfl rfl rfl hI
          have hDl := (Array.getElem?_eq_some_iff.1 hK).1
          have hk0 : ∃ i, k = i + 1 := by
            cases k with
            | zero => simp at hs
            | succ i => exact ⟨i, rfl⟩
          obtain ⟨i, rfl⟩ := hk0
          rw [List.range_succ] at hs
          obtain ⟨rfl, h2⟩ := List.append_inj' hs rfl
          obtain rfl : i = j := by simpa using h2
          have hlo := chLo_eq (sz := sz) (n := l2.length) i (by omega)
          have hil := (hN0 i).1 (by omega)
          rw [hlo] at hfull
          have hall : l2.length / sz = i := by
            rw [Nat.div_eq_iff hsz]
            constructor
            · omega
            · have : i * sz + sz = sz * i + sz := by rw [Nat.mul_comm]
              omega
          refine blk_x ?_
          refine then_n ?_
          refine wp_seq ?_
          refine s_quiet mixed (by decide +kernel) hM1 ?_
          refine qd_val hF rfl rfl rfl (fun w' hw => e_ld (i := 2) (k := 0) hF.bare hw.2 rfl rfl rfl rfl Try.isAgg32 (any_cs (hw.2.sl 0 rfl).toF.one)) ?_; intro a hF
          refine qd_val hF rfl rfl rfl (fun w' hw => e_ld (i := 1) (k := 0) hF.bare hw.2 rfl rfl rfl rfl Try.isAgg3 rfl) ?_; intro a hF
          refine qd_val hF rfl rfl rfl (fun w' hw => e_assign hF.bare rfl) ?_; intro a hF
          refine qd_val hF rfl rfl rfl (fun w' hw => e_assign hF.bare rfl) ?_; intro a hF
          refine qd_val hF rfl rfl rfl (fun w' hw => e_assign hF.bare rfl) ?_; intro a hF
          refine q_nil ?_
          rintro w2 ⟨hf2, hM2⟩
          refine then_n ?_
          refine wp_ret ?_
          have hK2 : w2.heap[D]? = some (.deferred (some [])) := by rw [hf2.block D hDl (by simp)]; exact hK
          obtain rfl := some_some H
          refine s_retD [v, Value.int .i64 (impl_MakeList.e K a0 sz l2 (List.range i)), Value.bool true] hF hK2 Try.results42 (fun _ => ⟨rfl, rfl, rfl, trivial⟩) ?_
          intro o
          have hM3 := hM2.bend (grownBy_putObj' w2 D o) (fun r e => by cases e; exact ⟨by have := hM.frm.size; omega, _, hK2, rfl⟩) (by
            intro R hR
            simp only [List.mem_cons, List.not_mem_nil, or_false, List.append_nil] at hR
            rcases hR with rfl | rfl | rfl | rfl | rfl
            · exact rowR_solid _ _ _
            · exact boxR_solid _ _ _
            · exact boxR_solid _ _ _
            · exact boxR_solid _ _ _
            · exact boxR_solid _ _ _)
          refine ⟨_, rfl, hM3.frm, ⟨v, ?_, ?_⟩⟩
          · show Value.tuple #[v, Value.int .i64 (impl_MakeList.e K a0 sz l2 (List.range i)), Value.bool true] = Value.tuple #[v, Value.int .i64 (impl_MakeList.e K a0 sz l2 (List.range (l2.length / sz))), Value.bool true]
            rw [hall]
          · have h3 := hM3.give 0 rfl
            rw [← hall] at h3
            exact h3
      ·
        refine s_cond_t hF rfl (congrArg Bool.not (bf c9)) ?_
        refine wp_seq ?_
        refine s_region ?_
        refine s_val hF rfl rfl rfl (e_assign hF rfl) ?_; intro a hF
        refine s_val hF rfl rfl rfl (e_assign hF rfl) ?_; intro a hF
        refine s_val hF rfl rfl rfl (e_assign hF rfl) ?_; intro a hF
        refine s_nil ?_
        refine then_n ?_
        refine wp_ret ?_
        refine then_r ?_
        obtain rfl := some_some H
        refine s_retM [(Value.slice none 0 0), Value.int .i64 0, Value.bool false] hF Try.results42 ⟨rfl, rfl, rfl, trivial⟩ ?_
        exact ⟨_, rfl, hM.frm, ⟨(Value.slice none 0 0), rfl, Fresh.nil _ _ _⟩⟩
    ·
      refine s_val hF rfl rfl rfl (e_move hF rfl) ?_; intro a hF
      have hF := hF.topb (congrArg Bool.not (bf c6))
      refine s_skip hF rfl rfl rfl ?_; intro a hF
      refine s_skip hF rfl rfl rfl ?_; intro a hF
      refine s_skip hF rfl rfl rfl ?_; intro a hF
      refine s_val hF rfl rfl rfl (e_pick_t hF rfl rfl) ?_; intro a hF
      refine s_nil ?_
      refine then_n ?_
      refine s_cond_t hF rfl rfl ?_
      refine wp_seq ?_
      refine s_region ?_
      refine s_val hF rfl rfl rfl (e_assign hF rfl) ?_; intro a hF
      refine s_val hF rfl rfl rfl (e_assign hF rfl) ?_; intro a hF
      refine s_val hF rfl rfl rfl (e_assign hF rfl) ?_; intro a hF
      refine s_nil ?_
      refine then_n ?_
      refine wp_ret ?_
      refine then_r ?_
      obtain rfl := some_some H
      refine s_retM [(Value.slice none 0 0), Value.int .i64 0, Value.bool false] hF Try.results42 ⟨rfl, rfl, rfl, trivial⟩ ?_
      exact ⟨_, rfl, hM.frm, ⟨(Value.slice none 0 0), rfl, Fresh.nil _ _ _⟩⟩
  ·
    refine s_region ?_
    refine s_val hF rfl rfl rfl (e_ld (i := 1) (k := 0) hF hM rfl rfl rfl rfl Try.isAgg3 rfl) ?_; intro a hF
    refine s_val hF rfl rfl rfl (e_ld (i := 0) (k := 0) hF hM rfl rfl rfl rfl Try.isAgg3 rfl) ?_; intro a hF
    refine s_call hF rfl rfl rfl Try.call57 (impl_isMade.calls K a0 a1 t1 h2) ?_; intro a w v hF hf hR
    subst hR; have hM := hM.grow hf
    refine s_val hF rfl rfl rfl (e_not hF rfl) ?_; intro a hF
    refine s_val hF rfl rfl rfl (e_move hF rfl) ?_; intro a hF
    have hF := hF.topb (congrArg Bool.not (bf c3))
    refine s_skip hF rfl rfl rfl ?_; intro a hF
    refine s_skip hF rfl rfl rfl ?_; intro a hF
    refine s_skip hF rfl rfl rfl ?_; intro a hF
    refine s_val hF rfl rfl rfl (e_pick_t hF rfl rfl) ?_; intro a hF
    refine s_val hF rfl rfl rfl (e_move hF rfl) ?_; intro a hF
    refine s_skip hF rfl rfl rfl ?_; intro a hF
    refine s_skip hF rfl rfl rfl ?_; intro a hF
    refine s_skip hF rfl rfl rfl ?_; intro a hF
    refine s_val hF rfl rfl rfl (e_pick_t hF rfl rfl) ?_; intro a hF
    refine s_nil ?_
    refine then_n ?_
    refine s_cond_t hF rfl rfl ?_
    refine wp_seq ?_
    refine s_region ?_
    refine s_val hF rfl rfl rfl (e_assign hF rfl) ?_; intro a hF
    refine s_val hF rfl rfl rfl (e_assign hF rfl) ?_; intro a hF
    refine s_val hF rfl rfl rfl (e_assign hF rfl) ?_; intro a hF
    refine s_nil ?_
    refine then_n ?_
    refine wp_ret ?_
    refine then_r ?_
    obtain rfl := some_some H
    refine s_retM [(Value.slice none 0 0), Value.int .i64 0, Value.bool false] hF Try.results42 ⟨rfl, rfl, rfl, trivial⟩ ?_
    exact ⟨_, rfl, hM.frm, ⟨(Value.slice none 0 0), rfl, Fresh.nil _ _ _⟩⟩

/-! ### loop.example/g01210/laws.eqIntS: function 28 -/
def laws_eqIntS.l0 (K : Nat) (l0 : (List Int)) (l1 : (List Int)) : Nat → Int → Option (Sum Unit Bool)
  | 0, _ => none
  | k + 1, x11 => if x11 < (l0.length : Int) then (if (0 : Int) ≤ x11 ∧ x11 < (l0.length : Int) then (if (0 : Int) ≤ x11 ∧ x11 < (l1.length : Int) then (if (l0.getD (x11 : Int).toNat (0 : Int)) = (l1.getD (x11 : Int).toNat (0 : Int)) then (laws_eqIntS.l0 K l0 l1 k (wrap64 (x11 + 1))) else (some (Sum.inr false))) else none) else none) else (some (Sum.inl ()))
def laws_eqIntS.f (K : Nat) (l0 : (List Int)) (l1 : (List Int)) : Option Bool := if (l0.length : Int) = (l1.length : Int) then ((laws_eqIntS.l0 K l0 l1 K 0).bind fun o18 => (match o18 with | .inl () => some true | .inr r20 => some r20)) else (some false)
set_option maxRecDepth 100000 in
set_option maxHeartbeats 4000000 in
theorem laws_eqIntS.calls {w0 : World} (K : Nat) (l0 : (List Int)) (u0 : Value) (q0 : SlR cd3 w0 u0 l0) (l1 : (List Int)) (u1 : Value) (q1 : SlR cd3 w0 u1 l1) (r : Bool) (H : laws_eqIntS.f K l0 l1 = some r) : Calls Try.prog 28 [u0, u1].toArray w0 (Post w0 fun w v => v = Value.bool r) := by
  rw [laws_eqIntS.f] at H
  refine s_start Try.func28 rfl Try.ntmps28 rfl ?_
  intro a hF
  have hM := Ms.start w0
  skip
  refine wp_seq ?_
  refine s_region ?_
  refine s_val hF rfl rfl rfl (e_assign hF rfl) ?_; intro a hF
  refine s_nil ?_
  refine then_n ?_
  refine wp_seq ?_
  refine wp_seq ?_
  refine s_region ?_
  refine s_val hF rfl rfl rfl (e_move hF rfl) ?_; intro a hF
  refine s_val hF rfl rfl rfl (e_len hF rfl (q0.frm hM.frm).toF Try.underlying32) ?_; intro a hF
  refine s_val hF rfl rfl rfl (e_move hF rfl) ?_; intro a hF
  refine s_val hF rfl rfl rfl (e_len hF rfl (q1.frm hM.frm).toF Try.underlying32) ?_; intro a hF
  refine s_val hF rfl rfl rfl (e_neq hF rfl rfl) ?_; intro a hF
  refine s_nil ?_
  refine then_n ?_
  rcases ite_cases H with ⟨c1, H⟩ | ⟨c1, H⟩
  ·
    refine s_cond_f hF rfl (congrArg Bool.not (decide_eq_true c1)) ?_
    refine wp_skip ?_
    refine then_n ?_
    refine wp_seq ?_
    refine wp_seq ?_
    refine s_region ?_
    refine s_val hF rfl rfl rfl (e_assign hF rfl) ?_; intro a hF
    refine s_nil ?_
    refine then_n ?_
    refine wp_block ?_
    obtain ⟨o18, h19, H⟩ := bind_some H
    refine wp_mono (Q := fun e a w => (e = Exit.exit 0 ∧ Sum.inl () = o18 ∧ Fr 26 a [] ∧ Ms [] w0 w []) ∨ (e = Exit.ret ∧ ∃ r20 : Bool, Sum.inr r20 = o18 ∧ Fr 26 a [(4, Value.bool r20)] ∧ Ms [] w0 w [])) ?_ ?_
    · refine s_loop (fun kq a w => ∃ x11 : Int, laws_eqIntS.l0 K l0 l1 kq x11 = some o18 ∧ Fr 26 a [(0, u0), (1, u1), (5, Value.int .i64 x11)] ∧ Ms [] w0 w []) K ⟨0, h19, hF.sub _ ⟨rfl, rfl, rfl, trivial⟩, hM.pick [] rfl rfl⟩ ?_ ?_
      · rintro a w ⟨_, H, _⟩; exact none_some H
      · rintro k a w ⟨x11, H, hF, hM⟩; rw [laws_eqIntS.l0] at H
        refine wp_seq ?_
        refine wp_seq ?_
        refine s_region ?_
        refine s_val hF rfl rfl rfl (e_move hF rfl) ?_; intro a hF
        refine s_val hF rfl rfl rfl (e_move hF rfl) ?_; intro a hF
        refine s_val hF rfl rfl rfl (e_len hF rfl (q0.frm hM.frm).toF Try.underlying32) ?_; intro a hF
        refine s_val hF rfl rfl rfl (e_lss hF rfl rfl) ?_; intro a hF
        refine s_nil ?_
        refine then_n ?_
        rcases ite_cases H with ⟨c12, H⟩ | ⟨c12, H⟩
        ·
          refine s_cond_t hF rfl (decide_eq_true c12) ?_
          refine wp_skip ?_
          refine then_n ?_
          refine wp_seq ?_
          refine wp_block ?_
          refine wp_seq ?_
          obtain ⟨c13, H⟩ := ite_some H
          obtain ⟨c14, H⟩ := ite_some H
          refine s_held (fun w => Ms [] w0 w []) #[false, false, false, false, false, false, false, false, false] mixed rfl rfl hM ?_; intro w hf hM; clear hf
          refine h_val 0 #[true, false, false, false, false, false, false, false, false] rfl (by kernel_rfl) hF rfl rfl rfl (fun w hS => e_move hF rfl) (hM.pick [] rfl rfl) ?_; intro a hF
          refine h_val 1 #[true, true, false, false, false, false, false, false, false] rfl (by kernel_rfl) hF rfl rfl rfl (fun w hS => e_move hF rfl) (hM.pick [] rfl rfl) ?_; intro a hF
          have f15 := (q0.frm hM.frm).toF
          refine h_val 2 #[true, true, true, false, false, false, false, false, false] rfl (by kernel_rfl) hF rfl rfl rfl (fun w hS => e_ias cd3 hF rfl rfl f15 Try.underlying32 Try.sizeOf3 c13.1 c13.2) (hM.pick [] rfl rfl) ?_; intro a hF
          refine h_val 3 #[true, true, true, true, false, false, false, false, false] rfl (by kernel_rfl) hF rfl rfl rfl (fun w hS => e_lds (m := x11) hF rfl (q0.frm hS.frm) (getD_some (z := (0 : Int)) c13.1 c13.2) rfl rfl Try.isAgg3) (hM.pick [] rfl rfl) ?_; intro a hF
          refine h_val 4 #[true, true, true, true, true, false, false, false, false] rfl (by kernel_rfl) hF rfl rfl rfl (fun w hS => e_move hF rfl) (hM.pick [] rfl rfl) ?_; intro a hF
          refine h_val 5 #[true, true, true, true, true, true, false, false, false] rfl (by kernel_rfl) hF rfl rfl rfl (fun w hS => e_move hF rfl) (hM.pick [] rfl rfl) ?_; intro a hF
          have f16 := (q1.frm hM.frm).toF
          refine h_val 6 #[true, true, true, true, true, true, true, false, false] rfl (by kernel_rfl) hF rfl rfl rfl (fun w hS => e_ias cd3 hF rfl rfl f16 Try.underlying32 Try.sizeOf3 c14.1 c14.2) (hM.pick [] rfl rfl) ?_; intro a hF
          refine h_val 7 #[true, true, true, true, true, true, true, true, false] rfl (by kernel_rfl) hF rfl rfl rfl (fun w hS => e_lds (m := x11) hF rfl (q1.frm hS.frm) (getD_some (z := (0 : Int)) c14.1 c14.2) rfl rfl Try.isAgg3) (hM.pick [] rfl rfl) ?_; intro a hF
          refine h_val 8 #[true, true, true, true, true, true, true, true, true] rfl (by kernel_rfl) hF rfl rfl rfl (fun w hS => e_neq hF rfl rfl) (hM.pick [] rfl rfl) ?_; intro a hF
          refine h_done rfl ?_
          refine then_n ?_
          rcases ite_cases H with ⟨c17, H⟩ | ⟨c17, H⟩
          ·
            refine s_cond_f hF rfl (congrArg Bool.not (decide_eq_true c17)) ?_
            refine wp_skip ?_
            refine blk_n ?_
            refine then_n ?_
            refine s_region ?_
            refine s_val hF rfl rfl rfl (e_move hF rfl) ?_; intro a hF
            refine s_val hF rfl rfl rfl (e_add hF rfl rfl) ?_; intro a hF
            refine s_val hF rfl rfl rfl (e_assign hF rfl) ?_; intro a hF
            refine s_nil ?_
            refine then_n ?_
            exact ⟨(wrap64 (x11 + 1)), H, hF.sub _ ⟨rfl, rfl, rfl, trivial⟩, hM.pick [] rfl rfl⟩
          ·
            refine s_cond_t hF rfl (congrArg Bool.not (decide_eq_false c17)) ?_
            refine wp_seq ?_
            refine s_region ?_
            refine s_val hF rfl rfl rfl (e_assign hF rfl) ?_; intro a hF
            refine s_nil ?_
            refine then_n ?_
            refine wp_ret ?_
            refine blk_r ?_
            refine then_r ?_
            refine then_r ?_
            exact Or.inr (⟨rfl, false, some_some H, hF.sub _ ⟨rfl, trivial⟩, hM.pick [] rfl rfl⟩)
        ·
          refine s_cond_f hF rfl (decide_eq_false c12) ?_
          refine wp_exit ?_
          refine then_x ?_
          refine then_x ?_
          exact Or.inl (⟨rfl, some_some H, hF.sub _ trivial, hM.pick [] rfl rfl⟩)
    · rintro e a w (⟨rfl, rfl, hF, hM⟩ | ⟨rfl, r20, rfl, hF, hM⟩)
      ·
        dsimp only at H
        refine blk_x ?_
        refine then_n ?_
        refine wp_seq ?_
        refine s_region ?_
        refine s_val hF rfl rfl rfl (e_assign hF rfl) ?_; intro a hF
        refine s_nil ?_
        refine then_n ?_
        refine wp_ret ?_
        obtain rfl := some_some H
        refine s_ret [Value.bool true] hF Try.results28 ⟨rfl, trivial⟩ ?_
        exact ⟨_, rfl, hM.frm, rfl⟩
      ·
        dsimp only at H
        refine blk_r ?_
        refine then_r ?_
        obtain rfl := some_some H
        refine s_ret [Value.bool r20] hF Try.results28 ⟨rfl, trivial⟩ ?_
        exact ⟨_, rfl, hM.frm, rfl⟩
  ·
    refine s_cond_t hF rfl (congrArg Bool.not (decide_eq_false c1)) ?_
    refine wp_seq ?_
    refine s_region ?_
    refine s_val hF rfl rfl rfl (e_assign hF rfl) ?_; intro a hF
    refine s_nil ?_
    refine then_n ?_
    refine wp_ret ?_
    refine then_r ?_
    obtain rfl := some_some H
    refine s_ret [Value.bool false] hF Try.results28 ⟨rfl, trivial⟩ ?_
    exact ⟨_, rfl, hM.frm, rfl⟩

/-! ### loop.example/g01210/laws.markIntS: function 31 -/
def laws_markIntS.l0 (K : Nat) (l0 : (List Int)) : Nat → Int → Int → (List Int) → Option (Int × (List Int))
  | 0, _, _, _ => none
  | k + 1, x10, x11, x12 => if x11 < (x12.length : Int) then (if (0 : Int) ≤ x11 ∧ x11 < (x12.length : Int) then (laws_markIntS.l0 K l0 k (wrap64 (x10 + 1)) (wrap64 (x11 + 1)) (x12.set (x11 : Int).toNat x10)) else none) else (some (x10, x12))
def laws_markIntS.f (K : Nat) (l0 : (List Int)) (a1 : Int) : Option (Int × (List Int)) := (laws_markIntS.l0 K l0 K a1 0 l0).bind fun (x8, x9) => some (x8, x9)
set_option maxRecDepth 100000 in
set_option maxHeartbeats 4000000 in
theorem laws_markIntS.calls {w0 : World} (K : Nat) (l0 : (List Int)) (u0 : Value) (q0 : (rowR cd3 u0 l0).holds w0) (a1 : Int) (r : (Int × (List Int))) (H : laws_markIntS.f K l0 a1 = some r) : Calls Try.prog 31 [u0, Value.int .i64 a1].toArray w0 (fun e w => ∃ v, e = .returned v ∧ Frm u0.ownBlock.toList w0 w ∧ (v = Value.int .i64 r.1) ∧ (rowR cd3 u0 r.2).holds w) := by
  rw [laws_markIntS.f] at H
  refine s_start Try.func31 rfl Try.ntmps31 rfl ?_
  intro a hF
  have hM := Ms.start1 w0 (rowR cd3 u0 l0) q0 (fun b hb => (World.ownsRow.lt q0 b (by simpa [rowR] using hb)).2)
  skip
  refine wp_seq ?_
  refine s_region ?_
  refine s_val hF rfl rfl rfl (e_assign hF rfl) ?_; intro a hF
  refine s_nil ?_
  refine then_n ?_
  refine wp_seq ?_
  refine wp_seq ?_
  refine s_region ?_
  refine s_val hF rfl rfl rfl (e_assign hF rfl) ?_; intro a hF
  refine s_nil ?_
  refine then_n ?_
  refine wp_block ?_
  obtain ⟨o15, h16, H⟩ := bind_some H
  refine wp_mono (Q := fun e a w => (e = Exit.exit 0 ∧ ∃ x8 : Int, ∃ x9 : (List Int), (x8, x9) = o15 ∧ Fr 19 a [(1, Value.int .i64 x8)] ∧ Ms u0.ownBlock.toList w0 w [rowR cd3 u0 x9])) ?_ ?_
  · refine s_loop (fun kq a w => ∃ x10 : Int, ∃ x11 : Int, ∃ x12 : (List Int), laws_markIntS.l0 K l0 kq x10 x11 x12 = some o15 ∧ Fr 19 a [(0, u0), (1, Value.int .i64 x10), (5, Value.int .i64 x11)] ∧ Ms u0.ownBlock.toList w0 w [rowR cd3 u0 x12]) K ⟨a1, 0, l0, h16, hF.sub _ ⟨rfl, rfl, rfl, trivial⟩, hM.pick [0] rfl rfl⟩ ?_ ?_
    · rintro a w ⟨_, _, _, H, _⟩; exact none_some H
    · rintro k a w ⟨x10, x11, x12, H, hF, hM⟩; rw [laws_markIntS.l0] at H
      refine wp_seq ?_
      refine wp_seq ?_
      refine s_region ?_
      refine s_val hF rfl rfl rfl (e_move hF rfl) ?_; intro a hF
      refine s_val hF rfl rfl rfl (e_move hF rfl) ?_; intro a hF
      refine s_val hF rfl rfl rfl (e_len hF rfl (hM.sl 0 rfl).toF Try.underlying32) ?_; intro a hF
      refine s_val hF rfl rfl rfl (e_lss hF rfl rfl) ?_; intro a hF
      refine s_nil ?_
      refine then_n ?_
      rcases ite_cases H with ⟨c13, H⟩ | ⟨c13, H⟩
      ·
        refine s_cond_t hF rfl (decide_eq_true c13) ?_
        refine wp_skip ?_
        refine then_n ?_
        refine wp_seq ?_
        refine wp_block ?_
        refine wp_seq ?_
        obtain ⟨c14, H⟩ := ite_some H
        refine s_region ?_
        refine s_val hF rfl rfl rfl (e_move hF rfl) ?_; intro a hF
        refine s_val hF rfl rfl rfl (e_move hF rfl) ?_; intro a hF
        refine s_val hF rfl rfl rfl (e_move hF rfl) ?_; intro a hF
        refine s_val hF rfl rfl rfl (e_ias cd3 hF rfl rfl (hM.sl 0 rfl).toF Try.underlying32 Try.sizeOf3 c14.1 c14.2) ?_; intro a hF
        refine s_sts (i := 0) x10 hF hM rfl rfl rfl rfl rfl c14.1 c14.2 Try.sizeOf3 ?_; intro a w hF hM
        refine s_nil ?_
        refine then_n ?_
        refine s_region ?_
        refine s_val hF rfl rfl rfl (e_move hF rfl) ?_; intro a hF
        refine s_val hF rfl rfl rfl (e_add hF rfl rfl) ?_; intro a hF
        refine s_val hF rfl rfl rfl (e_assign hF rfl) ?_; intro a hF
        refine s_nil ?_
        refine blk_n ?_
        refine then_n ?_
        refine s_region ?_
        refine s_val hF rfl rfl rfl (e_move hF rfl) ?_; intro a hF
        refine s_val hF rfl rfl rfl (e_add hF rfl rfl) ?_; intro a hF
        refine s_val hF rfl rfl rfl (e_assign hF rfl) ?_; intro a hF
        refine s_nil ?_
        refine then_n ?_
        exact ⟨(wrap64 (x10 + 1)), (wrap64 (x11 + 1)), (x12.set (x11 : Int).toNat x10), H, hF.sub _ ⟨rfl, rfl, rfl, trivial⟩, hM.pick [0] rfl rfl⟩
      ·
        refine s_cond_f hF rfl (decide_eq_false c13) ?_
        refine wp_exit ?_
        refine then_x ?_
        refine then_x ?_
        exact ⟨rfl, x10, x12, some_some H, hF.sub _ ⟨rfl, trivial⟩, hM.pick [0] rfl rfl⟩
  · rintro e a w ⟨rfl, x8, x9, rfl, hF, hM⟩
    skip
    refine blk_x ?_
    refine then_n ?_
    refine wp_seq ?_
    refine s_region ?_
    refine s_val hF rfl rfl rfl (e_move hF rfl) ?_; intro a hF
    refine s_val hF rfl rfl rfl (e_assign hF rfl) ?_; intro a hF
    refine s_nil ?_
    refine then_n ?_
    refine wp_ret ?_
    obtain rfl := some_some H
    refine s_ret [Value.int .i64 x8] hF Try.results31 ⟨rfl, trivial⟩ ?_
    exact ⟨_, rfl, hM.frm, ⟨rfl, hM.get 0 rfl⟩⟩

/-! ### loop.example/g01210/laws.heldIntS: function 32 -/
def laws_heldIntS.l0 (K : Nat) (l0 : (List Int)) : Nat → Int → Int → Option (Sum Int Int)
  | 0, _, _ => none
  | k + 1, x10, x11 => if x11 < (l0.length : Int) then (if (0 : Int) ≤ x11 ∧ x11 < (l0.length : Int) then (if (l0.getD (x11 : Int).toNat (0 : Int)) = x10 then (laws_heldIntS.l0 K l0 k (wrap64 (x10 + 1)) (wrap64 (x11 + 1))) else (some (Sum.inr (-1)))) else none) else (some (Sum.inl x10))
def laws_heldIntS.f (K : Nat) (l0 : (List Int)) (a1 : Int) : Option Int := (laws_heldIntS.l0 K l0 K a1 0).bind fun o15 => (match o15 with | .inl x9 => some x9 | .inr r17 => some r17)
set_option maxRecDepth 100000 in
set_option maxHeartbeats 4000000 in
theorem laws_heldIntS.calls {w0 : World} (K : Nat) (l0 : (List Int)) (u0 : Value) (q0 : SlR cd3 w0 u0 l0) (a1 : Int) (r : Int) (H : laws_heldIntS.f K l0 a1 = some r) : Calls Try.prog 32 [u0, Value.int .i64 a1].toArray w0 (Post w0 fun w v => v = Value.int .i64 r) := by
  rw [laws_heldIntS.f] at H
  refine s_start Try.func32 rfl Try.ntmps32 rfl ?_
  intro a hF
  have hM := Ms.start w0
  skip
  refine wp_seq ?_
  refine s_region ?_
  refine s_val hF rfl rfl rfl (e_assign hF rfl) ?_; intro a hF
  refine s_nil ?_
  refine then_n ?_
  refine wp_seq ?_
  refine wp_seq ?_
  refine s_region ?_
  refine s_val hF rfl rfl rfl (e_assign hF rfl) ?_; intro a hF
  refine s_nil ?_
  refine then_n ?_
  refine wp_block ?_
  obtain ⟨o15, h16, H⟩ := bind_some H
  refine wp_mono (Q := fun e a w => (e = Exit.exit 0 ∧ ∃ x9 : Int, Sum.inl x9 = o15 ∧ Fr 21 a [(1, Value.int .i64 x9)] ∧ Ms [] w0 w []) ∨ (e = Exit.ret ∧ ∃ r17 : Int, Sum.inr r17 = o15 ∧ Fr 21 a [(4, Value.int .i64 r17)] ∧ Ms [] w0 w [])) ?_ ?_
  · refine s_loop (fun kq a w => ∃ x10 : Int, ∃ x11 : Int, laws_heldIntS.l0 K l0 kq x10 x11 = some o15 ∧ Fr 21 a [(0, u0), (1, Value.int .i64 x10), (5, Value.int .i64 x11)] ∧ Ms [] w0 w []) K ⟨a1, 0, h16, hF.sub _ ⟨rfl, rfl, rfl, trivial⟩, hM.pick [] rfl rfl⟩ ?_ ?_
    · rintro a w ⟨_, _, H, _⟩; exact none_some H
    · rintro k a w ⟨x10, x11, H, hF, hM⟩; rw [laws_heldIntS.l0] at H
      refine wp_seq ?_
      refine wp_seq ?_
      refine s_region ?_
      refine s_val hF rfl rfl rfl (e_move hF rfl) ?_; intro a hF
      refine s_val hF rfl rfl rfl (e_move hF rfl) ?_; intro a hF
      refine s_val hF rfl rfl rfl (e_len hF rfl (q0.frm hM.frm).toF Try.underlying32) ?_; intro a hF
      refine s_val hF rfl rfl rfl (e_lss hF rfl rfl) ?_; intro a hF
      refine s_nil ?_
      refine then_n ?_
      rcases ite_cases H with ⟨c12, H⟩ | ⟨c12, H⟩
      ·
        refine s_cond_t hF rfl (decide_eq_true c12) ?_
        refine wp_skip ?_
        refine then_n ?_
        refine wp_seq ?_
        refine wp_block ?_
        refine wp_seq ?_
        refine wp_seq ?_
        obtain ⟨c13, H⟩ := ite_some H
        refine s_region ?_
        refine s_val hF rfl rfl rfl (e_move hF rfl) ?_; intro a hF
        refine s_val hF rfl rfl rfl (e_move hF rfl) ?_; intro a hF
        refine s_val hF rfl rfl rfl (e_ias cd3 hF rfl rfl (q0.frm hM.frm).toF Try.underlying32 Try.sizeOf3 c13.1 c13.2) ?_; intro a hF
        refine s_val hF rfl rfl rfl (e_lds (m := x11) hF rfl (q0.frm hM.frm) (getD_some (z := (0 : Int)) c13.1 c13.2) rfl rfl Try.isAgg3) ?_; intro a hF
        refine s_val hF rfl rfl rfl (e_move hF rfl) ?_; intro a hF
        refine s_val hF rfl rfl rfl (e_neq hF rfl rfl) ?_; intro a hF
        refine s_nil ?_
        refine then_n ?_
        rcases ite_cases H with ⟨c14, H⟩ | ⟨c14, H⟩
        ·
          refine s_cond_f hF rfl (congrArg Bool.not (decide_eq_true c14)) ?_
          refine wp_skip ?_
          refine then_n ?_
          refine s_region ?_
          refine s_val hF rfl rfl rfl (e_move hF rfl) ?_; intro a hF
          refine s_val hF rfl rfl rfl (e_add hF rfl rfl) ?_; intro a hF
          refine s_val hF rfl rfl rfl (e_assign hF rfl) ?_; intro a hF
          refine s_nil ?_
          refine blk_n ?_
          refine then_n ?_
          refine s_region ?_
          refine s_val hF rfl rfl rfl (e_move hF rfl) ?_; intro a hF
          refine s_val hF rfl rfl rfl (e_add hF rfl rfl) ?_; intro a hF
          refine s_val hF rfl rfl rfl (e_assign hF rfl) ?_; intro a hF
          refine s_nil ?_
          refine then_n ?_
          exact ⟨(wrap64 (x10 + 1)), (wrap64 (x11 + 1)), H, hF.sub _ ⟨rfl, rfl, rfl, trivial⟩, hM.pick [] rfl rfl⟩
        ·
          refine s_cond_t hF rfl (congrArg Bool.not (decide_eq_false c14)) ?_
          refine wp_seq ?_
          refine s_region ?_
          refine s_val hF rfl rfl rfl (e_assign hF rfl) ?_; intro a hF
          refine s_nil ?_
          refine then_n ?_
          refine wp_ret ?_
          refine then_r ?_
          refine blk_r ?_
          refine then_r ?_
          refine then_r ?_
          exact Or.inr (⟨rfl, (-1), some_some H, hF.sub _ ⟨rfl, trivial⟩, hM.pick [] rfl rfl⟩)
      ·
        refine s_cond_f hF rfl (decide_eq_false c12) ?_
        refine wp_exit ?_
        refine then_x ?_
        refine then_x ?_
        exact Or.inl (⟨rfl, x10, some_some H, hF.sub _ ⟨rfl, trivial⟩, hM.pick [] rfl rfl⟩)
  · rintro e a w (⟨rfl, x9, rfl, hF, hM⟩ | ⟨rfl, r17, rfl, hF, hM⟩)
    ·
      dsimp only at H
      refine blk_x ?_
      refine then_n ?_
      refine wp_seq ?_
      refine s_region ?_
      refine s_val hF rfl rfl rfl (e_move hF rfl) ?_; intro a hF
      refine s_val hF rfl rfl rfl (e_assign hF rfl) ?_; intro a hF
      refine s_nil ?_
      refine then_n ?_
      refine wp_ret ?_
      obtain rfl := some_some H
      refine s_ret [Value.int .i64 x9] hF Try.results32 ⟨rfl, trivial⟩ ?_
      exact ⟨_, rfl, hM.frm, rfl⟩
    ·
      dsimp only at H
      refine blk_r ?_
      refine then_r ?_
      obtain rfl := some_some H
      refine s_ret [Value.int .i64 r17] hF Try.results32 ⟨rfl, trivial⟩ ?_
      exact ⟨_, rfl, hM.frm, rfl⟩

/-! ### loop.example/g01210/laws.FnExactMakeList: function 13 -/
def laws_FnExactMakeList.f (K : Nat) (a0 : Int) (a1 : Int) (l2 : (List Int)) : Option Bool := if 1048576 < (l2.length : Int) then (some true) else ((laws_toIntS.f K l2).bind fun t2 => (spec_MakeList.f K a0 a1 t2).bind fun t5 => (laws_toIntS.f K l2).bind fun t8 => (impl_MakeList.f K a0 a1 t8).bind fun t11 => (laws_eqIntS.f K t11.1 t5.1).bind fun t14 => if t14 = true then (if t11.2.1 = t5.2.1 then (if (t11.2.2 == t5.2.2) = true then ((laws_toIntS.f K l2).bind fun t19 => (laws_eqIntS.f K t8 t19).bind fun t22 => if t22 = true then ((laws_markIntS.f K t8 1).bind fun t25 => if t25.1 < 0 then (some false) else ((laws_eqIntS.f K t11.1 t5.1).bind fun t28 => if t28 = true then ((laws_markIntS.f K t11.1 1).bind fun t31 => (laws_heldIntS.f K t31.2 1).bind fun t33 => if t33 < 0 then (some false) else (if t33 = t31.1 then ((laws_toIntS.f K l2).bind fun t37 => (impl_MakeList.f K a0 a1 t37).bind fun t40 => (laws_eqIntS.f K t40.1 t5.1).bind fun t43 => if t43 = true then (if t40.2.1 = t5.2.1 then (if (t40.2.2 == t5.2.2) = true then ((laws_heldIntS.f K t31.2 1).bind fun t48 => if t48 < 0 then (some false) else (if t48 = t31.1 then (some true) else (some false))) else (some false)) else (some false)) else (some false)) else (some false))) else (some false))) else (some false)) else (some false)) else (some false)) else (some false))
set_option maxRecDepth 100000 in
set_option maxHeartbeats 4000000 in
theorem laws_FnExactMakeList.calls {w0 : World} (K : Nat) (a0 : Int) (a1 : Int) (l2 : (List Int)) (u2 : Value) (q2 : SlR cd3 w0 u2 l2) (r : Bool) (H : laws_FnExactMakeList.f K a0 a1 l2 = some r) : Calls Try.prog 13 [Value.int .i64 a0, Value.int .i64 a1, u2].toArray w0 (Post w0 fun w v => v = Value.bool r) := by
  rw [laws_FnExactMakeList.f] at H
  refine s_start Try.func13 rfl Try.ntmps13 rfl ?_
  intro a hF
  have hM := Ms.start w0
  skip
  refine wp_seq ?_
  refine s_region ?_
  refine s_val hF rfl rfl rfl (e_assign hF rfl) ?_; intro a hF
  refine s_nil ?_
  refine then_n ?_
  refine wp_seq ?_
  refine wp_seq ?_
  refine s_region ?_
  refine s_val hF rfl rfl rfl (e_move hF rfl) ?_; intro a hF
  refine s_val hF rfl rfl rfl (e_len hF rfl (q2.frm hM.frm).toF Try.underlying32) ?_; intro a hF
  refine s_val hF rfl rfl rfl (e_gtr hF rfl rfl) ?_; intro a hF
  refine s_nil ?_
  refine then_n ?_
  rcases ite_cases H with ⟨c1, H⟩ | ⟨c1, H⟩
  ·
    refine s_cond_t hF rfl (decide_eq_true c1) ?_
    refine wp_seq ?_
    refine s_region ?_
    refine s_val hF rfl rfl rfl (e_assign hF rfl) ?_; intro a hF
    refine s_nil ?_
    refine then_n ?_
    refine wp_ret ?_
    refine then_r ?_
    obtain rfl := some_some H
    refine s_ret [Value.bool true] hF Try.results13 ⟨rfl, trivial⟩ ?_
    exact ⟨_, rfl, hM.frm, rfl⟩
  ·
    refine s_cond_f hF rfl (decide_eq_false c1) ?_
    refine wp_skip ?_
    refine then_n ?_
    refine wp_seq ?_
    obtain ⟨t2, h3, H⟩ := bind_some H
    obtain ⟨t5, h6, H⟩ := bind_some H
    refine s_region ?_
    refine s_val hF rfl rfl rfl (e_move hF rfl) ?_; intro a hF
    refine s_val hF rfl rfl rfl (e_move hF rfl) ?_; intro a hF
    refine s_val hF rfl rfl rfl (e_move hF rfl) ?_; intro a hF
    refine s_call hF rfl rfl rfl Try.call26 (laws_toIntS.calls K l2 u2 (q2.frm hM.frm) t2 h3) ?_; intro a w v4 hF hf hR
    have hM := hM.fresh hf hR
    refine s_call hF rfl rfl rfl Try.call41 (spec_MakeList.calls K a0 a1 t2 v4 (hM.sl 0 rfl) t5 h6) ?_; intro a w v hF hf hR
    obtain ⟨v7, rfl, hR⟩ := hR; have hM := hM.fresh hf hR
    refine s_val hF rfl rfl rfl (e_move hF rfl) ?_; intro a hF
    refine s_val hF rfl rfl rfl (e_extract hF rfl rfl) ?_; intro a hF
    refine s_val hF rfl rfl rfl (e_extract hF rfl rfl) ?_; intro a hF
    refine s_val hF rfl rfl rfl (e_extract hF rfl rfl) ?_; intro a hF
    refine s_val hF rfl rfl rfl (e_assign hF rfl) ?_; intro a hF
    refine s_val hF rfl rfl rfl (e_assign hF rfl) ?_; intro a hF
    refine s_val hF rfl rfl rfl (e_assign hF rfl) ?_; intro a hF
    refine s_nil ?_
    refine then_n ?_
    refine wp_seq ?_
    obtain ⟨t8, h9, H⟩ := bind_some H
    refine s_region ?_
    refine s_val hF rfl rfl rfl (e_move hF rfl) ?_; intro a hF
    refine s_call hF rfl rfl rfl Try.call26 (laws_toIntS.calls K l2 u2 (q2.frm hM.frm) t8 h9) ?_; intro a w v10 hF hf hR
    have hM := hM.fresh hf hR
    refine s_val hF rfl rfl rfl (e_assign hF rfl) ?_; intro a hF
    refine s_nil ?_
    refine then_n ?_
    refine wp_seq ?_
    obtain ⟨t11, h12, H⟩ := bind_some H
    refine s_region ?_
    refine s_val hF rfl rfl rfl (e_move hF rfl) ?_; intro a hF
    refine s_val hF rfl rfl rfl (e_move hF rfl) ?_; intro a hF
    refine s_val hF rfl rfl rfl (e_move hF rfl) ?_; intro a hF
    refine s_call hF rfl rfl rfl Try.call42 (impl_MakeList.calls K a0 a1 t8 v10 (hM.sl 0 rfl) t11 h12) ?_; intro a w v hF hf hR
    obtain ⟨v13, rfl, hR⟩ := hR; have hM := hM.fresh hf hR
    refine s_val hF rfl rfl rfl (e_move hF rfl) ?_; intro a hF
    refine s_val hF rfl rfl rfl (e_extract hF rfl rfl) ?_; intro a hF
    refine s_val hF rfl rfl rfl (e_extract hF rfl rfl) ?_; intro a hF
    refine s_val hF rfl rfl rfl (e_extract hF rfl rfl) ?_; intro a hF
    refine s_val hF rfl rfl rfl (e_assign hF rfl) ?_; intro a hF
    refine s_val hF rfl rfl rfl (e_assign hF rfl) ?_; intro a hF
    refine s_val hF rfl rfl rfl (e_assign hF rfl) ?_; intro a hF
    refine s_nil ?_
    refine then_n ?_
    refine wp_seq ?_
    refine wp_seq ?_
    obtain ⟨t14, h15, H⟩ := bind_some H
    rcases ite_cases H with ⟨c16, H⟩ | ⟨c16, H⟩
    ·
      rcases ite_cases H with ⟨c17, H⟩ | ⟨c17, H⟩
      ·
        refine s_region ?_
        refine s_val hF rfl rfl rfl (e_move hF rfl) ?_; intro a hF
        refine s_val hF rfl rfl rfl (e_move hF rfl) ?_; intro a hF
        refine s_call hF rfl rfl rfl Try.call28 (laws_eqIntS.calls K t11.1 v13 (hM.sl 0 rfl) t5.1 v7 (hM.sl 2 rfl) t14 h15) ?_; intro a w v hF hf hR
        subst hR; have hM := hM.grow hf
        refine s_val hF rfl rfl rfl (e_not hF rfl) ?_; intro a hF
        refine s_val hF rfl rfl rfl (e_move hF rfl) ?_; intro a hF
        have hF := hF.topb (congrArg Bool.not c16)
        refine s_val hF rfl rfl rfl (e_move hF rfl) ?_; intro a hF
        refine s_val hF rfl rfl rfl (e_move hF rfl) ?_; intro a hF
        refine s_val hF rfl rfl rfl (e_neq hF rfl rfl) ?_; intro a hF
        refine s_val hF rfl rfl rfl (e_pick_f hF rfl rfl) ?_; intro a hF
        refine s_val hF rfl rfl rfl (e_move hF rfl) ?_; intro a hF
        have hF := hF.topb (congrArg Bool.not (decide_eq_true c17))
        refine s_val hF rfl rfl rfl (e_move hF rfl) ?_; intro a hF
        refine s_val hF rfl rfl rfl (e_move hF rfl) ?_; intro a hF
        refine s_val hF rfl rfl rfl (e_bneq hF rfl rfl Try.underlying4) ?_; intro a hF
        refine s_val hF rfl rfl rfl (e_pick_f hF rfl rfl) ?_; intro a hF
        refine s_nil ?_
        refine then_n ?_
        rcases ite_cases H with ⟨c18, H⟩ | ⟨c18, H⟩
        ·
          refine s_cond_f hF rfl (congrArg Bool.not c18) ?_
          refine wp_skip ?_
          refine then_n ?_
          refine wp_seq ?_
          refine wp_seq ?_
          obtain ⟨t19, h20, H⟩ := bind_some H
          obtain ⟨t22, h23, H⟩ := bind_some H
          refine s_region ?_
          refine s_val hF rfl rfl rfl (e_move hF rfl) ?_; intro a hF
          refine s_val hF rfl rfl rfl (e_move hF rfl) ?_; intro a hF
          refine s_call hF rfl rfl rfl Try.call26 (laws_toIntS.calls K l2 u2 (q2.frm hM.frm) t19 h20) ?_; intro a w v21 hF hf hR
          have hM := hM.fresh hf hR
          refine s_call hF rfl rfl rfl Try.call28 (laws_eqIntS.calls K t8 v10 (hM.sl 2 rfl) t19 v21 (hM.sl 0 rfl) t22 h23) ?_; intro a w v hF hf hR
          subst hR; have hM := hM.grow hf
          refine s_val hF rfl rfl rfl (e_not hF rfl) ?_; intro a hF
          refine s_nil ?_
          refine then_n ?_
          rcases ite_cases H with ⟨c24, H⟩ | ⟨c24, H⟩
          ·
            refine s_cond_f hF rfl (congrArg Bool.not c24) ?_
            refine wp_skip ?_
            refine then_n ?_
            refine wp_seq ?_
            refine s_region ?_
            refine s_val hF rfl rfl rfl (e_assign hF rfl) ?_; intro a hF
            refine s_nil ?_
            refine then_n ?_
            refine wp_seq ?_
            obtain ⟨t25, h26, H⟩ := bind_some H
            refine s_region ?_
            refine s_val hF rfl rfl rfl (e_move hF rfl) ?_; intro a hF
            refine s_val hF rfl rfl rfl (e_move hF rfl) ?_; intro a hF
            refine s_callx hF rfl rfl rfl Try.call31 (laws_markIntS.calls K t8 v10 (hM.get 2 rfl) 1 t25 h26) ?_; intro a w v hF ⟨hf, hR⟩
            obtain ⟨hR, hO⟩ := hR; subst hR; have hM := hM.turn (i := 2) (R' := rowR cd3 v10 t25.2) rfl hf hO (fun _ hb => .inl hb)
            refine s_val hF rfl rfl rfl (e_assign hF rfl) ?_; intro a hF
            refine s_nil ?_
            refine then_n ?_
            refine wp_seq ?_
            refine wp_seq ?_
            rcases ite_cases H with ⟨c27, H⟩ | ⟨c27, H⟩
            ·
              refine s_region ?_
              refine s_val hF rfl rfl rfl (e_move hF rfl) ?_; intro a hF
              refine s_val hF rfl rfl rfl (e_lss hF rfl rfl) ?_; intro a hF
              refine s_val hF rfl rfl rfl (e_move hF rfl) ?_; intro a hF
              have hF := hF.topb (decide_eq_true c27)
              refine s_skip hF rfl rfl rfl ?_; intro a hF
              refine s_skip hF rfl rfl rfl ?_; intro a hF
              refine s_skip hF rfl rfl rfl ?_; intro a hF
              refine s_skip hF rfl rfl rfl ?_; intro a hF
              refine s_val hF rfl rfl rfl (e_pick_t hF rfl rfl) ?_; intro a hF
              refine s_val hF rfl rfl rfl (e_move hF rfl) ?_; intro a hF
              refine s_skip hF rfl rfl rfl ?_; intro a hF
              refine s_skip hF rfl rfl rfl ?_; intro a hF
              refine s_skip hF rfl rfl rfl ?_; intro a hF
              refine s_val hF rfl rfl rfl (e_pick_t hF rfl rfl) ?_; intro a hF
              refine s_val hF rfl rfl rfl (e_move hF rfl) ?_; intro a hF
              refine s_skip hF rfl rfl rfl ?_; intro a hF
              refine s_skip hF rfl rfl rfl ?_; intro a hF
              refine s_skip hF rfl rfl rfl ?_; intro a hF
              refine s_val hF rfl rfl rfl (e_pick_t hF rfl rfl) ?_; intro a hF
              refine s_nil ?_
              refine then_n ?_
              refine s_cond_t hF rfl rfl ?_
              refine wp_seq ?_
              refine s_region ?_
              refine s_val hF rfl rfl rfl (e_assign hF rfl) ?_; intro a hF
              refine s_nil ?_
              refine then_n ?_
              refine wp_ret ?_
              refine then_r ?_
              obtain rfl := some_some H
              refine s_ret [Value.bool false] hF Try.results13 ⟨rfl, trivial⟩ ?_
              exact ⟨_, rfl, hM.frm, rfl⟩
            ·
              obtain ⟨t28, h29, H⟩ := bind_some H
              rcases ite_cases H with ⟨c30, H⟩ | ⟨c30, H⟩
              ·
                refine s_region ?_
                refine s_val hF rfl rfl rfl (e_move hF rfl) ?_; intro a hF
                refine s_val hF rfl rfl rfl (e_lss hF rfl rfl) ?_; intro a hF
                refine s_val hF rfl rfl rfl (e_move hF rfl) ?_; intro a hF
                have hF := hF.topb (decide_eq_false c27)
                refine s_val hF rfl rfl rfl (e_move hF rfl) ?_; intro a hF
                refine s_val hF rfl rfl rfl (e_move hF rfl) ?_; intro a hF
                refine s_call hF rfl rfl rfl Try.call28 (laws_eqIntS.calls K t11.1 v13 (hM.sl 1 rfl) t5.1 v7 (hM.sl 3 rfl) t28 h29) ?_; intro a w v hF hf hR
                subst hR; have hM := hM.grow hf
                refine s_val hF rfl rfl rfl (e_not hF rfl) ?_; intro a hF
                refine s_val hF rfl rfl rfl (e_pick_f hF rfl rfl) ?_; intro a hF
                refine s_val hF rfl rfl rfl (e_move hF rfl) ?_; intro a hF
                have hF := hF.topb (congrArg Bool.not c30)
                refine s_val hF rfl rfl rfl (e_move hF rfl) ?_; intro a hF
                refine s_val hF rfl rfl rfl (e_move hF rfl) ?_; intro a hF
                refine s_val hF rfl rfl rfl (e_neq hF rfl rfl) ?_; intro a hF
                refine s_val hF rfl rfl rfl (e_pick_f hF rfl rfl) ?_; intro a hF
                refine s_val hF rfl rfl rfl (e_move hF rfl) ?_; intro a hF
                have hF := hF.topb (congrArg Bool.not (decide_eq_true c17))
                refine s_val hF rfl rfl rfl (e_move hF rfl) ?_; intro a hF
                refine s_val hF rfl rfl rfl (e_move hF rfl) ?_; intro a hF
                refine s_val hF rfl rfl rfl (e_bneq hF rfl rfl Try.underlying4) ?_; intro a hF
                refine s_val hF rfl rfl rfl (e_pick_f hF rfl rfl) ?_; intro a hF
                refine s_nil ?_
                refine then_n ?_
                refine s_cond_f hF rfl (congrArg Bool.not c18) ?_
                refine wp_skip ?_
                refine then_n ?_
                refine wp_seq ?_
                refine s_region ?_
                refine s_val hF rfl rfl rfl (e_assign hF rfl) ?_; intro a hF
                refine s_nil ?_
                refine then_n ?_
                refine wp_seq ?_
                obtain ⟨t31, h32, H⟩ := bind_some H
                refine s_region ?_
                refine s_val hF rfl rfl rfl (e_move hF rfl) ?_; intro a hF
                refine s_val hF rfl rfl rfl (e_move hF rfl) ?_; intro a hF
                refine s_callx hF rfl rfl rfl Try.call31 (laws_markIntS.calls K t11.1 v13 (hM.get 1 rfl) 1 t31 h32) ?_; intro a w v hF ⟨hf, hR⟩
                obtain ⟨hR, hO⟩ := hR; subst hR; have hM := hM.turn (i := 1) (R' := rowR cd3 v13 t31.2) rfl hf hO (fun _ hb => .inl hb)
                refine s_val hF rfl rfl rfl (e_assign hF rfl) ?_; intro a hF
                refine s_nil ?_
                refine then_n ?_
                refine wp_seq ?_
                refine s_region ?_
                refine s_val hF rfl rfl rfl (e_assign hF rfl) ?_; intro a hF
                refine s_nil ?_
                refine then_n ?_
                refine wp_seq ?_
                obtain ⟨t33, h34, H⟩ := bind_some H
                refine s_region ?_
                refine s_val hF rfl rfl rfl (e_move hF rfl) ?_; intro a hF
                refine s_val hF rfl rfl rfl (e_move hF rfl) ?_; intro a hF
                refine s_call hF rfl rfl rfl Try.call32 (laws_heldIntS.calls K t31.2 v13 (hM.sl 1 rfl) 1 t33 h34) ?_; intro a w v hF hf hR
                subst hR; have hM := hM.grow hf
                refine s_val hF rfl rfl rfl (e_assign hF rfl) ?_; intro a hF
                refine s_nil ?_
                refine then_n ?_
                refine wp_seq ?_
                refine wp_seq ?_
                refine s_region ?_
                refine s_val hF rfl rfl rfl (e_move hF rfl) ?_; intro a hF
                refine s_val hF rfl rfl rfl (e_lss hF rfl rfl) ?_; intro a hF
                refine s_nil ?_
                refine then_n ?_
                rcases ite_cases H with ⟨c35, H⟩ | ⟨c35, H⟩
                ·
                  refine s_cond_t hF rfl (decide_eq_true c35) ?_
                  refine wp_seq ?_
                  refine s_region ?_
                  refine s_val hF rfl rfl rfl (e_assign hF rfl) ?_; intro a hF
                  refine s_nil ?_
                  refine then_n ?_
                  refine wp_ret ?_
                  refine then_r ?_
                  obtain rfl := some_some H
                  refine s_ret [Value.bool false] hF Try.results13 ⟨rfl, trivial⟩ ?_
                  exact ⟨_, rfl, hM.frm, rfl⟩
                ·
                  refine s_cond_f hF rfl (decide_eq_false c35) ?_
                  refine wp_skip ?_
                  refine then_n ?_
                  refine wp_seq ?_
                  refine wp_seq ?_
                  refine s_region ?_
                  refine s_val hF rfl rfl rfl (e_move hF rfl) ?_; intro a hF
                  refine s_val hF rfl rfl rfl (e_move hF rfl) ?_; intro a hF
                  refine s_val hF rfl rfl rfl (e_neq hF rfl rfl) ?_; intro a hF
                  refine s_nil ?_
                  refine then_n ?_
                  rcases ite_cases H with ⟨c36, H⟩ | ⟨c36, H⟩
                  ·
                    refine s_cond_f hF rfl (congrArg Bool.not (decide_eq_true c36)) ?_
                    refine wp_skip ?_
                    refine then_n ?_
                    refine wp_seq ?_
                    obtain ⟨t37, h38, H⟩ := bind_some H
                    obtain ⟨t40, h41, H⟩ := bind_some H
                    refine s_region ?_
                    refine s_val hF rfl rfl rfl (e_move hF rfl) ?_; intro a hF
                    refine s_val hF rfl rfl rfl (e_move hF rfl) ?_; intro a hF
                    refine s_val hF rfl rfl rfl (e_move hF rfl) ?_; intro a hF
                    refine s_call hF rfl rfl rfl Try.call26 (laws_toIntS.calls K l2 u2 (q2.frm hM.frm) t37 h38) ?_; intro a w v39 hF hf hR
                    have hM := hM.fresh hf hR
                    refine s_call hF rfl rfl rfl Try.call42 (impl_MakeList.calls K a0 a1 t37 v39 (hM.sl 0 rfl) t40 h41) ?_; intro a w v hF hf hR
                    obtain ⟨v42, rfl, hR⟩ := hR; have hM := hM.fresh hf hR
                    refine s_val hF rfl rfl rfl (e_move hF rfl) ?_; intro a hF
                    refine s_val hF rfl rfl rfl (e_extract hF rfl rfl) ?_; intro a hF
                    refine s_val hF rfl rfl rfl (e_extract hF rfl rfl) ?_; intro a hF
                    refine s_val hF rfl rfl rfl (e_extract hF rfl rfl) ?_; intro a hF
                    refine s_val hF rfl rfl rfl (e_assign hF rfl) ?_; intro a hF
                    refine s_val hF rfl rfl rfl (e_assign hF rfl) ?_; intro a hF
                    refine s_val hF rfl rfl rfl (e_assign hF rfl) ?_; intro a hF
                    refine s_nil ?_
                    refine then_n ?_
                    refine wp_seq ?_
                    refine wp_seq ?_
                    obtain ⟨t43, h44, H⟩ := bind_some H
                    rcases ite_cases H with ⟨c45, H⟩ | ⟨c45, H⟩
                    ·
                      rcases ite_cases H with ⟨c46, H⟩ | ⟨c46, H⟩
                      ·
                        refine s_region ?_
                        refine s_val hF rfl rfl rfl (e_move hF rfl) ?_; intro a hF
                        refine s_val hF rfl rfl rfl (e_move hF rfl) ?_; intro a hF
                        refine s_call hF rfl rfl rfl Try.call28 (laws_eqIntS.calls K t40.1 v42 (hM.sl 0 rfl) t5.1 v7 (hM.sl 5 rfl) t43 h44) ?_; intro a w v hF hf hR
                        subst hR; have hM := hM.grow hf
                        refine s_val hF rfl rfl rfl (e_not hF rfl) ?_; intro a hF
                        refine s_val hF rfl rfl rfl (e_move hF rfl) ?_; intro a hF
                        have hF := hF.topb (congrArg Bool.not c45)
                        refine s_val hF rfl rfl rfl (e_move hF rfl) ?_; intro a hF
                        refine s_val hF rfl rfl rfl (e_move hF rfl) ?_; intro a hF
                        refine s_val hF rfl rfl rfl (e_neq hF rfl rfl) ?_; intro a hF
                        refine s_val hF rfl rfl rfl (e_pick_f hF rfl rfl) ?_; intro a hF
                        refine s_val hF rfl rfl rfl (e_move hF rfl) ?_; intro a hF
                        have hF := hF.topb (congrArg Bool.not (decide_eq_true c46))
                        refine s_val hF rfl rfl rfl (e_move hF rfl) ?_; intro a hF
                        refine s_val hF rfl rfl rfl (e_move hF rfl) ?_; intro a hF
                        refine s_val hF rfl rfl rfl (e_bneq hF rfl rfl Try.underlying4) ?_; intro a hF
                        refine s_val hF rfl rfl rfl (e_pick_f hF rfl rfl) ?_; intro a hF
                        refine s_nil ?_
                        refine then_n ?_
                        rcases ite_cases H with ⟨c47, H⟩ | ⟨c47, H⟩
                        ·
                          refine s_cond_f hF rfl (congrArg Bool.not c47) ?_
                          refine wp_skip ?_
                          refine then_n ?_
                          refine wp_seq ?_
                          refine s_region ?_
                          refine s_val hF rfl rfl rfl (e_assign hF rfl) ?_; intro a hF
                          refine s_nil ?_
                          refine then_n ?_
                          refine wp_seq ?_
                          obtain ⟨t48, h49, H⟩ := bind_some H
                          refine s_region ?_
                          refine s_val hF rfl rfl rfl (e_move hF rfl) ?_; intro a hF
                          refine s_val hF rfl rfl rfl (e_move hF rfl) ?_; intro a hF
                          refine s_call hF rfl rfl rfl Try.call32 (laws_heldIntS.calls K t31.2 v13 (hM.sl 3 rfl) 1 t48 h49) ?_; intro a w v hF hf hR
                          subst hR; have hM := hM.grow hf
                          refine s_val hF rfl rfl rfl (e_assign hF rfl) ?_; intro a hF
                          refine s_nil ?_
                          refine then_n ?_
                          refine wp_seq ?_
                          refine wp_seq ?_
                          refine s_region ?_
                          refine s_val hF rfl rfl rfl (e_move hF rfl) ?_; intro a hF
                          refine s_val hF rfl rfl rfl (e_lss hF rfl rfl) ?_; intro a hF
                          refine s_nil ?_
                          refine then_n ?_
                          rcases ite_cases H with ⟨c50, H⟩ | ⟨c50, H⟩
                          ·
                            refine s_cond_t hF rfl (decide_eq_true c50) ?_
                            refine wp_seq ?_
                            refine s_region ?_
                            refine s_val hF rfl rfl rfl (e_assign hF rfl) ?_; intro a hF
                            refine s_nil ?_
                            refine then_n ?_
                            refine wp_ret ?_
                            refine then_r ?_
                            obtain rfl := some_some H
                            refine s_ret [Value.bool false] hF Try.results13 ⟨rfl, trivial⟩ ?_
                            exact ⟨_, rfl, hM.frm, rfl⟩
                          ·
                            refine s_cond_f hF rfl (decide_eq_false c50) ?_
                            refine wp_skip ?_
                            refine then_n ?_
                            refine wp_seq ?_
                            refine wp_seq ?_
                            refine s_region ?_
                            refine s_val hF rfl rfl rfl (e_move hF rfl) ?_; intro a hF
                            refine s_val hF rfl rfl rfl (e_move hF rfl) ?_; intro a hF
                            refine s_val hF rfl rfl rfl (e_neq hF rfl rfl) ?_; intro a hF
                            refine s_nil ?_
                            refine then_n ?_
                            rcases ite_cases H with ⟨c51, H⟩ | ⟨c51, H⟩
                            ·
                              refine s_cond_f hF rfl (congrArg Bool.not (decide_eq_true c51)) ?_
                              refine wp_skip ?_
                              refine then_n ?_
                              refine wp_seq ?_
                              refine s_region ?_
                              refine s_val hF rfl rfl rfl (e_assign hF rfl) ?_; intro a hF
                              refine s_nil ?_
                              refine then_n ?_
                              refine wp_ret ?_
                              obtain rfl := some_some H
                              refine s_ret [Value.bool true] hF Try.results13 ⟨rfl, trivial⟩ ?_
                              exact ⟨_, rfl, hM.frm, rfl⟩
                            ·
                              refine s_cond_t hF rfl (congrArg Bool.not (decide_eq_false c51)) ?_
                              refine wp_seq ?_
                              refine s_region ?_
                              refine s_val hF rfl rfl rfl (e_assign hF rfl) ?_; intro a hF
                              refine s_nil ?_
                              refine then_n ?_
                              refine wp_ret ?_
                              refine then_r ?_
                              obtain rfl := some_some H
                              refine s_ret [Value.bool false] hF Try.results13 ⟨rfl, trivial⟩ ?_
                              exact ⟨_, rfl, hM.frm, rfl⟩
                        ·
                          refine s_cond_t hF rfl (congrArg Bool.not (bf c47)) ?_
                          refine wp_seq ?_
                          refine s_region ?_
                          refine s_val hF rfl rfl rfl (e_assign hF rfl) ?_; intro a hF
                          refine s_nil ?_
                          refine then_n ?_
                          refine wp_ret ?_
                          refine then_r ?_
                          obtain rfl := some_some H
                          refine s_ret [Value.bool false] hF Try.results13 ⟨rfl, trivial⟩ ?_
                          exact ⟨_, rfl, hM.frm, rfl⟩
                      ·
                        refine s_region ?_
                        refine s_val hF rfl rfl rfl (e_move hF rfl) ?_; intro a hF
                        refine s_val hF rfl rfl rfl (e_move hF rfl) ?_; intro a hF
                        refine s_call hF rfl rfl rfl Try.call28 (laws_eqIntS.calls K t40.1 v42 (hM.sl 0 rfl) t5.1 v7 (hM.sl 5 rfl) t43 h44) ?_; intro a w v hF hf hR
                        subst hR; have hM := hM.grow hf
                        refine s_val hF rfl rfl rfl (e_not hF rfl) ?_; intro a hF
                        refine s_val hF rfl rfl rfl (e_move hF rfl) ?_; intro a hF
                        have hF := hF.topb (congrArg Bool.not c45)
                        refine s_val hF rfl rfl rfl (e_move hF rfl) ?_; intro a hF
                        refine s_val hF rfl rfl rfl (e_move hF rfl) ?_; intro a hF
                        refine s_val hF rfl rfl rfl (e_neq hF rfl rfl) ?_; intro a hF
                        refine s_val hF rfl rfl rfl (e_pick_f hF rfl rfl) ?_; intro a hF
                        refine s_val hF rfl rfl rfl (e_move hF rfl) ?_; intro a hF
                        have hF := hF.topb (congrArg Bool.not (decide_eq_false c46))
                        refine s_skip hF rfl rfl rfl ?_; intro a hF
                        refine s_skip hF rfl rfl rfl ?_; intro a hF
                        refine s_skip hF rfl rfl rfl ?_; intro a hF
                        refine s_val hF rfl rfl rfl (e_pick_t hF rfl rfl) ?_; intro a hF
                        refine s_nil ?_
                        refine then_n ?_
                        refine s_cond_t hF rfl rfl ?_
                        refine wp_seq ?_
                        refine s_region ?_
                        refine s_val hF rfl rfl rfl (e_assign hF rfl) ?_; intro a hF
                        refine s_nil ?_
                        refine then_n ?_
                        refine wp_ret ?_
                        refine then_r ?_
                        obtain rfl := some_some H
                        refine s_ret [Value.bool false] hF Try.results13 ⟨rfl, trivial⟩ ?_
                        exact ⟨_, rfl, hM.frm, rfl⟩
                    ·
                      refine s_region ?_
                      refine s_val hF rfl rfl rfl (e_move hF rfl) ?_; intro a hF
                      refine s_val hF rfl rfl rfl (e_move hF rfl) ?_; intro a hF
                      refine s_call hF rfl rfl rfl Try.call28 (laws_eqIntS.calls K t40.1 v42 (hM.sl 0 rfl) t5.1 v7 (hM.sl 5 rfl) t43 h44) ?_; intro a w v hF hf hR
                      subst hR; have hM := hM.grow hf
                      refine s_val hF rfl rfl rfl (e_not hF rfl) ?_; intro a hF
                      refine s_val hF rfl rfl rfl (e_move hF rfl) ?_; intro a hF
                      have hF := hF.topb (congrArg Bool.not (bf c45))
                      refine s_skip hF rfl rfl rfl ?_; intro a hF
                      refine s_skip hF rfl rfl rfl ?_; intro a hF
                      refine s_skip hF rfl rfl rfl ?_; intro a hF
                      refine s_val hF rfl rfl rfl (e_pick_t hF rfl rfl) ?_; intro a hF
                      refine s_val hF rfl rfl rfl (e_move hF rfl) ?_; intro a hF
                      refine s_skip hF rfl rfl rfl ?_; intro a hF
                      refine s_skip hF rfl rfl rfl ?_; intro a hF
                      refine s_skip hF rfl rfl rfl ?_; intro a hF
                      refine s_val hF rfl rfl rfl (e_pick_t hF rfl rfl) ?_; intro a hF
                      refine s_nil ?_
                      refine then_n ?_
                      refine s_cond_t hF rfl rfl ?_
                      refine wp_seq ?_
                      refine s_region ?_
                      refine s_val hF rfl rfl rfl (e_assign hF rfl) ?_; intro a hF
                      refine s_nil ?_
                      refine then_n ?_
                      refine wp_ret ?_
                      refine then_r ?_
                      obtain rfl := some_some H
                      refine s_ret [Value.bool false] hF Try.results13 ⟨rfl, trivial⟩ ?_
                      exact ⟨_, rfl, hM.frm, rfl⟩
                  ·
                    refine s_cond_t hF rfl (congrArg Bool.not (decide_eq_false c36)) ?_
                    refine wp_seq ?_
                    refine s_region ?_
                    refine s_val hF rfl rfl rfl (e_assign hF rfl) ?_; intro a hF
                    refine s_nil ?_
                    refine then_n ?_
                    refine wp_ret ?_
                    refine then_r ?_
                    obtain rfl := some_some H
                    refine s_ret [Value.bool false] hF Try.results13 ⟨rfl, trivial⟩ ?_
                    exact ⟨_, rfl, hM.frm, rfl⟩
              ·
                refine s_region ?_
                refine s_val hF rfl rfl rfl (e_move hF rfl) ?_; intro a hF
                refine s_val hF rfl rfl rfl (e_lss hF rfl rfl) ?_; intro a hF
                refine s_val hF rfl rfl rfl (e_move hF rfl) ?_; intro a hF
                have hF := hF.topb (decide_eq_false c27)
                refine s_val hF rfl rfl rfl (e_move hF rfl) ?_; intro a hF
                refine s_val hF rfl rfl rfl (e_move hF rfl) ?_; intro a hF
                refine s_call hF rfl rfl rfl Try.call28 (laws_eqIntS.calls K t11.1 v13 (hM.sl 1 rfl) t5.1 v7 (hM.sl 3 rfl) t28 h29) ?_; intro a w v hF hf hR
                subst hR; have hM := hM.grow hf
                refine s_val hF rfl rfl rfl (e_not hF rfl) ?_; intro a hF
                refine s_val hF rfl rfl rfl (e_pick_f hF rfl rfl) ?_; intro a hF
                refine s_val hF rfl rfl rfl (e_move hF rfl) ?_; intro a hF
                have hF := hF.topb (congrArg Bool.not (bf c30))
                refine s_skip hF rfl rfl rfl ?_; intro a hF
                refine s_skip hF rfl rfl rfl ?_; intro a hF
                refine s_skip hF rfl rfl rfl ?_; intro a hF
                refine s_val hF rfl rfl rfl (e_pick_t hF rfl rfl) ?_; intro a hF
                refine s_val hF rfl rfl rfl (e_move hF rfl) ?_; intro a hF
                refine s_skip hF rfl rfl rfl ?_; intro a hF
                refine s_skip hF rfl rfl rfl ?_; intro a hF
                refine s_skip hF rfl rfl rfl ?_; intro a hF
                refine s_val hF rfl rfl rfl (e_pick_t hF rfl rfl) ?_; intro a hF
                refine s_nil ?_
                refine then_n ?_
                refine s_cond_t hF rfl rfl ?_
                refine wp_seq ?_
                refine s_region ?_
                refine s_val hF rfl rfl rfl (e_assign hF rfl) ?_; intro a hF
                refine s_nil ?_
                refine then_n ?_
                refine wp_ret ?_
                refine then_r ?_
                obtain rfl := some_some H
                refine s_ret [Value.bool false] hF Try.results13 ⟨rfl, trivial⟩ ?_
                exact ⟨_, rfl, hM.frm, rfl⟩
          ·
            refine s_cond_t hF rfl (congrArg Bool.not (bf c24)) ?_
            refine wp_seq ?_
            refine s_region ?_
            refine s_val hF rfl rfl rfl (e_assign hF rfl) ?_; intro a hF
            refine s_nil ?_
            refine then_n ?_
            refine wp_ret ?_
            refine then_r ?_
            obtain rfl := some_some H
            refine s_ret [Value.bool false] hF Try.results13 ⟨rfl, trivial⟩ ?_
            exact ⟨_, rfl, hM.frm, rfl⟩
        ·
          refine s_cond_t hF rfl (congrArg Bool.not (bf c18)) ?_
          refine wp_seq ?_
          refine s_region ?_
          refine s_val hF rfl rfl rfl (e_assign hF rfl) ?_; intro a hF
          refine s_nil ?_
          refine then_n ?_
          refine wp_ret ?_
          refine then_r ?_
          obtain rfl := some_some H
          refine s_ret [Value.bool false] hF Try.results13 ⟨rfl, trivial⟩ ?_
          exact ⟨_, rfl, hM.frm, rfl⟩
      ·
        refine s_region ?_
        refine s_val hF rfl rfl rfl (e_move hF rfl) ?_; intro a hF
        refine s_val hF rfl rfl rfl (e_move hF rfl) ?_; intro a hF
        refine s_call hF rfl rfl rfl Try.call28 (laws_eqIntS.calls K t11.1 v13 (hM.sl 0 rfl) t5.1 v7 (hM.sl 2 rfl) t14 h15) ?_; intro a w v hF hf hR
        subst hR; have hM := hM.grow hf
        refine s_val hF rfl rfl rfl (e_not hF rfl) ?_; intro a hF
        refine s_val hF rfl rfl rfl (e_move hF rfl) ?_; intro a hF
        have hF := hF.topb (congrArg Bool.not c16)
        refine s_val hF rfl rfl rfl (e_move hF rfl) ?_; intro a hF
        refine s_val hF rfl rfl rfl (e_move hF rfl) ?_; intro a hF
        refine s_val hF rfl rfl rfl (e_neq hF rfl rfl) ?_; intro a hF
        refine s_val hF rfl rfl rfl (e_pick_f hF rfl rfl) ?_; intro a hF
        refine s_val hF rfl rfl rfl (e_move hF rfl) ?_; intro a hF
        have hF := hF.topb (congrArg Bool.not (decide_eq_false c17))
        refine s_skip hF rfl rfl rfl ?_; intro a hF
        refine s_skip hF rfl rfl rfl ?_; intro a hF
        refine s_skip hF rfl rfl rfl ?_; intro a hF
        refine s_val hF rfl rfl rfl (e_pick_t hF rfl rfl) ?_; intro a hF
        refine s_nil ?_
        refine then_n ?_
        refine s_cond_t hF rfl rfl ?_
        refine wp_seq ?_
        refine s_region ?_
        refine s_val hF rfl rfl rfl (e_assign hF rfl) ?_; intro a hF
        refine s_nil ?_
        refine then_n ?_
        refine wp_ret ?_
        refine then_r ?_
        obtain rfl := some_some H
        refine s_ret [Value.bool false] hF Try.results13 ⟨rfl, trivial⟩ ?_
        exact ⟨_, rfl, hM.frm, rfl⟩
    ·
      refine s_region ?_
      refine s_val hF rfl rfl rfl (e_move hF rfl) ?_; intro a hF
      refine s_val hF rfl rfl rfl (e_move hF rfl) ?_; intro a hF
      refine s_call hF rfl rfl rfl Try.call28 (laws_eqIntS.calls K t11.1 v13 (hM.sl 0 rfl) t5.1 v7 (hM.sl 2 rfl) t14 h15) ?_; intro a w v hF hf hR
      subst hR; have hM := hM.grow hf
      refine s_val hF rfl rfl rfl (e_not hF rfl) ?_; intro a hF
      refine s_val hF rfl rfl rfl (e_move hF rfl) ?_; intro a hF
      have hF := hF.topb (congrArg Bool.not (bf c16))
      refine s_skip hF rfl rfl rfl ?_; intro a hF
      refine s_skip hF rfl rfl rfl ?_; intro a hF
      refine s_skip hF rfl rfl rfl ?_; intro a hF
      refine s_val hF rfl rfl rfl (e_pick_t hF rfl rfl) ?_; intro a hF
      refine s_val hF rfl rfl rfl (e_move hF rfl) ?_; intro a hF
      refine s_skip hF rfl rfl rfl ?_; intro a hF
      refine s_skip hF rfl rfl rfl ?_; intro a hF
      refine s_skip hF rfl rfl rfl ?_; intro a hF
      refine s_val hF rfl rfl rfl (e_pick_t hF rfl rfl) ?_; intro a hF
      refine s_nil ?_
      refine then_n ?_
      refine s_cond_t hF rfl rfl ?_
      refine wp_seq ?_
      refine s_region ?_
      refine s_val hF rfl rfl rfl (e_assign hF rfl) ?_; intro a hF
      refine s_nil ?_
      refine then_n ?_
      refine wp_ret ?_
      refine then_r ?_
      obtain rfl := some_some H
      refine s_ret [Value.bool false] hF Try.results13 ⟨rfl, trivial⟩ ?_
      exact ⟨_, rfl, hM.frm, rfl⟩

/-! ### loop.example/g01210/spec.MakeNumber: function 35 -/
def spec_MakeNumber.f (K : Nat) (a0 : Int) (l1 : (List Int)) : Option (Int × Bool × Bool) := (spec_l9Throws.f K l1 6).bind fun t1 => if t1 = true then ((spec_l9Good.f K a0 (l1.length : Int)).bind fun t4 => if t4 = true then ((spec_l9Number.f K l1).bind fun t7 => (spec_l9Taken.f K a0 (l1.length : Int)).bind fun t9 => if t9 ≤ t7 then (some (0, false, true)) else (if a0 ≠ 0 then (some ((t7.tmod a0), true, true)) else none)) else (some (0, false, false))) else (some (0, false, false))
set_option maxRecDepth 100000 in
set_option maxHeartbeats 4000000 in
theorem spec_MakeNumber.calls {w0 : World} (K : Nat) (a0 : Int) (l1 : (List Int)) (u1 : Value) (q1 : SlR cd3 w0 u1 l1) (r : (Int × Bool × Bool)) (H : spec_MakeNumber.f K a0 l1 = some r) : Calls Try.prog 35 [Value.int .i64 a0, u1].toArray w0 (Post w0 fun w v => v = Value.tuple #[Value.int .i64 r.1, Value.bool r.2.1, Value.bool r.2.2]) := by
  rw [spec_MakeNumber.f] at H
  refine s_start Try.func35 rfl Try.ntmps35 rfl ?_
  intro a hF
  have hM := Ms.start w0
  skip
  refine wp_seq ?_
  refine s_region ?_
  refine s_val hF rfl rfl rfl (e_assign hF rfl) ?_; intro a hF
  refine s_val hF rfl rfl rfl (e_assign hF rfl) ?_; intro a hF
  refine s_val hF rfl rfl rfl (e_assign hF rfl) ?_; intro a hF
  refine s_nil ?_
  refine then_n ?_
  refine wp_seq ?_
  refine wp_seq ?_
  obtain ⟨t1, h2, H⟩ := bind_some H
  rcases ite_cases H with ⟨c3, H⟩ | ⟨c3, H⟩
  ·
    obtain ⟨t4, h5, H⟩ := bind_some H
    refine s_region ?_
    refine s_val hF rfl rfl rfl (e_move hF rfl) ?_; intro a hF
    refine s_call hF rfl rfl rfl Try.call61 (spec_l9Throws.calls K l1 u1 (q1.frm hM.frm) 6 t1 h2) ?_; intro a w v hF hf hR
    subst hR; have hM := hM.grow hf
    refine s_val hF rfl rfl rfl (e_not hF rfl) ?_; intro a hF
    refine s_val hF rfl rfl rfl (e_move hF rfl) ?_; intro a hF
    have hF := hF.topb (congrArg Bool.not c3)
    refine s_val hF rfl rfl rfl (e_move hF rfl) ?_; intro a hF
    refine s_val hF rfl rfl rfl (e_move hF rfl) ?_; intro a hF
    refine s_val hF rfl rfl rfl (e_len hF rfl (q1.frm hM.frm).toF Try.underlying32) ?_; intro a hF
    refine s_call hF rfl rfl rfl Try.call55 (spec_l9Good.calls K a0 (l1.length : Int) t4 h5) ?_; intro a w v hF hf hR
    subst hR; have hM := hM.grow hf
    refine s_val hF rfl rfl rfl (e_not hF rfl) ?_; intro a hF
    refine s_val hF rfl rfl rfl (e_pick_f hF rfl rfl) ?_; intro a hF
    refine s_nil ?_
    refine then_n ?_
    rcases ite_cases H with ⟨c6, H⟩ | ⟨c6, H⟩
    ·
      refine s_cond_f hF rfl (congrArg Bool.not c6) ?_
      refine wp_skip ?_
      refine then_n ?_
      refine wp_seq ?_
      obtain ⟨t7, h8, H⟩ := bind_some H
      refine s_region ?_
      refine s_val hF rfl rfl rfl (e_move hF rfl) ?_; intro a hF
      refine s_call hF rfl rfl rfl Try.call62 (spec_l9Number.calls K l1 u1 (q1.frm hM.frm) t7 h8) ?_; intro a w v hF hf hR
      subst hR; have hM := hM.grow hf
      refine s_val hF rfl rfl rfl (e_assign hF rfl) ?_; intro a hF
      refine s_nil ?_
      refine then_n ?_
      refine wp_seq ?_
      refine wp_seq ?_
      obtain ⟨t9, h10, H⟩ := bind_some H
      refine s_region ?_
      refine s_val hF rfl rfl rfl (e_move hF rfl) ?_; intro a hF
      refine s_val hF rfl rfl rfl (e_move hF rfl) ?_; intro a hF
      refine s_val hF rfl rfl rfl (e_move hF rfl) ?_; intro a hF
      refine s_val hF rfl rfl rfl (e_len hF rfl (q1.frm hM.frm).toF Try.underlying32) ?_; intro a hF
      refine s_call hF rfl rfl rfl Try.call56 (spec_l9Taken.calls K a0 (l1.length : Int) t9 h10) ?_; intro a w v hF hf hR
      subst hR; have hM := hM.grow hf
      refine s_val hF rfl rfl rfl (e_geq hF rfl rfl) ?_; intro a hF
      refine s_nil ?_
      refine then_n ?_
      rcases ite_cases H with ⟨c11, H⟩ | ⟨c11, H⟩
      ·
        refine s_cond_t hF rfl (decide_eq_true c11) ?_
        refine wp_seq ?_
        refine s_region ?_
        refine s_val hF rfl rfl rfl (e_assign hF rfl) ?_; intro a hF
        refine s_val hF rfl rfl rfl (e_assign hF rfl) ?_; intro a hF
        refine s_val hF rfl rfl rfl (e_assign hF rfl) ?_; intro a hF
        refine s_nil ?_
        refine then_n ?_
        refine wp_ret ?_
        refine then_r ?_
        obtain rfl := some_some H
        refine s_ret [Value.int .i64 0, Value.bool false, Value.bool true] hF Try.results35 ⟨rfl, rfl, rfl, trivial⟩ ?_
        exact ⟨_, rfl, hM.frm, rfl⟩
      ·
        refine s_cond_f hF rfl (decide_eq_false c11) ?_
        refine wp_skip ?_
        refine then_n ?_
        refine wp_seq ?_
        obtain ⟨c12, H⟩ := ite_some H
        refine s_region ?_
        refine s_val hF rfl rfl rfl (e_move hF rfl) ?_; intro a hF
        refine s_val hF rfl rfl rfl (e_move hF rfl) ?_; intro a hF
        refine s_val hF rfl rfl rfl (e_rem hF rfl rfl c12) ?_; intro a hF
        refine s_val hF rfl rfl rfl (e_assign hF rfl) ?_; intro a hF
        refine s_val hF rfl rfl rfl (e_assign hF rfl) ?_; intro a hF
        refine s_val hF rfl rfl rfl (e_assign hF rfl) ?_; intro a hF
        refine s_nil ?_
        refine then_n ?_
        refine wp_ret ?_
        obtain rfl := some_some H
        refine s_ret [Value.int .i64 (t7.tmod a0), Value.bool true, Value.bool true] hF Try.results35 ⟨rfl, rfl, rfl, trivial⟩ ?_
        exact ⟨_, rfl, hM.frm, rfl⟩
    ·
      refine s_cond_t hF rfl (congrArg Bool.not (bf c6)) ?_
      refine wp_seq ?_
      refine s_region ?_
      refine s_val hF rfl rfl rfl (e_assign hF rfl) ?_; intro a hF
      refine s_val hF rfl rfl rfl (e_assign hF rfl) ?_; intro a hF
      refine s_val hF rfl rfl rfl (e_assign hF rfl) ?_; intro a hF
      refine s_nil ?_
      refine then_n ?_
      refine wp_ret ?_
      refine then_r ?_
      obtain rfl := some_some H
      refine s_ret [Value.int .i64 0, Value.bool false, Value.bool false] hF Try.results35 ⟨rfl, rfl, rfl, trivial⟩ ?_
      exact ⟨_, rfl, hM.frm, rfl⟩
  ·
    refine s_region ?_
    refine s_val hF rfl rfl rfl (e_move hF rfl) ?_; intro a hF
    refine s_call hF rfl rfl rfl Try.call61 (spec_l9Throws.calls K l1 u1 (q1.frm hM.frm) 6 t1 h2) ?_; intro a w v hF hf hR
    subst hR; have hM := hM.grow hf
    refine s_val hF rfl rfl rfl (e_not hF rfl) ?_; intro a hF
    refine s_val hF rfl rfl rfl (e_move hF rfl) ?_; intro a hF
    have hF := hF.topb (congrArg Bool.not (bf c3))
    refine s_skip hF rfl rfl rfl ?_; intro a hF
    refine s_skip hF rfl rfl rfl ?_; intro a hF
    refine s_skip hF rfl rfl rfl ?_; intro a hF
    refine s_skip hF rfl rfl rfl ?_; intro a hF
    refine s_skip hF rfl rfl rfl ?_; intro a hF
    refine s_val hF rfl rfl rfl (e_pick_t hF rfl rfl) ?_; intro a hF
    refine s_nil ?_
    refine then_n ?_
    refine s_cond_t hF rfl rfl ?_
    refine wp_seq ?_
    refine s_region ?_
    refine s_val hF rfl rfl rfl (e_assign hF rfl) ?_; intro a hF
    refine s_val hF rfl rfl rfl (e_assign hF rfl) ?_; intro a hF
    refine s_val hF rfl rfl rfl (e_assign hF rfl) ?_; intro a hF
    refine s_nil ?_
    refine then_n ?_
    refine wp_ret ?_
    refine then_r ?_
    obtain rfl := some_some H
    refine s_ret [Value.int .i64 0, Value.bool false, Value.bool false] hF Try.results35 ⟨rfl, rfl, rfl, trivial⟩ ?_
    exact ⟨_, rfl, hM.frm, rfl⟩

end Go.Proofs.Ytbknafijehakbaa.WMakeList

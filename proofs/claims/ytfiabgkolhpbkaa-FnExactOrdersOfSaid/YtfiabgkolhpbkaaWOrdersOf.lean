/- The walk through the code that the statement reaches: what each function computes. Conditions: none but those in each line. -/
import Derived.Test.YtfiabgkolhpbkaaProg
import Derived.Test.YtfiabgkolhpbkaaK
namespace Go.Proofs.Ytfiabgkolhpbkaa.WOrdersOf
open Go.K Go.RowKit
set_option linter.unusedVariables false
set_option linter.unusedSimpArgs false

def cd3 : Cd Int := ⟨3, 1, 8, fun x => [Pt.int x], fun x => Value.int .i64 x, (0 : Int), fun _ => rfl, fun _ => rfl, by decide⟩
theorem cdok3 : CdOk Try.prog cd3 := by
  obtain ⟨i, h1, h2, h3, h4⟩ := info_parts (by kernel_rfl : (Try.prog.info? 3).map (fun i => (i.zero, i.size, i.bytes)) = some (some (cd3.v cd3.z), 1, 8))
  exact ⟨⟨i, h1, h3, h4, h2⟩, by decide⟩
def cd48 : Cd (Ar 4) := ⟨48, 4, 32, fun x => [Pt.ar x], fun x => ag [Pt.ar x], (Ar.zero 4), fun _ => rfl, fun _ => rfl, by decide⟩
theorem cdok48 : CdOk Try.prog cd48 := by
  obtain ⟨i, h1, h2, h3, h4⟩ := info_parts (by kernel_rfl : (Try.prog.info? 48).map (fun i => (i.zero, i.size, i.bytes)) = some (some (cd48.v cd48.z), 4, 32))
  exact ⟨⟨i, h1, h3, h4, h2⟩, by decide⟩
theorem zv32 (w : World) : (zeroValue 32).run Try.prog w = .ok (Value.slice none 0 0) w := by kernel_rfl
theorem zv48 (w : World) : (zeroValue 48).run Try.prog w = .ok (ag [Pt.ar (Ar.zero 4)]) w := by kernel_rfl
theorem zv74 (w : World) : (zeroValue 74).run Try.prog w = .ok (Value.nilFunc) w := by kernel_rfl
theorem bld48 (A0 : (Ar 4)) : Try.prog.built 48 [(0, ag [Pt.ar A0])] = some (cat [Pt.ar A0]).toArray := by
  obtain ⟨A0_0, A0_1, A0_2, A0_3, rfl⟩ := Ar.cases4 A0
  kernel_rfl
theorem mixed : Try.prog.follows .mixedOrders = true := by kernel_rfl

/-! ### loop.example/g01210/spec.l1In: function 43 -/
def spec_l1In.f (K : Nat) (a0 : Int) (a1 : Int) (a2 : Int) : Option Bool := if a1 ≤ a0 then (some (decide (a0 ≤ a2))) else (some false)
set_option maxRecDepth 100000 in
set_option maxHeartbeats 4000000 in
theorem spec_l1In.calls {w0 : World} (K : Nat) (a0 : Int) (a1 : Int) (a2 : Int) (r : Bool) (H : spec_l1In.f K a0 a1 a2 = some r) : Calls Try.prog 43 [Value.int .i64 a0, Value.int .i64 a1, Value.int .i64 a2].toArray w0 (Post w0 fun w v => v = Value.bool r) := by
  rw [spec_l1In.f] at H
  refine s_start Try.func43 rfl Try.ntmps43 rfl ?_
  intro a hF
  have hM := Ms.start w0
  skip
  refine wp_seq ?_
  refine s_region ?_
  refine s_val hF rfl rfl rfl (e_assign hF rfl) ?_; intro a hF
  refine s_nil ?_
  refine then_n ?_
  refine wp_seq ?_
  rcases ite_cases H with ⟨c1, H⟩ | ⟨c1, H⟩
  ·
    refine s_region ?_
    refine s_val hF rfl rfl rfl (e_move hF rfl) ?_; intro a hF
    refine s_val hF rfl rfl rfl (e_move hF rfl) ?_; intro a hF
    refine s_val hF rfl rfl rfl (e_geq hF rfl rfl) ?_; intro a hF
    refine s_val hF rfl rfl rfl (e_move hF rfl) ?_; intro a hF
    have hF := hF.topb (decide_eq_true c1)
    refine s_val hF rfl rfl rfl (e_move hF rfl) ?_; intro a hF
    refine s_val hF rfl rfl rfl (e_move hF rfl) ?_; intro a hF
    refine s_val hF rfl rfl rfl (e_leq hF rfl rfl) ?_; intro a hF
    refine s_val hF rfl rfl rfl (e_pick_t hF rfl rfl) ?_; intro a hF
    refine s_val hF rfl rfl rfl (e_assign hF rfl) ?_; intro a hF
    refine s_nil ?_
    refine then_n ?_
    refine wp_ret ?_
    obtain rfl := some_some H
    refine s_ret [Value.bool (decide (a0 ≤ a2))] hF Try.results43 ⟨rfl, trivial⟩ ?_
    exact ⟨_, rfl, hM.frm, rfl⟩
  ·
    refine s_region ?_
    refine s_val hF rfl rfl rfl (e_move hF rfl) ?_; intro a hF
    refine s_val hF rfl rfl rfl (e_move hF rfl) ?_; intro a hF
    refine s_val hF rfl rfl rfl (e_geq hF rfl rfl) ?_; intro a hF
    refine s_val hF rfl rfl rfl (e_move hF rfl) ?_; intro a hF
    have hF := hF.topb (decide_eq_false c1)
    refine s_skip hF rfl rfl rfl ?_; intro a hF
    refine s_skip hF rfl rfl rfl ?_; intro a hF
    refine s_skip hF rfl rfl rfl ?_; intro a hF
    refine s_val hF rfl rfl rfl (e_pick_f hF rfl rfl) ?_; intro a hF
    refine s_val hF rfl rfl rfl (e_assign hF rfl) ?_; intro a hF
    refine s_nil ?_
    refine then_n ?_
    refine wp_ret ?_
    obtain rfl := some_some H
    refine s_ret [Value.bool false] hF Try.results43 ⟨rfl, trivial⟩ ?_
    exact ⟨_, rfl, hM.frm, rfl⟩

/-! ### loop.example/g01210/spec.l8Power: function 73 -/
def spec_l8Power.l0 (K : Nat) (a0 : Int) (a1 : Int) : Nat → Int → Int → Option Int
  | 0, _, _ => none
  | k + 1, x6, x7 => if x7 < a1 then (spec_l8Power.l0 K a0 a1 k (wrap64 (x6 * a0)) (wrap64 (x7 + 1))) else (some x6)
def spec_l8Power.f (K : Nat) (a0 : Int) (a1 : Int) : Option Int := (spec_l8Power.l0 K a0 a1 K 1 0).bind fun x5 => some x5
set_option maxRecDepth 100000 in
set_option maxHeartbeats 4000000 in
theorem spec_l8Power.calls {w0 : World} (K : Nat) (a0 : Int) (a1 : Int) (r : Int) (H : spec_l8Power.f K a0 a1 = some r) : Calls Try.prog 73 [Value.int .i64 a0, Value.int .i64 a1].toArray w0 (Post w0 fun w v => v = Value.int .i64 r) := by
  rw [spec_l8Power.f] at H
  refine s_start Try.func73 rfl Try.ntmps73 rfl ?_
  intro a hF
  have hM := Ms.start w0
  skip
  refine wp_seq ?_
  refine s_region ?_
  refine s_val hF rfl rfl rfl (e_assign hF rfl) ?_; intro a hF
  refine s_nil ?_
  refine then_n ?_
  refine wp_seq ?_
  refine s_region ?_
  refine s_val hF rfl rfl rfl (e_assign hF rfl) ?_; intro a hF
  refine s_nil ?_
  refine then_n ?_
  refine wp_seq ?_
  refine wp_seq ?_
  refine s_region ?_
  refine s_val hF rfl rfl rfl (e_assign hF rfl) ?_; intro a hF
  refine s_nil ?_
  refine then_n ?_
  refine wp_block ?_
  obtain ⟨o9, h10, H⟩ := bind_some H
  refine wp_mono (Q := fun e a w => (e = Exit.exit 0 ∧ ∃ x5 : Int, x5 = o9 ∧ Fr 16 a [(5, Value.int .i64 x5)] ∧ Ms [] w0 w [])) ?_ ?_
  · refine s_loop (fun kq a w => ∃ x6 : Int, ∃ x7 : Int, spec_l8Power.l0 K a0 a1 kq x6 x7 = some o9 ∧ Fr 16 a [(0, Value.int .i64 a0), (1, Value.int .i64 a1), (5, Value.int .i64 x6), (6, Value.int .i64 x7)] ∧ Ms [] w0 w []) K ⟨1, 0, h10, hF.sub _ ⟨rfl, rfl, rfl, rfl, trivial⟩, hM.pick [] rfl rfl⟩ ?_ ?_
    · rintro a w ⟨_, _, H, _⟩; exact none_some H
    · rintro k a w ⟨x6, x7, H, hF, hM⟩; rw [spec_l8Power.l0] at H
      refine wp_seq ?_
      refine wp_seq ?_
      refine s_region ?_
      refine s_val hF rfl rfl rfl (e_move hF rfl) ?_; intro a hF
      refine s_val hF rfl rfl rfl (e_move hF rfl) ?_; intro a hF
      refine s_val hF rfl rfl rfl (e_lss hF rfl rfl) ?_; intro a hF
      refine s_nil ?_
      refine then_n ?_
      rcases ite_cases H with ⟨c8, H⟩ | ⟨c8, H⟩
      ·
        refine s_cond_t hF rfl (decide_eq_true c8) ?_
        refine wp_skip ?_
        refine then_n ?_
        refine wp_seq ?_
        refine wp_block ?_
        refine s_region ?_
        refine s_val hF rfl rfl rfl (e_move hF rfl) ?_; intro a hF
        refine s_val hF rfl rfl rfl (e_move hF rfl) ?_; intro a hF
        refine s_val hF rfl rfl rfl (e_mul hF rfl rfl) ?_; intro a hF
        refine s_val hF rfl rfl rfl (e_assign hF rfl) ?_; intro a hF
        refine s_nil ?_
        refine blk_n ?_
        refine then_n ?_
        refine s_region ?_
        refine s_val hF rfl rfl rfl (e_move hF rfl) ?_; intro a hF
        refine s_val hF rfl rfl rfl (e_add hF rfl rfl) ?_; intro a hF
        refine s_val hF rfl rfl rfl (e_assign hF rfl) ?_; intro a hF
        refine s_nil ?_
        refine then_n ?_
        exact ⟨(wrap64 (x6 * a0)), (wrap64 (x7 + 1)), H, hF.sub _ ⟨rfl, rfl, rfl, rfl, trivial⟩, hM.pick [] rfl rfl⟩
      ·
        refine s_cond_f hF rfl (decide_eq_false c8) ?_
        refine wp_exit ?_
        refine then_x ?_
        refine then_x ?_
        exact ⟨rfl, x6, some_some H, hF.sub _ ⟨rfl, trivial⟩, hM.pick [] rfl rfl⟩
  · rintro e a w ⟨rfl, x5, rfl, hF, hM⟩
    skip
    refine blk_x ?_
    refine then_n ?_
    refine wp_seq ?_
    refine s_region ?_
    refine s_val hF rfl rfl rfl (e_move hF rfl) ?_; intro a hF
    refine s_val hF rfl rfl rfl (e_assign hF rfl) ?_; intro a hF
    refine s_nil ?_
    refine then_n ?_
    refine wp_ret ?_
    obtain rfl := some_some H
    refine s_ret [Value.int .i64 x5] hF Try.results73 ⟨rfl, trivial⟩ ?_
    exact ⟨_, rfl, hM.frm, rfl⟩

/-! ### loop.example/g01210/spec.l10Orders: function 51 -/
def spec_l10Orders.l3 (K : Nat) (a0 : Int) : Nat → Int → Int → Int → (Ar 4) → Option (Int × (Ar 4))
  | 0, _, _, _, _ => none
  | k + 1, x94, x95, x96, x97 => if 0 ≤ x96 then (if a0 ≠ 0 then (if (0 : Int) ≤ x96 ∧ x96 < 4 then (if 0 ≤ (x95.tmod a0) then (spec_l10Orders.l3 K a0 k (Go.bits .or .i64 x94 (wrap64 (1 * 2 ^ (min ((x95.tmod a0) : Int).toNat 64)))) (wrap64 (x95.tdiv a0)) (wrap64 (x96 - 1)) (x97.set x96 (x95.tmod a0))) else none) else none) else none) else (some (x94, x97))
def spec_l10Orders.l2 (K : Nat) (a0 : Int) : Nat → Int → (List (Ar 4)) → Option (List (Ar 4))
  | 0, _, _ => none
  | k + 1, x73, x75 => (spec_l8Power.f K a0 a0).bind fun t76 => if x73 < t76 then ((spec_l10Orders.l3 K a0 K 0 x73 (wrap64 (a0 - 1)) (⟨[(-1), (-1), (-1), (-1)], rfl⟩ : Ar 4)).bind fun (x92, x93) => if 0 ≤ a0 then (if x92 = (wrap64 ((wrap64 (1 * 2 ^ (min (a0 : Int).toNat 64))) - 1)) then (if x75.length + [x93].length ≤ 1073741824 then (spec_l10Orders.l2 K a0 k (wrap64 (x73 + 1)) (x75 ++ [x93])) else none) else (spec_l10Orders.l2 K a0 k (wrap64 (x73 + 1)) x75)) else none) else (some x75)
def spec_l10Orders.f (K : Nat) (a0 : Int) : Option (List (Ar 4)) := (spec_l10Orders.l2 K a0 K 0 ([] : List (Ar 4))).bind fun x72 => some x72
set_option maxRecDepth 100000 in
set_option maxHeartbeats 4000000 in
theorem spec_l10Orders.calls {w0 : World} (K : Nat) (a0 : Int) (r : (List (Ar 4))) (H : spec_l10Orders.f K a0 = some r) : Calls Try.prog 51 [Value.int .i64 a0].toArray w0 (Post w0 fun w v => Fresh cd48 w0.heap.size w v r) := by
  rw [spec_l10Orders.f] at H
  refine s_start Try.func51 rfl Try.ntmps51 rfl ?_
  intro a hF
  have hM := Ms.start w0
  skip
  refine wp_seq ?_
  refine s_region ?_
  refine s_val hF rfl rfl rfl (e_assign hF rfl) ?_; intro a hF
  refine s_nil ?_
  refine then_n ?_
  refine wp_seq ?_
  refine s_region ?_
  refine s_bsl (C := cd48) ([] : List (Ar 4)) cdok48 hF hM rfl rfl rfl rfl Try.underlying32 rfl ?_; intro a w v1 hF hM
  refine s_val hF rfl rfl rfl (e_assign hF rfl) ?_; intro a hF
  refine s_nil ?_
  refine then_n ?_
  refine wp_seq ?_
  refine wp_seq ?_
  refine s_region ?_
  refine s_val hF rfl rfl rfl (e_assign hF rfl) ?_; intro a hF
  refine s_nil ?_
  refine then_n ?_
  refine wp_block ?_
  obtain ⟨o109, h110, H⟩ := bind_some H
  refine wp_mono (Q := fun e a w => (e = Exit.exit 0 ∧ ∃ v71 : Value, ∃ x72 : (List (Ar 4)), x72 = o109 ∧ Fr 51 a [(3, v71)] ∧ Ms [] w0 w [rowR cd48 v71 x72])) ?_ ?_
  · refine s_loop (fun kq a w => ∃ v74 : Value, ∃ x73 : Int, ∃ x75 : (List (Ar 4)), spec_l10Orders.l2 K a0 kq x73 x75 = some o109 ∧ Fr 51 a [(0, Value.int .i64 a0), (3, v74), (4, Value.int .i64 x73)] ∧ Ms [] w0 w [rowR cd48 v74 x75]) K ⟨v1, 0, ([] : List (Ar 4)), h110, hF.sub _ ⟨rfl, rfl, rfl, trivial⟩, hM.pick [0] rfl rfl⟩ ?_ ?_
    · rintro a w ⟨_, _, _, H, _⟩; exact none_some H
    · rintro k a w ⟨v74, x73, x75, H, hF, hM⟩; rw [spec_l10Orders.l2] at H
      refine wp_seq ?_
      refine wp_seq ?_
      obtain ⟨t76, h77, H⟩ := bind_some H
      refine s_region ?_
      refine s_val hF rfl rfl rfl (e_move hF rfl) ?_; intro a hF
      refine s_val hF rfl rfl rfl (e_move hF rfl) ?_; intro a hF
      refine s_val hF rfl rfl rfl (e_move hF rfl) ?_; intro a hF
      refine s_call hF rfl rfl rfl Try.call73 (spec_l8Power.calls K a0 a0 t76 h77) ?_; intro a w v hF hf hR
      subst hR; have hM := hM.grow hf
      refine s_val hF rfl rfl rfl (e_lss hF rfl rfl) ?_; intro a hF
      refine s_nil ?_
      refine then_n ?_
      rcases ite_cases H with ⟨c78, H⟩ | ⟨c78, H⟩
      ·
        refine s_cond_t hF rfl (decide_eq_true c78) ?_
        refine wp_skip ?_
        refine then_n ?_
        refine wp_seq ?_
        refine wp_block ?_
        refine wp_seq ?_
        refine s_region ?_
        refine s_val hF rfl rfl rfl (e_build' (cells := cat [Pt.ar (⟨[(-1), (-1), (-1), (-1)], rfl⟩ : Ar 4)]) hF rfl (by kernel_rfl)) ?_; intro a hF
        refine s_val hF rfl rfl rfl (e_build' hF rfl (bld48 (⟨[(-1), (-1), (-1), (-1)], rfl⟩ : Ar 4))) ?_; intro a hF
        refine s_val hF rfl rfl rfl (e_move hF rfl) ?_; intro a hF
        refine s_alloc (ps := [Pt.ar (Ar.zero 4)]) hF hM rfl rfl zv48 rfl ?_; intro a w b79 hF hM
        refine s_stw (i := 0) (ps' := [Pt.ar (⟨[(-1), (-1), (-1), (-1)], rfl⟩ : Ar 4)]) hF hM rfl rfl rfl rfl rfl rfl Try.sizeOf48 rfl ?_; intro a w hF hM
        refine s_val hF rfl rfl rfl (e_assign hF rfl) ?_; intro a hF
        refine s_val hF rfl rfl rfl (e_assign hF rfl) ?_; intro a hF
        refine s_nil ?_
        refine then_n ?_
        refine wp_seq ?_
        refine wp_seq ?_
        refine s_region ?_
        refine s_val hF rfl rfl rfl (e_move hF rfl) ?_; intro a hF
        refine s_val hF rfl rfl rfl (e_sub hF rfl rfl) ?_; intro a hF
        refine s_val hF rfl rfl rfl (e_assign hF rfl) ?_; intro a hF
        refine s_nil ?_
        refine then_n ?_
        refine wp_block ?_
        obtain ⟨o102, h103, H⟩ := bind_some H
        refine wp_mono (Q := fun e a w => (e = Exit.exit 2 ∧ ∃ x92 : Int, ∃ x93 : (Ar 4), (x92, x93) = o102 ∧ Fr 51 a [(0, Value.int .i64 a0), (3, v74), (4, Value.int .i64 x73), (5, pt b79 0), (6, Value.int .i64 x92)] ∧ Ms [] w0 w [rowR cd48 v74 x75, boxR b79 [Pt.ar x93] 48])) ?_ ?_
        · refine s_loop (fun kq a w => ∃ x94 : Int, ∃ x95 : Int, ∃ x96 : Int, ∃ x97 : (Ar 4), spec_l10Orders.l3 K a0 kq x94 x95 x96 x97 = some o102 ∧ Fr 51 a [(0, Value.int .i64 a0), (3, v74), (4, Value.int .i64 x73), (5, pt b79 0), (6, Value.int .i64 x94), (7, Value.int .i64 x95), (8, Value.int .i64 x96)] ∧ Ms [] w0 w [rowR cd48 v74 x75, boxR b79 [Pt.ar x97] 48]) K ⟨0, x73, (wrap64 (a0 - 1)), (⟨[(-1), (-1), (-1), (-1)], rfl⟩ : Ar 4), h103, hF.sub _ ⟨rfl, rfl, rfl, rfl, rfl, rfl, rfl, trivial⟩, hM.pick [1, 0] rfl rfl⟩ ?_ ?_
          · rintro a w ⟨_, _, _, _, H, _⟩; exact none_some H
          · rintro k a w ⟨x94, x95, x96, x97, H, hF, hM⟩; rw [spec_l10Orders.l3] at H
            refine wp_seq ?_
            refine wp_seq ?_
            refine s_region ?_
            refine s_val hF rfl rfl rfl (e_move hF rfl) ?_; intro a hF
            refine s_val hF rfl rfl rfl (e_geq hF rfl rfl) ?_; intro a hF
            refine s_nil ?_
            refine then_n ?_
            rcases ite_cases H with ⟨c98, H⟩ | ⟨c98, H⟩
            ·
              refine s_cond_t hF rfl (decide_eq_true c98) ?_
              refine wp_skip ?_
              refine then_n ?_
              refine wp_seq ?_
              refine wp_block ?_
              refine wp_seq ?_
              obtain ⟨c99, H⟩ := ite_some H
              obtain ⟨c100, H⟩ := ite_some H
              refine s_region ?_
              refine s_val hF rfl rfl rfl (e_move hF rfl) ?_; intro a hF
              refine s_val hF rfl rfl rfl (e_move hF rfl) ?_; intro a hF
              refine s_val hF rfl rfl rfl (e_move hF rfl) ?_; intro a hF
              refine s_val hF rfl rfl rfl (e_rem hF rfl rfl c99) ?_; intro a hF
              refine s_val hF rfl rfl rfl (e_fa hF rfl Try.underlying48 rfl Try.sizeOf46 rfl rfl) ?_; intro a hF
              refine s_val hF rfl rfl rfl (e_ia hF rfl rfl Try.underlying46 Try.sizeOf3 c100.1 c100.2) ?_; intro a hF
              refine s_sti (i := 1) (k := 0) hF hM rfl rfl rfl rfl rfl rfl rfl Try.sizeOf3 c100.1 c100.2 ?_; intro a w hF hM
              refine s_nil ?_
              refine then_n ?_
              refine wp_seq ?_
              obtain ⟨c101, H⟩ := ite_some H
              refine s_region ?_
              refine s_val hF rfl rfl rfl (e_move hF rfl) ?_; intro a hF
              refine s_val hF rfl rfl rfl (e_move hF rfl) ?_; intro a hF
              refine s_val hF rfl rfl rfl (e_move hF rfl) ?_; intro a hF
              refine s_val hF rfl rfl rfl (e_rem hF rfl rfl c99) ?_; intro a hF
              refine s_val hF rfl rfl rfl (e_shl hF rfl rfl c101) ?_; intro a hF
              refine s_val hF rfl rfl rfl (e_or hF rfl rfl) ?_; intro a hF
              refine s_val hF rfl rfl rfl (e_assign hF rfl) ?_; intro a hF
              refine s_nil ?_
              refine then_n ?_
              refine s_region ?_
              refine s_val hF rfl rfl rfl (e_move hF rfl) ?_; intro a hF
              refine s_val hF rfl rfl rfl (e_move hF rfl) ?_; intro a hF
              refine s_val hF rfl rfl rfl (e_quo hF rfl rfl c99) ?_; intro a hF
              refine s_val hF rfl rfl rfl (e_assign hF rfl) ?_; intro a hF
              refine s_nil ?_
              refine blk_n ?_
              refine then_n ?_
              refine s_region ?_
              refine s_val hF rfl rfl rfl (e_move hF rfl) ?_; intro a hF
              refine s_val hF rfl rfl rfl (e_sub hF rfl rfl) ?_; intro a hF
              refine s_val hF rfl rfl rfl (e_assign hF rfl) ?_; intro a hF
              refine s_nil ?_
              refine then_n ?_
              exact ⟨(Go.bits .or .i64 x94 (wrap64 (1 * 2 ^ (min ((x95.tmod a0) : Int).toNat 64)))), (wrap64 (x95.tdiv a0)), (wrap64 (x96 - 1)), (x97.set x96 (x95.tmod a0)), H, hF.sub _ ⟨rfl, rfl, rfl, rfl, rfl, rfl, rfl, trivial⟩, hM.pick [0, 1] rfl rfl⟩
            ·
              refine s_cond_f hF rfl (decide_eq_false c98) ?_
              refine wp_exit ?_
              refine then_x ?_
              refine then_x ?_
              exact ⟨rfl, x94, x97, some_some H, hF.sub _ ⟨rfl, rfl, rfl, rfl, rfl, trivial⟩, hM.pick [0, 1] rfl rfl⟩
        · rintro e a w ⟨rfl, x92, x93, rfl, hF, hM⟩
          skip
          refine blk_x ?_
          refine then_n ?_
          refine wp_seq ?_
          obtain ⟨c104, H⟩ := ite_some H
          refine s_region ?_
          refine s_val hF rfl rfl rfl (e_move hF rfl) ?_; intro a hF
          refine s_val hF rfl rfl rfl (e_move hF rfl) ?_; intro a hF
          refine s_val hF rfl rfl rfl (e_shl hF rfl rfl c104) ?_; intro a hF
          refine s_val hF rfl rfl rfl (e_sub hF rfl rfl) ?_; intro a hF
          refine s_val hF rfl rfl rfl (e_eql hF rfl rfl) ?_; intro a hF
          refine s_nil ?_
          refine then_n ?_
          rcases ite_cases H with ⟨c105, H⟩ | ⟨c105, H⟩
          ·
            refine s_cond_t hF rfl (decide_eq_true c105) ?_
            obtain ⟨c108, H⟩ := ite_some H
            refine s_region ?_
            refine s_val hF rfl rfl rfl (e_move hF rfl) ?_; intro a hF
            refine s_val hF rfl rfl rfl (e_lda (i := 1) 0 1 hF hM rfl rfl rfl rfl Try.isAgg48 Try.sizeOf48 rfl) ?_; intro a hF
            refine s_bsl (C := cd48) [x93] cdok48 hF hM rfl rfl rfl rfl Try.underlying32 rfl ?_; intro a w v106 hF hM
            refine s_append (i := 1) cdok48 hF hM rfl rfl rfl rfl rfl (hM.sl 0 rfl) Try.underlying32 c108 ?_; intro a w v107 hF hM
            refine s_val hF rfl rfl rfl (e_assign hF rfl) ?_; intro a hF
            refine s_nil ?_
            refine blk_n ?_
            refine then_n ?_
            refine s_region ?_
            refine s_val hF rfl rfl rfl (e_move hF rfl) ?_; intro a hF
            refine s_val hF rfl rfl rfl (e_add hF rfl rfl) ?_; intro a hF
            refine s_val hF rfl rfl rfl (e_assign hF rfl) ?_; intro a hF
            refine s_nil ?_
            refine then_n ?_
            exact ⟨v107, (wrap64 (x73 + 1)), (x75 ++ [x93]), H, hF.sub _ ⟨rfl, rfl, rfl, trivial⟩, hM.pick [1] rfl rfl⟩
          ·
            refine s_cond_f hF rfl (decide_eq_false c105) ?_
            refine wp_skip ?_
            refine blk_n ?_
            refine then_n ?_
            refine s_region ?_
            refine s_val hF rfl rfl rfl (e_move hF rfl) ?_; intro a hF
            refine s_val hF rfl rfl rfl (e_add hF rfl rfl) ?_; intro a hF
            refine s_val hF rfl rfl rfl (e_assign hF rfl) ?_; intro a hF
            refine s_nil ?_
            refine then_n ?_
            exact ⟨v74, (wrap64 (x73 + 1)), x75, H, hF.sub _ ⟨rfl, rfl, rfl, trivial⟩, hM.pick [0] rfl rfl⟩
      ·
        refine s_cond_f hF rfl (decide_eq_false c78) ?_
        refine wp_exit ?_
        refine then_x ?_
        refine then_x ?_
        exact ⟨rfl, v74, x75, some_some H, hF.sub _ ⟨rfl, trivial⟩, hM.pick [0] rfl rfl⟩
  · rintro e a w ⟨rfl, v71, x72, rfl, hF, hM⟩
    skip
    refine blk_x ?_
    refine then_n ?_
    refine wp_seq ?_
    refine s_region ?_
    refine s_val hF rfl rfl rfl (e_move hF rfl) ?_; intro a hF
    refine s_val hF rfl rfl rfl (e_assign hF rfl) ?_; intro a hF
    refine s_nil ?_
    refine then_n ?_
    refine wp_ret ?_
    obtain rfl := some_some H
    refine s_ret [v71] hF Try.results51 ⟨rfl, trivial⟩ ?_
    exact ⟨_, rfl, hM.frm, hM.give 0 rfl⟩

/-! ### loop.example/g01210/spec.OrdersOf: function 20 -/
def spec_OrdersOf.f (K : Nat) (a0 : Int) : Option ((List (Ar 4)) × Bool) := (spec_l1In.f K a0 1 4).bind fun t1 => if t1 = true then ((spec_l10Orders.f K a0).bind fun t4 => some (t4, true)) else (some (([] : List (Ar 4)), false))
set_option maxRecDepth 100000 in
set_option maxHeartbeats 4000000 in
theorem spec_OrdersOf.calls {w0 : World} (K : Nat) (a0 : Int) (r : ((List (Ar 4)) × Bool)) (H : spec_OrdersOf.f K a0 = some r) : Calls Try.prog 20 [Value.int .i64 a0].toArray w0 (Post w0 fun w v => ∃ v0 : Value, v = Value.tuple #[v0, Value.bool r.2] ∧ Fresh cd48 w0.heap.size w v0 r.1) := by
  rw [spec_OrdersOf.f] at H
  refine s_start Try.func20 rfl Try.ntmps20 rfl ?_
  intro a hF
  have hM := Ms.start w0
  skip
  refine wp_seq ?_
  refine s_region ?_
  refine s_val hF rfl rfl rfl (e_assign hF rfl) ?_; intro a hF
  refine s_val hF rfl rfl rfl (e_assign hF rfl) ?_; intro a hF
  refine s_nil ?_
  refine then_n ?_
  refine wp_seq ?_
  refine wp_seq ?_
  obtain ⟨t1, h2, H⟩ := bind_some H
  refine s_region ?_
  refine s_val hF rfl rfl rfl (e_move hF rfl) ?_; intro a hF
  refine s_call hF rfl rfl rfl Try.call43 (spec_l1In.calls K a0 1 4 t1 h2) ?_; intro a w v hF hf hR
  subst hR; have hM := hM.grow hf
  refine s_val hF rfl rfl rfl (e_not hF rfl) ?_; intro a hF
  refine s_nil ?_
  refine then_n ?_
  rcases ite_cases H with ⟨c3, H⟩ | ⟨c3, H⟩
  ·
    refine s_cond_f hF rfl (congrArg Bool.not c3) ?_
    refine wp_skip ?_
    refine then_n ?_
    refine wp_seq ?_
    obtain ⟨t4, h5, H⟩ := bind_some H
    refine s_region ?_
    refine s_val hF rfl rfl rfl (e_move hF rfl) ?_; intro a hF
    refine s_call hF rfl rfl rfl Try.call51 (spec_l10Orders.calls K a0 t4 h5) ?_; intro a w v6 hF hf hR
    have hM := hM.fresh hf hR
    refine s_val hF rfl rfl rfl (e_assign hF rfl) ?_; intro a hF
    refine s_val hF rfl rfl rfl (e_assign hF rfl) ?_; intro a hF
    refine s_nil ?_
    refine then_n ?_
    refine wp_ret ?_
    obtain rfl := some_some H
    refine s_ret [v6, Value.bool true] hF Try.results20 ⟨rfl, rfl, trivial⟩ ?_
    exact ⟨_, rfl, hM.frm, ⟨v6, rfl, hM.give 0 rfl⟩⟩
  ·
    refine s_cond_t hF rfl (congrArg Bool.not (bf c3)) ?_
    refine wp_seq ?_
    refine s_region ?_
    refine s_bsl (C := cd48) ([] : List (Ar 4)) cdok48 hF hM rfl rfl rfl rfl Try.underlying32 rfl ?_; intro a w v7 hF hM
    refine s_val hF rfl rfl rfl (e_assign hF rfl) ?_; intro a hF
    refine s_val hF rfl rfl rfl (e_assign hF rfl) ?_; intro a hF
    refine s_nil ?_
    refine then_n ?_
    refine wp_ret ?_
    refine then_r ?_
    obtain rfl := some_some H
    refine s_ret [v7, Value.bool false] hF Try.results20 ⟨rfl, rfl, trivial⟩ ?_
    exact ⟨_, rfl, hM.frm, ⟨v7, rfl, hM.give 0 rfl⟩⟩

/-! ### loop.example/g01210/impl.within: function 44 -/
def impl_within.f (K : Nat) (a0 : Int) (a1 : Int) (a2 : Int) : Option Bool := if a1 ≤ a0 then (some (decide (a0 ≤ a2))) else (some false)
set_option maxRecDepth 100000 in
set_option maxHeartbeats 4000000 in
theorem impl_within.calls {w0 : World} (K : Nat) (a0 : Int) (a1 : Int) (a2 : Int) (r : Bool) (H : impl_within.f K a0 a1 a2 = some r) : Calls Try.prog 44 [Value.int .i64 a0, Value.int .i64 a1, Value.int .i64 a2].toArray w0 (Post w0 fun w v => v = Value.bool r) := by
  rw [impl_within.f] at H
  refine s_start Try.func44 rfl Try.ntmps44 rfl ?_
  intro a hF
  have hM := Ms.start w0
  skip
  refine wp_seq ?_
  refine s_region ?_
  refine s_val hF rfl rfl rfl (e_assign hF rfl) ?_; intro a hF
  refine s_nil ?_
  refine then_n ?_
  refine wp_seq ?_
  rcases ite_cases H with ⟨c1, H⟩ | ⟨c1, H⟩
  ·
    refine s_region ?_
    refine s_val hF rfl rfl rfl (e_move hF rfl) ?_; intro a hF
    refine s_val hF rfl rfl rfl (e_move hF rfl) ?_; intro a hF
    refine s_val hF rfl rfl rfl (e_leq hF rfl rfl) ?_; intro a hF
    refine s_val hF rfl rfl rfl (e_move hF rfl) ?_; intro a hF
    have hF := hF.topb (decide_eq_true c1)
    refine s_val hF rfl rfl rfl (e_move hF rfl) ?_; intro a hF
    refine s_val hF rfl rfl rfl (e_move hF rfl) ?_; intro a hF
    refine s_val hF rfl rfl rfl (e_leq hF rfl rfl) ?_; intro a hF
    refine s_val hF rfl rfl rfl (e_pick_t hF rfl rfl) ?_; intro a hF
    refine s_val hF rfl rfl rfl (e_assign hF rfl) ?_; intro a hF
    refine s_nil ?_
    refine then_n ?_
    refine wp_ret ?_
    obtain rfl := some_some H
    refine s_ret [Value.bool (decide (a0 ≤ a2))] hF Try.results44 ⟨rfl, trivial⟩ ?_
    exact ⟨_, rfl, hM.frm, rfl⟩
  ·
    refine s_region ?_
    refine s_val hF rfl rfl rfl (e_move hF rfl) ?_; intro a hF
    refine s_val hF rfl rfl rfl (e_move hF rfl) ?_; intro a hF
    refine s_val hF rfl rfl rfl (e_leq hF rfl rfl) ?_; intro a hF
    refine s_val hF rfl rfl rfl (e_move hF rfl) ?_; intro a hF
    have hF := hF.topb (decide_eq_false c1)
    refine s_skip hF rfl rfl rfl ?_; intro a hF
    refine s_skip hF rfl rfl rfl ?_; intro a hF
    refine s_skip hF rfl rfl rfl ?_; intro a hF
    refine s_val hF rfl rfl rfl (e_pick_f hF rfl rfl) ?_; intro a hF
    refine s_val hF rfl rfl rfl (e_assign hF rfl) ?_; intro a hF
    refine s_nil ?_
    refine then_n ?_
    refine wp_ret ?_
    obtain rfl := some_some H
    refine s_ret [Value.bool false] hF Try.results44 ⟨rfl, trivial⟩ ?_
    exact ⟨_, rfl, hM.frm, rfl⟩

/-! ### slices.Index[[]int,int]: function 88 -/
def slices_Index_int_int.l0 (K : Nat) (l0 : (List Int)) (a1 : Int) : Nat → Int → Option (Sum Unit Int)
  | 0, _ => none
  | k + 1, x8 => if x8 < (l0.length : Int) then (if (0 : Int) ≤ x8 ∧ x8 < (l0.length : Int) then (if a1 = (l0.getD (x8 : Int).toNat (0 : Int)) then (some (Sum.inr x8)) else (slices_Index_int_int.l0 K l0 a1 k (wrap64 (x8 + 1)))) else none) else (some (Sum.inl ()))
def slices_Index_int_int.f (K : Nat) (l0 : (List Int)) (a1 : Int) : Option Int := (slices_Index_int_int.l0 K l0 a1 K 0).bind fun o12 => (match o12 with | .inl () => some (-1) | .inr r14 => some r14)
set_option maxRecDepth 100000 in
set_option maxHeartbeats 4000000 in
theorem slices_Index_int_int.calls {w0 : World} (K : Nat) (l0 : (List Int)) (u0 : Value) (q0 : SlR cd3 w0 u0 l0) (a1 : Int) (r : Int) (H : slices_Index_int_int.f K l0 a1 = some r) : Calls Try.prog 88 [u0, Value.int .i64 a1].toArray w0 (Post w0 fun w v => v = Value.int .i64 r) := by
  rw [slices_Index_int_int.f] at H
  refine s_start Try.func88 rfl Try.ntmps88 rfl ?_
  intro a hF
  have hM := Ms.start w0
  skip
  refine wp_seq ?_
  refine s_region ?_
  refine s_val hF rfl rfl rfl (e_assign hF rfl) ?_; intro a hF
  refine s_nil ?_
  refine then_n ?_
  refine wp_seq ?_
  refine wp_seq ?_
  refine s_region ?_
  refine s_val hF rfl rfl rfl (e_move hF rfl) ?_; intro a hF
  refine s_val hF rfl rfl rfl (e_len hF rfl (q0.frm hM.frm).toF Try.underlying25) ?_; intro a hF
  refine s_val hF rfl rfl rfl (e_move hF rfl) ?_; intro a hF
  refine s_nil ?_
  refine then_n ?_
  refine wp_block ?_
  obtain ⟨o12, h13, H⟩ := bind_some H
  refine wp_mono (Q := fun e a w => (e = Exit.exit 0 ∧ Sum.inl () = o12 ∧ Fr 19 a [] ∧ Ms [] w0 w []) ∨ (e = Exit.ret ∧ ∃ r14 : Int, Sum.inr r14 = o12 ∧ Fr 19 a [(4, Value.int .i64 r14)] ∧ Ms [] w0 w [])) ?_ ?_
  · refine s_loop (fun kq a w => ∃ x8 : Int, slices_Index_int_int.l0 K l0 a1 kq x8 = some o12 ∧ Fr 19 a [(0, u0), (1, Value.int .i64 a1), (7, Value.int .i64 (l0.length : Int)), (8, Value.int .i64 x8)] ∧ Ms [] w0 w []) K ⟨0, h13, hF.sub _ ⟨rfl, rfl, rfl, rfl, trivial⟩, hM.pick [] rfl rfl⟩ ?_ ?_
    · rintro a w ⟨_, H, _⟩; exact none_some H
    · rintro k a w ⟨x8, H, hF, hM⟩; rw [slices_Index_int_int.l0] at H
      refine wp_seq ?_
      refine s_region ?_
      refine s_val hF rfl rfl rfl (e_lss hF rfl rfl) ?_; intro a hF
      refine s_nil ?_
      refine then_n ?_
      refine wp_seq ?_
      rcases ite_cases H with ⟨c9, H⟩ | ⟨c9, H⟩
      ·
        refine s_cond_t hF rfl (decide_eq_true c9) ?_
        refine wp_skip ?_
        refine then_n ?_
        refine wp_seq ?_
        refine wp_block ?_
        refine wp_seq ?_
        refine s_region ?_
        refine s_val hF rfl rfl rfl (e_move hF rfl) ?_; intro a hF
        refine s_val hF rfl rfl rfl (e_assign hF rfl) ?_; intro a hF
        refine s_nil ?_
        refine then_n ?_
        refine wp_seq ?_
        obtain ⟨c10, H⟩ := ite_some H
        refine s_region ?_
        refine s_val hF rfl rfl rfl (e_move hF rfl) ?_; intro a hF
        refine s_val hF rfl rfl rfl (e_move hF rfl) ?_; intro a hF
        refine s_val hF rfl rfl rfl (e_move hF rfl) ?_; intro a hF
        refine s_val hF rfl rfl rfl (e_ias cd3 hF rfl rfl (q0.frm hM.frm).toF Try.underlying25 Try.sizeOf3 c10.1 c10.2) ?_; intro a hF
        refine s_val hF rfl rfl rfl (e_lds (m := x8) hF rfl (q0.frm hM.frm) (getD_some (z := (0 : Int)) c10.1 c10.2) rfl rfl Try.isAgg3) ?_; intro a hF
        refine s_val hF rfl rfl rfl (e_eql hF rfl rfl) ?_; intro a hF
        refine s_nil ?_
        refine then_n ?_
        rcases ite_cases H with ⟨c11, H⟩ | ⟨c11, H⟩
        ·
          refine s_cond_t hF rfl (decide_eq_true c11) ?_
          refine wp_seq ?_
          refine s_region ?_
          refine s_val hF rfl rfl rfl (e_move hF rfl) ?_; intro a hF
          refine s_val hF rfl rfl rfl (e_assign hF rfl) ?_; intro a hF
          refine s_nil ?_
          refine then_n ?_
          refine wp_ret ?_
          refine blk_r ?_
          refine then_r ?_
          refine then_r ?_
          exact Or.inr (⟨rfl, x8, some_some H, hF.sub _ ⟨rfl, trivial⟩, hM.pick [] rfl rfl⟩)
        ·
          refine s_cond_f hF rfl (decide_eq_false c11) ?_
          refine wp_skip ?_
          refine blk_n ?_
          refine then_n ?_
          refine s_region ?_
          refine s_val hF rfl rfl rfl (e_add hF rfl rfl) ?_; intro a hF
          refine s_val hF rfl rfl rfl (e_move hF rfl) ?_; intro a hF
          refine s_nil ?_
          refine then_n ?_
          exact ⟨(wrap64 (x8 + 1)), H, hF.sub _ ⟨rfl, rfl, rfl, rfl, trivial⟩, hM.pick [] rfl rfl⟩
      ·
        refine s_cond_f hF rfl (decide_eq_false c9) ?_
        refine wp_exit ?_
        refine then_x ?_
        refine then_x ?_
        exact Or.inl (⟨rfl, some_some H, hF.sub _ trivial, hM.pick [] rfl rfl⟩)
  · rintro e a w (⟨rfl, rfl, hF, hM⟩ | ⟨rfl, r14, rfl, hF, hM⟩)
    ·
      dsimp only at H
      refine blk_x ?_
      refine then_n ?_
      refine wp_seq ?_
      refine s_region ?_
      refine s_val hF rfl rfl rfl (e_assign hF rfl) ?_; intro a hF
      refine s_nil ?_
      refine then_n ?_
      refine wp_ret ?_
      obtain rfl := some_some H
      refine s_ret [Value.int .i64 (-1)] hF Try.results88 ⟨rfl, trivial⟩ ?_
      exact ⟨_, rfl, hM.frm, rfl⟩
    ·
      dsimp only at H
      refine blk_r ?_
      refine then_r ?_
      obtain rfl := some_some H
      refine s_ret [Value.int .i64 r14] hF Try.results88 ⟨rfl, trivial⟩ ?_
      exact ⟨_, rfl, hM.frm, rfl⟩

/-! ### slices.Contains[[]int,int]: function 75 -/
def slices_Contains_int_int.f (K : Nat) (l0 : (List Int)) (a1 : Int) : Option Bool := (slices_Index_int_int.f K l0 a1).bind fun t1 => some (decide (0 ≤ t1))
set_option maxRecDepth 100000 in
set_option maxHeartbeats 4000000 in
theorem slices_Contains_int_int.calls {w0 : World} (K : Nat) (l0 : (List Int)) (u0 : Value) (q0 : SlR cd3 w0 u0 l0) (a1 : Int) (r : Bool) (H : slices_Contains_int_int.f K l0 a1 = some r) : Calls Try.prog 75 [u0, Value.int .i64 a1].toArray w0 (Post w0 fun w v => v = Value.bool r) := by
  rw [slices_Contains_int_int.f] at H
  refine s_start Try.func75 rfl Try.ntmps75 rfl ?_
  intro a hF
  have hM := Ms.start w0
  skip
  refine wp_seq ?_
  refine s_region ?_
  refine s_val hF rfl rfl rfl (e_assign hF rfl) ?_; intro a hF
  refine s_nil ?_
  refine then_n ?_
  refine wp_seq ?_
  obtain ⟨t1, h2, H⟩ := bind_some H
  refine s_region ?_
  refine s_val hF rfl rfl rfl (e_move hF rfl) ?_; intro a hF
  refine s_val hF rfl rfl rfl (e_move hF rfl) ?_; intro a hF
  refine s_call hF rfl rfl rfl Try.call88 (slices_Index_int_int.calls K l0 u0 (q0.frm hM.frm) a1 t1 h2) ?_; intro a w v hF hf hR
  subst hR; have hM := hM.grow hf
  refine s_val hF rfl rfl rfl (e_geq hF rfl rfl) ?_; intro a hF
  refine s_val hF rfl rfl rfl (e_assign hF rfl) ?_; intro a hF
  refine s_nil ?_
  refine then_n ?_
  refine wp_ret ?_
  obtain rfl := some_some H
  refine s_ret [Value.bool (decide (0 ≤ t1))] hF Try.results75 ⟨rfl, trivial⟩ ?_
  exact ⟨_, rfl, hM.frm, rfl⟩

/-! ### loop.example/g01210/impl.orders$1: function 74 -/
def impl_orders_1__orders_11.l0 (K : Nat) (a0 : Int) (y2 : Int) (rec : (Int → Int → (List (Ar 4)) → (Ar 4) → Option (Unit × ((List (Ar 4)) × (Ar 4))))) : Nat → Int → (Ar 4) → (List (Ar 4)) → Option ((Ar 4) × (List (Ar 4)))
  | 0, _, _, _ => none
  | k + 1, x38, x39, x41 => if x38 < y2 then (if (0 : Int) ≤ 0 ∧ (0 : Int) ≤ a0 ∧ a0 ≤ 4 then ((slices_Contains_int_int.f K ((x39.l.take (a0 : Int).toNat).drop 0) x38).bind fun t44 => if t44 = true then (impl_orders_1__orders_11.l0 K a0 y2 rec k (wrap64 (x38 + 1)) x39 x41) else (if (0 : Int) ≤ a0 ∧ a0 < 4 then ((rec (wrap64 (a0 + 1)) y2 x41 (x39.set a0 x38)).bind fun t48 => impl_orders_1__orders_11.l0 K a0 y2 rec k (wrap64 (x38 + 1)) t48.2.2 t48.2.1) else none)) else none) else (some (x39, x41))
def impl_orders_1__orders_11.g (K : Nat) (rec : (Int → Int → (List (Ar 4)) → (Ar 4) → Option (Unit × ((List (Ar 4)) × (Ar 4))))) (a0 : Int) (y2 : Int) (y5 : (List (Ar 4))) (y7 : (Ar 4)) : Option (Unit × ((List (Ar 4)) × (Ar 4))) := if a0 = y2 then (if y5.length + [y7].length ≤ 1073741824 then (some ((), ((y5 ++ [y7]), y7))) else none) else ((impl_orders_1__orders_11.l0 K a0 y2 rec K 0 y7 y5).bind fun (x35, x37) => if (0 : Int) ≤ a0 ∧ a0 < 4 then (some ((), (x37, (x35.set a0 (-1))))) else none)
def impl_orders_1__orders_11.r (K : Nat) : Nat → Int → Int → (List (Ar 4)) → (Ar 4) → Option (Unit × ((List (Ar 4)) × (Ar 4)))
  | 0 => fun _ _ _ _ => none
  | k + 1 => fun a0 y2 y5 y7 => impl_orders_1__orders_11.g K (impl_orders_1__orders_11.r K k) a0 y2 y5 y7
def impl_orders_1__orders_11.f (K : Nat) (a0 : Int) (y2 : Int) (y5 : (List (Ar 4))) (y7 : (Ar 4)) : Option (Unit × ((List (Ar 4)) × (Ar 4))) := impl_orders_1__orders_11.r K K a0 y2 y5 y7
set_option maxRecDepth 100000 in
set_option maxHeartbeats 4000000 in
theorem impl_orders_1__orders_11.step (K : Nat) (rec : (Int → Int → (List (Ar 4)) → (Ar 4) → Option (Unit × ((List (Ar 4)) × (Ar 4))))) (hrec : ∀ {w0 : World} {X : List Nat} (a0 : Int) (b1 : Nat) (y2 : Int)  (b3 : Nat)  (v4 : Value) (y5 : (List (Ar 4))) (b6 : Nat) (y7 : (Ar 4))  (b8 : Nat)  (qM : Ms X w0 w0 [boxR b1 [Pt.int y2] 3, boxR b3 [Pt.any v4] 32, rowR cd48 v4 y5, boxR b6 [Pt.ar y7] 48, boxR b8 [Pt.val (Value.func (.func 74) #[] #[pt b1 0, pt b3 0, pt b6 0, pt b8 0]) rfl] 74]) (r : (Unit × ((List (Ar 4)) × (Ar 4)))) (H : rec a0 y2 y5 y7 = some r), Calls Try.prog 74 [Value.int .i64 a0, pt b1 0, pt b3 0, pt b6 0, pt b8 0].toArray w0 (fun e w => ∃ v, e = .returned v ∧ ∃ v54 : Value, Ms X w0 w [boxR b1 [Pt.int y2] 3, boxR b3 [Pt.any v54] 32, rowR cd48 v54 r.2.1, boxR b6 [Pt.ar r.2.2] 48, boxR b8 [Pt.val (Value.func (.func 74) #[] #[pt b1 0, pt b3 0, pt b6 0, pt b8 0]) rfl] 74] ∧ Value.tuple #[] = v)) {w0 : World} {X : List Nat} (a0 : Int) (b1 : Nat) (y2 : Int)  (b3 : Nat)  (v4 : Value) (y5 : (List (Ar 4))) (b6 : Nat) (y7 : (Ar 4))  (b8 : Nat)  (qM : Ms X w0 w0 [boxR b1 [Pt.int y2] 3, boxR b3 [Pt.any v4] 32, rowR cd48 v4 y5, boxR b6 [Pt.ar y7] 48, boxR b8 [Pt.val (Value.func (.func 74) #[] #[pt b1 0, pt b3 0, pt b6 0, pt b8 0]) rfl] 74]) (r : (Unit × ((List (Ar 4)) × (Ar 4)))) (H : impl_orders_1__orders_11.g K rec a0 y2 y5 y7 = some r) : Calls Try.prog 74 [Value.int .i64 a0, pt b1 0, pt b3 0, pt b6 0, pt b8 0].toArray w0 (fun e w => ∃ v, e = .returned v ∧ ∃ v54 : Value, Ms X w0 w [boxR b1 [Pt.int y2] 3, boxR b3 [Pt.any v54] 32, rowR cd48 v54 r.2.1, boxR b6 [Pt.ar r.2.2] 48, boxR b8 [Pt.val (Value.func (.func 74) #[] #[pt b1 0, pt b3 0, pt b6 0, pt b8 0]) rfl] 74] ∧ Value.tuple #[] = v) := by
  rw [impl_orders_1__orders_11.g] at H
  refine s_start Try.func74 rfl Try.ntmps74 rfl ?_
  intro a hF
  have hM := qM
  refine wp_seq ?_
  refine wp_seq ?_
  refine s_region ?_
  refine s_val hF rfl rfl rfl (e_move hF rfl) ?_; intro a hF
  refine s_val hF rfl rfl rfl (e_ld (i := 0) (k := 0) hF hM rfl rfl rfl rfl Try.isAgg3 rfl) ?_; intro a hF
  refine s_val hF rfl rfl rfl (e_eql hF rfl rfl) ?_; intro a hF
  refine s_nil ?_
  refine then_n ?_
  rcases ite_cases H with ⟨c9, H⟩ | ⟨c9, H⟩
  ·
    refine s_cond_t hF rfl (decide_eq_true c9) ?_
    refine wp_seq ?_
    obtain ⟨c12, H⟩ := ite_some H
    refine s_region ?_
    refine s_val hF rfl rfl rfl (e_ld (i := 1) (k := 0) hF hM rfl rfl rfl rfl Try.isAgg32 (any_cs (hM.sl 2 rfl).toF.one)) ?_; intro a hF
    refine s_val hF rfl rfl rfl (e_lda (i := 3) 0 1 hF hM rfl rfl rfl rfl Try.isAgg48 Try.sizeOf48 rfl) ?_; intro a hF
    refine s_bsl (C := cd48) [y7] cdok48 hF hM rfl rfl rfl rfl Try.underlying32 rfl ?_; intro a w v10 hF hM
    refine s_append (i := 3) cdok48 hF hM rfl rfl rfl rfl rfl (hM.sl 0 rfl) Try.underlying32 c12 ?_; intro a w v11 hF hM
    refine s_st (i := 2) (k := 0) (Pt.any v11) hF hM rfl rfl rfl (any_cells (hM.sl 3 rfl).toF.one) rfl rfl rfl rfl Try.sizeOf32 rfl ?_; intro a w hF hM
    refine s_nil ?_
    refine then_n ?_
    refine wp_ret ?_
    refine then_r ?_
    obtain rfl := some_some H
    refine s_ret [] hF Try.results74 trivial ?_
    exact ⟨_, rfl, v11, hM.pick [1, 2, 3, 4, 5] rfl rfl, rfl⟩
  ·
    refine s_cond_f hF rfl (decide_eq_false c9) ?_
    refine wp_skip ?_
    refine then_n ?_
    refine wp_seq ?_
    refine wp_seq ?_
    refine s_region ?_
    refine s_val hF rfl rfl rfl (e_ld (i := 0) (k := 0) hF hM rfl rfl rfl rfl Try.isAgg3 rfl) ?_; intro a hF
    refine s_val hF rfl rfl rfl (e_move hF rfl) ?_; intro a hF
    refine s_nil ?_
    refine then_n ?_
    refine wp_block ?_
    obtain ⟨o51, h52, H⟩ := bind_some H
    refine wp_mono (Q := fun e a w => (e = Exit.exit 0 ∧ ∃ v36 : Value, ∃ x35 : (Ar 4), ∃ x37 : (List (Ar 4)), (x35, x37) = o51 ∧ Fr 36 a [(0, Value.int .i64 a0), (3, pt b6 0)] ∧ Ms X w0 w [boxR b6 [Pt.ar x35] 48, boxR b1 [Pt.int y2] 3, boxR b3 [Pt.any v36] 32, rowR cd48 v36 x37, boxR b8 [Pt.val (Value.func (.func 74) #[] #[pt b1 0, pt b3 0, pt b6 0, pt b8 0]) rfl] 74])) ?_ ?_
    · refine s_loop (fun kq a w => ∃ v40 : Value, ∃ x38 : Int, ∃ x39 : (Ar 4), ∃ x41 : (List (Ar 4)), impl_orders_1__orders_11.l0 K a0 y2 rec kq x38 x39 x41 = some o51 ∧ Fr 36 a [(0, Value.int .i64 a0), (3, pt b6 0), (4, pt b8 0), (14, Value.int .i64 y2), (15, Value.int .i64 x38)] ∧ Ms X w0 w [boxR b6 [Pt.ar x39] 48, boxR b8 [Pt.val (Value.func (.func 74) #[] #[pt b1 0, pt b3 0, pt b6 0, pt b8 0]) rfl] 74, boxR b1 [Pt.int y2] 3, boxR b3 [Pt.any v40] 32, rowR cd48 v40 x41]) K ⟨v4, 0, y7, y5, h52, hF.sub _ ⟨rfl, rfl, rfl, rfl, rfl, trivial⟩, hM.pick [3, 4, 0, 1, 2] rfl rfl⟩ ?_ ?_
      · rintro a w ⟨_, _, _, _, H, _⟩; exact none_some H
      · rintro k a w ⟨v40, x38, x39, x41, H, hF, hM⟩; rw [impl_orders_1__orders_11.l0] at H
        refine wp_seq ?_
        refine s_region ?_
        refine s_val hF rfl rfl rfl (e_lss hF rfl rfl) ?_; intro a hF
        refine s_nil ?_
        refine then_n ?_
        refine wp_seq ?_
        rcases ite_cases H with ⟨c42, H⟩ | ⟨c42, H⟩
        ·
          refine s_cond_t hF rfl (decide_eq_true c42) ?_
          refine wp_skip ?_
          refine then_n ?_
          refine wp_seq ?_
          refine wp_block ?_
          refine wp_seq ?_
          refine s_region ?_
          refine s_val hF rfl rfl rfl (e_move hF rfl) ?_; intro a hF
          refine s_val hF rfl rfl rfl (e_assign hF rfl) ?_; intro a hF
          refine s_nil ?_
          refine then_n ?_
          refine wp_seq ?_
          obtain ⟨c43, H⟩ := ite_some H
          obtain ⟨t44, h45, H⟩ := bind_some H
          refine s_region ?_
          refine s_val hF rfl rfl rfl (e_fa hF rfl Try.underlying48 rfl Try.sizeOf46 rfl rfl) ?_; intro a hF
          refine s_val hF rfl rfl rfl (e_move hF rfl) ?_; intro a hF
          refine s_val hF rfl rfl rfl (e_slA_h hF rfl rfl Try.underlying46 Try.sizeOf3 c43) ?_; intro a hF
          refine s_val hF rfl rfl rfl (e_move hF rfl) ?_; intro a hF
          refine s_call hF rfl rfl rfl Try.call75 (slices_Contains_int_int.calls K ((x39.l.take (a0 : Int).toNat).drop 0) (subv (Value.slice (some ⟨b6, 0, none⟩) 4 4) 0 (a0 : Int).toNat 1) ((hM.boxSl (k := 0) (m := 4) 0 rfl rfl rfl cd3 (fun _ => rfl) 4 (by decide)).sub 0 (a0 : Int).toNat (sl_0_i' c43).1 (Nat.le_trans (sl_0_i' c43).2 (Nat.le_of_eq (Ar.h _).symm))) x38 t44 h45) ?_; intro a w v hF hf hR
          subst hR; have hM := hM.grow hf
          refine s_val hF rfl rfl rfl (e_not hF rfl) ?_; intro a hF
          refine s_nil ?_
          refine then_n ?_
          rcases ite_cases H with ⟨c46, H⟩ | ⟨c46, H⟩
          ·
            refine s_cond_f hF rfl (congrArg Bool.not c46) ?_
            refine wp_skip ?_
            refine blk_n ?_
            refine then_n ?_
            refine s_region ?_
            refine s_val hF rfl rfl rfl (e_add hF rfl rfl) ?_; intro a hF
            refine s_val hF rfl rfl rfl (e_move hF rfl) ?_; intro a hF
            refine s_nil ?_
            refine then_n ?_
            exact ⟨v40, (wrap64 (x38 + 1)), x39, x41, H, hF.sub _ ⟨rfl, rfl, rfl, rfl, rfl, trivial⟩, hM.pick [0, 1, 2, 3, 4] rfl rfl⟩
          ·
            refine s_cond_t hF rfl (congrArg Bool.not (bf c46)) ?_
            refine wp_seq ?_
            obtain ⟨c47, H⟩ := ite_some H
            refine s_region ?_
            refine s_val hF rfl rfl rfl (e_move hF rfl) ?_; intro a hF
            refine s_val hF rfl rfl rfl (e_move hF rfl) ?_; intro a hF
            refine s_val hF rfl rfl rfl (e_fa hF rfl Try.underlying48 rfl Try.sizeOf46 rfl rfl) ?_; intro a hF
            refine s_val hF rfl rfl rfl (e_ia hF rfl rfl Try.underlying46 Try.sizeOf3 c47.1 c47.2) ?_; intro a hF
            refine s_sti (i := 0) (k := 0) hF hM rfl rfl rfl rfl rfl rfl rfl Try.sizeOf3 c47.1 c47.2 ?_; intro a w hF hM
            refine s_nil ?_
            refine then_n ?_
            obtain ⟨t48, h49, H⟩ := bind_some H
            refine s_region ?_
            refine s_val hF rfl rfl rfl (e_ld (i := 1) (k := 0) hF hM rfl rfl rfl rfl Try.isAgg74 rfl) ?_; intro a hF
            refine s_val hF rfl rfl rfl (e_move hF rfl) ?_; intro a hF
            refine s_val hF rfl rfl rfl (e_add hF rfl rfl) ?_; intro a hF
            refine s_callv hF rfl rfl rfl rfl (callsV_of Try.call74 (hrec (wrap64 (a0 + 1)) b1 y2 b3 v40 x41 b6 (x39.set a0 x38) b8 (hM.lend [2, 3, 4, 0, 1] rfl rfl) t48 h49)) ?_; intro a w v hF hR
            obtain ⟨v50, hR, rfl⟩ := hR; have hM := hM.back [2, 3, 4, 0, 1] [] (by decide) rfl rfl hR
            refine s_nil ?_
            refine blk_n ?_
            refine then_n ?_
            refine s_region ?_
            refine s_val hF rfl rfl rfl (e_add hF rfl rfl) ?_; intro a hF
            refine s_val hF rfl rfl rfl (e_move hF rfl) ?_; intro a hF
            refine s_nil ?_
            refine then_n ?_
            exact ⟨v50, (wrap64 (x38 + 1)), t48.2.2, t48.2.1, H, hF.sub _ ⟨rfl, rfl, rfl, rfl, rfl, trivial⟩, hM.pick [3, 4, 0, 1, 2] rfl rfl⟩
        ·
          refine s_cond_f hF rfl (decide_eq_false c42) ?_
          refine wp_exit ?_
          refine then_x ?_
          refine then_x ?_
          exact ⟨rfl, v40, x39, x41, some_some H, hF.sub _ ⟨rfl, rfl, trivial⟩, hM.pick [0, 2, 3, 4, 1] rfl rfl⟩
    · rintro e a w ⟨rfl, v36, x35, x37, rfl, hF, hM⟩
      skip
      refine blk_x ?_
      refine then_n ?_
      obtain ⟨c53, H⟩ := ite_some H
      refine s_region ?_
      refine s_val hF rfl rfl rfl (e_move hF rfl) ?_; intro a hF
      refine s_val hF rfl rfl rfl (e_fa hF rfl Try.underlying48 rfl Try.sizeOf46 rfl rfl) ?_; intro a hF
      refine s_val hF rfl rfl rfl (e_ia hF rfl rfl Try.underlying46 Try.sizeOf3 c53.1 c53.2) ?_; intro a hF
      refine s_sti (i := 0) (k := 0) hF hM rfl rfl rfl rfl rfl rfl rfl Try.sizeOf3 c53.1 c53.2 ?_; intro a w hF hM
      refine s_nil ?_
      obtain rfl := some_some H
      refine s_retn [] hF Try.results74 trivial ?_
      exact ⟨_, rfl, v36, hM.pick [1, 2, 3, 0, 4] rfl rfl, rfl⟩
theorem impl_orders_1__orders_11.rcalls (K : Nat) : ∀ (k : Nat) {w0 : World} {X : List Nat} (a0 : Int) (b1 : Nat) (y2 : Int)  (b3 : Nat)  (v4 : Value) (y5 : (List (Ar 4))) (b6 : Nat) (y7 : (Ar 4))  (b8 : Nat)  (qM : Ms X w0 w0 [boxR b1 [Pt.int y2] 3, boxR b3 [Pt.any v4] 32, rowR cd48 v4 y5, boxR b6 [Pt.ar y7] 48, boxR b8 [Pt.val (Value.func (.func 74) #[] #[pt b1 0, pt b3 0, pt b6 0, pt b8 0]) rfl] 74]) (r : (Unit × ((List (Ar 4)) × (Ar 4)))) (H : impl_orders_1__orders_11.r K k a0 y2 y5 y7 = some r), Calls Try.prog 74 [Value.int .i64 a0, pt b1 0, pt b3 0, pt b6 0, pt b8 0].toArray w0 (fun e w => ∃ v, e = .returned v ∧ ∃ v54 : Value, Ms X w0 w [boxR b1 [Pt.int y2] 3, boxR b3 [Pt.any v54] 32, rowR cd48 v54 r.2.1, boxR b6 [Pt.ar r.2.2] 48, boxR b8 [Pt.val (Value.func (.func 74) #[] #[pt b1 0, pt b3 0, pt b6 0, pt b8 0]) rfl] 74] ∧ Value.tuple #[] = v)
  | 0, _, _, _, _, _, _, _, _, _, _, _, _, r, H => none_some H
  | k + 1, _, _, a0, b1, y2, b3, v4, y5, b6, y7, b8, qM, r, H => impl_orders_1__orders_11.step K (impl_orders_1__orders_11.r K k) (impl_orders_1__orders_11.rcalls K k) a0 b1 y2 b3 v4 y5 b6 y7 b8 qM r H
theorem impl_orders_1__orders_11.calls {w0 : World} {X : List Nat} (K : Nat) (a0 : Int) (b1 : Nat) (y2 : Int)  (b3 : Nat)  (v4 : Value) (y5 : (List (Ar 4))) (b6 : Nat) (y7 : (Ar 4))  (b8 : Nat)  (qM : Ms X w0 w0 [boxR b1 [Pt.int y2] 3, boxR b3 [Pt.any v4] 32, rowR cd48 v4 y5, boxR b6 [Pt.ar y7] 48, boxR b8 [Pt.val (Value.func (.func 74) #[] #[pt b1 0, pt b3 0, pt b6 0, pt b8 0]) rfl] 74]) (r : (Unit × ((List (Ar 4)) × (Ar 4)))) (H : impl_orders_1__orders_11.f K a0 y2 y5 y7 = some r) : Calls Try.prog 74 [Value.int .i64 a0, pt b1 0, pt b3 0, pt b6 0, pt b8 0].toArray w0 (fun e w => ∃ v, e = .returned v ∧ ∃ v54 : Value, Ms X w0 w [boxR b1 [Pt.int y2] 3, boxR b3 [Pt.any v54] 32, rowR cd48 v54 r.2.1, boxR b6 [Pt.ar r.2.2] 48, boxR b8 [Pt.val (Value.func (.func 74) #[] #[pt b1 0, pt b3 0, pt b6 0, pt b8 0]) rfl] 74] ∧ Value.tuple #[] = v) := impl_orders_1__orders_11.rcalls K K a0 b1 y2 b3 v4 y5 b6 y7 b8 qM r H

/-! ### loop.example/g01210/impl.orders: function 52 -/
def impl_orders.f (K : Nat) (a0 : Int) : Option (List (Ar 4)) := (impl_orders_1__orders_11.f K 0 a0 ([] : List (Ar 4)) (⟨[(-1), (-1), (-1), (-1)], rfl⟩ : Ar 4)).bind fun t5 => some t5.2.1
set_option maxRecDepth 100000 in
set_option maxHeartbeats 4000000 in
theorem impl_orders.calls {w0 : World} (K : Nat) (a0 : Int) (r : (List (Ar 4))) (H : impl_orders.f K a0 = some r) : Calls Try.prog 52 [Value.int .i64 a0].toArray w0 (Post w0 fun w v => Fresh cd48 w0.heap.size w v r) := by
  rw [impl_orders.f] at H
  refine s_start Try.func52 rfl Try.ntmps52 rfl ?_
  intro a hF
  have hM := Ms.start w0
  skip
  refine wp_seq ?_
  refine s_region ?_
  refine s_box (ps := [Pt.int a0]) hF hM rfl rfl rfl rfl ?_; intro a w b1 hF hM
  refine s_val hF rfl rfl rfl (e_assign hF rfl) ?_; intro a hF
  refine s_nil ?_
  refine then_n ?_
  refine wp_seq ?_
  refine s_region ?_
  have hM := hM.nilRow cd48
  refine s_alloc (ps := [Pt.any (Value.slice none 0 0)]) hF hM rfl rfl zv32 rfl ?_; intro a w b2 hF hM
  refine s_nil ?_
  refine then_n ?_
  refine wp_seq ?_
  refine s_region ?_
  refine s_val hF rfl rfl rfl (e_build' (cells := cat [Pt.ar (⟨[(-1), (-1), (-1), (-1)], rfl⟩ : Ar 4)]) hF rfl (by kernel_rfl)) ?_; intro a hF
  refine s_val hF rfl rfl rfl (e_build' hF rfl (bld48 (⟨[(-1), (-1), (-1), (-1)], rfl⟩ : Ar 4))) ?_; intro a hF
  refine s_alloc (ps := [Pt.ar (Ar.zero 4)]) hF hM rfl rfl zv48 rfl ?_; intro a w b3 hF hM
  refine s_stw (i := 0) (ps' := [Pt.ar (⟨[(-1), (-1), (-1), (-1)], rfl⟩ : Ar 4)]) hF hM rfl rfl rfl rfl rfl rfl Try.sizeOf48 rfl ?_; intro a w hF hM
  refine s_nil ?_
  refine then_n ?_
  refine wp_seq ?_
  refine s_region ?_
  refine s_alloc (ps := [Pt.val Value.nilFunc rfl]) hF hM rfl rfl zv74 rfl ?_; intro a w b4 hF hM
  refine s_nil ?_
  refine then_n ?_
  refine wp_seq ?_
  refine s_region ?_
  refine s_val hF rfl rfl rfl (e_mkfunc (hF.evs' rfl)) ?_; intro a hF
  refine s_st (i := 0) (k := 0) (Pt.val (Value.func (.func 74) #[] #[pt b1 0, pt b2 0, pt b3 0, pt b4 0]) rfl) hF hM rfl rfl rfl rfl rfl rfl rfl rfl Try.sizeOf74 rfl ?_; intro a w hF hM
  refine s_nil ?_
  refine then_n ?_
  refine wp_seq ?_
  obtain ⟨t5, h6, H⟩ := bind_some H
  refine s_region ?_
  refine s_val hF rfl rfl rfl (e_ld (i := 0) (k := 0) hF hM rfl rfl rfl rfl Try.isAgg74 rfl) ?_; intro a hF
  refine s_callv hF rfl rfl rfl rfl (callsV_of Try.call74 (impl_orders_1__orders_11.calls K 0 b1 a0 b2 (Value.slice none 0 0) ([] : List (Ar 4)) b3 (⟨[(-1), (-1), (-1), (-1)], rfl⟩ : Ar 4) b4 (hM.lend [4, 2, 3, 1, 0] rfl rfl) t5 h6)) ?_; intro a w v hF hR
  obtain ⟨v7, hR, rfl⟩ := hR; have hM := hM.back [4, 2, 3, 1, 0] [] (by decide) rfl rfl hR
  refine s_nil ?_
  refine then_n ?_
  refine wp_seq ?_
  refine s_region ?_
  refine s_val hF rfl rfl rfl (e_ld (i := 1) (k := 0) hF hM rfl rfl rfl rfl Try.isAgg32 (any_cs (hM.sl 2 rfl).toF.one)) ?_; intro a hF
  refine s_val hF rfl rfl rfl (e_assign hF rfl) ?_; intro a hF
  refine s_nil ?_
  refine then_n ?_
  refine wp_ret ?_
  obtain rfl := some_some H
  refine s_ret [v7] hF Try.results52 ⟨rfl, trivial⟩ ?_
  exact ⟨_, rfl, hM.frm, hM.give 2 rfl⟩

/-! ### loop.example/g01210/impl.OrdersOf: function 21 -/
def impl_OrdersOf.f (K : Nat) (a0 : Int) : Option ((List (Ar 4)) × Bool) := (impl_within.f K a0 1 4).bind fun t1 => if t1 = true then ((impl_orders.f K a0).bind fun t4 => some (t4, true)) else (some ([], false))
set_option maxRecDepth 100000 in
set_option maxHeartbeats 4000000 in
theorem impl_OrdersOf.calls {w0 : World} (K : Nat) (a0 : Int) (r : ((List (Ar 4)) × Bool)) (H : impl_OrdersOf.f K a0 = some r) : Calls Try.prog 21 [Value.int .i64 a0].toArray w0 (Post w0 fun w v => ∃ v0 : Value, v = Value.tuple #[v0, Value.bool r.2] ∧ Fresh cd48 w0.heap.size w v0 r.1) := by
  rw [impl_OrdersOf.f] at H
  refine s_start Try.func21 rfl Try.ntmps21 rfl ?_
  intro a hF
  have hM := Ms.start w0
  skip
  refine wp_seq ?_
  refine s_region ?_
  refine s_val hF rfl rfl rfl (e_assign hF rfl) ?_; intro a hF
  refine s_val hF rfl rfl rfl (e_assign hF rfl) ?_; intro a hF
  refine s_nil ?_
  refine then_n ?_
  refine wp_seq ?_
  refine wp_seq ?_
  obtain ⟨t1, h2, H⟩ := bind_some H
  refine s_region ?_
  refine s_val hF rfl rfl rfl (e_move hF rfl) ?_; intro a hF
  refine s_call hF rfl rfl rfl Try.call44 (impl_within.calls K a0 1 4 t1 h2) ?_; intro a w v hF hf hR
  subst hR; have hM := hM.grow hf
  refine s_val hF rfl rfl rfl (e_not hF rfl) ?_; intro a hF
  refine s_nil ?_
  refine then_n ?_
  rcases ite_cases H with ⟨c3, H⟩ | ⟨c3, H⟩
  ·
    refine s_cond_f hF rfl (congrArg Bool.not c3) ?_
    refine wp_skip ?_
    refine then_n ?_
    refine wp_seq ?_
    obtain ⟨t4, h5, H⟩ := bind_some H
    refine s_region ?_
    refine s_val hF rfl rfl rfl (e_move hF rfl) ?_; intro a hF
    refine s_call hF rfl rfl rfl Try.call52 (impl_orders.calls K a0 t4 h5) ?_; intro a w v6 hF hf hR
    have hM := hM.fresh hf hR
    refine s_val hF rfl rfl rfl (e_assign hF rfl) ?_; intro a hF
    refine s_val hF rfl rfl rfl (e_assign hF rfl) ?_; intro a hF
    refine s_nil ?_
    refine then_n ?_
    refine wp_ret ?_
    obtain rfl := some_some H
    refine s_ret [v6, Value.bool true] hF Try.results21 ⟨rfl, rfl, trivial⟩ ?_
    exact ⟨_, rfl, hM.frm, ⟨v6, rfl, hM.give 0 rfl⟩⟩
  ·
    refine s_cond_t hF rfl (congrArg Bool.not (bf c3)) ?_
    refine wp_seq ?_
    refine s_region ?_
    refine s_val hF rfl rfl rfl (e_assign hF rfl) ?_; intro a hF
    refine s_val hF rfl rfl rfl (e_assign hF rfl) ?_; intro a hF
    refine s_nil ?_
    refine then_n ?_
    refine wp_ret ?_
    refine then_r ?_
    obtain rfl := some_some H
    refine s_ret [(Value.slice none 0 0), Value.bool false] hF Try.results21 ⟨rfl, rfl, trivial⟩ ?_
    exact ⟨_, rfl, hM.frm, ⟨(Value.slice none 0 0), rfl, Fresh.nil _ _ _⟩⟩

/-! ### loop.example/g01210/laws.eqIntA4: function 65 -/
def laws_eqIntA4.l0 (K : Nat) (a0 : (Ar 4)) (a1 : (Ar 4)) : Nat → Int → Option (Sum Unit Bool)
  | 0, _ => none
  | k + 1, x8 => if x8 < 4 then (if (0 : Int) ≤ x8 ∧ x8 < 4 then (if (a0.get x8) = (a1.get x8) then (laws_eqIntA4.l0 K a0 a1 k (wrap64 (x8 + 1))) else (some (Sum.inr false))) else none) else (some (Sum.inl ()))
def laws_eqIntA4.f (K : Nat) (a0 : (Ar 4)) (a1 : (Ar 4)) : Option Bool := (laws_eqIntA4.l0 K a0 a1 K 0).bind fun o12 => (match o12 with | .inl () => some true | .inr r14 => some r14)
set_option maxRecDepth 100000 in
set_option maxHeartbeats 4000000 in
theorem laws_eqIntA4.calls {w0 : World} (K : Nat) (a0 : (Ar 4)) (a1 : (Ar 4)) (r : Bool) (H : laws_eqIntA4.f K a0 a1 = some r) : Calls Try.prog 65 [ag [Pt.ar a0], ag [Pt.ar a1]].toArray w0 (Post w0 fun w v => v = Value.bool r) := by
  rw [laws_eqIntA4.f] at H
  refine s_start Try.func65 rfl Try.ntmps65 rfl ?_
  intro a hF
  have hM := Ms.start w0
  skip
  refine wp_seq ?_
  refine s_region ?_
  refine s_box (ps := [Pt.ar a0]) hF hM rfl rfl rfl rfl ?_; intro a w b1 hF hM
  refine s_box (ps := [Pt.ar a1]) hF hM rfl rfl rfl rfl ?_; intro a w b2 hF hM
  refine s_val hF rfl rfl rfl (e_assign hF rfl) ?_; intro a hF
  refine s_nil ?_
  refine then_n ?_
  refine wp_seq ?_
  refine wp_seq ?_
  refine s_region ?_
  refine s_val hF rfl rfl rfl (e_assign hF rfl) ?_; intro a hF
  refine s_nil ?_
  refine then_n ?_
  refine wp_block ?_
  obtain ⟨o12, h13, H⟩ := bind_some H
  refine wp_mono (Q := fun e a w => (e = Exit.exit 0 ∧ Sum.inl () = o12 ∧ Fr 17 a [] ∧ Ms [] w0 w []) ∨ (e = Exit.ret ∧ ∃ r14 : Bool, Sum.inr r14 = o12 ∧ Fr 17 a [(4, Value.bool r14)] ∧ Ms [] w0 w [])) ?_ ?_
  · refine s_loop (fun kq a w => ∃ x8 : Int, laws_eqIntA4.l0 K a0 a1 kq x8 = some o12 ∧ Fr 17 a [(2, pt b1 0), (3, pt b2 0), (5, Value.int .i64 x8)] ∧ Ms [] w0 w [boxR b1 [Pt.ar a0] 46, boxR b2 [Pt.ar a1] 46]) K ⟨0, h13, hF.sub _ ⟨rfl, rfl, rfl, trivial⟩, hM.pick [1, 0] rfl rfl⟩ ?_ ?_
    · rintro a w ⟨_, H, _⟩; exact none_some H
    · rintro k a w ⟨x8, H, hF, hM⟩; rw [laws_eqIntA4.l0] at H
      refine wp_seq ?_
      refine wp_seq ?_
      refine s_region ?_
      refine s_val hF rfl rfl rfl (e_move hF rfl) ?_; intro a hF
      refine s_val hF rfl rfl rfl (e_lss hF rfl rfl) ?_; intro a hF
      refine s_nil ?_
      refine then_n ?_
      rcases ite_cases H with ⟨c9, H⟩ | ⟨c9, H⟩
      ·
        refine s_cond_t hF rfl (decide_eq_true c9) ?_
        refine wp_skip ?_
        refine then_n ?_
        refine wp_seq ?_
        refine wp_block ?_
        refine wp_seq ?_
        obtain ⟨c10, H⟩ := ite_some H
        refine s_held (fun w => Ms [] w0 w [boxR b1 [Pt.ar a0] 46, boxR b2 [Pt.ar a1] 46]) #[false, false, false, false, false, false, false] mixed rfl rfl hM ?_; intro w hf hM; clear hf
        refine h_val 0 #[true, false, false, false, false, false, false] rfl (by kernel_rfl) hF rfl rfl rfl (fun w hS => e_move hF rfl) (hM.pick [0, 1] rfl rfl) ?_; intro a hF
        refine h_val 1 #[true, true, false, false, false, false, false] rfl (by kernel_rfl) hF rfl rfl rfl (fun w hS => e_ia hF rfl rfl Try.underlying46 Try.sizeOf3 c10.1 c10.2) (hM.pick [0, 1] rfl rfl) ?_; intro a hF
        refine h_val 2 #[true, true, true, false, false, false, false] rfl (by kernel_rfl) hF rfl rfl rfl (fun w hS => e_ldi (i := 0) (k := 0) hF hS rfl rfl rfl rfl rfl Try.isAgg3 c10.1 c10.2) (hM.pick [0, 1] rfl rfl) ?_; intro a hF
        refine h_val 3 #[true, true, true, true, false, false, false] rfl (by kernel_rfl) hF rfl rfl rfl (fun w hS => e_move hF rfl) (hM.pick [0, 1] rfl rfl) ?_; intro a hF
        refine h_val 4 #[true, true, true, true, true, false, false] rfl (by kernel_rfl) hF rfl rfl rfl (fun w hS => e_ia hF rfl rfl Try.underlying46 Try.sizeOf3 c10.1 c10.2) (hM.pick [0, 1] rfl rfl) ?_; intro a hF
        refine h_val 5 #[true, true, true, true, true, true, false] rfl (by kernel_rfl) hF rfl rfl rfl (fun w hS => e_ldi (i := 1) (k := 0) hF hS rfl rfl rfl rfl rfl Try.isAgg3 c10.1 c10.2) (hM.pick [0, 1] rfl rfl) ?_; intro a hF
        refine h_val 6 #[true, true, true, true, true, true, true] rfl (by kernel_rfl) hF rfl rfl rfl (fun w hS => e_neq hF rfl rfl) (hM.pick [0, 1] rfl rfl) ?_; intro a hF
        refine h_done rfl ?_
        refine then_n ?_
        rcases ite_cases H with ⟨c11, H⟩ | ⟨c11, H⟩
        ·
          refine s_cond_f hF rfl (congrArg Bool.not (decide_eq_true c11)) ?_
          refine wp_skip ?_
          refine blk_n ?_
          refine then_n ?_
          refine s_region ?_
          refine s_val hF rfl rfl rfl (e_move hF rfl) ?_; intro a hF
          refine s_val hF rfl rfl rfl (e_add hF rfl rfl) ?_; intro a hF
          refine s_val hF rfl rfl rfl (e_assign hF rfl) ?_; intro a hF
          refine s_nil ?_
          refine then_n ?_
          exact ⟨(wrap64 (x8 + 1)), H, hF.sub _ ⟨rfl, rfl, rfl, trivial⟩, hM.pick [0, 1] rfl rfl⟩
        ·
          refine s_cond_t hF rfl (congrArg Bool.not (decide_eq_false c11)) ?_
          refine wp_seq ?_
          refine s_region ?_
          refine s_val hF rfl rfl rfl (e_assign hF rfl) ?_; intro a hF
          refine s_nil ?_
          refine then_n ?_
          refine wp_ret ?_
          refine blk_r ?_
          refine then_r ?_
          refine then_r ?_
          exact Or.inr (⟨rfl, false, some_some H, hF.sub _ ⟨rfl, trivial⟩, hM.pick [] rfl rfl⟩)
      ·
        refine s_cond_f hF rfl (decide_eq_false c9) ?_
        refine wp_exit ?_
        refine then_x ?_
        refine then_x ?_
        exact Or.inl (⟨rfl, some_some H, hF.sub _ trivial, hM.pick [] rfl rfl⟩)
  · rintro e a w (⟨rfl, rfl, hF, hM⟩ | ⟨rfl, r14, rfl, hF, hM⟩)
    ·
      dsimp only at H
      refine blk_x ?_
      refine then_n ?_
      refine wp_seq ?_
      refine s_region ?_
      refine s_val hF rfl rfl rfl (e_assign hF rfl) ?_; intro a hF
      refine s_nil ?_
      refine then_n ?_
      refine wp_ret ?_
      obtain rfl := some_some H
      refine s_ret [Value.bool true] hF Try.results65 ⟨rfl, trivial⟩ ?_
      exact ⟨_, rfl, hM.frm, rfl⟩
    ·
      dsimp only at H
      refine blk_r ?_
      refine then_r ?_
      obtain rfl := some_some H
      refine s_ret [Value.bool r14] hF Try.results65 ⟨rfl, trivial⟩ ?_
      exact ⟨_, rfl, hM.frm, rfl⟩

/-! ### loop.example/g01210/laws.eqOrder: function 36 -/
def laws_eqOrder.f (K : Nat) (a0 : (Ar 4)) (a1 : (Ar 4)) : Option Bool := (laws_eqIntA4.f K a0 a1).bind fun t3 => if t3 = true then (some true) else (some false)
set_option maxRecDepth 100000 in
set_option maxHeartbeats 4000000 in
theorem laws_eqOrder.calls {w0 : World} (K : Nat) (a0 : (Ar 4)) (a1 : (Ar 4)) (r : Bool) (H : laws_eqOrder.f K a0 a1 = some r) : Calls Try.prog 36 [ag [Pt.ar a0], ag [Pt.ar a1]].toArray w0 (Post w0 fun w v => v = Value.bool r) := by
  rw [laws_eqOrder.f] at H
  refine s_start Try.func36 rfl Try.ntmps36 rfl ?_
  intro a hF
  have hM := Ms.start w0
  skip
  refine wp_seq ?_
  refine s_region ?_
  refine s_box (ps := [Pt.ar a0]) hF hM rfl rfl rfl rfl ?_; intro a w b1 hF hM
  refine s_box (ps := [Pt.ar a1]) hF hM rfl rfl rfl rfl ?_; intro a w b2 hF hM
  refine s_val hF rfl rfl rfl (e_assign hF rfl) ?_; intro a hF
  refine s_nil ?_
  refine then_n ?_
  refine wp_seq ?_
  refine wp_seq ?_
  obtain ⟨t3, h4, H⟩ := bind_some H
  refine s_region ?_
  refine s_val hF rfl rfl rfl (e_fa hF rfl Try.underlying48 rfl Try.sizeOf46 rfl rfl) ?_; intro a hF
  refine s_val hF rfl rfl rfl (e_lda (i := 1) 0 1 hF hM rfl rfl rfl rfl Try.isAgg46 Try.sizeOf46 rfl) ?_; intro a hF
  refine s_val hF rfl rfl rfl (e_fa hF rfl Try.underlying48 rfl Try.sizeOf46 rfl rfl) ?_; intro a hF
  refine s_val hF rfl rfl rfl (e_lda (i := 0) 0 1 hF hM rfl rfl rfl rfl Try.isAgg46 Try.sizeOf46 rfl) ?_; intro a hF
  refine s_call hF rfl rfl rfl Try.call65 (laws_eqIntA4.calls K a0 a1 t3 h4) ?_; intro a w v hF hf hR
  subst hR; have hM := hM.grow hf
  refine s_val hF rfl rfl rfl (e_not hF rfl) ?_; intro a hF
  refine s_nil ?_
  refine then_n ?_
  rcases ite_cases H with ⟨c5, H⟩ | ⟨c5, H⟩
  ·
    refine s_cond_f hF rfl (congrArg Bool.not c5) ?_
    refine wp_skip ?_
    refine then_n ?_
    refine wp_seq ?_
    refine s_region ?_
    refine s_val hF rfl rfl rfl (e_assign hF rfl) ?_; intro a hF
    refine s_nil ?_
    refine then_n ?_
    refine wp_ret ?_
    obtain rfl := some_some H
    refine s_ret [Value.bool true] hF Try.results36 ⟨rfl, trivial⟩ ?_
    exact ⟨_, rfl, hM.frm, rfl⟩
  ·
    refine s_cond_t hF rfl (congrArg Bool.not (bf c5)) ?_
    refine wp_seq ?_
    refine s_region ?_
    refine s_val hF rfl rfl rfl (e_assign hF rfl) ?_; intro a hF
    refine s_nil ?_
    refine then_n ?_
    refine wp_ret ?_
    refine then_r ?_
    obtain rfl := some_some H
    refine s_ret [Value.bool false] hF Try.results36 ⟨rfl, trivial⟩ ?_
    exact ⟨_, rfl, hM.frm, rfl⟩

/-! ### loop.example/g01210/laws.eqOrderS: function 22 -/
def laws_eqOrderS.l0 (K : Nat) (l0 : (List (Ar 4))) (l1 : (List (Ar 4))) : Nat → Int → Option (Sum Unit Bool)
  | 0, _ => none
  | k + 1, x15 => if x15 < (l0.length : Int) then (if (0 : Int) ≤ x15 ∧ x15 < (l0.length : Int) then (if (0 : Int) ≤ x15 ∧ x15 < (l1.length : Int) then ((laws_eqOrder.f K (l0.getD (x15 : Int).toNat (Ar.zero 4)) (l1.getD (x15 : Int).toNat (Ar.zero 4))).bind fun t19 => if t19 = true then (laws_eqOrderS.l0 K l0 l1 k (wrap64 (x15 + 1))) else (some (Sum.inr false))) else none) else none) else (some (Sum.inl ()))
def laws_eqOrderS.f (K : Nat) (l0 : (List (Ar 4))) (l1 : (List (Ar 4))) : Option Bool := if (l0.length : Int) = (l1.length : Int) then ((laws_eqOrderS.l0 K l0 l1 K 0).bind fun o24 => (match o24 with | .inl () => some true | .inr r26 => some r26)) else (some false)
set_option maxRecDepth 100000 in
set_option maxHeartbeats 4000000 in
theorem laws_eqOrderS.calls {w0 : World} (K : Nat) (l0 : (List (Ar 4))) (u0 : Value) (q0 : SlR cd48 w0 u0 l0) (l1 : (List (Ar 4))) (u1 : Value) (q1 : SlR cd48 w0 u1 l1) (r : Bool) (H : laws_eqOrderS.f K l0 l1 = some r) : Calls Try.prog 22 [u0, u1].toArray w0 (Post w0 fun w v => v = Value.bool r) := by
  rw [laws_eqOrderS.f] at H
  refine s_start Try.func22 rfl Try.ntmps22 rfl ?_
  intro a hF
  have hM := Ms.start w0
  skip
  refine wp_seq ?_
  refine s_region ?_
  refine s_val hF rfl rfl rfl (e_assign hF rfl) ?_; intro a hF
  refine s_nil ?_
  refine then_n ?_
  refine wp_seq ?_
  refine wp_seq ?_
  refine s_region ?_
  refine s_val hF rfl rfl rfl (e_move hF rfl) ?_; intro a hF
  refine s_val hF rfl rfl rfl (e_len hF rfl (q0.frm hM.frm).toF Try.underlying32) ?_; intro a hF
  refine s_val hF rfl rfl rfl (e_move hF rfl) ?_; intro a hF
  refine s_val hF rfl rfl rfl (e_len hF rfl (q1.frm hM.frm).toF Try.underlying32) ?_; intro a hF
  refine s_val hF rfl rfl rfl (e_neq hF rfl rfl) ?_; intro a hF
  refine s_nil ?_
  refine then_n ?_
  rcases ite_cases H with ⟨c1, H⟩ | ⟨c1, H⟩
  ·
    refine s_cond_f hF rfl (congrArg Bool.not (decide_eq_true c1)) ?_
    refine wp_skip ?_
    refine then_n ?_
    refine wp_seq ?_
    refine wp_seq ?_
    refine s_region ?_
    refine s_val hF rfl rfl rfl (e_assign hF rfl) ?_; intro a hF
    refine s_nil ?_
    refine then_n ?_
    refine wp_block ?_
    obtain ⟨o24, h25, H⟩ := bind_some H
    refine wp_mono (Q := fun e a w => (e = Exit.exit 0 ∧ Sum.inl () = o24 ∧ Fr 27 a [] ∧ Ms [] w0 w []) ∨ (e = Exit.ret ∧ ∃ r26 : Bool, Sum.inr r26 = o24 ∧ Fr 27 a [(4, Value.bool r26)] ∧ Ms [] w0 w [])) ?_ ?_
    · refine s_loop (fun kq a w => ∃ x15 : Int, laws_eqOrderS.l0 K l0 l1 kq x15 = some o24 ∧ Fr 27 a [(0, u0), (1, u1), (5, Value.int .i64 x15)] ∧ Ms [] w0 w []) K ⟨0, h25, hF.sub _ ⟨rfl, rfl, rfl, trivial⟩, hM.pick [] rfl rfl⟩ ?_ ?_
      · rintro a w ⟨_, H, _⟩; exact none_some H
      · rintro k a w ⟨x15, H, hF, hM⟩; rw [laws_eqOrderS.l0] at H
        refine wp_seq ?_
        refine wp_seq ?_
        refine s_region ?_
        refine s_val hF rfl rfl rfl (e_move hF rfl) ?_; intro a hF
        refine s_val hF rfl rfl rfl (e_move hF rfl) ?_; intro a hF
        refine s_val hF rfl rfl rfl (e_len hF rfl (q0.frm hM.frm).toF Try.underlying32) ?_; intro a hF
        refine s_val hF rfl rfl rfl (e_lss hF rfl rfl) ?_; intro a hF
        refine s_nil ?_
        refine then_n ?_
        rcases ite_cases H with ⟨c16, H⟩ | ⟨c16, H⟩
        ·
          refine s_cond_t hF rfl (decide_eq_true c16) ?_
          refine wp_skip ?_
          refine then_n ?_
          refine wp_seq ?_
          refine wp_block ?_
          refine wp_seq ?_
          obtain ⟨c17, H⟩ := ite_some H
          obtain ⟨c18, H⟩ := ite_some H
          obtain ⟨t19, h20, H⟩ := bind_some H
          refine s_held (fun w => Ms [] w0 w []) #[false, false, false, false, false, false, false, false, false, false] mixed rfl rfl hM ?_; intro w hf hM; clear hf
          refine h_val 0 #[true, false, false, false, false, false, false, false, false, false] rfl (by kernel_rfl) hF rfl rfl rfl (fun w hS => e_move hF rfl) (hM.pick [] rfl rfl) ?_; intro a hF
          refine h_val 1 #[true, true, false, false, false, false, false, false, false, false] rfl (by kernel_rfl) hF rfl rfl rfl (fun w hS => e_move hF rfl) (hM.pick [] rfl rfl) ?_; intro a hF
          have f21 := (q0.frm hM.frm).toF
          refine h_val 2 #[true, true, true, false, false, false, false, false, false, false] rfl (by kernel_rfl) hF rfl rfl rfl (fun w hS => e_ias cd48 hF rfl rfl f21 Try.underlying32 Try.sizeOf48 c17.1 c17.2) (hM.pick [] rfl rfl) ?_; intro a hF
          refine h_val 3 #[true, true, true, true, false, false, false, false, false, false] rfl (by kernel_rfl) hF rfl rfl rfl (fun w hS => e_ldsa (m := x15) hF rfl (q0.frm hS.frm) (getD_some (z := (Ar.zero 4)) c17.1 c17.2) Try.isAgg48 Try.sizeOf48) (hM.pick [] rfl rfl) ?_; intro a hF
          refine h_val 4 #[true, true, true, true, true, false, false, false, false, false] rfl (by kernel_rfl) hF rfl rfl rfl (fun w hS => e_move hF rfl) (hM.pick [] rfl rfl) ?_; intro a hF
          refine h_val 5 #[true, true, true, true, true, true, false, false, false, false] rfl (by kernel_rfl) hF rfl rfl rfl (fun w hS => e_move hF rfl) (hM.pick [] rfl rfl) ?_; intro a hF
          have f22 := (q1.frm hM.frm).toF
          refine h_val 6 #[true, true, true, true, true, true, true, false, false, false] rfl (by kernel_rfl) hF rfl rfl rfl (fun w hS => e_ias cd48 hF rfl rfl f22 Try.underlying32 Try.sizeOf48 c18.1 c18.2) (hM.pick [] rfl rfl) ?_; intro a hF
          refine h_val 7 #[true, true, true, true, true, true, true, true, false, false] rfl (by kernel_rfl) hF rfl rfl rfl (fun w hS => e_ldsa (m := x15) hF rfl (q1.frm hS.frm) (getD_some (z := (Ar.zero 4)) c18.1 c18.2) Try.isAgg48 Try.sizeOf48) (hM.pick [] rfl rfl) ?_; intro a hF
          refine h_one 8 #[true, true, true, true, true, true, true, true, true, false] rfl (by kernel_rfl) ?_
          refine s_call hF rfl rfl rfl Try.call36 (laws_eqOrder.calls K (l0.getD (x15 : Int).toNat (Ar.zero 4)) (l1.getD (x15 : Int).toNat (Ar.zero 4)) t19 h20) ?_; intro a w v hF hf hR
          subst hR; have hM := hM.grow hf
          refine s_nil ⟨rfl, (hM.pick [] rfl rfl), ?_⟩
          refine h_val 9 #[true, true, true, true, true, true, true, true, true, true] rfl (by kernel_rfl) hF rfl rfl rfl (fun w hS => e_not hF rfl) (hM.pick [] rfl rfl) ?_; intro a hF
          refine h_done rfl ?_
          refine then_n ?_
          rcases ite_cases H with ⟨c23, H⟩ | ⟨c23, H⟩
          ·
            refine s_cond_f hF rfl (congrArg Bool.not c23) ?_
            refine wp_skip ?_
            refine blk_n ?_
            refine then_n ?_
            refine s_region ?_
            refine s_val hF rfl rfl rfl (e_move hF rfl) ?_; intro a hF
            refine s_val hF rfl rfl rfl (e_add hF rfl rfl) ?_; intro a hF
            refine s_val hF rfl rfl rfl (e_assign hF rfl) ?_; intro a hF
            refine s_nil ?_
            refine then_n ?_
            exact ⟨(wrap64 (x15 + 1)), H, hF.sub _ ⟨rfl, rfl, rfl, trivial⟩, hM.pick [] rfl rfl⟩
          ·
            refine s_cond_t hF rfl (congrArg Bool.not (bf c23)) ?_
            refine wp_seq ?_
            refine s_region ?_
            refine s_val hF rfl rfl rfl (e_assign hF rfl) ?_; intro a hF
            refine s_nil ?_
            refine then_n ?_
            refine wp_ret ?_
            refine blk_r ?_
            refine then_r ?_
            refine then_r ?_
            exact Or.inr (⟨rfl, false, some_some H, hF.sub _ ⟨rfl, trivial⟩, hM.pick [] rfl rfl⟩)
        ·
          refine s_cond_f hF rfl (decide_eq_false c16) ?_
          refine wp_exit ?_
          refine then_x ?_
          refine then_x ?_
          exact Or.inl (⟨rfl, some_some H, hF.sub _ trivial, hM.pick [] rfl rfl⟩)
    · rintro e a w (⟨rfl, rfl, hF, hM⟩ | ⟨rfl, r26, rfl, hF, hM⟩)
      ·
        dsimp only at H
        refine blk_x ?_
        refine then_n ?_
        refine wp_seq ?_
        refine s_region ?_
        refine s_val hF rfl rfl rfl (e_assign hF rfl) ?_; intro a hF
        refine s_nil ?_
        refine then_n ?_
        refine wp_ret ?_
        obtain rfl := some_some H
        refine s_ret [Value.bool true] hF Try.results22 ⟨rfl, trivial⟩ ?_
        exact ⟨_, rfl, hM.frm, rfl⟩
      ·
        dsimp only at H
        refine blk_r ?_
        refine then_r ?_
        obtain rfl := some_some H
        refine s_ret [Value.bool r26] hF Try.results22 ⟨rfl, trivial⟩ ?_
        exact ⟨_, rfl, hM.frm, rfl⟩
  ·
    refine s_cond_t hF rfl (congrArg Bool.not (decide_eq_false c1)) ?_
    refine wp_seq ?_
    refine s_region ?_
    refine s_val hF rfl rfl rfl (e_assign hF rfl) ?_; intro a hF
    refine s_nil ?_
    refine then_n ?_
    refine wp_ret ?_
    refine then_r ?_
    obtain rfl := some_some H
    refine s_ret [Value.bool false] hF Try.results22 ⟨rfl, trivial⟩ ?_
    exact ⟨_, rfl, hM.frm, rfl⟩

/-! ### loop.example/g01210/laws.markOrderS: function 23 -/
def laws_markOrderS.l3 (K : Nat) (x43 : Int) : Nat → Int → Int → (List (Ar 4)) → Option (Int × (List (Ar 4)))
  | 0, _, _, _ => none
  | k + 1, x55, x56, x57 => if x56 < 4 then (if (0 : Int) ≤ x43 ∧ x43 < (x57.length : Int) then (if (0 : Int) ≤ x56 ∧ x56 < 4 then (laws_markOrderS.l3 K x43 k (wrap64 (x55 + 1)) (wrap64 (x56 + 1)) (x57.set (x43 : Int).toNat ((x57.getD (x43 : Int).toNat (Ar.zero 4)).set x56 x55))) else none) else none) else (some (x55, x57))
def laws_markOrderS.l2 (K : Nat) : Nat → Int → Int → (List (Ar 4)) → Option (Int × (List (Ar 4)))
  | 0, _, _, _ => none
  | k + 1, x42, x43, x44 => if x43 < (x44.length : Int) then ((laws_markOrderS.l3 K x43 K x42 0 x44).bind fun (x53, x54) => laws_markOrderS.l2 K k x53 (wrap64 (x43 + 1)) x54) else (some (x42, x44))
def laws_markOrderS.f (K : Nat) (l0 : (List (Ar 4))) (a1 : Int) : Option (Int × (List (Ar 4))) := (laws_markOrderS.l2 K K a1 0 l0).bind fun (x40, x41) => some (x40, x41)
set_option maxRecDepth 100000 in
set_option maxHeartbeats 4000000 in
theorem laws_markOrderS.calls {w0 : World} (K : Nat) (l0 : (List (Ar 4))) (u0 : Value) (q0 : (rowR cd48 u0 l0).holds w0) (a1 : Int) (r : (Int × (List (Ar 4)))) (H : laws_markOrderS.f K l0 a1 = some r) : Calls Try.prog 23 [u0, Value.int .i64 a1].toArray w0 (fun e w => ∃ v, e = .returned v ∧ Frm u0.ownBlock.toList w0 w ∧ (v = Value.int .i64 r.1) ∧ (rowR cd48 u0 r.2).holds w) := by
  rw [laws_markOrderS.f] at H
  refine s_start Try.func23 rfl Try.ntmps23 rfl ?_
  intro a hF
  have hM := Ms.start1 w0 (rowR cd48 u0 l0) q0 (fun b hb => (World.ownsRow.lt q0 b (by simpa [rowR] using hb)).2)
  skip
  refine wp_seq ?_
  refine s_region ?_
  refine s_val hF rfl rfl rfl (e_assign hF rfl) ?_; intro a hF
  refine s_nil ?_
  refine then_n ?_
  refine wp_seq ?_
  refine wp_seq ?_
  refine s_region ?_
  refine s_val hF rfl rfl rfl (e_assign hF rfl) ?_; intro a hF
  refine s_nil ?_
  refine then_n ?_
  refine wp_block ?_
  obtain ⟨o63, h64, H⟩ := bind_some H
  refine wp_mono (Q := fun e a w => (e = Exit.exit 0 ∧ ∃ x40 : Int, ∃ x41 : (List (Ar 4)), (x40, x41) = o63 ∧ Fr 27 a [(1, Value.int .i64 x40)] ∧ Ms u0.ownBlock.toList w0 w [rowR cd48 u0 x41])) ?_ ?_
  · refine s_loop (fun kq a w => ∃ x42 : Int, ∃ x43 : Int, ∃ x44 : (List (Ar 4)), laws_markOrderS.l2 K kq x42 x43 x44 = some o63 ∧ Fr 27 a [(0, u0), (1, Value.int .i64 x42), (5, Value.int .i64 x43)] ∧ Ms u0.ownBlock.toList w0 w [rowR cd48 u0 x44]) K ⟨a1, 0, l0, h64, hF.sub _ ⟨rfl, rfl, rfl, trivial⟩, hM.pick [0] rfl rfl⟩ ?_ ?_
    · rintro a w ⟨_, _, _, H, _⟩; exact none_some H
    · rintro k a w ⟨x42, x43, x44, H, hF, hM⟩; rw [laws_markOrderS.l2] at H
      refine wp_seq ?_
      refine wp_seq ?_
      refine s_region ?_
      refine s_val hF rfl rfl rfl (e_move hF rfl) ?_; intro a hF
      refine s_val hF rfl rfl rfl (e_move hF rfl) ?_; intro a hF
      refine s_val hF rfl rfl rfl (e_len hF rfl (hM.sl 0 rfl).toF Try.underlying32) ?_; intro a hF
      refine s_val hF rfl rfl rfl (e_lss hF rfl rfl) ?_; intro a hF
      refine s_nil ?_
      refine then_n ?_
      rcases ite_cases H with ⟨c45, H⟩ | ⟨c45, H⟩
      ·
        refine s_cond_t hF rfl (decide_eq_true c45) ?_
        refine wp_skip ?_
        refine then_n ?_
        refine wp_seq ?_
        refine wp_block ?_
        refine wp_seq ?_
        refine s_region ?_
        refine s_val hF rfl rfl rfl (e_assign hF rfl) ?_; intro a hF
        refine s_nil ?_
        refine then_n ?_
        refine wp_block ?_
        obtain ⟨o61, h62, H⟩ := bind_some H
        refine wp_mono (Q := fun e a w => (e = Exit.exit 2 ∧ ∃ x53 : Int, ∃ x54 : (List (Ar 4)), (x53, x54) = o61 ∧ Fr 27 a [(0, u0), (1, Value.int .i64 x53), (5, Value.int .i64 x43)] ∧ Ms u0.ownBlock.toList w0 w [rowR cd48 u0 x54])) ?_ ?_
        · refine s_loop (fun kq a w => ∃ x55 : Int, ∃ x56 : Int, ∃ x57 : (List (Ar 4)), laws_markOrderS.l3 K x43 kq x55 x56 x57 = some o61 ∧ Fr 27 a [(0, u0), (1, Value.int .i64 x55), (5, Value.int .i64 x43), (6, Value.int .i64 x56)] ∧ Ms u0.ownBlock.toList w0 w [rowR cd48 u0 x57]) K ⟨x42, 0, x44, h62, hF.sub _ ⟨rfl, rfl, rfl, rfl, trivial⟩, hM.pick [0] rfl rfl⟩ ?_ ?_
          · rintro a w ⟨_, _, _, H, _⟩; exact none_some H
          · rintro k a w ⟨x55, x56, x57, H, hF, hM⟩; rw [laws_markOrderS.l3] at H
            refine wp_seq ?_
            refine wp_seq ?_
            refine s_region ?_
            refine s_val hF rfl rfl rfl (e_move hF rfl) ?_; intro a hF
            refine s_val hF rfl rfl rfl (e_lss hF rfl rfl) ?_; intro a hF
            refine s_nil ?_
            refine then_n ?_
            rcases ite_cases H with ⟨c58, H⟩ | ⟨c58, H⟩
            ·
              refine s_cond_t hF rfl (decide_eq_true c58) ?_
              refine wp_skip ?_
              refine then_n ?_
              refine wp_seq ?_
              refine wp_block ?_
              refine wp_seq ?_
              obtain ⟨c59, H⟩ := ite_some H
              obtain ⟨c60, H⟩ := ite_some H
              refine s_region ?_
              refine s_val hF rfl rfl rfl (e_move hF rfl) ?_; intro a hF
              refine s_val hF rfl rfl rfl (e_move hF rfl) ?_; intro a hF
              refine s_val hF rfl rfl rfl (e_move hF rfl) ?_; intro a hF
              refine s_val hF rfl rfl rfl (e_move hF rfl) ?_; intro a hF
              refine s_val hF rfl rfl rfl (e_ias cd48 hF rfl rfl (hM.sl 0 rfl).toF Try.underlying32 Try.sizeOf48 c59.1 c59.2) ?_; intro a hF
              refine s_val hF rfl rfl rfl (e_fa hF rfl Try.underlying48 rfl Try.sizeOf46 rfl rfl) ?_; intro a hF
              refine s_val hF rfl rfl rfl (e_ia hF rfl rfl Try.underlying46 Try.sizeOf3 c60.1 c60.2) ?_; intro a hF
              refine s_stsi (i := 0) (k := 0) (o := 0) (m := x43) (m2 := x56) ((x57.getD (x43 : Int).toNat (Ar.zero 4)).set x56 x55) hF hM rfl rfl rfl rfl (getD_some (z := (Ar.zero 4)) c59.1 c59.2) rfl rfl rfl Try.sizeOf3 c60.1 c60.2 ?_; intro a w hF hM
              refine s_nil ?_
              refine then_n ?_
              refine s_region ?_
              refine s_val hF rfl rfl rfl (e_move hF rfl) ?_; intro a hF
              refine s_val hF rfl rfl rfl (e_add hF rfl rfl) ?_; intro a hF
              refine s_val hF rfl rfl rfl (e_assign hF rfl) ?_; intro a hF
              refine s_nil ?_
              refine blk_n ?_
              refine then_n ?_
              refine s_region ?_
              refine s_val hF rfl rfl rfl (e_move hF rfl) ?_; intro a hF
              refine s_val hF rfl rfl rfl (e_add hF rfl rfl) ?_; intro a hF
              refine s_val hF rfl rfl rfl (e_assign hF rfl) ?_; intro a hF
              refine s_nil ?_
              refine then_n ?_
              exact ⟨(wrap64 (x55 + 1)), (wrap64 (x56 + 1)), (x57.set (x43 : Int).toNat ((x57.getD (x43 : Int).toNat (Ar.zero 4)).set x56 x55)), H, hF.sub _ ⟨rfl, rfl, rfl, rfl, trivial⟩, hM.pick [0] rfl rfl⟩
            ·
              refine s_cond_f hF rfl (decide_eq_false c58) ?_
              refine wp_exit ?_
              refine then_x ?_
              refine then_x ?_
              exact ⟨rfl, x55, x57, some_some H, hF.sub _ ⟨rfl, rfl, rfl, trivial⟩, hM.pick [0] rfl rfl⟩
        · rintro e a w ⟨rfl, x53, x54, rfl, hF, hM⟩
          skip
          refine blk_x ?_
          refine blk_n ?_
          refine then_n ?_
          refine s_region ?_
          refine s_val hF rfl rfl rfl (e_move hF rfl) ?_; intro a hF
          refine s_val hF rfl rfl rfl (e_add hF rfl rfl) ?_; intro a hF
          refine s_val hF rfl rfl rfl (e_assign hF rfl) ?_; intro a hF
          refine s_nil ?_
          refine then_n ?_
          exact ⟨x53, (wrap64 (x43 + 1)), x54, H, hF.sub _ ⟨rfl, rfl, rfl, trivial⟩, hM.pick [0] rfl rfl⟩
      ·
        refine s_cond_f hF rfl (decide_eq_false c45) ?_
        refine wp_exit ?_
        refine then_x ?_
        refine then_x ?_
        exact ⟨rfl, x42, x44, some_some H, hF.sub _ ⟨rfl, trivial⟩, hM.pick [0] rfl rfl⟩
  · rintro e a w ⟨rfl, x40, x41, rfl, hF, hM⟩
    skip
    refine blk_x ?_
    refine then_n ?_
    refine wp_seq ?_
    refine s_region ?_
    refine s_val hF rfl rfl rfl (e_move hF rfl) ?_; intro a hF
    refine s_val hF rfl rfl rfl (e_assign hF rfl) ?_; intro a hF
    refine s_nil ?_
    refine then_n ?_
    refine wp_ret ?_
    obtain rfl := some_some H
    refine s_ret [Value.int .i64 x40] hF Try.results23 ⟨rfl, trivial⟩ ?_
    exact ⟨_, rfl, hM.frm, ⟨rfl, hM.get 0 rfl⟩⟩

/-! ### loop.example/g01210/laws.heldOrderS: function 24 -/
def laws_heldOrderS.l3 (K : Nat) (l0 : (List (Ar 4))) (x43 : Int) : Nat → Int → Int → Option (Sum Int Int)
  | 0, _, _ => none
  | k + 1, x54, x55 => if x55 < 4 then (if (0 : Int) ≤ x43 ∧ x43 < (l0.length : Int) then (if (0 : Int) ≤ x55 ∧ x55 < 4 then (if ((l0.getD (x43 : Int).toNat (Ar.zero 4)).get x55) = x54 then (laws_heldOrderS.l3 K l0 x43 k (wrap64 (x54 + 1)) (wrap64 (x55 + 1))) else (some (Sum.inr (-1)))) else none) else none) else (some (Sum.inl x54))
def laws_heldOrderS.l2 (K : Nat) (l0 : (List (Ar 4))) : Nat → Int → Int → Option (Sum Int Int)
  | 0, _, _ => none
  | k + 1, x42, x43 => if x43 < (l0.length : Int) then ((laws_heldOrderS.l3 K l0 x43 K x42 0).bind fun o60 => (match o60 with | .inl x53 => laws_heldOrderS.l2 K l0 k x53 (wrap64 (x43 + 1)) | .inr r62 => some (Sum.inr r62))) else (some (Sum.inl x42))
def laws_heldOrderS.f (K : Nat) (l0 : (List (Ar 4))) (a1 : Int) : Option Int := (laws_heldOrderS.l2 K l0 K a1 0).bind fun o63 => (match o63 with | .inl x41 => some x41 | .inr r65 => some r65)
set_option maxRecDepth 100000 in
set_option maxHeartbeats 4000000 in
theorem laws_heldOrderS.calls {w0 : World} (K : Nat) (l0 : (List (Ar 4))) (u0 : Value) (q0 : SlR cd48 w0 u0 l0) (a1 : Int) (r : Int) (H : laws_heldOrderS.f K l0 a1 = some r) : Calls Try.prog 24 [u0, Value.int .i64 a1].toArray w0 (Post w0 fun w v => v = Value.int .i64 r) := by
  rw [laws_heldOrderS.f] at H
  refine s_start Try.func24 rfl Try.ntmps24 rfl ?_
  intro a hF
  have hM := Ms.start w0
  skip
  refine wp_seq ?_
  refine s_region ?_
  refine s_val hF rfl rfl rfl (e_assign hF rfl) ?_; intro a hF
  refine s_nil ?_
  refine then_n ?_
  refine wp_seq ?_
  refine wp_seq ?_
  refine s_region ?_
  refine s_val hF rfl rfl rfl (e_assign hF rfl) ?_; intro a hF
  refine s_nil ?_
  refine then_n ?_
  refine wp_block ?_
  obtain ⟨o63, h64, H⟩ := bind_some H
  refine wp_mono (Q := fun e a w => (e = Exit.exit 0 ∧ ∃ x41 : Int, Sum.inl x41 = o63 ∧ Fr 29 a [(1, Value.int .i64 x41)] ∧ Ms [] w0 w []) ∨ (e = Exit.ret ∧ ∃ r65 : Int, Sum.inr r65 = o63 ∧ Fr 29 a [(4, Value.int .i64 r65)] ∧ Ms [] w0 w [])) ?_ ?_
  · refine s_loop (fun kq a w => ∃ x42 : Int, ∃ x43 : Int, laws_heldOrderS.l2 K l0 kq x42 x43 = some o63 ∧ Fr 29 a [(0, u0), (1, Value.int .i64 x42), (5, Value.int .i64 x43)] ∧ Ms [] w0 w []) K ⟨a1, 0, h64, hF.sub _ ⟨rfl, rfl, rfl, trivial⟩, hM.pick [] rfl rfl⟩ ?_ ?_
    · rintro a w ⟨_, _, H, _⟩; exact none_some H
    · rintro k a w ⟨x42, x43, H, hF, hM⟩; rw [laws_heldOrderS.l2] at H
      refine wp_seq ?_
      refine wp_seq ?_
      refine s_region ?_
      refine s_val hF rfl rfl rfl (e_move hF rfl) ?_; intro a hF
      refine s_val hF rfl rfl rfl (e_move hF rfl) ?_; intro a hF
      refine s_val hF rfl rfl rfl (e_len hF rfl (q0.frm hM.frm).toF Try.underlying32) ?_; intro a hF
      refine s_val hF rfl rfl rfl (e_lss hF rfl rfl) ?_; intro a hF
      refine s_nil ?_
      refine then_n ?_
      rcases ite_cases H with ⟨c44, H⟩ | ⟨c44, H⟩
      ·
        refine s_cond_t hF rfl (decide_eq_true c44) ?_
        refine wp_skip ?_
        refine then_n ?_
        refine wp_seq ?_
        refine wp_block ?_
        refine wp_seq ?_
        refine s_region ?_
        refine s_val hF rfl rfl rfl (e_assign hF rfl) ?_; intro a hF
        refine s_nil ?_
        refine then_n ?_
        refine wp_block ?_
        obtain ⟨o60, h61, H⟩ := bind_some H
        refine wp_mono (Q := fun e a w => (e = Exit.exit 2 ∧ ∃ x53 : Int, Sum.inl x53 = o60 ∧ Fr 29 a [(0, u0), (1, Value.int .i64 x53), (5, Value.int .i64 x43)] ∧ Ms [] w0 w []) ∨ (e = Exit.ret ∧ ∃ r62 : Int, Sum.inr r62 = o60 ∧ Fr 29 a [(4, Value.int .i64 r62)] ∧ Ms [] w0 w [])) ?_ ?_
        · refine s_loop (fun kq a w => ∃ x54 : Int, ∃ x55 : Int, laws_heldOrderS.l3 K l0 x43 kq x54 x55 = some o60 ∧ Fr 29 a [(0, u0), (1, Value.int .i64 x54), (5, Value.int .i64 x43), (6, Value.int .i64 x55)] ∧ Ms [] w0 w []) K ⟨x42, 0, h61, hF.sub _ ⟨rfl, rfl, rfl, rfl, trivial⟩, hM.pick [] rfl rfl⟩ ?_ ?_
          · rintro a w ⟨_, _, H, _⟩; exact none_some H
          · rintro k a w ⟨x54, x55, H, hF, hM⟩; rw [laws_heldOrderS.l3] at H
            refine wp_seq ?_
            refine wp_seq ?_
            refine s_region ?_
            refine s_val hF rfl rfl rfl (e_move hF rfl) ?_; intro a hF
            refine s_val hF rfl rfl rfl (e_lss hF rfl rfl) ?_; intro a hF
            refine s_nil ?_
            refine then_n ?_
            rcases ite_cases H with ⟨c56, H⟩ | ⟨c56, H⟩
            ·
              refine s_cond_t hF rfl (decide_eq_true c56) ?_
              refine wp_skip ?_
              refine then_n ?_
              refine wp_seq ?_
              refine wp_block ?_
              refine wp_seq ?_
              refine wp_seq ?_
              obtain ⟨c57, H⟩ := ite_some H
              obtain ⟨c58, H⟩ := ite_some H
              refine s_region ?_
              refine s_val hF rfl rfl rfl (e_move hF rfl) ?_; intro a hF
              refine s_val hF rfl rfl rfl (e_move hF rfl) ?_; intro a hF
              refine s_val hF rfl rfl rfl (e_move hF rfl) ?_; intro a hF
              refine s_val hF rfl rfl rfl (e_ias cd48 hF rfl rfl (q0.frm hM.frm).toF Try.underlying32 Try.sizeOf48 c57.1 c57.2) ?_; intro a hF
              refine s_val hF rfl rfl rfl (e_fa hF rfl Try.underlying48 rfl Try.sizeOf46 rfl rfl) ?_; intro a hF
              refine s_val hF rfl rfl rfl (e_ia hF rfl rfl Try.underlying46 Try.sizeOf3 c58.1 c58.2) ?_; intro a hF
              refine s_val hF rfl rfl rfl (e_ldsi (m := x43) (p := x55) (o := 0) (k := 0) hF rfl (q0.frm hM.frm) (getD_some (z := (Ar.zero 4)) c57.1 c57.2) rfl rfl Try.isAgg3 c58.1 c58.2) ?_; intro a hF
              refine s_val hF rfl rfl rfl (e_move hF rfl) ?_; intro a hF
              refine s_val hF rfl rfl rfl (e_neq hF rfl rfl) ?_; intro a hF
              refine s_nil ?_
              refine then_n ?_
              rcases ite_cases H with ⟨c59, H⟩ | ⟨c59, H⟩
              ·
                refine s_cond_f hF rfl (congrArg Bool.not (decide_eq_true c59)) ?_
                refine wp_skip ?_
                refine then_n ?_
                refine s_region ?_
                refine s_val hF rfl rfl rfl (e_move hF rfl) ?_; intro a hF
                refine s_val hF rfl rfl rfl (e_add hF rfl rfl) ?_; intro a hF
                refine s_val hF rfl rfl rfl (e_assign hF rfl) ?_; intro a hF
                refine s_nil ?_
                refine blk_n ?_
                refine then_n ?_
                refine s_region ?_
                refine s_val hF rfl rfl rfl (e_move hF rfl) ?_; intro a hF
                refine s_val hF rfl rfl rfl (e_add hF rfl rfl) ?_; intro a hF
                refine s_val hF rfl rfl rfl (e_assign hF rfl) ?_; intro a hF
                refine s_nil ?_
                refine then_n ?_
                exact ⟨(wrap64 (x54 + 1)), (wrap64 (x55 + 1)), H, hF.sub _ ⟨rfl, rfl, rfl, rfl, trivial⟩, hM.pick [] rfl rfl⟩
              ·
                refine s_cond_t hF rfl (congrArg Bool.not (decide_eq_false c59)) ?_
                refine wp_seq ?_
                refine s_region ?_
                refine s_val hF rfl rfl rfl (e_assign hF rfl) ?_; intro a hF
                refine s_nil ?_
                refine then_n ?_
                refine wp_ret ?_
                refine then_r ?_
                refine blk_r ?_
                refine then_r ?_
                refine then_r ?_
                exact Or.inr (⟨rfl, (-1), some_some H, hF.sub _ ⟨rfl, trivial⟩, hM.pick [] rfl rfl⟩)
            ·
              refine s_cond_f hF rfl (decide_eq_false c56) ?_
              refine wp_exit ?_
              refine then_x ?_
              refine then_x ?_
              exact Or.inl (⟨rfl, x54, some_some H, hF.sub _ ⟨rfl, rfl, rfl, trivial⟩, hM.pick [] rfl rfl⟩)
        · rintro e a w (⟨rfl, x53, rfl, hF, hM⟩ | ⟨rfl, r62, rfl, hF, hM⟩)
          ·
            dsimp only at H
            refine blk_x ?_
            refine blk_n ?_
            refine then_n ?_
            refine s_region ?_
            refine s_val hF rfl rfl rfl (e_move hF rfl) ?_; intro a hF
            refine s_val hF rfl rfl rfl (e_add hF rfl rfl) ?_; intro a hF
            refine s_val hF rfl rfl rfl (e_assign hF rfl) ?_; intro a hF
            refine s_nil ?_
            refine then_n ?_
            exact ⟨x53, (wrap64 (x43 + 1)), H, hF.sub _ ⟨rfl, rfl, rfl, trivial⟩, hM.pick [] rfl rfl⟩
          ·
            dsimp only at H
            refine blk_r ?_
            refine blk_r ?_
            refine then_r ?_
            refine then_r ?_
            exact Or.inr (⟨rfl, r62, some_some H, hF.sub _ ⟨rfl, trivial⟩, hM.pick [] rfl rfl⟩)
      ·
        refine s_cond_f hF rfl (decide_eq_false c44) ?_
        refine wp_exit ?_
        refine then_x ?_
        refine then_x ?_
        exact Or.inl (⟨rfl, x42, some_some H, hF.sub _ ⟨rfl, trivial⟩, hM.pick [] rfl rfl⟩)
  · rintro e a w (⟨rfl, x41, rfl, hF, hM⟩ | ⟨rfl, r65, rfl, hF, hM⟩)
    ·
      dsimp only at H
      refine blk_x ?_
      refine then_n ?_
      refine wp_seq ?_
      refine s_region ?_
      refine s_val hF rfl rfl rfl (e_move hF rfl) ?_; intro a hF
      refine s_val hF rfl rfl rfl (e_assign hF rfl) ?_; intro a hF
      refine s_nil ?_
      refine then_n ?_
      refine wp_ret ?_
      obtain rfl := some_some H
      refine s_ret [Value.int .i64 x41] hF Try.results24 ⟨rfl, trivial⟩ ?_
      exact ⟨_, rfl, hM.frm, rfl⟩
    ·
      dsimp only at H
      refine blk_r ?_
      refine then_r ?_
      obtain rfl := some_some H
      refine s_ret [Value.int .i64 r65] hF Try.results24 ⟨rfl, trivial⟩ ?_
      exact ⟨_, rfl, hM.frm, rfl⟩

/-! ### loop.example/g01210/laws.FnExactOrdersOf: function 5 -/
def laws_FnExactOrdersOf.f (K : Nat) (a0 : Int) : Option Bool := (spec_OrdersOf.f K a0).bind fun t1 => (impl_OrdersOf.f K a0).bind fun t4 => (laws_eqOrderS.f K t4.1 t1.1).bind fun t7 => if t7 = true then (if (t4.2 == t1.2) = true then ((laws_markOrderS.f K t4.1 1).bind fun t11 => (laws_heldOrderS.f K t11.2 1).bind fun t13 => if t13 < 0 then (some false) else (if t13 = t11.1 then ((impl_OrdersOf.f K a0).bind fun t17 => (laws_eqOrderS.f K t17.1 t1.1).bind fun t20 => if t20 = true then (if (t17.2 == t1.2) = true then ((laws_heldOrderS.f K t11.2 1).bind fun t24 => if t24 < 0 then (some false) else (if t24 = t11.1 then (some true) else (some false))) else (some false)) else (some false)) else (some false))) else (some false)) else (some false)
set_option maxRecDepth 100000 in
set_option maxHeartbeats 4000000 in
theorem laws_FnExactOrdersOf.calls {w0 : World} (K : Nat) (a0 : Int) (r : Bool) (H : laws_FnExactOrdersOf.f K a0 = some r) : Calls Try.prog 5 [Value.int .i64 a0].toArray w0 (Post w0 fun w v => v = Value.bool r) := by
  rw [laws_FnExactOrdersOf.f] at H
  refine s_start Try.func5 rfl Try.ntmps5 rfl ?_
  intro a hF
  have hM := Ms.start w0
  skip
  refine wp_seq ?_
  refine s_region ?_
  refine s_val hF rfl rfl rfl (e_assign hF rfl) ?_; intro a hF
  refine s_nil ?_
  refine then_n ?_
  refine wp_seq ?_
  obtain ⟨t1, h2, H⟩ := bind_some H
  refine s_region ?_
  refine s_val hF rfl rfl rfl (e_move hF rfl) ?_; intro a hF
  refine s_call hF rfl rfl rfl Try.call20 (spec_OrdersOf.calls K a0 t1 h2) ?_; intro a w v hF hf hR
  obtain ⟨v3, rfl, hR⟩ := hR; have hM := hM.fresh hf hR
  refine s_val hF rfl rfl rfl (e_move hF rfl) ?_; intro a hF
  refine s_val hF rfl rfl rfl (e_extract hF rfl rfl) ?_; intro a hF
  refine s_val hF rfl rfl rfl (e_extract hF rfl rfl) ?_; intro a hF
  refine s_val hF rfl rfl rfl (e_assign hF rfl) ?_; intro a hF
  refine s_val hF rfl rfl rfl (e_assign hF rfl) ?_; intro a hF
  refine s_nil ?_
  refine then_n ?_
  refine wp_seq ?_
  obtain ⟨t4, h5, H⟩ := bind_some H
  refine s_region ?_
  refine s_val hF rfl rfl rfl (e_move hF rfl) ?_; intro a hF
  refine s_call hF rfl rfl rfl Try.call21 (impl_OrdersOf.calls K a0 t4 h5) ?_; intro a w v hF hf hR
  obtain ⟨v6, rfl, hR⟩ := hR; have hM := hM.fresh hf hR
  refine s_val hF rfl rfl rfl (e_move hF rfl) ?_; intro a hF
  refine s_val hF rfl rfl rfl (e_extract hF rfl rfl) ?_; intro a hF
  refine s_val hF rfl rfl rfl (e_extract hF rfl rfl) ?_; intro a hF
  refine s_val hF rfl rfl rfl (e_assign hF rfl) ?_; intro a hF
  refine s_val hF rfl rfl rfl (e_assign hF rfl) ?_; intro a hF
  refine s_nil ?_
  refine then_n ?_
  refine wp_seq ?_
  refine wp_seq ?_
  obtain ⟨t7, h8, H⟩ := bind_some H
  rcases ite_cases H with ⟨c9, H⟩ | ⟨c9, H⟩
  ·
    refine s_region ?_
    refine s_val hF rfl rfl rfl (e_move hF rfl) ?_; intro a hF
    refine s_val hF rfl rfl rfl (e_move hF rfl) ?_; intro a hF
    refine s_call hF rfl rfl rfl Try.call22 (laws_eqOrderS.calls K t4.1 v6 (hM.sl 0 rfl) t1.1 v3 (hM.sl 1 rfl) t7 h8) ?_; intro a w v hF hf hR
    subst hR; have hM := hM.grow hf
    refine s_val hF rfl rfl rfl (e_not hF rfl) ?_; intro a hF
    refine s_val hF rfl rfl rfl (e_move hF rfl) ?_; intro a hF
    have hF := hF.topb (congrArg Bool.not c9)
    refine s_val hF rfl rfl rfl (e_move hF rfl) ?_; intro a hF
    refine s_val hF rfl rfl rfl (e_move hF rfl) ?_; intro a hF
    refine s_val hF rfl rfl rfl (e_bneq hF rfl rfl Try.underlying4) ?_; intro a hF
    refine s_val hF rfl rfl rfl (e_pick_f hF rfl rfl) ?_; intro a hF
    refine s_nil ?_
    refine then_n ?_
    rcases ite_cases H with ⟨c10, H⟩ | ⟨c10, H⟩
    ·
      refine s_cond_f hF rfl (congrArg Bool.not c10) ?_
      refine wp_skip ?_
      refine then_n ?_
      refine wp_seq ?_
      refine s_region ?_
      refine s_val hF rfl rfl rfl (e_assign hF rfl) ?_; intro a hF
      refine s_nil ?_
      refine then_n ?_
      refine wp_seq ?_
      obtain ⟨t11, h12, H⟩ := bind_some H
      refine s_region ?_
      refine s_val hF rfl rfl rfl (e_move hF rfl) ?_; intro a hF
      refine s_val hF rfl rfl rfl (e_move hF rfl) ?_; intro a hF
      refine s_callx hF rfl rfl rfl Try.call23 (laws_markOrderS.calls K t4.1 v6 (hM.get 0 rfl) 1 t11 h12) ?_; intro a w v hF ⟨hf, hR⟩
      obtain ⟨hR, hO⟩ := hR; subst hR; have hM := hM.turn (i := 0) (R' := rowR cd48 v6 t11.2) rfl hf hO (fun _ hb => .inl hb)
      refine s_val hF rfl rfl rfl (e_assign hF rfl) ?_; intro a hF
      refine s_nil ?_
      refine then_n ?_
      refine wp_seq ?_
      refine s_region ?_
      refine s_val hF rfl rfl rfl (e_assign hF rfl) ?_; intro a hF
      refine s_nil ?_
      refine then_n ?_
      refine wp_seq ?_
      obtain ⟨t13, h14, H⟩ := bind_some H
      refine s_region ?_
      refine s_val hF rfl rfl rfl (e_move hF rfl) ?_; intro a hF
      refine s_val hF rfl rfl rfl (e_move hF rfl) ?_; intro a hF
      refine s_call hF rfl rfl rfl Try.call24 (laws_heldOrderS.calls K t11.2 v6 (hM.sl 0 rfl) 1 t13 h14) ?_; intro a w v hF hf hR
      subst hR; have hM := hM.grow hf
      refine s_val hF rfl rfl rfl (e_assign hF rfl) ?_; intro a hF
      refine s_nil ?_
      refine then_n ?_
      refine wp_seq ?_
      refine wp_seq ?_
      refine s_region ?_
      refine s_val hF rfl rfl rfl (e_move hF rfl) ?_; intro a hF
      refine s_val hF rfl rfl rfl (e_lss hF rfl rfl) ?_; intro a hF
      refine s_nil ?_
      refine then_n ?_
      rcases ite_cases H with ⟨c15, H⟩ | ⟨c15, H⟩
      ·
        refine s_cond_t hF rfl (decide_eq_true c15) ?_
        refine wp_seq ?_
        refine s_region ?_
        refine s_val hF rfl rfl rfl (e_assign hF rfl) ?_; intro a hF
        refine s_nil ?_
        refine then_n ?_
        refine wp_ret ?_
        refine then_r ?_
        obtain rfl := some_some H
        refine s_ret [Value.bool false] hF Try.results5 ⟨rfl, trivial⟩ ?_
        exact ⟨_, rfl, hM.frm, rfl⟩
      ·
        refine s_cond_f hF rfl (decide_eq_false c15) ?_
        refine wp_skip ?_
        refine then_n ?_
        refine wp_seq ?_
        refine wp_seq ?_
        refine s_region ?_
        refine s_val hF rfl rfl rfl (e_move hF rfl) ?_; intro a hF
        refine s_val hF rfl rfl rfl (e_move hF rfl) ?_; intro a hF
        refine s_val hF rfl rfl rfl (e_neq hF rfl rfl) ?_; intro a hF
        refine s_nil ?_
        refine then_n ?_
        rcases ite_cases H with ⟨c16, H⟩ | ⟨c16, H⟩
        ·
          refine s_cond_f hF rfl (congrArg Bool.not (decide_eq_true c16)) ?_
          refine wp_skip ?_
          refine then_n ?_
          refine wp_seq ?_
          obtain ⟨t17, h18, H⟩ := bind_some H
          refine s_region ?_
          refine s_val hF rfl rfl rfl (e_move hF rfl) ?_; intro a hF
          refine s_call hF rfl rfl rfl Try.call21 (impl_OrdersOf.calls K a0 t17 h18) ?_; intro a w v hF hf hR
          obtain ⟨v19, rfl, hR⟩ := hR; have hM := hM.fresh hf hR
          refine s_val hF rfl rfl rfl (e_move hF rfl) ?_; intro a hF
          refine s_val hF rfl rfl rfl (e_extract hF rfl rfl) ?_; intro a hF
          refine s_val hF rfl rfl rfl (e_extract hF rfl rfl) ?_; intro a hF
          refine s_val hF rfl rfl rfl (e_assign hF rfl) ?_; intro a hF
          refine s_val hF rfl rfl rfl (e_assign hF rfl) ?_; intro a hF
          refine s_nil ?_
          refine then_n ?_
          refine wp_seq ?_
          refine wp_seq ?_
          obtain ⟨t20, h21, H⟩ := bind_some H
          rcases ite_cases H with ⟨c22, H⟩ | ⟨c22, H⟩
          ·
            refine s_region ?_
            refine s_val hF rfl rfl rfl (e_move hF rfl) ?_; intro a hF
            refine s_val hF rfl rfl rfl (e_move hF rfl) ?_; intro a hF
            refine s_call hF rfl rfl rfl Try.call22 (laws_eqOrderS.calls K t17.1 v19 (hM.sl 0 rfl) t1.1 v3 (hM.sl 2 rfl) t20 h21) ?_; intro a w v hF hf hR
            subst hR; have hM := hM.grow hf
            refine s_val hF rfl rfl rfl (e_not hF rfl) ?_; intro a hF
            refine s_val hF rfl rfl rfl (e_move hF rfl) ?_; intro a hF
            have hF := hF.topb (congrArg Bool.not c22)
            refine s_val hF rfl rfl rfl (e_move hF rfl) ?_; intro a hF
            refine s_val hF rfl rfl rfl (e_move hF rfl) ?_; intro a hF
            refine s_val hF rfl rfl rfl (e_bneq hF rfl rfl Try.underlying4) ?_; intro a hF
            refine s_val hF rfl rfl rfl (e_pick_f hF rfl rfl) ?_; intro a hF
            refine s_nil ?_
            refine then_n ?_
            rcases ite_cases H with ⟨c23, H⟩ | ⟨c23, H⟩
            ·
              refine s_cond_f hF rfl (congrArg Bool.not c23) ?_
              refine wp_skip ?_
              refine then_n ?_
              refine wp_seq ?_
              refine s_region ?_
              refine s_val hF rfl rfl rfl (e_assign hF rfl) ?_; intro a hF
              refine s_nil ?_
              refine then_n ?_
              refine wp_seq ?_
              obtain ⟨t24, h25, H⟩ := bind_some H
              refine s_region ?_
              refine s_val hF rfl rfl rfl (e_move hF rfl) ?_; intro a hF
              refine s_val hF rfl rfl rfl (e_move hF rfl) ?_; intro a hF
              refine s_call hF rfl rfl rfl Try.call24 (laws_heldOrderS.calls K t11.2 v6 (hM.sl 1 rfl) 1 t24 h25) ?_; intro a w v hF hf hR
              subst hR; have hM := hM.grow hf
              refine s_val hF rfl rfl rfl (e_assign hF rfl) ?_; intro a hF
              refine s_nil ?_
              refine then_n ?_
              refine wp_seq ?_
              refine wp_seq ?_
              refine s_region ?_
              refine s_val hF rfl rfl rfl (e_move hF rfl) ?_; intro a hF
              refine s_val hF rfl rfl rfl (e_lss hF rfl rfl) ?_; intro a hF
              refine s_nil ?_
              refine then_n ?_
              rcases ite_cases H with ⟨c26, H⟩ | ⟨c26, H⟩
              ·
                refine s_cond_t hF rfl (decide_eq_true c26) ?_
                refine wp_seq ?_
                refine s_region ?_
                refine s_val hF rfl rfl rfl (e_assign hF rfl) ?_; intro a hF
                refine s_nil ?_
                refine then_n ?_
                refine wp_ret ?_
                refine then_r ?_
                obtain rfl := some_some H
                refine s_ret [Value.bool false] hF Try.results5 ⟨rfl, trivial⟩ ?_
                exact ⟨_, rfl, hM.frm, rfl⟩
              ·
                refine s_cond_f hF rfl (decide_eq_false c26) ?_
                refine wp_skip ?_
                refine then_n ?_
                refine wp_seq ?_
                refine wp_seq ?_
                refine s_region ?_
                refine s_val hF rfl rfl rfl (e_move hF rfl) ?_; intro a hF
                refine s_val hF rfl rfl rfl (e_move hF rfl) ?_; intro a hF
                refine s_val hF rfl rfl rfl (e_neq hF rfl rfl) ?_; intro a hF
                refine s_nil ?_
                refine then_n ?_
                rcases ite_cases H with ⟨c27, H⟩ | ⟨c27, H⟩
                ·
                  refine s_cond_f hF rfl (congrArg Bool.not (decide_eq_true c27)) ?_
                  refine wp_skip ?_
                  refine then_n ?_
                  refine wp_seq ?_
                  refine s_region ?_
                  refine s_val hF rfl rfl rfl (e_assign hF rfl) ?_; intro a hF
                  refine s_nil ?_
                  refine then_n ?_
                  refine wp_ret ?_
                  obtain rfl := some_some H
                  refine s_ret [Value.bool true] hF Try.results5 ⟨rfl, trivial⟩ ?_
                  exact ⟨_, rfl, hM.frm, rfl⟩
                ·
                  refine s_cond_t hF rfl (congrArg Bool.not (decide_eq_false c27)) ?_
                  refine wp_seq ?_
                  refine s_region ?_
                  refine s_val hF rfl rfl rfl (e_assign hF rfl) ?_; intro a hF
                  refine s_nil ?_
                  refine then_n ?_
                  refine wp_ret ?_
                  refine then_r ?_
                  obtain rfl := some_some H
                  refine s_ret [Value.bool false] hF Try.results5 ⟨rfl, trivial⟩ ?_
                  exact ⟨_, rfl, hM.frm, rfl⟩
            ·
              refine s_cond_t hF rfl (congrArg Bool.not (bf c23)) ?_
              refine wp_seq ?_
              refine s_region ?_
              refine s_val hF rfl rfl rfl (e_assign hF rfl) ?_; intro a hF
              refine s_nil ?_
              refine then_n ?_
              refine wp_ret ?_
              refine then_r ?_
              obtain rfl := some_some H
              refine s_ret [Value.bool false] hF Try.results5 ⟨rfl, trivial⟩ ?_
              exact ⟨_, rfl, hM.frm, rfl⟩
          ·
            refine s_region ?_
            refine s_val hF rfl rfl rfl (e_move hF rfl) ?_; intro a hF
            refine s_val hF rfl rfl rfl (e_move hF rfl) ?_; intro a hF
            refine s_call hF rfl rfl rfl Try.call22 (laws_eqOrderS.calls K t17.1 v19 (hM.sl 0 rfl) t1.1 v3 (hM.sl 2 rfl) t20 h21) ?_; intro a w v hF hf hR
            subst hR; have hM := hM.grow hf
            refine s_val hF rfl rfl rfl (e_not hF rfl) ?_; intro a hF
            refine s_val hF rfl rfl rfl (e_move hF rfl) ?_; intro a hF
            have hF := hF.topb (congrArg Bool.not (bf c22))
            refine s_skip hF rfl rfl rfl ?_; intro a hF
            refine s_skip hF rfl rfl rfl ?_; intro a hF
            refine s_skip hF rfl rfl rfl ?_; intro a hF
            refine s_val hF rfl rfl rfl (e_pick_t hF rfl rfl) ?_; intro a hF
            refine s_nil ?_
            refine then_n ?_
            refine s_cond_t hF rfl rfl ?_
            refine wp_seq ?_
            refine s_region ?_
            refine s_val hF rfl rfl rfl (e_assign hF rfl) ?_; intro a hF
            refine s_nil ?_
            refine then_n ?_
            refine wp_ret ?_
            refine then_r ?_
            obtain rfl := some_some H
            refine s_ret [Value.bool false] hF Try.results5 ⟨rfl, trivial⟩ ?_
            exact ⟨_, rfl, hM.frm, rfl⟩
        ·
          refine s_cond_t hF rfl (congrArg Bool.not (decide_eq_false c16)) ?_
          refine wp_seq ?_
          refine s_region ?_
          refine s_val hF rfl rfl rfl (e_assign hF rfl) ?_; intro a hF
          refine s_nil ?_
          refine then_n ?_
          refine wp_ret ?_
          refine then_r ?_
          obtain rfl := some_some H
          refine s_ret [Value.bool false] hF Try.results5 ⟨rfl, trivial⟩ ?_
          exact ⟨_, rfl, hM.frm, rfl⟩
    ·
      refine s_cond_t hF rfl (congrArg Bool.not (bf c10)) ?_
      refine wp_seq ?_
      refine s_region ?_
      refine s_val hF rfl rfl rfl (e_assign hF rfl) ?_; intro a hF
      refine s_nil ?_
      refine then_n ?_
      refine wp_ret ?_
      refine then_r ?_
      obtain rfl := some_some H
      refine s_ret [Value.bool false] hF Try.results5 ⟨rfl, trivial⟩ ?_
      exact ⟨_, rfl, hM.frm, rfl⟩
  ·
    refine s_region ?_
    refine s_val hF rfl rfl rfl (e_move hF rfl) ?_; intro a hF
    refine s_val hF rfl rfl rfl (e_move hF rfl) ?_; intro a hF
    refine s_call hF rfl rfl rfl Try.call22 (laws_eqOrderS.calls K t4.1 v6 (hM.sl 0 rfl) t1.1 v3 (hM.sl 1 rfl) t7 h8) ?_; intro a w v hF hf hR
    subst hR; have hM := hM.grow hf
    refine s_val hF rfl rfl rfl (e_not hF rfl) ?_; intro a hF
    refine s_val hF rfl rfl rfl (e_move hF rfl) ?_; intro a hF
    have hF := hF.topb (congrArg Bool.not (bf c9))
    refine s_skip hF rfl rfl rfl ?_; intro a hF
    refine s_skip hF rfl rfl rfl ?_; intro a hF
    refine s_skip hF rfl rfl rfl ?_; intro a hF
    refine s_val hF rfl rfl rfl (e_pick_t hF rfl rfl) ?_; intro a hF
    refine s_nil ?_
    refine then_n ?_
    refine s_cond_t hF rfl rfl ?_
    refine wp_seq ?_
    refine s_region ?_
    refine s_val hF rfl rfl rfl (e_assign hF rfl) ?_; intro a hF
    refine s_nil ?_
    refine then_n ?_
    refine wp_ret ?_
    refine then_r ?_
    obtain rfl := some_some H
    refine s_ret [Value.bool false] hF Try.results5 ⟨rfl, trivial⟩ ?_
    exact ⟨_, rfl, hM.frm, rfl⟩

end Go.Proofs.Ytfiabgkolhpbkaa.WOrdersOf

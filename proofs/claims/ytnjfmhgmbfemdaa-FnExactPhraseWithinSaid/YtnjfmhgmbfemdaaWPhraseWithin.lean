/- The walk through the code that the statement reaches: what each function computes. Conditions: none but those in each line. -/
import Derived.Test.YtnjfmhgmbfemdaaProg
import Derived.Test.YtnjfmhgmbfemdaaK
namespace Go.Proofs.Ytnjfmhgmbfemdaa.WPhraseWithin
open Go.K Go.RowKit
set_option linter.unusedVariables false
set_option linter.unusedSimpArgs false

def cd3 : Cd Int := ⟨3, 1, 8, fun x => [Pt.int x], fun x => Value.int .i64 x, (0 : Int), fun _ => rfl, fun _ => rfl, by decide⟩
theorem cdok3 : CdOk Try.prog cd3 := by
  obtain ⟨i, h1, h2, h3, h4⟩ := info_parts (by kernel_rfl : (Try.prog.info? 3).map (fun i => (i.zero, i.size, i.bytes)) = some (some (cd3.v cd3.z), 1, 8))
  exact ⟨⟨i, h1, h3, h4, h2⟩, by decide⟩
theorem zv22 (w : World) : (zeroValue 22).run Try.prog w = .ok (ag [Pt.ar (Ar.zero 6)]) w := by kernel_rfl
theorem zv29 (w : World) : (zeroValue 29).run Try.prog w = .ok (ag [Pt.ar (Ar.zero 2)]) w := by kernel_rfl
theorem mixed : Try.prog.follows .mixedOrders = true := by kernel_rfl

/-! ### loop.example/g01210/laws.toIntA6: function 16 -/
def laws_toIntA6.l0 (K : Nat) (a0 : (Ar 6)) : Nat → Int → (Ar 6) → Option (Ar 6)
  | 0, _, _ => none
  | k + 1, x9, x10 => if x9 < 6 then (if (0 : Int) ≤ x9 ∧ x9 < 6 then (laws_toIntA6.l0 K a0 k (wrap64 (x9 + 1)) (x10.set x9 (a0.get x9))) else none) else (some x10)
def laws_toIntA6.f (K : Nat) (a0 : (Ar 6)) : Option (Ar 6) := (laws_toIntA6.l0 K a0 K 0 (Ar.zero 6)).bind fun x8 => some x8
set_option maxRecDepth 100000 in
set_option maxHeartbeats 4000000 in
theorem laws_toIntA6.calls {w0 : World} (K : Nat) (a0 : (Ar 6)) (r : (Ar 6)) (H : laws_toIntA6.f K a0 = some r) : Calls Try.prog 16 [ag [Pt.ar a0]].toArray w0 (Post w0 fun w v => v = ag [Pt.ar r]) := by
  rw [laws_toIntA6.f] at H
  refine s_start Try.func16 rfl Try.ntmps16 rfl ?_
  intro a hF
  have hM := Ms.start w0
  skip
  refine wp_seq ?_
  refine s_region ?_
  refine s_box (ps := [Pt.ar a0]) hF hM rfl rfl rfl rfl ?_; intro a w b1 hF hM
  refine s_alloc (ps := [Pt.ar (Ar.zero 6)]) hF hM rfl rfl zv22 rfl ?_; intro a w b2 hF hM
  refine s_nil ?_
  refine then_n ?_
  refine wp_seq ?_
  refine s_region ?_
  refine s_alloc (ps := [Pt.ar (Ar.zero 6)]) hF hM rfl rfl zv22 rfl ?_; intro a w b3 hF hM
  refine s_nil ?_
  refine then_n ?_
  refine wp_seq ?_
  refine wp_seq ?_
  refine s_region ?_
  refine s_val hF rfl rfl rfl (e_assign hF rfl) ?_; intro a hF
  refine s_nil ?_
  refine then_n ?_
  refine wp_block ?_
  obtain ⟨o13, h14, H⟩ := bind_some H
  refine wp_mono (Q := fun e a w => (e = Exit.exit 0 ∧ ∃ x8 : (Ar 6), x8 = o13 ∧ Fr 15 a [(2, pt b2 0), (3, pt b3 0)] ∧ Ms [] w0 w [boxR b2 [Pt.ar (Ar.zero 6)] 22, boxR b3 [Pt.ar x8] 22])) ?_ ?_
  · refine s_loop (fun kq a w => ∃ x9 : Int, ∃ x10 : (Ar 6), laws_toIntA6.l0 K a0 kq x9 x10 = some o13 ∧ Fr 15 a [(1, pt b1 0), (2, pt b2 0), (3, pt b3 0), (4, Value.int .i64 x9)] ∧ Ms [] w0 w [boxR b1 [Pt.ar a0] 22, boxR b2 [Pt.ar (Ar.zero 6)] 22, boxR b3 [Pt.ar x10] 22]) K ⟨0, (Ar.zero 6), h14, hF.sub _ ⟨rfl, rfl, rfl, rfl, trivial⟩, hM.pick [2, 1, 0] rfl rfl⟩ ?_ ?_
    · rintro a w ⟨_, _, H, _⟩; exact none_some H
    · rintro k a w ⟨x9, x10, H, hF, hM⟩; rw [laws_toIntA6.l0] at H
      refine wp_seq ?_
      refine wp_seq ?_
      refine s_region ?_
      refine s_val hF rfl rfl rfl (e_move hF rfl) ?_; intro a hF
      refine s_val hF rfl rfl rfl (e_lss hF rfl rfl) ?_; intro a hF
      refine s_nil ?_
      refine then_n ?_
      rcases ite_cases H with ⟨c11, H⟩ | ⟨c11, H⟩
      ·
        refine s_cond_t hF rfl (decide_eq_true c11) ?_
        refine wp_skip ?_
        refine then_n ?_
        refine wp_seq ?_
        refine wp_block ?_
        obtain ⟨c12, H⟩ := ite_some H
        refine s_region ?_
        refine s_val hF rfl rfl rfl (e_move hF rfl) ?_; intro a hF
        refine s_val hF rfl rfl rfl (e_move hF rfl) ?_; intro a hF
        refine s_val hF rfl rfl rfl (e_ia hF rfl rfl Try.underlying22 Try.sizeOf3 c12.1 c12.2) ?_; intro a hF
        refine s_val hF rfl rfl rfl (e_ldi (i := 0) (k := 0) hF hM rfl rfl rfl rfl rfl Try.isAgg3 c12.1 c12.2) ?_; intro a hF
        refine s_val hF rfl rfl rfl (e_ia hF rfl rfl Try.underlying22 Try.sizeOf3 c12.1 c12.2) ?_; intro a hF
        refine s_sti (i := 2) (k := 0) hF hM rfl rfl rfl rfl rfl rfl rfl Try.sizeOf3 c12.1 c12.2 ?_; intro a w hF hM
        refine s_nil ?_
        refine blk_n ?_
        refine then_n ?_
        refine s_region ?_
        refine s_val hF rfl rfl rfl (e_move hF rfl) ?_; intro a hF
        refine s_val hF rfl rfl rfl (e_add hF rfl rfl) ?_; intro a hF
        refine s_val hF rfl rfl rfl (e_assign hF rfl) ?_; intro a hF
        refine s_nil ?_
        refine then_n ?_
        exact ⟨(wrap64 (x9 + 1)), (x10.set x9 (a0.get x9)), H, hF.sub _ ⟨rfl, rfl, rfl, rfl, trivial⟩, hM.pick [0, 1, 2] rfl rfl⟩
      ·
        refine s_cond_f hF rfl (decide_eq_false c11) ?_
        refine wp_exit ?_
        refine then_x ?_
        refine then_x ?_
        exact ⟨rfl, x10, some_some H, hF.sub _ ⟨rfl, rfl, trivial⟩, hM.pick [1, 2] rfl rfl⟩
  · rintro e a w ⟨rfl, x8, rfl, hF, hM⟩
    skip
    refine blk_x ?_
    refine then_n ?_
    refine wp_seq ?_
    refine s_region ?_
    refine s_val hF rfl rfl rfl (e_lda (i := 1) 0 1 hF hM rfl rfl rfl rfl Try.isAgg22 Try.sizeOf22 rfl) ?_; intro a hF
    refine s_stw (i := 0) (ps' := [Pt.ar x8]) hF hM rfl rfl rfl rfl rfl rfl Try.sizeOf22 rfl ?_; intro a w hF hM
    refine s_nil ?_
    refine then_n ?_
    refine wp_ret ?_
    obtain rfl := some_some H
    refine s_ret [ag [Pt.ar x8]] hF Try.results16 ⟨⟨_, rfl, rv_box hM (i := 0) rfl Try.isAgg22 Try.sizeOf22 rfl⟩, trivial⟩ ?_
    exact ⟨_, rfl, hM.frm, rfl⟩

/-! ### loop.example/g01210/laws.toIntS: function 36 -/
def laws_toIntS.l0 (K : Nat) (l0 : (List Int)) : Nat → Int → (List Int) → Option (List Int)
  | 0, _, _ => none
  | k + 1, x12, x13 => if x12 < (l0.length : Int) then (if (0 : Int) ≤ x12 ∧ x12 < (l0.length : Int) then (if (0 : Int) ≤ x12 ∧ x12 < (x13.length : Int) then (laws_toIntS.l0 K l0 k (wrap64 (x12 + 1)) (x13.set (x12 : Int).toNat (l0.getD (x12 : Int).toNat (0 : Int)))) else none) else none) else (some x13)
def laws_toIntS.f (K : Nat) (l0 : (List Int)) : Option (List Int) := if (0 : Int) ≤ (l0.length : Int) ∧ (l0.length : Int) ≤ 1073741824 then ((laws_toIntS.l0 K l0 K 0 (List.replicate (l0.length : Int).toNat (0 : Int))).bind fun x11 => some x11) else none
set_option maxRecDepth 100000 in
set_option maxHeartbeats 4000000 in
theorem laws_toIntS.calls {w0 : World} (K : Nat) (l0 : (List Int)) (u0 : Value) (q0 : SlR cd3 w0 u0 l0) (r : (List Int)) (H : laws_toIntS.f K l0 = some r) : Calls Try.prog 36 [u0].toArray w0 (Post w0 fun w v => Fresh cd3 w0.heap.size w v r) := by
  rw [laws_toIntS.f] at H
  refine s_start Try.func36 rfl Try.ntmps36 rfl ?_
  intro a hF
  have hM := Ms.start w0
  skip
  refine wp_seq ?_
  refine s_region ?_
  refine s_val hF rfl rfl rfl (e_assign hF rfl) ?_; intro a hF
  refine s_nil ?_
  refine then_n ?_
  refine wp_seq ?_
  obtain ⟨c2, H⟩ := ite_some H
  refine s_region ?_
  refine s_val hF rfl rfl rfl (e_move hF rfl) ?_; intro a hF
  refine s_val hF rfl rfl rfl (e_len hF rfl (q0.frm hM.frm).toF Try.underlying42) ?_; intro a hF
  refine s_make (C := cd3) cdok3 hF hM rfl rfl rfl rfl Try.underlying42 c2.1 c2.2 ?_; intro a w v1 hF hM
  refine s_val hF rfl rfl rfl (e_assign hF rfl) ?_; intro a hF
  refine s_nil ?_
  refine then_n ?_
  refine wp_seq ?_
  refine wp_seq ?_
  refine s_region ?_
  refine s_val hF rfl rfl rfl (e_assign hF rfl) ?_; intro a hF
  refine s_nil ?_
  refine then_n ?_
  refine wp_block ?_
  obtain ⟨o17, h18, H⟩ := bind_some H
  refine wp_mono (Q := fun e a w => (e = Exit.exit 0 ∧ ∃ x11 : (List Int), x11 = o17 ∧ Fr 22 a [(3, v1)] ∧ Ms [] w0 w [rowR cd3 v1 x11])) ?_ ?_
  · refine s_loop (fun kq a w => ∃ x12 : Int, ∃ x13 : (List Int), laws_toIntS.l0 K l0 kq x12 x13 = some o17 ∧ Fr 22 a [(0, u0), (3, v1), (4, Value.int .i64 x12)] ∧ Ms [] w0 w [rowR cd3 v1 x13]) K ⟨0, (List.replicate (l0.length : Int).toNat (0 : Int)), h18, hF.sub _ ⟨rfl, rfl, rfl, trivial⟩, hM.pick [0] rfl rfl⟩ ?_ ?_
    · rintro a w ⟨_, _, H, _⟩; exact none_some H
    · rintro k a w ⟨x12, x13, H, hF, hM⟩; rw [laws_toIntS.l0] at H
      refine wp_seq ?_
      refine wp_seq ?_
      refine s_region ?_
      refine s_val hF rfl rfl rfl (e_move hF rfl) ?_; intro a hF
      refine s_val hF rfl rfl rfl (e_move hF rfl) ?_; intro a hF
      refine s_val hF rfl rfl rfl (e_len hF rfl (q0.frm hM.frm).toF Try.underlying42) ?_; intro a hF
      refine s_val hF rfl rfl rfl (e_lss hF rfl rfl) ?_; intro a hF
      refine s_nil ?_
      refine then_n ?_
      rcases ite_cases H with ⟨c14, H⟩ | ⟨c14, H⟩
      ·
        refine s_cond_t hF rfl (decide_eq_true c14) ?_
        refine wp_skip ?_
        refine then_n ?_
        refine wp_seq ?_
        refine wp_block ?_
        obtain ⟨c15, H⟩ := ite_some H
        obtain ⟨c16, H⟩ := ite_some H
        refine s_region ?_
        refine s_val hF rfl rfl rfl (e_move hF rfl) ?_; intro a hF
        refine s_val hF rfl rfl rfl (e_move hF rfl) ?_; intro a hF
        refine s_val hF rfl rfl rfl (e_move hF rfl) ?_; intro a hF
        refine s_val hF rfl rfl rfl (e_move hF rfl) ?_; intro a hF
        refine s_val hF rfl rfl rfl (e_ias cd3 hF rfl rfl (q0.frm hM.frm).toF Try.underlying42 Try.sizeOf3 c15.1 c15.2) ?_; intro a hF
        refine s_val hF rfl rfl rfl (e_lds (m := x12) hF rfl (q0.frm hM.frm) (getD_some (z := (0 : Int)) c15.1 c15.2) rfl rfl Try.isAgg3) ?_; intro a hF
        refine s_val hF rfl rfl rfl (e_ias cd3 hF rfl rfl (hM.sl 0 rfl).toF Try.underlying42 Try.sizeOf3 c16.1 c16.2) ?_; intro a hF
        refine s_sts (i := 0) (l0.getD (x12 : Int).toNat (0 : Int)) hF hM rfl rfl rfl rfl rfl c16.1 c16.2 Try.sizeOf3 ?_; intro a w hF hM
        refine s_nil ?_
        refine blk_n ?_
        refine then_n ?_
        refine s_region ?_
        refine s_val hF rfl rfl rfl (e_move hF rfl) ?_; intro a hF
        refine s_val hF rfl rfl rfl (e_add hF rfl rfl) ?_; intro a hF
        refine s_val hF rfl rfl rfl (e_assign hF rfl) ?_; intro a hF
        refine s_nil ?_
        refine then_n ?_
        exact ⟨(wrap64 (x12 + 1)), (x13.set (x12 : Int).toNat (l0.getD (x12 : Int).toNat (0 : Int))), H, hF.sub _ ⟨rfl, rfl, rfl, trivial⟩, hM.pick [0] rfl rfl⟩
      ·
        refine s_cond_f hF rfl (decide_eq_false c14) ?_
        refine wp_exit ?_
        refine then_x ?_
        refine then_x ?_
        exact ⟨rfl, x13, some_some H, hF.sub _ ⟨rfl, trivial⟩, hM.pick [0] rfl rfl⟩
  · rintro e a w ⟨rfl, x11, rfl, hF, hM⟩
    skip
    refine blk_x ?_
    refine then_n ?_
    refine wp_seq ?_
    refine s_region ?_
    refine s_val hF rfl rfl rfl (e_move hF rfl) ?_; intro a hF
    refine s_val hF rfl rfl rfl (e_assign hF rfl) ?_; intro a hF
    refine s_nil ?_
    refine then_n ?_
    refine wp_ret ?_
    obtain rfl := some_some H
    refine s_ret [v1] hF Try.results36 ⟨rfl, trivial⟩ ?_
    exact ⟨_, rfl, hM.frm, hM.give 0 rfl⟩

/-! ### loop.example/g01210/spec.l8Weight: function 55 -/
def spec_l8Weight.l0 (K : Nat) (a0 : (Ar 6)) (a1 : Int) : Nat → Int → Int → Option Int
  | 0, _, _ => none
  | k + 1, x9, x10 => if x10 < 6 then (if (0 : Int) ≤ x10 ∧ x10 < 6 then (if (a0.get x10) = a1 then (spec_l8Weight.l0 K a0 a1 k (wrap64 (x9 + 1)) (wrap64 (x10 + 1))) else (spec_l8Weight.l0 K a0 a1 k x9 (wrap64 (x10 + 1)))) else none) else (some x9)
def spec_l8Weight.f (K : Nat) (a0 : (Ar 6)) (a1 : Int) : Option Int := (spec_l8Weight.l0 K a0 a1 K 0 0).bind fun x8 => some x8
set_option maxRecDepth 100000 in
set_option maxHeartbeats 4000000 in
theorem spec_l8Weight.calls {w0 : World} (K : Nat) (a0 : (Ar 6)) (a1 : Int) (r : Int) (H : spec_l8Weight.f K a0 a1 = some r) : Calls Try.prog 55 [ag [Pt.ar a0], Value.int .i64 a1].toArray w0 (Post w0 fun w v => v = Value.int .i64 r) := by
  rw [spec_l8Weight.f] at H
  refine s_start Try.func55 rfl Try.ntmps55 rfl ?_
  intro a hF
  have hM := Ms.start w0
  skip
  refine wp_seq ?_
  refine s_region ?_
  refine s_box (ps := [Pt.ar a0]) hF hM rfl rfl rfl rfl ?_; intro a w b1 hF hM
  refine s_val hF rfl rfl rfl (e_assign hF rfl) ?_; intro a hF
  refine s_nil ?_
  refine then_n ?_
  refine wp_seq ?_
  refine s_region ?_
  refine s_val hF rfl rfl rfl (e_assign hF rfl) ?_; intro a hF
  refine s_nil ?_
  refine then_n ?_
  refine wp_seq ?_
  refine wp_seq ?_
  refine s_region ?_
  refine s_val hF rfl rfl rfl (e_assign hF rfl) ?_; intro a hF
  refine s_nil ?_
  refine then_n ?_
  refine wp_block ?_
  obtain ⟨o14, h15, H⟩ := bind_some H
  refine wp_mono (Q := fun e a w => (e = Exit.exit 0 ∧ ∃ x8 : Int, x8 = o14 ∧ Fr 19 a [(5, Value.int .i64 x8)] ∧ Ms [] w0 w [])) ?_ ?_
  · refine s_loop (fun kq a w => ∃ x9 : Int, ∃ x10 : Int, spec_l8Weight.l0 K a0 a1 kq x9 x10 = some o14 ∧ Fr 19 a [(1, Value.int .i64 a1), (2, pt b1 0), (5, Value.int .i64 x9), (6, Value.int .i64 x10)] ∧ Ms [] w0 w [boxR b1 [Pt.ar a0] 22]) K ⟨0, 0, h15, hF.sub _ ⟨rfl, rfl, rfl, rfl, trivial⟩, hM.pick [0] rfl rfl⟩ ?_ ?_
    · rintro a w ⟨_, _, H, _⟩; exact none_some H
    · rintro k a w ⟨x9, x10, H, hF, hM⟩; rw [spec_l8Weight.l0] at H
      refine wp_seq ?_
      refine wp_seq ?_
      refine s_region ?_
      refine s_val hF rfl rfl rfl (e_move hF rfl) ?_; intro a hF
      refine s_val hF rfl rfl rfl (e_lss hF rfl rfl) ?_; intro a hF
      refine s_nil ?_
      refine then_n ?_
      rcases ite_cases H with ⟨c11, H⟩ | ⟨c11, H⟩
      ·
        refine s_cond_t hF rfl (decide_eq_true c11) ?_
        refine wp_skip ?_
        refine then_n ?_
        refine wp_seq ?_
        refine wp_block ?_
        refine wp_seq ?_
        obtain ⟨c12, H⟩ := ite_some H
        refine s_region ?_
        refine s_val hF rfl rfl rfl (e_move hF rfl) ?_; intro a hF
        refine s_val hF rfl rfl rfl (e_ia hF rfl rfl Try.underlying22 Try.sizeOf3 c12.1 c12.2) ?_; intro a hF
        refine s_val hF rfl rfl rfl (e_ldi (i := 0) (k := 0) hF hM rfl rfl rfl rfl rfl Try.isAgg3 c12.1 c12.2) ?_; intro a hF
        refine s_val hF rfl rfl rfl (e_move hF rfl) ?_; intro a hF
        refine s_val hF rfl rfl rfl (e_eql hF rfl rfl) ?_; intro a hF
        refine s_nil ?_
        refine then_n ?_
        rcases ite_cases H with ⟨c13, H⟩ | ⟨c13, H⟩
        ·
          refine s_cond_t hF rfl (decide_eq_true c13) ?_
          refine s_region ?_
          refine s_val hF rfl rfl rfl (e_move hF rfl) ?_; intro a hF
          refine s_val hF rfl rfl rfl (e_add hF rfl rfl) ?_; intro a hF
          refine s_val hF rfl rfl rfl (e_assign hF rfl) ?_; intro a hF
          refine s_nil ?_
          refine blk_n ?_
          refine then_n ?_
          refine s_region ?_
          refine s_val hF rfl rfl rfl (e_move hF rfl) ?_; intro a hF
          refine s_val hF rfl rfl rfl (e_add hF rfl rfl) ?_; intro a hF
          refine s_val hF rfl rfl rfl (e_assign hF rfl) ?_; intro a hF
          refine s_nil ?_
          refine then_n ?_
          exact ⟨(wrap64 (x9 + 1)), (wrap64 (x10 + 1)), H, hF.sub _ ⟨rfl, rfl, rfl, rfl, trivial⟩, hM.pick [0] rfl rfl⟩
        ·
          refine s_cond_f hF rfl (decide_eq_false c13) ?_
          refine wp_skip ?_
          refine blk_n ?_
          refine then_n ?_
          refine s_region ?_
          refine s_val hF rfl rfl rfl (e_move hF rfl) ?_; intro a hF
          refine s_val hF rfl rfl rfl (e_add hF rfl rfl) ?_; intro a hF
          refine s_val hF rfl rfl rfl (e_assign hF rfl) ?_; intro a hF
          refine s_nil ?_
          refine then_n ?_
          exact ⟨x9, (wrap64 (x10 + 1)), H, hF.sub _ ⟨rfl, rfl, rfl, rfl, trivial⟩, hM.pick [0] rfl rfl⟩
      ·
        refine s_cond_f hF rfl (decide_eq_false c11) ?_
        refine wp_exit ?_
        refine then_x ?_
        refine then_x ?_
        exact ⟨rfl, x9, some_some H, hF.sub _ ⟨rfl, trivial⟩, hM.pick [] rfl rfl⟩
  · rintro e a w ⟨rfl, x8, rfl, hF, hM⟩
    skip
    refine blk_x ?_
    refine then_n ?_
    refine wp_seq ?_
    refine s_region ?_
    refine s_val hF rfl rfl rfl (e_move hF rfl) ?_; intro a hF
    refine s_val hF rfl rfl rfl (e_assign hF rfl) ?_; intro a hF
    refine s_nil ?_
    refine then_n ?_
    refine wp_ret ?_
    obtain rfl := some_some H
    refine s_ret [Value.int .i64 x8] hF Try.results55 ⟨rfl, trivial⟩ ?_
    exact ⟨_, rfl, hM.frm, rfl⟩

/-! ### loop.example/g01210/spec.l1In: function 48 -/
def spec_l1In.f (K : Nat) (a0 : Int) (a1 : Int) (a2 : Int) : Option Bool := if a1 ≤ a0 then (some (decide (a0 ≤ a2))) else (some false)
set_option maxRecDepth 100000 in
set_option maxHeartbeats 4000000 in
theorem spec_l1In.calls {w0 : World} (K : Nat) (a0 : Int) (a1 : Int) (a2 : Int) (r : Bool) (H : spec_l1In.f K a0 a1 a2 = some r) : Calls Try.prog 48 [Value.int .i64 a0, Value.int .i64 a1, Value.int .i64 a2].toArray w0 (Post w0 fun w v => v = Value.bool r) := by
  rw [spec_l1In.f] at H
  refine s_start Try.func48 rfl Try.ntmps48 rfl ?_
  intro a hF
  have hM := Ms.start w0
  skip
  refine wp_seq ?_
  refine s_region ?_
  refine s_val hF rfl rfl rfl (e_assign hF rfl) ?_; intro a hF
  refine s_nil ?_
  refine then_n ?_
  refine wp_seq ?_
  rcases ite_cases H with ⟨c1, H⟩ | ⟨c1, H⟩
  ·
    refine s_region ?_
    refine s_val hF rfl rfl rfl (e_move hF rfl) ?_; intro a hF
    refine s_val hF rfl rfl rfl (e_move hF rfl) ?_; intro a hF
    refine s_val hF rfl rfl rfl (e_geq hF rfl rfl) ?_; intro a hF
    refine s_val hF rfl rfl rfl (e_move hF rfl) ?_; intro a hF
    have hF := hF.topb (decide_eq_true c1)
    refine s_val hF rfl rfl rfl (e_move hF rfl) ?_; intro a hF
    refine s_val hF rfl rfl rfl (e_move hF rfl) ?_; intro a hF
    refine s_val hF rfl rfl rfl (e_leq hF rfl rfl) ?_; intro a hF
    refine s_val hF rfl rfl rfl (e_pick_t hF rfl rfl) ?_; intro a hF
    refine s_val hF rfl rfl rfl (e_assign hF rfl) ?_; intro a hF
    refine s_nil ?_
    refine then_n ?_
    refine wp_ret ?_
    obtain rfl := some_some H
    refine s_ret [Value.bool (decide (a0 ≤ a2))] hF Try.results48 ⟨rfl, trivial⟩ ?_
    exact ⟨_, rfl, hM.frm, rfl⟩
  ·
    refine s_region ?_
    refine s_val hF rfl rfl rfl (e_move hF rfl) ?_; intro a hF
    refine s_val hF rfl rfl rfl (e_move hF rfl) ?_; intro a hF
    refine s_val hF rfl rfl rfl (e_geq hF rfl rfl) ?_; intro a hF
    refine s_val hF rfl rfl rfl (e_move hF rfl) ?_; intro a hF
    have hF := hF.topb (decide_eq_false c1)
    refine s_skip hF rfl rfl rfl ?_; intro a hF
    refine s_skip hF rfl rfl rfl ?_; intro a hF
    refine s_skip hF rfl rfl rfl ?_; intro a hF
    refine s_val hF rfl rfl rfl (e_pick_f hF rfl rfl) ?_; intro a hF
    refine s_val hF rfl rfl rfl (e_assign hF rfl) ?_; intro a hF
    refine s_nil ?_
    refine then_n ?_
    refine wp_ret ?_
    obtain rfl := some_some H
    refine s_ret [Value.bool false] hF Try.results48 ⟨rfl, trivial⟩ ?_
    exact ⟨_, rfl, hM.frm, rfl⟩

/-! ### loop.example/g01210/spec.l2Die: function 47 -/
def spec_l2Die.l0 (K : Nat) (a0 : (Ar 6)) : Nat → Int → Option (Sum Unit Bool)
  | 0, _ => none
  | k + 1, x14 => if x14 < 6 then (if (0 : Int) ≤ x14 ∧ x14 < 6 then ((spec_l1In.f K (a0.get x14) 0 30).bind fun t17 => if t17 = true then (if 0 < x14 then (if (0 : Int) ≤ (wrap64 (x14 - 1)) ∧ (wrap64 (x14 - 1)) < 6 then (if (a0.get x14) < (a0.get (wrap64 (x14 - 1))) then (some (Sum.inr false)) else (spec_l2Die.l0 K a0 k (wrap64 (x14 + 1)))) else none) else (spec_l2Die.l0 K a0 k (wrap64 (x14 + 1)))) else (some (Sum.inr false))) else none) else (some (Sum.inl ()))
def spec_l2Die.f (K : Nat) (a0 : (Ar 6)) : Option Bool := (spec_l2Die.l0 K a0 K 0).bind fun o23 => (match o23 with | .inl () => some true | .inr r25 => some r25)
set_option maxRecDepth 100000 in
set_option maxHeartbeats 4000000 in
theorem spec_l2Die.calls {w0 : World} (K : Nat) (a0 : (Ar 6)) (r : Bool) (H : spec_l2Die.f K a0 = some r) : Calls Try.prog 47 [ag [Pt.ar a0]].toArray w0 (Post w0 fun w v => v = Value.bool r) := by
  rw [spec_l2Die.f] at H
  refine s_start Try.func47 rfl Try.ntmps47 rfl ?_
  intro a hF
  have hM := Ms.start w0
  skip
  refine wp_seq ?_
  refine s_region ?_
  refine s_box (ps := [Pt.ar a0]) hF hM rfl rfl rfl rfl ?_; intro a w b1 hF hM
  refine s_val hF rfl rfl rfl (e_assign hF rfl) ?_; intro a hF
  refine s_nil ?_
  refine then_n ?_
  refine wp_seq ?_
  refine wp_seq ?_
  refine s_region ?_
  refine s_val hF rfl rfl rfl (e_assign hF rfl) ?_; intro a hF
  refine s_nil ?_
  refine then_n ?_
  refine wp_block ?_
  obtain ⟨o23, h24, H⟩ := bind_some H
  refine wp_mono (Q := fun e a w => (e = Exit.exit 0 ∧ Sum.inl () = o23 ∧ Fr 27 a [] ∧ Ms [] w0 w []) ∨ (e = Exit.ret ∧ ∃ r25 : Bool, Sum.inr r25 = o23 ∧ Fr 27 a [(2, Value.bool r25)] ∧ Ms [] w0 w [])) ?_ ?_
  · refine s_loop (fun kq a w => ∃ x14 : Int, spec_l2Die.l0 K a0 kq x14 = some o23 ∧ Fr 27 a [(1, pt b1 0), (3, Value.int .i64 x14)] ∧ Ms [] w0 w [boxR b1 [Pt.ar a0] 22]) K ⟨0, h24, hF.sub _ ⟨rfl, rfl, trivial⟩, hM.pick [0] rfl rfl⟩ ?_ ?_
    · rintro a w ⟨_, H, _⟩; exact none_some H
    · rintro k a w ⟨x14, H, hF, hM⟩; rw [spec_l2Die.l0] at H
      refine wp_seq ?_
      refine wp_seq ?_
      refine s_region ?_
      refine s_val hF rfl rfl rfl (e_move hF rfl) ?_; intro a hF
      refine s_val hF rfl rfl rfl (e_lss hF rfl rfl) ?_; intro a hF
      refine s_nil ?_
      refine then_n ?_
      rcases ite_cases H with ⟨c15, H⟩ | ⟨c15, H⟩
      ·
        refine s_cond_t hF rfl (decide_eq_true c15) ?_
        refine wp_skip ?_
        refine then_n ?_
        refine wp_seq ?_
        refine wp_block ?_
        refine wp_seq ?_
        obtain ⟨c16, H⟩ := ite_some H
        obtain ⟨t17, h18, H⟩ := bind_some H
        rcases ite_cases H with ⟨c19, H⟩ | ⟨c19, H⟩
        ·
          rcases ite_cases H with ⟨c20, H⟩ | ⟨c20, H⟩
          ·
            obtain ⟨c21, H⟩ := ite_some H
            refine s_held (fun w => Ms [] w0 w [boxR b1 [Pt.ar a0] 22]) #[false, false, false, false, false, false, false, false, false, false, false, false, false, false, false, false, false, false, false] mixed rfl rfl hM ?_; intro w hf hM; clear hf
            refine h_val 0 #[true, false, false, false, false, false, false, false, false, false, false, false, false, false, false, false, false, false, false] rfl (by kernel_rfl) hF rfl rfl rfl (fun w hS => e_move hF rfl) (hM.pick [0] rfl rfl) ?_; intro a hF
            refine h_val 1 #[true, true, false, false, false, false, false, false, false, false, false, false, false, false, false, false, false, false, false] rfl (by kernel_rfl) hF rfl rfl rfl (fun w hS => e_ia hF rfl rfl Try.underlying22 Try.sizeOf3 c16.1 c16.2) (hM.pick [0] rfl rfl) ?_; intro a hF
            refine h_val 2 #[true, true, true, false, false, false, false, false, false, false, false, false, false, false, false, false, false, false, false] rfl (by kernel_rfl) hF rfl rfl rfl (fun w hS => e_ldi (i := 0) (k := 0) hF hS rfl rfl rfl rfl rfl Try.isAgg3 c16.1 c16.2) (hM.pick [0] rfl rfl) ?_; intro a hF
            refine h_one 3 #[true, true, true, true, false, false, false, false, false, false, false, false, false, false, false, false, false, false, false] rfl (by kernel_rfl) ?_
            refine s_call hF rfl rfl rfl Try.call48 (spec_l1In.calls K (a0.get x14) 0 30 t17 h18) ?_; intro a w v hF hf hR
            subst hR; have hM := hM.grow hf
            refine s_nil ⟨rfl, (hM.pick [0] rfl rfl), ?_⟩
            refine h_val 4 #[true, true, true, true, true, false, false, false, false, false, false, false, false, false, false, false, false, false, false] rfl (by kernel_rfl) hF rfl rfl rfl (fun w hS => e_not hF rfl) (hM.pick [0] rfl rfl) ?_; intro a hF
            refine h_val 5 #[true, true, true, true, true, true, false, false, false, false, false, false, false, false, false, false, false, false, false] rfl (by kernel_rfl) hF rfl rfl rfl (fun w hS => e_move hF rfl) (hM.pick [0] rfl rfl) ?_; intro a hF
            have hF := hF.topb (congrArg Bool.not c19)
            refine h_val 6 #[true, true, true, true, true, true, true, false, false, false, false, false, false, false, false, false, false, false, false] rfl (by kernel_rfl) hF rfl rfl rfl (fun w hS => e_move hF rfl) (hM.pick [0] rfl rfl) ?_; intro a hF
            refine h_val 7 #[true, true, true, true, true, true, true, true, false, false, false, false, false, false, false, false, false, false, false] rfl (by kernel_rfl) hF rfl rfl rfl (fun w hS => e_gtr hF rfl rfl) (hM.pick [0] rfl rfl) ?_; intro a hF
            refine h_val 8 #[true, true, true, true, true, true, true, true, true, false, false, false, false, false, false, false, false, false, false] rfl (by kernel_rfl) hF rfl rfl rfl (fun w hS => e_move hF rfl) (hM.pick [0] rfl rfl) ?_; intro a hF
            have hF := hF.topb (decide_eq_true c20)
            refine h_val 9 #[true, true, true, true, true, true, true, true, true, true, false, false, false, false, false, false, false, false, false] rfl (by kernel_rfl) hF rfl rfl rfl (fun w hS => e_move hF rfl) (hM.pick [0] rfl rfl) ?_; intro a hF
            refine h_val 10 #[true, true, true, true, true, true, true, true, true, true, true, false, false, false, false, false, false, false, false] rfl (by kernel_rfl) hF rfl rfl rfl (fun w hS => e_ia hF rfl rfl Try.underlying22 Try.sizeOf3 c16.1 c16.2) (hM.pick [0] rfl rfl) ?_; intro a hF
            refine h_val 11 #[true, true, true, true, true, true, true, true, true, true, true, true, false, false, false, false, false, false, false] rfl (by kernel_rfl) hF rfl rfl rfl (fun w hS => e_ldi (i := 0) (k := 0) hF hS rfl rfl rfl rfl rfl Try.isAgg3 c16.1 c16.2) (hM.pick [0] rfl rfl) ?_; intro a hF
            refine h_val 12 #[true, true, true, true, true, true, true, true, true, true, true, true, true, false, false, false, false, false, false] rfl (by kernel_rfl) hF rfl rfl rfl (fun w hS => e_move hF rfl) (hM.pick [0] rfl rfl) ?_; intro a hF
            refine h_val 13 #[true, true, true, true, true, true, true, true, true, true, true, true, true, true, false, false, false, false, false] rfl (by kernel_rfl) hF rfl rfl rfl (fun w hS => e_sub hF rfl rfl) (hM.pick [0] rfl rfl) ?_; intro a hF
            refine h_val 14 #[true, true, true, true, true, true, true, true, true, true, true, true, true, true, true, false, false, false, false] rfl (by kernel_rfl) hF rfl rfl rfl (fun w hS => e_ia hF rfl rfl Try.underlying22 Try.sizeOf3 c21.1 c21.2) (hM.pick [0] rfl rfl) ?_; intro a hF
            refine h_val 15 #[true, true, true, true, true, true, true, true, true, true, true, true, true, true, true, true, false, false, false] rfl (by kernel_rfl) hF rfl rfl rfl (fun w hS => e_ldi (i := 0) (k := 0) hF hS rfl rfl rfl rfl rfl Try.isAgg3 c21.1 c21.2) (hM.pick [0] rfl rfl) ?_; intro a hF
            refine h_val 16 #[true, true, true, true, true, true, true, true, true, true, true, true, true, true, true, true, true, false, false] rfl (by kernel_rfl) hF rfl rfl rfl (fun w hS => e_lss hF rfl rfl) (hM.pick [0] rfl rfl) ?_; intro a hF
            refine h_val 17 #[true, true, true, true, true, true, true, true, true, true, true, true, true, true, true, true, true, true, false] rfl (by kernel_rfl) hF rfl rfl rfl (fun w hS => e_pick_t hF rfl rfl) (hM.pick [0] rfl rfl) ?_; intro a hF
            refine h_val 18 #[true, true, true, true, true, true, true, true, true, true, true, true, true, true, true, true, true, true, true] rfl (by kernel_rfl) hF rfl rfl rfl (fun w hS => e_pick_f hF rfl rfl) (hM.pick [0] rfl rfl) ?_; intro a hF
            refine h_done rfl ?_
            refine then_n ?_
            rcases ite_cases H with ⟨c22, H⟩ | ⟨c22, H⟩
            ·
              refine s_cond_t hF rfl (decide_eq_true c22) ?_
              refine wp_seq ?_
              refine s_region ?_
              refine s_val hF rfl rfl rfl (e_assign hF rfl) ?_; intro a hF
              refine s_nil ?_
              refine then_n ?_
              refine wp_ret ?_
              refine blk_r ?_
              refine then_r ?_
              refine then_r ?_
              exact Or.inr (⟨rfl, false, some_some H, hF.sub _ ⟨rfl, trivial⟩, hM.pick [] rfl rfl⟩)
            ·
              refine s_cond_f hF rfl (decide_eq_false c22) ?_
              refine wp_skip ?_
              refine blk_n ?_
              refine then_n ?_
              refine s_region ?_
              refine s_val hF rfl rfl rfl (e_move hF rfl) ?_; intro a hF
              refine s_val hF rfl rfl rfl (e_add hF rfl rfl) ?_; intro a hF
              refine s_val hF rfl rfl rfl (e_assign hF rfl) ?_; intro a hF
              refine s_nil ?_
              refine then_n ?_
              exact ⟨(wrap64 (x14 + 1)), H, hF.sub _ ⟨rfl, rfl, trivial⟩, hM.pick [0] rfl rfl⟩
          ·
            refine s_held (fun w => Ms [] w0 w [boxR b1 [Pt.ar a0] 22]) #[false, false, false, false, false, false, false, false, false, false, false, false, false, false, false, false, false, false, false] mixed rfl rfl hM ?_; intro w hf hM; clear hf
            refine h_val 0 #[true, false, false, false, false, false, false, false, false, false, false, false, false, false, false, false, false, false, false] rfl (by kernel_rfl) hF rfl rfl rfl (fun w hS => e_move hF rfl) (hM.pick [0] rfl rfl) ?_; intro a hF
            refine h_val 1 #[true, true, false, false, false, false, false, false, false, false, false, false, false, false, false, false, false, false, false] rfl (by kernel_rfl) hF rfl rfl rfl (fun w hS => e_ia hF rfl rfl Try.underlying22 Try.sizeOf3 c16.1 c16.2) (hM.pick [0] rfl rfl) ?_; intro a hF
            refine h_val 2 #[true, true, true, false, false, false, false, false, false, false, false, false, false, false, false, false, false, false, false] rfl (by kernel_rfl) hF rfl rfl rfl (fun w hS => e_ldi (i := 0) (k := 0) hF hS rfl rfl rfl rfl rfl Try.isAgg3 c16.1 c16.2) (hM.pick [0] rfl rfl) ?_; intro a hF
            refine h_one 3 #[true, true, true, true, false, false, false, false, false, false, false, false, false, false, false, false, false, false, false] rfl (by kernel_rfl) ?_
            refine s_call hF rfl rfl rfl Try.call48 (spec_l1In.calls K (a0.get x14) 0 30 t17 h18) ?_; intro a w v hF hf hR
            subst hR; have hM := hM.grow hf
            refine s_nil ⟨rfl, (hM.pick [0] rfl rfl), ?_⟩
            refine h_val 4 #[true, true, true, true, true, false, false, false, false, false, false, false, false, false, false, false, false, false, false] rfl (by kernel_rfl) hF rfl rfl rfl (fun w hS => e_not hF rfl) (hM.pick [0] rfl rfl) ?_; intro a hF
            refine h_val 5 #[true, true, true, true, true, true, false, false, false, false, false, false, false, false, false, false, false, false, false] rfl (by kernel_rfl) hF rfl rfl rfl (fun w hS => e_move hF rfl) (hM.pick [0] rfl rfl) ?_; intro a hF
            have hF := hF.topb (congrArg Bool.not c19)
            refine h_val 6 #[true, true, true, true, true, true, true, false, false, false, false, false, false, false, false, false, false, false, false] rfl (by kernel_rfl) hF rfl rfl rfl (fun w hS => e_move hF rfl) (hM.pick [0] rfl rfl) ?_; intro a hF
            refine h_val 7 #[true, true, true, true, true, true, true, true, false, false, false, false, false, false, false, false, false, false, false] rfl (by kernel_rfl) hF rfl rfl rfl (fun w hS => e_gtr hF rfl rfl) (hM.pick [0] rfl rfl) ?_; intro a hF
            refine h_val 8 #[true, true, true, true, true, true, true, true, true, false, false, false, false, false, false, false, false, false, false] rfl (by kernel_rfl) hF rfl rfl rfl (fun w hS => e_move hF rfl) (hM.pick [0] rfl rfl) ?_; intro a hF
            have hF := hF.topb (decide_eq_false c20)
            refine h_skip 9 #[true, true, true, true, true, true, true, true, true, true, false, false, false, false, false, false, false, false, false] rfl (by kernel_rfl) hF rfl rfl rfl (hM.pick [0] rfl rfl) ?_; intro a hF
            refine h_skip 10 #[true, true, true, true, true, true, true, true, true, true, true, false, false, false, false, false, false, false, false] rfl (by kernel_rfl) hF rfl rfl rfl (hM.pick [0] rfl rfl) ?_; intro a hF
            refine h_skip 11 #[true, true, true, true, true, true, true, true, true, true, true, true, false, false, false, false, false, false, false] rfl (by kernel_rfl) hF rfl rfl rfl (hM.pick [0] rfl rfl) ?_; intro a hF
            refine h_skip 12 #[true, true, true, true, true, true, true, true, true, true, true, true, true, false, false, false, false, false, false] rfl (by kernel_rfl) hF rfl rfl rfl (hM.pick [0] rfl rfl) ?_; intro a hF
            refine h_skip 13 #[true, true, true, true, true, true, true, true, true, true, true, true, true, true, false, false, false, false, false] rfl (by kernel_rfl) hF rfl rfl rfl (hM.pick [0] rfl rfl) ?_; intro a hF
            refine h_skip 14 #[true, true, true, true, true, true, true, true, true, true, true, true, true, true, true, false, false, false, false] rfl (by kernel_rfl) hF rfl rfl rfl (hM.pick [0] rfl rfl) ?_; intro a hF
            refine h_skip 15 #[true, true, true, true, true, true, true, true, true, true, true, true, true, true, true, true, false, false, false] rfl (by kernel_rfl) hF rfl rfl rfl (hM.pick [0] rfl rfl) ?_; intro a hF
            refine h_skip 16 #[true, true, true, true, true, true, true, true, true, true, true, true, true, true, true, true, true, false, false] rfl (by kernel_rfl) hF rfl rfl rfl (hM.pick [0] rfl rfl) ?_; intro a hF
            refine h_val 17 #[true, true, true, true, true, true, true, true, true, true, true, true, true, true, true, true, true, true, false] rfl (by kernel_rfl) hF rfl rfl rfl (fun w hS => e_pick_f hF rfl rfl) (hM.pick [0] rfl rfl) ?_; intro a hF
            refine h_val 18 #[true, true, true, true, true, true, true, true, true, true, true, true, true, true, true, true, true, true, true] rfl (by kernel_rfl) hF rfl rfl rfl (fun w hS => e_pick_f hF rfl rfl) (hM.pick [0] rfl rfl) ?_; intro a hF
            refine h_done rfl ?_
            refine then_n ?_
            refine s_cond_f hF rfl rfl ?_
            refine wp_skip ?_
            refine blk_n ?_
            refine then_n ?_
            refine s_region ?_
            refine s_val hF rfl rfl rfl (e_move hF rfl) ?_; intro a hF
            refine s_val hF rfl rfl rfl (e_add hF rfl rfl) ?_; intro a hF
            refine s_val hF rfl rfl rfl (e_assign hF rfl) ?_; intro a hF
            refine s_nil ?_
            refine then_n ?_
            exact ⟨(wrap64 (x14 + 1)), H, hF.sub _ ⟨rfl, rfl, trivial⟩, hM.pick [0] rfl rfl⟩
        ·
          refine s_held (fun w => Ms [] w0 w [boxR b1 [Pt.ar a0] 22]) #[false, false, false, false, false, false, false, false, false, false, false, false, false, false, false, false, false, false, false] mixed rfl rfl hM ?_; intro w hf hM; clear hf
          refine h_val 0 #[true, false, false, false, false, false, false, false, false, false, false, false, false, false, false, false, false, false, false] rfl (by kernel_rfl) hF rfl rfl rfl (fun w hS => e_move hF rfl) (hM.pick [0] rfl rfl) ?_; intro a hF
          refine h_val 1 #[true, true, false, false, false, false, false, false, false, false, false, false, false, false, false, false, false, false, false] rfl (by kernel_rfl) hF rfl rfl rfl (fun w hS => e_ia hF rfl rfl Try.underlying22 Try.sizeOf3 c16.1 c16.2) (hM.pick [0] rfl rfl) ?_; intro a hF
          refine h_val 2 #[true, true, true, false, false, false, false, false, false, false, false, false, false, false, false, false, false, false, false] rfl (by kernel_rfl) hF rfl rfl rfl (fun w hS => e_ldi (i := 0) (k := 0) hF hS rfl rfl rfl rfl rfl Try.isAgg3 c16.1 c16.2) (hM.pick [0] rfl rfl) ?_; intro a hF
          refine h_one 3 #[true, true, true, true, false, false, false, false, false, false, false, false, false, false, false, false, false, false, false] rfl (by kernel_rfl) ?_
          refine s_call hF rfl rfl rfl Try.call48 (spec_l1In.calls K (a0.get x14) 0 30 t17 h18) ?_; intro a w v hF hf hR
          subst hR; have hM := hM.grow hf
          refine s_nil ⟨rfl, (hM.pick [0] rfl rfl), ?_⟩
          refine h_val 4 #[true, true, true, true, true, false, false, false, false, false, false, false, false, false, false, false, false, false, false] rfl (by kernel_rfl) hF rfl rfl rfl (fun w hS => e_not hF rfl) (hM.pick [0] rfl rfl) ?_; intro a hF
          refine h_val 5 #[true, true, true, true, true, true, false, false, false, false, false, false, false, false, false, false, false, false, false] rfl (by kernel_rfl) hF rfl rfl rfl (fun w hS => e_move hF rfl) (hM.pick [0] rfl rfl) ?_; intro a hF
          have hF := hF.topb (congrArg Bool.not (bf c19))
          refine h_skip 6 #[true, true, true, true, true, true, true, false, false, false, false, false, false, false, false, false, false, false, false] rfl (by kernel_rfl) hF rfl rfl rfl (hM.pick [0] rfl rfl) ?_; intro a hF
          refine h_skip 7 #[true, true, true, true, true, true, true, true, false, false, false, false, false, false, false, false, false, false, false] rfl (by kernel_rfl) hF rfl rfl rfl (hM.pick [0] rfl rfl) ?_; intro a hF
          refine h_skip 8 #[true, true, true, true, true, true, true, true, true, false, false, false, false, false, false, false, false, false, false] rfl (by kernel_rfl) hF rfl rfl rfl (hM.pick [0] rfl rfl) ?_; intro a hF
          refine h_skip 9 #[true, true, true, true, true, true, true, true, true, true, false, false, false, false, false, false, false, false, false] rfl (by kernel_rfl) hF rfl rfl rfl (hM.pick [0] rfl rfl) ?_; intro a hF
          refine h_skip 10 #[true, true, true, true, true, true, true, true, true, true, true, false, false, false, false, false, false, false, false] rfl (by kernel_rfl) hF rfl rfl rfl (hM.pick [0] rfl rfl) ?_; intro a hF
          refine h_skip 11 #[true, true, true, true, true, true, true, true, true, true, true, true, false, false, false, false, false, false, false] rfl (by kernel_rfl) hF rfl rfl rfl (hM.pick [0] rfl rfl) ?_; intro a hF
          refine h_skip 12 #[true, true, true, true, true, true, true, true, true, true, true, true, true, false, false, false, false, false, false] rfl (by kernel_rfl) hF rfl rfl rfl (hM.pick [0] rfl rfl) ?_; intro a hF
          refine h_skip 13 #[true, true, true, true, true, true, true, true, true, true, true, true, true, true, false, false, false, false, false] rfl (by kernel_rfl) hF rfl rfl rfl (hM.pick [0] rfl rfl) ?_; intro a hF
          refine h_skip 14 #[true, true, true, true, true, true, true, true, true, true, true, true, true, true, true, false, false, false, false] rfl (by kernel_rfl) hF rfl rfl rfl (hM.pick [0] rfl rfl) ?_; intro a hF
          refine h_skip 15 #[true, true, true, true, true, true, true, true, true, true, true, true, true, true, true, true, false, false, false] rfl (by kernel_rfl) hF rfl rfl rfl (hM.pick [0] rfl rfl) ?_; intro a hF
          refine h_skip 16 #[true, true, true, true, true, true, true, true, true, true, true, true, true, true, true, true, true, false, false] rfl (by kernel_rfl) hF rfl rfl rfl (hM.pick [0] rfl rfl) ?_; intro a hF
          refine h_skip 17 #[true, true, true, true, true, true, true, true, true, true, true, true, true, true, true, true, true, true, false] rfl (by kernel_rfl) hF rfl rfl rfl (hM.pick [0] rfl rfl) ?_; intro a hF
          refine h_val 18 #[true, true, true, true, true, true, true, true, true, true, true, true, true, true, true, true, true, true, true] rfl (by kernel_rfl) hF rfl rfl rfl (fun w hS => e_pick_t hF rfl rfl) (hM.pick [0] rfl rfl) ?_; intro a hF
          refine h_done rfl ?_
          refine then_n ?_
          refine s_cond_t hF rfl rfl ?_
          refine wp_seq ?_
          refine s_region ?_
          refine s_val hF rfl rfl rfl (e_assign hF rfl) ?_; intro a hF
          refine s_nil ?_
          refine then_n ?_
          refine wp_ret ?_
          refine blk_r ?_
          refine then_r ?_
          refine then_r ?_
          exact Or.inr (⟨rfl, false, some_some H, hF.sub _ ⟨rfl, trivial⟩, hM.pick [] rfl rfl⟩)
      ·
        refine s_cond_f hF rfl (decide_eq_false c15) ?_
        refine wp_exit ?_
        refine then_x ?_
        refine then_x ?_
        exact Or.inl (⟨rfl, some_some H, hF.sub _ trivial, hM.pick [] rfl rfl⟩)
  · rintro e a w (⟨rfl, rfl, hF, hM⟩ | ⟨rfl, r25, rfl, hF, hM⟩)
    ·
      dsimp only at H
      refine blk_x ?_
      refine then_n ?_
      refine wp_seq ?_
      refine s_region ?_
      refine s_val hF rfl rfl rfl (e_assign hF rfl) ?_; intro a hF
      refine s_nil ?_
      refine then_n ?_
      refine wp_ret ?_
      obtain rfl := some_some H
      refine s_ret [Value.bool true] hF Try.results47 ⟨rfl, trivial⟩ ?_
      exact ⟨_, rfl, hM.frm, rfl⟩
    ·
      dsimp only at H
      refine blk_r ?_
      refine then_r ?_
      obtain rfl := some_some H
      refine s_ret [Value.bool r25] hF Try.results47 ⟨rfl, trivial⟩ ?_
      exact ⟨_, rfl, hM.frm, rfl⟩

/-! ### loop.example/g01210/spec.l8Phrase: function 74 -/
def spec_l8Phrase.l0 (K : Nat) (a0 : (Ar 6)) (l1 : (List Int)) : Nat → Int → Option (Sum Unit Bool)
  | 0, _ => none
  | k + 1, x14 => if x14 < (l1.length : Int) then (if x14 ≤ 6 then (if (0 : Int) ≤ x14 ∧ x14 < (l1.length : Int) then ((spec_l8Weight.f K a0 (l1.getD (x14 : Int).toNat (0 : Int))).bind fun t18 => if t18 = 0 then (some (Sum.inr false)) else (spec_l8Phrase.l0 K a0 l1 k (wrap64 (x14 + 1)))) else none) else (some (Sum.inl ()))) else (some (Sum.inl ()))
def spec_l8Phrase.f (K : Nat) (a0 : (Ar 6)) (l1 : (List Int)) : Option Bool := (spec_l8Phrase.l0 K a0 l1 K 0).bind fun o22 => (match o22 with | .inl () => (spec_l2Die.f K a0).bind fun t25 => if t25 = true then ((spec_l1In.f K (l1.length : Int) 1 6).bind fun t28 => some t28) else (some false) | .inr r24 => some r24)
set_option maxRecDepth 100000 in
set_option maxHeartbeats 4000000 in
theorem spec_l8Phrase.calls {w0 : World} (K : Nat) (a0 : (Ar 6)) (l1 : (List Int)) (u1 : Value) (q1 : SlR cd3 w0 u1 l1) (r : Bool) (H : spec_l8Phrase.f K a0 l1 = some r) : Calls Try.prog 74 [ag [Pt.ar a0], u1].toArray w0 (Post w0 fun w v => v = Value.bool r) := by
  rw [spec_l8Phrase.f] at H
  refine s_start Try.func74 rfl Try.ntmps74 rfl ?_
  intro a hF
  have hM := Ms.start w0
  skip
  refine wp_seq ?_
  refine s_region ?_
  refine s_box (ps := [Pt.ar a0]) hF hM rfl rfl rfl rfl ?_; intro a w b1 hF hM
  refine s_val hF rfl rfl rfl (e_assign hF rfl) ?_; intro a hF
  refine s_nil ?_
  refine then_n ?_
  refine wp_seq ?_
  refine wp_seq ?_
  refine s_region ?_
  refine s_val hF rfl rfl rfl (e_assign hF rfl) ?_; intro a hF
  refine s_nil ?_
  refine then_n ?_
  refine wp_block ?_
  obtain ⟨o22, h23, H⟩ := bind_some H
  refine wp_mono (Q := fun e a w => (e = Exit.exit 0 ∧ Sum.inl () = o22 ∧ Fr 30 a [(1, u1), (2, pt b1 0)] ∧ Ms [] w0 w [boxR b1 [Pt.ar a0] 22]) ∨ (e = Exit.ret ∧ ∃ r24 : Bool, Sum.inr r24 = o22 ∧ Fr 30 a [(4, Value.bool r24)] ∧ Ms [] w0 w [])) ?_ ?_
  · refine s_loop (fun kq a w => ∃ x14 : Int, spec_l8Phrase.l0 K a0 l1 kq x14 = some o22 ∧ Fr 30 a [(1, u1), (2, pt b1 0), (5, Value.int .i64 x14)] ∧ Ms [] w0 w [boxR b1 [Pt.ar a0] 22]) K ⟨0, h23, hF.sub _ ⟨rfl, rfl, rfl, trivial⟩, hM.pick [0] rfl rfl⟩ ?_ ?_
    · rintro a w ⟨_, H, _⟩; exact none_some H
    · rintro k a w ⟨x14, H, hF, hM⟩; rw [spec_l8Phrase.l0] at H
      refine wp_seq ?_
      refine wp_seq ?_
      rcases ite_cases H with ⟨c15, H⟩ | ⟨c15, H⟩
      ·
        refine s_region ?_
        refine s_val hF rfl rfl rfl (e_move hF rfl) ?_; intro a hF
        refine s_val hF rfl rfl rfl (e_move hF rfl) ?_; intro a hF
        refine s_val hF rfl rfl rfl (e_len hF rfl (q1.frm hM.frm).toF Try.underlying42) ?_; intro a hF
        refine s_val hF rfl rfl rfl (e_lss hF rfl rfl) ?_; intro a hF
        refine s_val hF rfl rfl rfl (e_move hF rfl) ?_; intro a hF
        have hF := hF.topb (decide_eq_true c15)
        refine s_val hF rfl rfl rfl (e_move hF rfl) ?_; intro a hF
        refine s_val hF rfl rfl rfl (e_leq hF rfl rfl) ?_; intro a hF
        refine s_val hF rfl rfl rfl (e_pick_t hF rfl rfl) ?_; intro a hF
        refine s_nil ?_
        refine then_n ?_
        rcases ite_cases H with ⟨c16, H⟩ | ⟨c16, H⟩
        ·
          refine s_cond_t hF rfl (decide_eq_true c16) ?_
          refine wp_skip ?_
          refine then_n ?_
          refine wp_seq ?_
          refine wp_block ?_
          refine wp_seq ?_
          obtain ⟨c17, H⟩ := ite_some H
          obtain ⟨t18, h19, H⟩ := bind_some H
          refine s_held (fun w => Ms [] w0 w [boxR b1 [Pt.ar a0] 22]) #[false, false, false, false, false, false, false] mixed rfl rfl hM ?_; intro w hf hM; clear hf
          refine h_val 0 #[true, false, false, false, false, false, false] rfl (by kernel_rfl) hF rfl rfl rfl (fun w hS => e_lda (i := 0) 0 1 hF hS rfl rfl rfl rfl Try.isAgg22 Try.sizeOf22 rfl) (hM.pick [0] rfl rfl) ?_; intro a hF
          refine h_val 1 #[true, true, false, false, false, false, false] rfl (by kernel_rfl) hF rfl rfl rfl (fun w hS => e_move hF rfl) (hM.pick [0] rfl rfl) ?_; intro a hF
          refine h_val 2 #[true, true, true, false, false, false, false] rfl (by kernel_rfl) hF rfl rfl rfl (fun w hS => e_move hF rfl) (hM.pick [0] rfl rfl) ?_; intro a hF
          have f20 := (q1.frm hM.frm).toF
          refine h_val 3 #[true, true, true, true, false, false, false] rfl (by kernel_rfl) hF rfl rfl rfl (fun w hS => e_ias cd3 hF rfl rfl f20 Try.underlying42 Try.sizeOf3 c17.1 c17.2) (hM.pick [0] rfl rfl) ?_; intro a hF
          refine h_val 4 #[true, true, true, true, true, false, false] rfl (by kernel_rfl) hF rfl rfl rfl (fun w hS => e_lds (m := x14) hF rfl (q1.frm hS.frm) (getD_some (z := (0 : Int)) c17.1 c17.2) rfl rfl Try.isAgg3) (hM.pick [0] rfl rfl) ?_; intro a hF
          refine h_one 5 #[true, true, true, true, true, true, false] rfl (by kernel_rfl) ?_
          refine s_call hF rfl rfl rfl Try.call55 (spec_l8Weight.calls K a0 (l1.getD (x14 : Int).toNat (0 : Int)) t18 h19) ?_; intro a w v hF hf hR
          subst hR; have hM := hM.grow hf
          refine s_nil ⟨rfl, (hM.pick [0] rfl rfl), ?_⟩
          refine h_val 6 #[true, true, true, true, true, true, true] rfl (by kernel_rfl) hF rfl rfl rfl (fun w hS => e_eql hF rfl rfl) (hM.pick [0] rfl rfl) ?_; intro a hF
          refine h_done rfl ?_
          refine then_n ?_
          rcases ite_cases H with ⟨c21, H⟩ | ⟨c21, H⟩
          ·
            refine s_cond_t hF rfl (decide_eq_true c21) ?_
            refine wp_seq ?_
            refine s_region ?_
            refine s_val hF rfl rfl rfl (e_assign hF rfl) ?_; intro a hF
            refine s_nil ?_
            refine then_n ?_
            refine wp_ret ?_
            refine blk_r ?_
            refine then_r ?_
            refine then_r ?_
            exact Or.inr (⟨rfl, false, some_some H, hF.sub _ ⟨rfl, trivial⟩, hM.pick [] rfl rfl⟩)
          ·
            refine s_cond_f hF rfl (decide_eq_false c21) ?_
            refine wp_skip ?_
            refine blk_n ?_
            refine then_n ?_
            refine s_region ?_
            refine s_val hF rfl rfl rfl (e_move hF rfl) ?_; intro a hF
            refine s_val hF rfl rfl rfl (e_add hF rfl rfl) ?_; intro a hF
            refine s_val hF rfl rfl rfl (e_assign hF rfl) ?_; intro a hF
            refine s_nil ?_
            refine then_n ?_
            exact ⟨(wrap64 (x14 + 1)), H, hF.sub _ ⟨rfl, rfl, rfl, trivial⟩, hM.pick [0] rfl rfl⟩
        ·
          refine s_cond_f hF rfl (decide_eq_false c16) ?_
          refine wp_exit ?_
          refine then_x ?_
          refine then_x ?_
          exact Or.inl (⟨rfl, some_some H, hF.sub _ ⟨rfl, rfl, trivial⟩, hM.pick [0] rfl rfl⟩)
      ·
        refine s_region ?_
        refine s_val hF rfl rfl rfl (e_move hF rfl) ?_; intro a hF
        refine s_val hF rfl rfl rfl (e_move hF rfl) ?_; intro a hF
        refine s_val hF rfl rfl rfl (e_len hF rfl (q1.frm hM.frm).toF Try.underlying42) ?_; intro a hF
        refine s_val hF rfl rfl rfl (e_lss hF rfl rfl) ?_; intro a hF
        refine s_val hF rfl rfl rfl (e_move hF rfl) ?_; intro a hF
        have hF := hF.topb (decide_eq_false c15)
        refine s_skip hF rfl rfl rfl ?_; intro a hF
        refine s_skip hF rfl rfl rfl ?_; intro a hF
        refine s_val hF rfl rfl rfl (e_pick_f hF rfl rfl) ?_; intro a hF
        refine s_nil ?_
        refine then_n ?_
        refine s_cond_f hF rfl rfl ?_
        refine wp_exit ?_
        refine then_x ?_
        refine then_x ?_
        exact Or.inl (⟨rfl, some_some H, hF.sub _ ⟨rfl, rfl, trivial⟩, hM.pick [0] rfl rfl⟩)
  · rintro e a w (⟨rfl, rfl, hF, hM⟩ | ⟨rfl, r24, rfl, hF, hM⟩)
    ·
      dsimp only at H
      refine blk_x ?_
      refine then_n ?_
      refine wp_seq ?_
      obtain ⟨t25, h26, H⟩ := bind_some H
      rcases ite_cases H with ⟨c27, H⟩ | ⟨c27, H⟩
      ·
        obtain ⟨t28, h29, H⟩ := bind_some H
        refine s_region ?_
        refine s_val hF rfl rfl rfl (e_lda (i := 0) 0 1 hF hM rfl rfl rfl rfl Try.isAgg22 Try.sizeOf22 rfl) ?_; intro a hF
        refine s_call hF rfl rfl rfl Try.call47 (spec_l2Die.calls K a0 t25 h26) ?_; intro a w v hF hf hR
        subst hR; have hM := hM.grow hf
        refine s_val hF rfl rfl rfl (e_move hF rfl) ?_; intro a hF
        have hF := hF.topb c27
        refine s_val hF rfl rfl rfl (e_move hF rfl) ?_; intro a hF
        refine s_val hF rfl rfl rfl (e_len hF rfl (q1.frm hM.frm).toF Try.underlying42) ?_; intro a hF
        refine s_call hF rfl rfl rfl Try.call48 (spec_l1In.calls K (l1.length : Int) 1 6 t28 h29) ?_; intro a w v hF hf hR
        subst hR; have hM := hM.grow hf
        refine s_val hF rfl rfl rfl (e_pick_t hF rfl rfl) ?_; intro a hF
        refine s_val hF rfl rfl rfl (e_assign hF rfl) ?_; intro a hF
        refine s_nil ?_
        refine then_n ?_
        refine wp_ret ?_
        obtain rfl := some_some H
        refine s_ret [Value.bool t28] hF Try.results74 ⟨rfl, trivial⟩ ?_
        exact ⟨_, rfl, hM.frm, rfl⟩
      ·
        refine s_region ?_
        refine s_val hF rfl rfl rfl (e_lda (i := 0) 0 1 hF hM rfl rfl rfl rfl Try.isAgg22 Try.sizeOf22 rfl) ?_; intro a hF
        refine s_call hF rfl rfl rfl Try.call47 (spec_l2Die.calls K a0 t25 h26) ?_; intro a w v hF hf hR
        subst hR; have hM := hM.grow hf
        refine s_val hF rfl rfl rfl (e_move hF rfl) ?_; intro a hF
        have hF := hF.topb (bf c27)
        refine s_skip hF rfl rfl rfl ?_; intro a hF
        refine s_skip hF rfl rfl rfl ?_; intro a hF
        refine s_skip hF rfl rfl rfl ?_; intro a hF
        refine s_val hF rfl rfl rfl (e_pick_f hF rfl rfl) ?_; intro a hF
        refine s_val hF rfl rfl rfl (e_assign hF rfl) ?_; intro a hF
        refine s_nil ?_
        refine then_n ?_
        refine wp_ret ?_
        obtain rfl := some_some H
        refine s_ret [Value.bool false] hF Try.results74 ⟨rfl, trivial⟩ ?_
        exact ⟨_, rfl, hM.frm, rfl⟩
    ·
      dsimp only at H
      refine blk_r ?_
      refine then_r ?_
      obtain rfl := some_some H
      refine s_ret [Value.bool r24] hF Try.results74 ⟨rfl, trivial⟩ ?_
      exact ⟨_, rfl, hM.frm, rfl⟩

/-! ### loop.example/g01210/spec.l8Rolls: function 60 -/
def spec_l8Rolls.f (K : Nat) (a0 : (Ar 6)) (a1 : Int) : Option Bool := (spec_l2Die.f K a0).bind fun t2 => if t2 = true then ((spec_l1In.f K a1 0 12).bind fun t5 => some t5) else (some false)
set_option maxRecDepth 100000 in
set_option maxHeartbeats 4000000 in
theorem spec_l8Rolls.calls {w0 : World} (K : Nat) (a0 : (Ar 6)) (a1 : Int) (r : Bool) (H : spec_l8Rolls.f K a0 a1 = some r) : Calls Try.prog 60 [ag [Pt.ar a0], Value.int .i64 a1].toArray w0 (Post w0 fun w v => v = Value.bool r) := by
  rw [spec_l8Rolls.f] at H
  refine s_start Try.func60 rfl Try.ntmps60 rfl ?_
  intro a hF
  have hM := Ms.start w0
  skip
  refine wp_seq ?_
  refine s_region ?_
  refine s_box (ps := [Pt.ar a0]) hF hM rfl rfl rfl rfl ?_; intro a w b1 hF hM
  refine s_val hF rfl rfl rfl (e_assign hF rfl) ?_; intro a hF
  refine s_nil ?_
  refine then_n ?_
  refine wp_seq ?_
  obtain ⟨t2, h3, H⟩ := bind_some H
  rcases ite_cases H with ⟨c4, H⟩ | ⟨c4, H⟩
  ·
    obtain ⟨t5, h6, H⟩ := bind_some H
    refine s_region ?_
    refine s_val hF rfl rfl rfl (e_lda (i := 0) 0 1 hF hM rfl rfl rfl rfl Try.isAgg22 Try.sizeOf22 rfl) ?_; intro a hF
    refine s_call hF rfl rfl rfl Try.call47 (spec_l2Die.calls K a0 t2 h3) ?_; intro a w v hF hf hR
    subst hR; have hM := hM.grow hf
    refine s_val hF rfl rfl rfl (e_move hF rfl) ?_; intro a hF
    have hF := hF.topb c4
    refine s_val hF rfl rfl rfl (e_move hF rfl) ?_; intro a hF
    refine s_call hF rfl rfl rfl Try.call48 (spec_l1In.calls K a1 0 12 t5 h6) ?_; intro a w v hF hf hR
    subst hR; have hM := hM.grow hf
    refine s_val hF rfl rfl rfl (e_pick_t hF rfl rfl) ?_; intro a hF
    refine s_val hF rfl rfl rfl (e_assign hF rfl) ?_; intro a hF
    refine s_nil ?_
    refine then_n ?_
    refine wp_ret ?_
    obtain rfl := some_some H
    refine s_ret [Value.bool t5] hF Try.results60 ⟨rfl, trivial⟩ ?_
    exact ⟨_, rfl, hM.frm, rfl⟩
  ·
    refine s_region ?_
    refine s_val hF rfl rfl rfl (e_lda (i := 0) 0 1 hF hM rfl rfl rfl rfl Try.isAgg22 Try.sizeOf22 rfl) ?_; intro a hF
    refine s_call hF rfl rfl rfl Try.call47 (spec_l2Die.calls K a0 t2 h3) ?_; intro a w v hF hf hR
    subst hR; have hM := hM.grow hf
    refine s_val hF rfl rfl rfl (e_move hF rfl) ?_; intro a hF
    have hF := hF.topb (bf c4)
    refine s_skip hF rfl rfl rfl ?_; intro a hF
    refine s_skip hF rfl rfl rfl ?_; intro a hF
    refine s_val hF rfl rfl rfl (e_pick_f hF rfl rfl) ?_; intro a hF
    refine s_val hF rfl rfl rfl (e_assign hF rfl) ?_; intro a hF
    refine s_nil ?_
    refine then_n ?_
    refine wp_ret ?_
    obtain rfl := some_some H
    refine s_ret [Value.bool false] hF Try.results60 ⟨rfl, trivial⟩ ?_
    exact ⟨_, rfl, hM.frm, rfl⟩

/-! ### loop.example/g01210/spec.l1Own: function 65 -/
def spec_l1Own.f (K : Nat) (l0 : (List Int)) : Option (List Int) := if ([] : List Int).length + l0.length ≤ 1073741824 then (some (([] : List Int) ++ l0)) else none
set_option maxRecDepth 100000 in
set_option maxHeartbeats 4000000 in
theorem spec_l1Own.calls {w0 : World} (K : Nat) (l0 : (List Int)) (u0 : Value) (q0 : SlR cd3 w0 u0 l0) (r : (List Int)) (H : spec_l1Own.f K l0 = some r) : Calls Try.prog 65 [u0].toArray w0 (Post w0 fun w v => Fresh cd3 w0.heap.size w v r) := by
  rw [spec_l1Own.f] at H
  refine s_start Try.func65 rfl Try.ntmps65 rfl ?_
  intro a hF
  have hM := Ms.start w0
  skip
  refine wp_seq ?_
  refine s_region ?_
  refine s_val hF rfl rfl rfl (e_assign hF rfl) ?_; intro a hF
  refine s_nil ?_
  refine then_n ?_
  refine wp_seq ?_
  obtain ⟨c3, H⟩ := ite_some H
  refine s_region ?_
  refine s_bsl (C := cd3) ([] : List Int) cdok3 hF hM rfl rfl rfl rfl Try.underlying42 rfl ?_; intro a w v1 hF hM
  refine s_val hF rfl rfl rfl (e_move hF rfl) ?_; intro a hF
  refine s_append (i := 0) cdok3 hF hM rfl rfl rfl rfl rfl (q0.frm hM.frm) Try.underlying42 c3 ?_; intro a w v2 hF hM
  refine s_val hF rfl rfl rfl (e_assign hF rfl) ?_; intro a hF
  refine s_nil ?_
  refine then_n ?_
  refine wp_ret ?_
  obtain rfl := some_some H
  refine s_ret [v2] hF Try.results65 ⟨rfl, trivial⟩ ?_
  exact ⟨_, rfl, hM.frm, hM.give 0 rfl⟩

/-! ### loop.example/g01210/spec.l1Least: function 99 -/
def spec_l1Least.f (K : Nat) (a0 : Int) (a1 : Int) : Option Int := if a0 < a1 then (some a0) else (some a1)
set_option maxRecDepth 100000 in
set_option maxHeartbeats 4000000 in
theorem spec_l1Least.calls {w0 : World} (K : Nat) (a0 : Int) (a1 : Int) (r : Int) (H : spec_l1Least.f K a0 a1 = some r) : Calls Try.prog 99 [Value.int .i64 a0, Value.int .i64 a1].toArray w0 (Post w0 fun w v => v = Value.int .i64 r) := by
  rw [spec_l1Least.f] at H
  refine s_start Try.func99 rfl Try.ntmps99 rfl ?_
  intro a hF
  have hM := Ms.start w0
  skip
  refine wp_seq ?_
  refine s_region ?_
  refine s_val hF rfl rfl rfl (e_assign hF rfl) ?_; intro a hF
  refine s_nil ?_
  refine then_n ?_
  refine wp_seq ?_
  refine wp_seq ?_
  refine s_region ?_
  refine s_val hF rfl rfl rfl (e_move hF rfl) ?_; intro a hF
  refine s_val hF rfl rfl rfl (e_move hF rfl) ?_; intro a hF
  refine s_val hF rfl rfl rfl (e_lss hF rfl rfl) ?_; intro a hF
  refine s_nil ?_
  refine then_n ?_
  rcases ite_cases H with ⟨c1, H⟩ | ⟨c1, H⟩
  ·
    refine s_cond_t hF rfl (decide_eq_true c1) ?_
    refine wp_seq ?_
    refine s_region ?_
    refine s_val hF rfl rfl rfl (e_move hF rfl) ?_; intro a hF
    refine s_val hF rfl rfl rfl (e_assign hF rfl) ?_; intro a hF
    refine s_nil ?_
    refine then_n ?_
    refine wp_ret ?_
    refine then_r ?_
    obtain rfl := some_some H
    refine s_ret [Value.int .i64 a0] hF Try.results99 ⟨rfl, trivial⟩ ?_
    exact ⟨_, rfl, hM.frm, rfl⟩
  ·
    refine s_cond_f hF rfl (decide_eq_false c1) ?_
    refine wp_skip ?_
    refine then_n ?_
    refine wp_seq ?_
    refine s_region ?_
    refine s_val hF rfl rfl rfl (e_move hF rfl) ?_; intro a hF
    refine s_val hF rfl rfl rfl (e_assign hF rfl) ?_; intro a hF
    refine s_nil ?_
    refine then_n ?_
    refine wp_ret ?_
    obtain rfl := some_some H
    refine s_ret [Value.int .i64 a1] hF Try.results99 ⟨rfl, trivial⟩ ?_
    exact ⟨_, rfl, hM.frm, rfl⟩

/-! ### loop.example/g01210/spec.l1Same: function 96 -/
def spec_l1Same.l0 (K : Nat) (l0 : (List Int)) (l1 : (List Int)) : Nat → Int → Option (Sum Unit Bool)
  | 0, _ => none
  | k + 1, x11 => if x11 < (l0.length : Int) then (if (0 : Int) ≤ x11 ∧ x11 < (l0.length : Int) then (if (0 : Int) ≤ x11 ∧ x11 < (l1.length : Int) then (if (l0.getD (x11 : Int).toNat (0 : Int)) = (l1.getD (x11 : Int).toNat (0 : Int)) then (spec_l1Same.l0 K l0 l1 k (wrap64 (x11 + 1))) else (some (Sum.inr false))) else none) else none) else (some (Sum.inl ()))
def spec_l1Same.f (K : Nat) (l0 : (List Int)) (l1 : (List Int)) : Option Bool := if (l0.length : Int) = (l1.length : Int) then ((spec_l1Same.l0 K l0 l1 K 0).bind fun o18 => (match o18 with | .inl () => some true | .inr r20 => some r20)) else (some false)
set_option maxRecDepth 100000 in
set_option maxHeartbeats 4000000 in
theorem spec_l1Same.calls {w0 : World} (K : Nat) (l0 : (List Int)) (u0 : Value) (q0 : SlR cd3 w0 u0 l0) (l1 : (List Int)) (u1 : Value) (q1 : SlR cd3 w0 u1 l1) (r : Bool) (H : spec_l1Same.f K l0 l1 = some r) : Calls Try.prog 96 [u0, u1].toArray w0 (Post w0 fun w v => v = Value.bool r) := by
  rw [spec_l1Same.f] at H
  refine s_start Try.func96 rfl Try.ntmps96 rfl ?_
  intro a hF
  have hM := Ms.start w0
  skip
  refine wp_seq ?_
  refine s_region ?_
  refine s_val hF rfl rfl rfl (e_assign hF rfl) ?_; intro a hF
  refine s_nil ?_
  refine then_n ?_
  refine wp_seq ?_
  refine wp_seq ?_
  refine s_region ?_
  refine s_val hF rfl rfl rfl (e_move hF rfl) ?_; intro a hF
  refine s_val hF rfl rfl rfl (e_len hF rfl (q0.frm hM.frm).toF Try.underlying42) ?_; intro a hF
  refine s_val hF rfl rfl rfl (e_move hF rfl) ?_; intro a hF
  refine s_val hF rfl rfl rfl (e_len hF rfl (q1.frm hM.frm).toF Try.underlying42) ?_; intro a hF
  refine s_val hF rfl rfl rfl (e_neq hF rfl rfl) ?_; intro a hF
  refine s_nil ?_
  refine then_n ?_
  rcases ite_cases H with ⟨c1, H⟩ | ⟨c1, H⟩
  ·
    refine s_cond_f hF rfl (congrArg Bool.not (decide_eq_true c1)) ?_
    refine wp_skip ?_
    refine then_n ?_
    refine wp_seq ?_
    refine wp_seq ?_
    refine s_region ?_
    refine s_val hF rfl rfl rfl (e_assign hF rfl) ?_; intro a hF
    refine s_nil ?_
    refine then_n ?_
    refine wp_block ?_
    obtain ⟨o18, h19, H⟩ := bind_some H
    refine wp_mono (Q := fun e a w => (e = Exit.exit 0 ∧ Sum.inl () = o18 ∧ Fr 26 a [] ∧ Ms [] w0 w []) ∨ (e = Exit.ret ∧ ∃ r20 : Bool, Sum.inr r20 = o18 ∧ Fr 26 a [(4, Value.bool r20)] ∧ Ms [] w0 w [])) ?_ ?_
    · refine s_loop (fun kq a w => ∃ x11 : Int, spec_l1Same.l0 K l0 l1 kq x11 = some o18 ∧ Fr 26 a [(0, u0), (1, u1), (5, Value.int .i64 x11)] ∧ Ms [] w0 w []) K ⟨0, h19, hF.sub _ ⟨rfl, rfl, rfl, trivial⟩, hM.pick [] rfl rfl⟩ ?_ ?_
      · rintro a w ⟨_, H, _⟩; exact none_some H
      · rintro k a w ⟨x11, H, hF, hM⟩; rw [spec_l1Same.l0] at H
        refine wp_seq ?_
        refine wp_seq ?_
        refine s_region ?_
        refine s_val hF rfl rfl rfl (e_move hF rfl) ?_; intro a hF
        refine s_val hF rfl rfl rfl (e_move hF rfl) ?_; intro a hF
        refine s_val hF rfl rfl rfl (e_len hF rfl (q0.frm hM.frm).toF Try.underlying42) ?_; intro a hF
        refine s_val hF rfl rfl rfl (e_lss hF rfl rfl) ?_; intro a hF
        refine s_nil ?_
        refine then_n ?_
        rcases ite_cases H with ⟨c12, H⟩ | ⟨c12, H⟩
        ·
          refine s_cond_t hF rfl (decide_eq_true c12) ?_
          refine wp_skip ?_
          refine then_n ?_
          refine wp_seq ?_
          refine wp_block ?_
          refine wp_seq ?_
          obtain ⟨c13, H⟩ := ite_some H
          obtain ⟨c14, H⟩ := ite_some H
          refine s_held (fun w => Ms [] w0 w []) #[false, false, false, false, false, false, false, false, false] mixed rfl rfl hM ?_; intro w hf hM; clear hf
          refine h_val 0 #[true, false, false, false, false, false, false, false, false] rfl (by kernel_rfl) hF rfl rfl rfl (fun w hS => e_move hF rfl) (hM.pick [] rfl rfl) ?_; intro a hF
          refine h_val 1 #[true, true, false, false, false, false, false, false, false] rfl (by kernel_rfl) hF rfl rfl rfl (fun w hS => e_move hF rfl) (hM.pick [] rfl rfl) ?_; intro a hF
          have f15 := (q0.frm hM.frm).toF
          refine h_val 2 #[true, true, true, false, false, false, false, false, false] rfl (by kernel_rfl) hF rfl rfl rfl (fun w hS => e_ias cd3 hF rfl rfl f15 Try.underlying42 Try.sizeOf3 c13.1 c13.2) (hM.pick [] rfl rfl) ?_; intro a hF
          refine h_val 3 #[true, true, true, true, false, false, false, false, false] rfl (by kernel_rfl) hF rfl rfl rfl (fun w hS => e_lds (m := x11) hF rfl (q0.frm hS.frm) (getD_some (z := (0 : Int)) c13.1 c13.2) rfl rfl Try.isAgg3) (hM.pick [] rfl rfl) ?_; intro a hF
          refine h_val 4 #[true, true, true, true, true, false, false, false, false] rfl (by kernel_rfl) hF rfl rfl rfl (fun w hS => e_move hF rfl) (hM.pick [] rfl rfl) ?_; intro a hF
          refine h_val 5 #[true, true, true, true, true, true, false, false, false] rfl (by kernel_rfl) hF rfl rfl rfl (fun w hS => e_move hF rfl) (hM.pick [] rfl rfl) ?_; intro a hF
          have f16 := (q1.frm hM.frm).toF
          refine h_val 6 #[true, true, true, true, true, true, true, false, false] rfl (by kernel_rfl) hF rfl rfl rfl (fun w hS => e_ias cd3 hF rfl rfl f16 Try.underlying42 Try.sizeOf3 c14.1 c14.2) (hM.pick [] rfl rfl) ?_; intro a hF
          refine h_val 7 #[true, true, true, true, true, true, true, true, false] rfl (by kernel_rfl) hF rfl rfl rfl (fun w hS => e_lds (m := x11) hF rfl (q1.frm hS.frm) (getD_some (z := (0 : Int)) c14.1 c14.2) rfl rfl Try.isAgg3) (hM.pick [] rfl rfl) ?_; intro a hF
          refine h_val 8 #[true, true, true, true, true, true, true, true, true] rfl (by kernel_rfl) hF rfl rfl rfl (fun w hS => e_neq hF rfl rfl) (hM.pick [] rfl rfl) ?_; intro a hF
          refine h_done rfl ?_
          refine then_n ?_
          rcases ite_cases H with ⟨c17, H⟩ | ⟨c17, H⟩
          ·
            refine s_cond_f hF rfl (congrArg Bool.not (decide_eq_true c17)) ?_
            refine wp_skip ?_
            refine blk_n ?_
            refine then_n ?_
            refine s_region ?_
            refine s_val hF rfl rfl rfl (e_move hF rfl) ?_; intro a hF
            refine s_val hF rfl rfl rfl (e_add hF rfl rfl) ?_; intro a hF
            refine s_val hF rfl rfl rfl (e_assign hF rfl) ?_; intro a hF
            refine s_nil ?_
            refine then_n ?_
            exact ⟨(wrap64 (x11 + 1)), H, hF.sub _ ⟨rfl, rfl, rfl, trivial⟩, hM.pick [] rfl rfl⟩
          ·
            refine s_cond_t hF rfl (congrArg Bool.not (decide_eq_false c17)) ?_
            refine wp_seq ?_
            refine s_region ?_
            refine s_val hF rfl rfl rfl (e_assign hF rfl) ?_; intro a hF
            refine s_nil ?_
            refine then_n ?_
            refine wp_ret ?_
            refine blk_r ?_
            refine then_r ?_
            refine then_r ?_
            exact Or.inr (⟨rfl, false, some_some H, hF.sub _ ⟨rfl, trivial⟩, hM.pick [] rfl rfl⟩)
        ·
          refine s_cond_f hF rfl (decide_eq_false c12) ?_
          refine wp_exit ?_
          refine then_x ?_
          refine then_x ?_
          exact Or.inl (⟨rfl, some_some H, hF.sub _ trivial, hM.pick [] rfl rfl⟩)
    · rintro e a w (⟨rfl, rfl, hF, hM⟩ | ⟨rfl, r20, rfl, hF, hM⟩)
      ·
        dsimp only at H
        refine blk_x ?_
        refine then_n ?_
        refine wp_seq ?_
        refine s_region ?_
        refine s_val hF rfl rfl rfl (e_assign hF rfl) ?_; intro a hF
        refine s_nil ?_
        refine then_n ?_
        refine wp_ret ?_
        obtain rfl := some_some H
        refine s_ret [Value.bool true] hF Try.results96 ⟨rfl, trivial⟩ ?_
        exact ⟨_, rfl, hM.frm, rfl⟩
      ·
        dsimp only at H
        refine blk_r ?_
        refine then_r ?_
        obtain rfl := some_some H
        refine s_ret [Value.bool r20] hF Try.results96 ⟨rfl, trivial⟩ ?_
        exact ⟨_, rfl, hM.frm, rfl⟩
  ·
    refine s_cond_t hF rfl (congrArg Bool.not (decide_eq_false c1)) ?_
    refine wp_seq ?_
    refine s_region ?_
    refine s_val hF rfl rfl rfl (e_assign hF rfl) ?_; intro a hF
    refine s_nil ?_
    refine then_n ?_
    refine wp_ret ?_
    refine then_r ?_
    obtain rfl := some_some H
    refine s_ret [Value.bool false] hF Try.results96 ⟨rfl, trivial⟩ ?_
    exact ⟨_, rfl, hM.frm, rfl⟩

/-! ### loop.example/g01210/spec.l8Step: function 84 -/
def spec_l8Step.l0 (K : Nat) (l0 : (List Int)) (a2 : Int) (t2 : (List Int)) : Nat → Int → Option (Sum Unit Int)
  | 0, _ => none
  | k + 1, x23 => if 0 < x23 then (if (0 : Int) ≤ (wrap64 (((t2 ++ [a2]).length : Int) - x23)) ∧ (wrap64 (((t2 ++ [a2]).length : Int) - x23)) ≤ ((t2 ++ [a2]).length : Int) ∧ ((t2 ++ [a2]).length : Int) ≤ ((t2 ++ [a2]).length : Int) then (if (0 : Int) ≤ 0 ∧ (0 : Int) ≤ x23 ∧ x23 ≤ (l0.length : Int) then ((spec_l1Same.f K (((t2 ++ [a2]).take (t2 ++ [a2]).length).drop ((wrap64 (((t2 ++ [a2]).length : Int) - x23)) : Int).toNat) ((l0.take (x23 : Int).toNat).drop 0)).bind fun t27 => if t27 = true then (some (Sum.inr x23)) else (spec_l8Step.l0 K l0 a2 t2 k (wrap64 (x23 - 1)))) else none) else none) else (some (Sum.inl ()))
def spec_l8Step.f (K : Nat) (l0 : (List Int)) (a1 : Int) (a2 : Int) : Option Int := if (0 : Int) ≤ 0 ∧ (0 : Int) ≤ a1 ∧ a1 ≤ (l0.length : Int) then ((spec_l1Own.f K ((l0.take (a1 : Int).toNat).drop 0)).bind fun t2 => if t2.length + [a2].length ≤ 1073741824 then ((spec_l1Least.f K ((t2 ++ [a2]).length : Int) (l0.length : Int)).bind fun t8 => (spec_l8Step.l0 K l0 a2 t2 K t8).bind fun o33 => (match o33 with | .inl () => some 0 | .inr r35 => some r35)) else none) else none
set_option maxRecDepth 100000 in
set_option maxHeartbeats 4000000 in
theorem spec_l8Step.calls {w0 : World} (K : Nat) (l0 : (List Int)) (u0 : Value) (q0 : SlR cd3 w0 u0 l0) (a1 : Int) (a2 : Int) (r : Int) (H : spec_l8Step.f K l0 a1 a2 = some r) : Calls Try.prog 84 [u0, Value.int .i64 a1, Value.int .i64 a2].toArray w0 (Post w0 fun w v => v = Value.int .i64 r) := by
  rw [spec_l8Step.f] at H
  refine s_start Try.func84 rfl Try.ntmps84 rfl ?_
  intro a hF
  have hM := Ms.start w0
  skip
  refine wp_seq ?_
  refine s_region ?_
  refine s_val hF rfl rfl rfl (e_assign hF rfl) ?_; intro a hF
  refine s_nil ?_
  refine then_n ?_
  refine wp_seq ?_
  obtain ⟨c1, H⟩ := ite_some H
  obtain ⟨t2, h3, H⟩ := bind_some H
  obtain ⟨c7, H⟩ := ite_some H
  refine s_region ?_
  refine s_val hF rfl rfl rfl (e_move hF rfl) ?_; intro a hF
  refine s_val hF rfl rfl rfl (e_move hF rfl) ?_; intro a hF
  refine s_val hF rfl rfl rfl (e_sl_h hF rfl rfl (q0.frm hM.frm).toF Try.underlying42 Try.sizeOf3 c1) ?_; intro a hF
  refine s_call hF rfl rfl rfl Try.call65 (spec_l1Own.calls K ((l0.take (a1 : Int).toNat).drop 0) (subv u0 0 (a1 : Int).toNat 1) ((q0.frm hM.frm).sub 0 (a1 : Int).toNat (sl_0_i' c1).1 (sl_0_i' c1).2) t2 h3) ?_; intro a w v4 hF hf hR
  have hM := hM.fresh hf hR
  refine s_val hF rfl rfl rfl (e_move hF rfl) ?_; intro a hF
  refine s_bsl (C := cd3) [a2] cdok3 hF hM rfl rfl rfl rfl Try.underlying42 rfl ?_; intro a w v5 hF hM
  refine s_append (i := 1) cdok3 hF hM rfl rfl rfl rfl rfl (hM.sl 0 rfl) Try.underlying42 c7 ?_; intro a w v6 hF hM
  refine s_val hF rfl rfl rfl (e_assign hF rfl) ?_; intro a hF
  refine s_nil ?_
  refine then_n ?_
  refine wp_seq ?_
  refine wp_seq ?_
  obtain ⟨t8, h9, H⟩ := bind_some H
  refine s_region ?_
  refine s_val hF rfl rfl rfl (e_move hF rfl) ?_; intro a hF
  refine s_val hF rfl rfl rfl (e_len hF rfl (hM.sl 1 rfl).toF Try.underlying42) ?_; intro a hF
  refine s_val hF rfl rfl rfl (e_move hF rfl) ?_; intro a hF
  refine s_val hF rfl rfl rfl (e_len hF rfl (q0.frm hM.frm).toF Try.underlying42) ?_; intro a hF
  refine s_call hF rfl rfl rfl Try.call99 (spec_l1Least.calls K ((t2 ++ [a2]).length : Int) (l0.length : Int) t8 h9) ?_; intro a w v hF hf hR
  subst hR; have hM := hM.grow hf
  refine s_val hF rfl rfl rfl (e_assign hF rfl) ?_; intro a hF
  refine s_nil ?_
  refine then_n ?_
  refine wp_block ?_
  obtain ⟨o33, h34, H⟩ := bind_some H
  refine wp_mono (Q := fun e a w => (e = Exit.exit 0 ∧ Sum.inl () = o33 ∧ Fr 36 a [] ∧ Ms [] w0 w []) ∨ (e = Exit.ret ∧ ∃ r35 : Int, Sum.inr r35 = o33 ∧ Fr 36 a [(6, Value.int .i64 r35)] ∧ Ms [] w0 w [])) ?_ ?_
  · refine s_loop (fun kq a w => ∃ x23 : Int, spec_l8Step.l0 K l0 a2 t2 kq x23 = some o33 ∧ Fr 36 a [(0, u0), (7, v6), (8, Value.int .i64 x23)] ∧ Ms [] w0 w [rowR cd3 v6 (t2 ++ [a2])]) K ⟨t8, h34, hF.sub _ ⟨rfl, rfl, rfl, trivial⟩, hM.pick [1] rfl rfl⟩ ?_ ?_
    · rintro a w ⟨_, H, _⟩; exact none_some H
    · rintro k a w ⟨x23, H, hF, hM⟩; rw [spec_l8Step.l0] at H
      refine wp_seq ?_
      refine wp_seq ?_
      refine s_region ?_
      refine s_val hF rfl rfl rfl (e_move hF rfl) ?_; intro a hF
      refine s_val hF rfl rfl rfl (e_gtr hF rfl rfl) ?_; intro a hF
      refine s_nil ?_
      refine then_n ?_
      rcases ite_cases H with ⟨c24, H⟩ | ⟨c24, H⟩
      ·
        refine s_cond_t hF rfl (decide_eq_true c24) ?_
        refine wp_skip ?_
        refine then_n ?_
        refine wp_seq ?_
        refine wp_block ?_
        refine wp_seq ?_
        obtain ⟨c25, H⟩ := ite_some H
        obtain ⟨c26, H⟩ := ite_some H
        obtain ⟨t27, h28, H⟩ := bind_some H
        refine s_held (fun w => Ms [] w0 w [rowR cd3 v6 (t2 ++ [a2])]) #[false, false, false, false, false, false, false, false, false, false] mixed rfl rfl hM ?_; intro w hf hM; clear hf
        refine h_val 0 #[true, false, false, false, false, false, false, false, false, false] rfl (by kernel_rfl) hF rfl rfl rfl (fun w hS => e_move hF rfl) (hM.pick [0] rfl rfl) ?_; intro a hF
        refine h_val 1 #[true, true, false, false, false, false, false, false, false, false] rfl (by kernel_rfl) hF rfl rfl rfl (fun w hS => e_move hF rfl) (hM.pick [0] rfl rfl) ?_; intro a hF
        have f29 := (hM.sl 0 rfl).toF
        refine h_val 2 #[true, true, true, false, false, false, false, false, false, false] rfl (by kernel_rfl) hF rfl rfl rfl (fun w hS => e_len hF rfl f29 Try.underlying42) (hM.pick [0] rfl rfl) ?_; intro a hF
        refine h_val 3 #[true, true, true, true, false, false, false, false, false, false] rfl (by kernel_rfl) hF rfl rfl rfl (fun w hS => e_move hF rfl) (hM.pick [0] rfl rfl) ?_; intro a hF
        refine h_val 4 #[true, true, true, true, true, false, false, false, false, false] rfl (by kernel_rfl) hF rfl rfl rfl (fun w hS => e_sub hF rfl rfl) (hM.pick [0] rfl rfl) ?_; intro a hF
        have f30 := (hM.sl 0 rfl).toF
        refine h_val 5 #[true, true, true, true, true, true, false, false, false, false] rfl (by kernel_rfl) hF rfl rfl rfl (fun w hS => e_sl_l hF rfl rfl f30 Try.underlying42 Try.sizeOf3 c25) (hM.pick [0] rfl rfl) ?_; intro a hF
        refine h_val 6 #[true, true, true, true, true, true, true, false, false, false] rfl (by kernel_rfl) hF rfl rfl rfl (fun w hS => e_move hF rfl) (hM.pick [0] rfl rfl) ?_; intro a hF
        refine h_val 7 #[true, true, true, true, true, true, true, true, false, false] rfl (by kernel_rfl) hF rfl rfl rfl (fun w hS => e_move hF rfl) (hM.pick [0] rfl rfl) ?_; intro a hF
        have f31 := (q0.frm hM.frm).toF
        refine h_val 8 #[true, true, true, true, true, true, true, true, true, false] rfl (by kernel_rfl) hF rfl rfl rfl (fun w hS => e_sl_h hF rfl rfl f31 Try.underlying42 Try.sizeOf3 c26) (hM.pick [0] rfl rfl) ?_; intro a hF
        refine h_one 9 #[true, true, true, true, true, true, true, true, true, true] rfl (by kernel_rfl) ?_
        refine s_call hF rfl rfl rfl Try.call96 (spec_l1Same.calls K (((t2 ++ [a2]).take (t2 ++ [a2]).length).drop ((wrap64 (((t2 ++ [a2]).length : Int) - x23)) : Int).toNat) (subv v6 ((wrap64 (((t2 ++ [a2]).length : Int) - x23)) : Int).toNat (t2 ++ [a2]).length 1) ((hM.sl 0 rfl).sub ((wrap64 (((t2 ++ [a2]).length : Int) - x23)) : Int).toNat (t2 ++ [a2]).length (sl_lo_n' c25).1 (sl_lo_n' c25).2) ((l0.take (x23 : Int).toNat).drop 0) (subv u0 0 (x23 : Int).toNat 1) ((q0.frm hM.frm).sub 0 (x23 : Int).toNat (sl_0_i' c26).1 (sl_0_i' c26).2) t27 h28) ?_; intro a w v hF hf hR
        subst hR; have hM := hM.grow hf
        refine s_nil ⟨rfl, (hM.pick [0] rfl rfl), ?_⟩
        refine h_done rfl ?_
        refine then_n ?_
        rcases ite_cases H with ⟨c32, H⟩ | ⟨c32, H⟩
        ·
          refine s_cond_t hF rfl c32 ?_
          refine wp_seq ?_
          refine s_region ?_
          refine s_val hF rfl rfl rfl (e_move hF rfl) ?_; intro a hF
          refine s_val hF rfl rfl rfl (e_assign hF rfl) ?_; intro a hF
          refine s_nil ?_
          refine then_n ?_
          refine wp_ret ?_
          refine blk_r ?_
          refine then_r ?_
          refine then_r ?_
          exact Or.inr (⟨rfl, x23, some_some H, hF.sub _ ⟨rfl, trivial⟩, hM.pick [] rfl rfl⟩)
        ·
          refine s_cond_f hF rfl (bf c32) ?_
          refine wp_skip ?_
          refine blk_n ?_
          refine then_n ?_
          refine s_region ?_
          refine s_val hF rfl rfl rfl (e_move hF rfl) ?_; intro a hF
          refine s_val hF rfl rfl rfl (e_sub hF rfl rfl) ?_; intro a hF
          refine s_val hF rfl rfl rfl (e_assign hF rfl) ?_; intro a hF
          refine s_nil ?_
          refine then_n ?_
          exact ⟨(wrap64 (x23 - 1)), H, hF.sub _ ⟨rfl, rfl, rfl, trivial⟩, hM.pick [0] rfl rfl⟩
      ·
        refine s_cond_f hF rfl (decide_eq_false c24) ?_
        refine wp_exit ?_
        refine then_x ?_
        refine then_x ?_
        exact Or.inl (⟨rfl, some_some H, hF.sub _ trivial, hM.pick [] rfl rfl⟩)
  · rintro e a w (⟨rfl, rfl, hF, hM⟩ | ⟨rfl, r35, rfl, hF, hM⟩)
    ·
      dsimp only at H
      refine blk_x ?_
      refine then_n ?_
      refine wp_seq ?_
      refine s_region ?_
      refine s_val hF rfl rfl rfl (e_assign hF rfl) ?_; intro a hF
      refine s_nil ?_
      refine then_n ?_
      refine wp_ret ?_
      obtain rfl := some_some H
      refine s_ret [Value.int .i64 0] hF Try.results84 ⟨rfl, trivial⟩ ?_
      exact ⟨_, rfl, hM.frm, rfl⟩
    ·
      dsimp only at H
      refine blk_r ?_
      refine then_r ?_
      obtain rfl := some_some H
      refine s_ret [Value.int .i64 r35] hF Try.results84 ⟨rfl, trivial⟩ ?_
      exact ⟨_, rfl, hM.frm, rfl⟩

/-! ### loop.example/g01210/spec.l2All: function 49 -/
def spec_l2All.l0 (K : Nat) (a0 : Int) : Nat → Int → Int → Option Int
  | 0, _, _ => none
  | k + 1, x6, x7 => if x7 < a0 then (spec_l2All.l0 K a0 k (wrap64 (x6 * 6)) (wrap64 (x7 + 1))) else (some x6)
def spec_l2All.f (K : Nat) (a0 : Int) : Option Int := (spec_l2All.l0 K a0 K 1 0).bind fun x5 => some x5
set_option maxRecDepth 100000 in
set_option maxHeartbeats 4000000 in
theorem spec_l2All.calls {w0 : World} (K : Nat) (a0 : Int) (r : Int) (H : spec_l2All.f K a0 = some r) : Calls Try.prog 49 [Value.int .i64 a0].toArray w0 (Post w0 fun w v => v = Value.int .i64 r) := by
  rw [spec_l2All.f] at H
  refine s_start Try.func49 rfl Try.ntmps49 rfl ?_
  intro a hF
  have hM := Ms.start w0
  skip
  refine wp_seq ?_
  refine s_region ?_
  refine s_val hF rfl rfl rfl (e_assign hF rfl) ?_; intro a hF
  refine s_nil ?_
  refine then_n ?_
  refine wp_seq ?_
  refine s_region ?_
  refine s_val hF rfl rfl rfl (e_assign hF rfl) ?_; intro a hF
  refine s_nil ?_
  refine then_n ?_
  refine wp_seq ?_
  refine wp_seq ?_
  refine s_region ?_
  refine s_val hF rfl rfl rfl (e_assign hF rfl) ?_; intro a hF
  refine s_nil ?_
  refine then_n ?_
  refine wp_block ?_
  obtain ⟨o9, h10, H⟩ := bind_some H
  refine wp_mono (Q := fun e a w => (e = Exit.exit 0 ∧ ∃ x5 : Int, x5 = o9 ∧ Fr 13 a [(3, Value.int .i64 x5)] ∧ Ms [] w0 w [])) ?_ ?_
  · refine s_loop (fun kq a w => ∃ x6 : Int, ∃ x7 : Int, spec_l2All.l0 K a0 kq x6 x7 = some o9 ∧ Fr 13 a [(0, Value.int .i64 a0), (3, Value.int .i64 x6), (4, Value.int .i64 x7)] ∧ Ms [] w0 w []) K ⟨1, 0, h10, hF.sub _ ⟨rfl, rfl, rfl, trivial⟩, hM.pick [] rfl rfl⟩ ?_ ?_
    · rintro a w ⟨_, _, H, _⟩; exact none_some H
    · rintro k a w ⟨x6, x7, H, hF, hM⟩; rw [spec_l2All.l0] at H
      refine wp_seq ?_
      refine wp_seq ?_
      refine s_region ?_
      refine s_val hF rfl rfl rfl (e_move hF rfl) ?_; intro a hF
      refine s_val hF rfl rfl rfl (e_move hF rfl) ?_; intro a hF
      refine s_val hF rfl rfl rfl (e_lss hF rfl rfl) ?_; intro a hF
      refine s_nil ?_
      refine then_n ?_
      rcases ite_cases H with ⟨c8, H⟩ | ⟨c8, H⟩
      ·
        refine s_cond_t hF rfl (decide_eq_true c8) ?_
        refine wp_skip ?_
        refine then_n ?_
        refine wp_seq ?_
        refine wp_block ?_
        refine s_region ?_
        refine s_val hF rfl rfl rfl (e_move hF rfl) ?_; intro a hF
        refine s_val hF rfl rfl rfl (e_mul hF rfl rfl) ?_; intro a hF
        refine s_val hF rfl rfl rfl (e_assign hF rfl) ?_; intro a hF
        refine s_nil ?_
        refine blk_n ?_
        refine then_n ?_
        refine s_region ?_
        refine s_val hF rfl rfl rfl (e_move hF rfl) ?_; intro a hF
        refine s_val hF rfl rfl rfl (e_add hF rfl rfl) ?_; intro a hF
        refine s_val hF rfl rfl rfl (e_assign hF rfl) ?_; intro a hF
        refine s_nil ?_
        refine then_n ?_
        exact ⟨(wrap64 (x6 * 6)), (wrap64 (x7 + 1)), H, hF.sub _ ⟨rfl, rfl, rfl, trivial⟩, hM.pick [] rfl rfl⟩
      ·
        refine s_cond_f hF rfl (decide_eq_false c8) ?_
        refine wp_exit ?_
        refine then_x ?_
        refine then_x ?_
        exact ⟨rfl, x6, some_some H, hF.sub _ ⟨rfl, trivial⟩, hM.pick [] rfl rfl⟩
  · rintro e a w ⟨rfl, x5, rfl, hF, hM⟩
    skip
    refine blk_x ?_
    refine then_n ?_
    refine wp_seq ?_
    refine s_region ?_
    refine s_val hF rfl rfl rfl (e_move hF rfl) ?_; intro a hF
    refine s_val hF rfl rfl rfl (e_assign hF rfl) ?_; intro a hF
    refine s_nil ?_
    refine then_n ?_
    refine wp_ret ?_
    obtain rfl := some_some H
    refine s_ret [Value.int .i64 x5] hF Try.results49 ⟨rfl, trivial⟩ ?_
    exact ⟨_, rfl, hM.frm, rfl⟩

/-! ### loop.example/g01210/spec.l1Most: function 89 -/
def spec_l1Most.f (K : Nat) (a0 : Int) (a1 : Int) : Option Int := if a1 < a0 then (some a0) else (some a1)
set_option maxRecDepth 100000 in
set_option maxHeartbeats 4000000 in
theorem spec_l1Most.calls {w0 : World} (K : Nat) (a0 : Int) (a1 : Int) (r : Int) (H : spec_l1Most.f K a0 a1 = some r) : Calls Try.prog 89 [Value.int .i64 a0, Value.int .i64 a1].toArray w0 (Post w0 fun w v => v = Value.int .i64 r) := by
  rw [spec_l1Most.f] at H
  refine s_start Try.func89 rfl Try.ntmps89 rfl ?_
  intro a hF
  have hM := Ms.start w0
  skip
  refine wp_seq ?_
  refine s_region ?_
  refine s_val hF rfl rfl rfl (e_assign hF rfl) ?_; intro a hF
  refine s_nil ?_
  refine then_n ?_
  refine wp_seq ?_
  refine wp_seq ?_
  refine s_region ?_
  refine s_val hF rfl rfl rfl (e_move hF rfl) ?_; intro a hF
  refine s_val hF rfl rfl rfl (e_move hF rfl) ?_; intro a hF
  refine s_val hF rfl rfl rfl (e_gtr hF rfl rfl) ?_; intro a hF
  refine s_nil ?_
  refine then_n ?_
  rcases ite_cases H with ⟨c1, H⟩ | ⟨c1, H⟩
  ·
    refine s_cond_t hF rfl (decide_eq_true c1) ?_
    refine wp_seq ?_
    refine s_region ?_
    refine s_val hF rfl rfl rfl (e_move hF rfl) ?_; intro a hF
    refine s_val hF rfl rfl rfl (e_assign hF rfl) ?_; intro a hF
    refine s_nil ?_
    refine then_n ?_
    refine wp_ret ?_
    refine then_r ?_
    obtain rfl := some_some H
    refine s_ret [Value.int .i64 a0] hF Try.results89 ⟨rfl, trivial⟩ ?_
    exact ⟨_, rfl, hM.frm, rfl⟩
  ·
    refine s_cond_f hF rfl (decide_eq_false c1) ?_
    refine wp_skip ?_
    refine then_n ?_
    refine wp_seq ?_
    refine s_region ?_
    refine s_val hF rfl rfl rfl (e_move hF rfl) ?_; intro a hF
    refine s_val hF rfl rfl rfl (e_assign hF rfl) ?_; intro a hF
    refine s_nil ?_
    refine then_n ?_
    refine wp_ret ?_
    obtain rfl := some_some H
    refine s_ret [Value.int .i64 a1] hF Try.results89 ⟨rfl, trivial⟩ ?_
    exact ⟨_, rfl, hM.frm, rfl⟩

/-! ### loop.example/g01210/spec.l2Cut: function 54 -/
def spec_l2Cut.l0 (K : Nat) : Nat → Int → Int → Option Int
  | 0, _, _ => none
  | k + 1, x9, x10 => if 0 < x10 then (if x10 ≠ 0 then (spec_l2Cut.l0 K k x10 (x9.tmod x10)) else none) else (some x9)
def spec_l2Cut.f (K : Nat) (a0 : Int) (a1 : Int) : Option (Ar 2) := (spec_l2Cut.l0 K K a0 a1).bind fun x8 => (spec_l1Most.f K x8 1).bind fun t15 => if t15 ≠ 0 then ((spec_l1Most.f K x8 1).bind fun t18 => if t18 ≠ 0 then (some (⟨[(wrap64 (a0.tdiv t15)), (wrap64 (a1.tdiv t18))], rfl⟩ : Ar 2)) else none) else none
set_option maxRecDepth 100000 in
set_option maxHeartbeats 4000000 in
theorem spec_l2Cut.calls {w0 : World} (K : Nat) (a0 : Int) (a1 : Int) (r : (Ar 2)) (H : spec_l2Cut.f K a0 a1 = some r) : Calls Try.prog 54 [Value.int .i64 a0, Value.int .i64 a1].toArray w0 (Post w0 fun w v => v = ag [Pt.ar r]) := by
  rw [spec_l2Cut.f] at H
  refine s_start Try.func54 rfl Try.ntmps54 rfl ?_
  intro a hF
  have hM := Ms.start w0
  skip
  refine wp_seq ?_
  refine s_region ?_
  refine s_alloc (ps := [Pt.ar (Ar.zero 2)]) hF hM rfl rfl zv29 rfl ?_; intro a w b1 hF hM
  refine s_nil ?_
  refine then_n ?_
  refine wp_seq ?_
  refine s_region ?_
  refine s_val hF rfl rfl rfl (e_move hF rfl) ?_; intro a hF
  refine s_val hF rfl rfl rfl (e_move hF rfl) ?_; intro a hF
  refine s_val hF rfl rfl rfl (e_assign hF rfl) ?_; intro a hF
  refine s_val hF rfl rfl rfl (e_assign hF rfl) ?_; intro a hF
  refine s_nil ?_
  refine then_n ?_
  refine wp_seq ?_
  refine wp_block ?_
  obtain ⟨o13, h14, H⟩ := bind_some H
  refine wp_mono (Q := fun e a w => (e = Exit.exit 0 ∧ ∃ x8 : Int, x8 = o13 ∧ Fr 24 a [(0, Value.int .i64 a0), (1, Value.int .i64 a1), (4, pt b1 0), (5, Value.int .i64 x8)] ∧ Ms [] w0 w [boxR b1 [Pt.ar (Ar.zero 2)] 29])) ?_ ?_
  · refine s_loop (fun kq a w => ∃ x9 : Int, ∃ x10 : Int, spec_l2Cut.l0 K kq x9 x10 = some o13 ∧ Fr 24 a [(0, Value.int .i64 a0), (1, Value.int .i64 a1), (4, pt b1 0), (5, Value.int .i64 x9), (6, Value.int .i64 x10)] ∧ Ms [] w0 w [boxR b1 [Pt.ar (Ar.zero 2)] 29]) K ⟨a0, a1, h14, hF.sub _ ⟨rfl, rfl, rfl, rfl, rfl, trivial⟩, hM.pick [0] rfl rfl⟩ ?_ ?_
    · rintro a w ⟨_, _, H, _⟩; exact none_some H
    · rintro k a w ⟨x9, x10, H, hF, hM⟩; rw [spec_l2Cut.l0] at H
      refine wp_seq ?_
      refine wp_seq ?_
      refine s_region ?_
      refine s_val hF rfl rfl rfl (e_move hF rfl) ?_; intro a hF
      refine s_val hF rfl rfl rfl (e_gtr hF rfl rfl) ?_; intro a hF
      refine s_nil ?_
      refine then_n ?_
      rcases ite_cases H with ⟨c11, H⟩ | ⟨c11, H⟩
      ·
        refine s_cond_t hF rfl (decide_eq_true c11) ?_
        refine wp_skip ?_
        refine then_n ?_
        refine wp_block ?_
        obtain ⟨c12, H⟩ := ite_some H
        refine s_held (fun w => Ms [] w0 w [boxR b1 [Pt.ar (Ar.zero 2)] 29]) #[false, false, false, false, false, false] mixed rfl rfl hM ?_; intro w hf hM; clear hf
        refine h_val 0 #[true, false, false, false, false, false] rfl (by kernel_rfl) hF rfl rfl rfl (fun w hS => e_move hF rfl) (hM.pick [0] rfl rfl) ?_; intro a hF
        refine h_val 1 #[true, true, false, false, false, false] rfl (by kernel_rfl) hF rfl rfl rfl (fun w hS => e_move hF rfl) (hM.pick [0] rfl rfl) ?_; intro a hF
        refine h_val 2 #[true, true, true, false, false, false] rfl (by kernel_rfl) hF rfl rfl rfl (fun w hS => e_move hF rfl) (hM.pick [0] rfl rfl) ?_; intro a hF
        refine h_val 3 #[true, true, true, true, false, false] rfl (by kernel_rfl) hF rfl rfl rfl (fun w hS => e_rem hF rfl rfl c12) (hM.pick [0] rfl rfl) ?_; intro a hF
        refine h_val 4 #[true, true, true, true, true, false] rfl (by kernel_rfl) hF rfl rfl rfl (fun w hS => e_assign hF rfl) (hM.pick [0] rfl rfl) ?_; intro a hF
        refine h_val 5 #[true, true, true, true, true, true] rfl (by kernel_rfl) hF rfl rfl rfl (fun w hS => e_assign hF rfl) (hM.pick [0] rfl rfl) ?_; intro a hF
        refine h_done rfl ?_
        refine blk_n ?_
        refine then_n ?_
        exact ⟨x10, (x9.tmod x10), H, hF.sub _ ⟨rfl, rfl, rfl, rfl, rfl, trivial⟩, hM.pick [0] rfl rfl⟩
      ·
        refine s_cond_f hF rfl (decide_eq_false c11) ?_
        refine wp_exit ?_
        refine then_x ?_
        refine then_x ?_
        exact ⟨rfl, x9, some_some H, hF.sub _ ⟨rfl, rfl, rfl, rfl, trivial⟩, hM.pick [0] rfl rfl⟩
  · rintro e a w ⟨rfl, x8, rfl, hF, hM⟩
    skip
    refine blk_x ?_
    refine then_n ?_
    refine wp_seq ?_
    obtain ⟨t15, h16, H⟩ := bind_some H
    obtain ⟨c17, H⟩ := ite_some H
    obtain ⟨t18, h19, H⟩ := bind_some H
    obtain ⟨c20, H⟩ := ite_some H
    refine s_held (fun w => Ms [] w0 w []) #[false, false, false, false, false, false, false, false, false, false] mixed rfl rfl hM ?_; intro w hf hM; clear hf
    refine h_val 0 #[true, false, false, false, false, false, false, false, false, false] rfl (by kernel_rfl) hF rfl rfl rfl (fun w hS => e_move hF rfl) (hM.pick [] rfl rfl) ?_; intro a hF
    refine h_val 1 #[true, true, false, false, false, false, false, false, false, false] rfl (by kernel_rfl) hF rfl rfl rfl (fun w hS => e_move hF rfl) (hM.pick [] rfl rfl) ?_; intro a hF
    refine h_val 4 #[true, true, false, false, true, false, false, false, false, false] rfl (by kernel_rfl) hF rfl rfl rfl (fun w hS => e_move hF rfl) (hM.pick [] rfl rfl) ?_; intro a hF
    refine h_val 5 #[true, true, false, false, true, true, false, false, false, false] rfl (by kernel_rfl) hF rfl rfl rfl (fun w hS => e_move hF rfl) (hM.pick [] rfl rfl) ?_; intro a hF
    refine h_one 2 #[true, true, true, false, true, true, false, false, false, false] rfl (by kernel_rfl) ?_
    refine s_call hF rfl rfl rfl Try.call89 (spec_l1Most.calls K x8 1 t15 h16) ?_; intro a w v hF hf hR
    subst hR; have hM := hM.grow hf
    refine s_nil ⟨rfl, (hM.pick [] rfl rfl), ?_⟩
    refine h_val 3 #[true, true, true, true, true, true, false, false, false, false] rfl (by kernel_rfl) hF rfl rfl rfl (fun w hS => e_quo hF rfl rfl c17) (hM.pick [] rfl rfl) ?_; intro a hF
    refine h_one 6 #[true, true, true, true, true, true, true, false, false, false] rfl (by kernel_rfl) ?_
    refine s_call hF rfl rfl rfl Try.call89 (spec_l1Most.calls K x8 1 t18 h19) ?_; intro a w v hF hf hR
    subst hR; have hM := hM.grow hf
    refine s_nil ⟨rfl, (hM.pick [] rfl rfl), ?_⟩
    refine h_val 7 #[true, true, true, true, true, true, true, true, false, false] rfl (by kernel_rfl) hF rfl rfl rfl (fun w hS => e_quo hF rfl rfl c20) (hM.pick [] rfl rfl) ?_; intro a hF
    refine h_val 8 #[true, true, true, true, true, true, true, true, true, false] rfl (by kernel_rfl) hF rfl rfl rfl (fun w hS => e_build' (cells := cat [Pt.ar (⟨[(wrap64 (a0.tdiv t15)), (wrap64 (a1.tdiv t18))], rfl⟩ : Ar 2)]) hF rfl (by kernel_rfl)) (hM.pick [] rfl rfl) ?_; intro a hF
    refine h_one 9 #[true, true, true, true, true, true, true, true, true, true] rfl (by kernel_rfl) ?_
    refine s_stw (i := 0) (ps' := [Pt.ar (⟨[(wrap64 (a0.tdiv t15)), (wrap64 (a1.tdiv t18))], rfl⟩ : Ar 2)]) hF hM rfl rfl rfl rfl rfl rfl Try.sizeOf29 rfl ?_; intro a w hF hM
    refine s_nil ⟨rfl, (hM.pick [] rfl rfl), ?_⟩
    refine h_done rfl ?_
    refine then_n ?_
    refine wp_ret ?_
    obtain rfl := some_some H
    refine s_ret [ag [Pt.ar (⟨[(wrap64 (a0.tdiv t15)), (wrap64 (a1.tdiv t18))], rfl⟩ : Ar 2)]] hF Try.results54 ⟨⟨_, rfl, rv_box hM (i := 0) rfl Try.isAgg29 Try.sizeOf29 rfl⟩, trivial⟩ ?_
    exact ⟨_, rfl, hM.frm, rfl⟩

/-! ### loop.example/g01210/spec.PhraseWithin: function 45 -/
def spec_PhraseWithin.l12 (K : Nat) (a0 : (Ar 6)) (l1 : (List Int)) (x242 : (List Int)) (x317 : Int) : Nat → Int → Int → (List Int) → Option (Int × (List Int))
  | 0, _, _, _ => none
  | k + 1, x339, x340, x341 => if x340 < 6 then (if (0 : Int) ≤ x340 ∧ x340 < 6 then ((spec_l8Step.f K l1 x317 (a0.get x340)).bind fun t344 => if t344 = (l1.length : Int) then (if (0 : Int) ≤ x317 ∧ x317 < (x242.length : Int) then (spec_PhraseWithin.l12 K a0 l1 x242 x317 k (wrap64 (x339 + (x242.getD (x317 : Int).toNat (0 : Int)))) (wrap64 (x340 + 1)) x341) else none) else (if (0 : Int) ≤ t344 ∧ t344 < (x341.length : Int) then (if (0 : Int) ≤ x317 ∧ x317 < (x242.length : Int) then (spec_PhraseWithin.l12 K a0 l1 x242 x317 k x339 (wrap64 (x340 + 1)) (x341.set (t344 : Int).toNat (wrap64 ((x341.getD (t344 : Int).toNat (0 : Int)) + (x242.getD (x317 : Int).toNat (0 : Int)))))) else none) else none)) else none) else (some (x339, x341))
def spec_PhraseWithin.l11 (K : Nat) (a0 : (Ar 6)) (l1 : (List Int)) (x242 : (List Int)) : Nat → Int → Int → (List Int) → Option (Int × (List Int))
  | 0, _, _, _ => none
  | k + 1, x316, x317, x318 => if x317 < (l1.length : Int) then ((spec_PhraseWithin.l12 K a0 l1 x242 x317 K x316 0 x318).bind fun (x337, x338) => spec_PhraseWithin.l11 K a0 l1 x242 k x337 (wrap64 (x317 + 1)) x338) else (some (x316, x318))
def spec_PhraseWithin.l8 (K : Nat) (a0 : (Ar 6)) (l1 : (List Int)) (a2 : Int) : Nat → Int → Int → (List Int) → Option Int
  | 0, _, _, _ => none
  | k + 1, x239, x240, x242 => if x240 < a2 then ((spec_PhraseWithin.l11 K a0 l1 x242 K (wrap64 (6 * x239)) 0 (List.replicate (l1.length : Int).toNat (0 : Int))).bind fun (x314, x315) => spec_PhraseWithin.l8 K a0 l1 a2 k x314 (wrap64 (x240 + 1)) x315) else (some x239)
def spec_PhraseWithin.f (K : Nat) (a0 : (Ar 6)) (l1 : (List Int)) (a2 : Int) : Option ((Ar 2) × Bool) := (spec_l8Phrase.f K a0 l1).bind fun t3 => if t3 = true then ((spec_l8Rolls.f K a0 a2).bind fun t6 => if t6 = true then (if (0 : Int) ≤ (l1.length : Int) ∧ (l1.length : Int) ≤ 1073741824 then (if (0 : Int) ≤ 0 ∧ 0 < ((List.replicate (l1.length : Int).toNat (0 : Int)).length : Int) then ((spec_PhraseWithin.l8 K a0 l1 a2 K 0 0 ((List.replicate (l1.length : Int).toNat (0 : Int)).set (0 : Int).toNat 1)).bind fun x238 => (spec_l2All.f K a2).bind fun t359 => (spec_l2Cut.f K x238 t359).bind fun t361 => some (t361, true)) else none) else none) else (some ((⟨[0, 0], rfl⟩ : Ar 2), false))) else (some ((⟨[0, 0], rfl⟩ : Ar 2), false))
set_option maxRecDepth 100000 in
set_option maxHeartbeats 4000000 in
theorem spec_PhraseWithin.calls {w0 : World} (K : Nat) (a0 : (Ar 6)) (l1 : (List Int)) (u1 : Value) (q1 : SlR cd3 w0 u1 l1) (a2 : Int) (r : ((Ar 2) × Bool)) (H : spec_PhraseWithin.f K a0 l1 a2 = some r) : Calls Try.prog 45 [ag [Pt.ar a0], u1, Value.int .i64 a2].toArray w0 (Post w0 fun w v => v = Value.tuple #[ag [Pt.ar r.1], Value.bool r.2]) := by
  rw [spec_PhraseWithin.f] at H
  refine s_start Try.func45 rfl Try.ntmps45 rfl ?_
  intro a hF
  have hM := Ms.start w0
  skip
  refine wp_seq ?_
  refine s_region ?_
  refine s_box (ps := [Pt.ar a0]) hF hM rfl rfl rfl rfl ?_; intro a w b1 hF hM
  refine s_alloc (ps := [Pt.ar (Ar.zero 2)]) hF hM rfl rfl zv29 rfl ?_; intro a w b2 hF hM
  refine s_val hF rfl rfl rfl (e_assign hF rfl) ?_; intro a hF
  refine s_nil ?_
  refine then_n ?_
  refine wp_seq ?_
  refine wp_seq ?_
  obtain ⟨t3, h4, H⟩ := bind_some H
  rcases ite_cases H with ⟨c5, H⟩ | ⟨c5, H⟩
  ·
    obtain ⟨t6, h7, H⟩ := bind_some H
    refine s_region ?_
    refine s_val hF rfl rfl rfl (e_lda (i := 1) 0 1 hF hM rfl rfl rfl rfl Try.isAgg22 Try.sizeOf22 rfl) ?_; intro a hF
    refine s_val hF rfl rfl rfl (e_move hF rfl) ?_; intro a hF
    refine s_call hF rfl rfl rfl Try.call74 (spec_l8Phrase.calls K a0 l1 u1 (q1.frm hM.frm) t3 h4) ?_; intro a w v hF hf hR
    subst hR; have hM := hM.grow hf
    refine s_val hF rfl rfl rfl (e_not hF rfl) ?_; intro a hF
    refine s_val hF rfl rfl rfl (e_move hF rfl) ?_; intro a hF
    have hF := hF.topb (congrArg Bool.not c5)
    refine s_val hF rfl rfl rfl (e_lda (i := 1) 0 1 hF hM rfl rfl rfl rfl Try.isAgg22 Try.sizeOf22 rfl) ?_; intro a hF
    refine s_val hF rfl rfl rfl (e_move hF rfl) ?_; intro a hF
    refine s_call hF rfl rfl rfl Try.call60 (spec_l8Rolls.calls K a0 a2 t6 h7) ?_; intro a w v hF hf hR
    subst hR; have hM := hM.grow hf
    refine s_val hF rfl rfl rfl (e_not hF rfl) ?_; intro a hF
    refine s_val hF rfl rfl rfl (e_pick_f hF rfl rfl) ?_; intro a hF
    refine s_nil ?_
    refine then_n ?_
    rcases ite_cases H with ⟨c8, H⟩ | ⟨c8, H⟩
    ·
      refine s_cond_f hF rfl (congrArg Bool.not c8) ?_
      refine wp_skip ?_
      refine then_n ?_
      refine wp_seq ?_
      obtain ⟨c10, H⟩ := ite_some H
      refine s_region ?_
      refine s_val hF rfl rfl rfl (e_move hF rfl) ?_; intro a hF
      refine s_val hF rfl rfl rfl (e_len hF rfl (q1.frm hM.frm).toF Try.underlying42) ?_; intro a hF
      refine s_make (C := cd3) cdok3 hF hM rfl rfl rfl rfl Try.underlying42 c10.1 c10.2 ?_; intro a w v9 hF hM
      refine s_val hF rfl rfl rfl (e_assign hF rfl) ?_; intro a hF
      refine s_val hF rfl rfl rfl (e_assign hF rfl) ?_; intro a hF
      refine s_nil ?_
      refine then_n ?_
      refine wp_seq ?_
      obtain ⟨c11, H⟩ := ite_some H
      refine s_region ?_
      refine s_val hF rfl rfl rfl (e_move hF rfl) ?_; intro a hF
      refine s_val hF rfl rfl rfl (e_ias cd3 hF rfl rfl (hM.sl 0 rfl).toF Try.underlying42 Try.sizeOf3 c11.1 c11.2) ?_; intro a hF
      refine s_sts (i := 0) 1 hF hM rfl rfl rfl rfl rfl c11.1 c11.2 Try.sizeOf3 ?_; intro a w hF hM
      refine s_nil ?_
      refine then_n ?_
      refine wp_seq ?_
      refine wp_seq ?_
      refine s_region ?_
      refine s_val hF rfl rfl rfl (e_assign hF rfl) ?_; intro a hF
      refine s_nil ?_
      refine then_n ?_
      refine wp_block ?_
      obtain ⟨o357, h358, H⟩ := bind_some H
      refine wp_mono (Q := fun e a w => (e = Exit.exit 0 ∧ ∃ x238 : Int, x238 = o357 ∧ Fr 84 a [(2, Value.int .i64 a2), (6, pt b2 0), (9, Value.int .i64 x238)] ∧ Ms [] w0 w [boxR b2 [Pt.ar (Ar.zero 2)] 29])) ?_ ?_
      · refine s_loop (fun kq a w => ∃ v241 : Value, ∃ x239 : Int, ∃ x240 : Int, ∃ x242 : (List Int), spec_PhraseWithin.l8 K a0 l1 a2 kq x239 x240 x242 = some o357 ∧ Fr 84 a [(1, u1), (2, Value.int .i64 a2), (3, pt b1 0), (6, pt b2 0), (8, v241), (9, Value.int .i64 x239), (10, Value.int .i64 x240)] ∧ Ms [] w0 w [boxR b1 [Pt.ar a0] 22, boxR b2 [Pt.ar (Ar.zero 2)] 29, rowR cd3 v241 x242]) K ⟨v9, 0, 0, ((List.replicate (l1.length : Int).toNat (0 : Int)).set (0 : Int).toNat 1), h358, hF.sub _ ⟨rfl, rfl, rfl, rfl, rfl, rfl, rfl, trivial⟩, hM.pick [2, 1, 0] rfl rfl⟩ ?_ ?_
        · rintro a w ⟨_, _, _, _, H, _⟩; exact none_some H
        · rintro k a w ⟨v241, x239, x240, x242, H, hF, hM⟩; rw [spec_PhraseWithin.l8] at H
          refine wp_seq ?_
          refine wp_seq ?_
          refine s_region ?_
          refine s_val hF rfl rfl rfl (e_move hF rfl) ?_; intro a hF
          refine s_val hF rfl rfl rfl (e_move hF rfl) ?_; intro a hF
          refine s_val hF rfl rfl rfl (e_lss hF rfl rfl) ?_; intro a hF
          refine s_nil ?_
          refine then_n ?_
          rcases ite_cases H with ⟨c243, H⟩ | ⟨c243, H⟩
          ·
            refine s_cond_t hF rfl (decide_eq_true c243) ?_
            refine wp_skip ?_
            refine then_n ?_
            refine wp_seq ?_
            refine wp_block ?_
            refine wp_seq ?_
            refine s_region ?_
            refine s_val hF rfl rfl rfl (e_move hF rfl) ?_; intro a hF
            refine s_val hF rfl rfl rfl (e_len hF rfl (q1.frm hM.frm).toF Try.underlying42) ?_; intro a hF
            refine s_make (C := cd3) cdok3 hF hM rfl rfl rfl rfl Try.underlying42 c10.1 c10.2 ?_; intro a w v244 hF hM
            refine s_val hF rfl rfl rfl (e_assign hF rfl) ?_; intro a hF
            refine s_nil ?_
            refine then_n ?_
            refine wp_seq ?_
            refine s_region ?_
            refine s_val hF rfl rfl rfl (e_move hF rfl) ?_; intro a hF
            refine s_val hF rfl rfl rfl (e_mul hF rfl rfl) ?_; intro a hF
            refine s_val hF rfl rfl rfl (e_assign hF rfl) ?_; intro a hF
            refine s_nil ?_
            refine then_n ?_
            refine wp_seq ?_
            refine wp_seq ?_
            refine s_region ?_
            refine s_val hF rfl rfl rfl (e_assign hF rfl) ?_; intro a hF
            refine s_nil ?_
            refine then_n ?_
            refine wp_block ?_
            obtain ⟨o355, h356, H⟩ := bind_some H
            refine wp_mono (Q := fun e a w => (e = Exit.exit 2 ∧ ∃ x314 : Int, ∃ x315 : (List Int), (x314, x315) = o355 ∧ Fr 84 a [(1, u1), (2, Value.int .i64 a2), (3, pt b1 0), (6, pt b2 0), (9, Value.int .i64 x314), (10, Value.int .i64 x240), (11, v244)] ∧ Ms [] w0 w [boxR b1 [Pt.ar a0] 22, boxR b2 [Pt.ar (Ar.zero 2)] 29, rowR cd3 v244 x315])) ?_ ?_
            · refine s_loop (fun kq a w => ∃ x316 : Int, ∃ x317 : Int, ∃ x318 : (List Int), spec_PhraseWithin.l11 K a0 l1 x242 kq x316 x317 x318 = some o355 ∧ Fr 84 a [(1, u1), (2, Value.int .i64 a2), (3, pt b1 0), (6, pt b2 0), (8, v241), (9, Value.int .i64 x316), (10, Value.int .i64 x240), (11, v244), (12, Value.int .i64 x317)] ∧ Ms [] w0 w [boxR b1 [Pt.ar a0] 22, boxR b2 [Pt.ar (Ar.zero 2)] 29, rowR cd3 v241 x242, rowR cd3 v244 x318]) K ⟨(wrap64 (6 * x239)), 0, (List.replicate (l1.length : Int).toNat (0 : Int)), h356, hF.sub _ ⟨rfl, rfl, rfl, rfl, rfl, rfl, rfl, rfl, rfl, trivial⟩, hM.pick [1, 2, 3, 0] rfl rfl⟩ ?_ ?_
              · rintro a w ⟨_, _, _, H, _⟩; exact none_some H
              · rintro k a w ⟨x316, x317, x318, H, hF, hM⟩; rw [spec_PhraseWithin.l11] at H
                refine wp_seq ?_
                refine wp_seq ?_
                refine s_region ?_
                refine s_val hF rfl rfl rfl (e_move hF rfl) ?_; intro a hF
                refine s_val hF rfl rfl rfl (e_move hF rfl) ?_; intro a hF
                refine s_val hF rfl rfl rfl (e_len hF rfl (q1.frm hM.frm).toF Try.underlying42) ?_; intro a hF
                refine s_val hF rfl rfl rfl (e_lss hF rfl rfl) ?_; intro a hF
                refine s_nil ?_
                refine then_n ?_
                rcases ite_cases H with ⟨c319, H⟩ | ⟨c319, H⟩
                ·
                  refine s_cond_t hF rfl (decide_eq_true c319) ?_
                  refine wp_skip ?_
                  refine then_n ?_
                  refine wp_seq ?_
                  refine wp_block ?_
                  refine wp_seq ?_
                  refine s_region ?_
                  refine s_val hF rfl rfl rfl (e_assign hF rfl) ?_; intro a hF
                  refine s_nil ?_
                  refine then_n ?_
                  refine wp_block ?_
                  obtain ⟨o353, h354, H⟩ := bind_some H
                  refine wp_mono (Q := fun e a w => (e = Exit.exit 4 ∧ ∃ x337 : Int, ∃ x338 : (List Int), (x337, x338) = o353 ∧ Fr 84 a [(1, u1), (2, Value.int .i64 a2), (3, pt b1 0), (6, pt b2 0), (8, v241), (9, Value.int .i64 x337), (10, Value.int .i64 x240), (11, v244), (12, Value.int .i64 x317)] ∧ Ms [] w0 w [boxR b1 [Pt.ar a0] 22, boxR b2 [Pt.ar (Ar.zero 2)] 29, rowR cd3 v241 x242, rowR cd3 v244 x338])) ?_ ?_
                  · refine s_loop (fun kq a w => ∃ x339 : Int, ∃ x340 : Int, ∃ x341 : (List Int), spec_PhraseWithin.l12 K a0 l1 x242 x317 kq x339 x340 x341 = some o353 ∧ Fr 84 a [(1, u1), (2, Value.int .i64 a2), (3, pt b1 0), (6, pt b2 0), (8, v241), (9, Value.int .i64 x339), (10, Value.int .i64 x240), (11, v244), (12, Value.int .i64 x317), (13, Value.int .i64 x340)] ∧ Ms [] w0 w [boxR b1 [Pt.ar a0] 22, boxR b2 [Pt.ar (Ar.zero 2)] 29, rowR cd3 v241 x242, rowR cd3 v244 x341]) K ⟨x316, 0, x318, h354, hF.sub _ ⟨rfl, rfl, rfl, rfl, rfl, rfl, rfl, rfl, rfl, rfl, trivial⟩, hM.pick [0, 1, 2, 3] rfl rfl⟩ ?_ ?_
                    · rintro a w ⟨_, _, _, H, _⟩; exact none_some H
                    · rintro k a w ⟨x339, x340, x341, H, hF, hM⟩; rw [spec_PhraseWithin.l12] at H
                      refine wp_seq ?_
                      refine wp_seq ?_
                      refine s_region ?_
                      refine s_val hF rfl rfl rfl (e_move hF rfl) ?_; intro a hF
                      refine s_val hF rfl rfl rfl (e_lss hF rfl rfl) ?_; intro a hF
                      refine s_nil ?_
                      refine then_n ?_
                      rcases ite_cases H with ⟨c342, H⟩ | ⟨c342, H⟩
                      ·
                        refine s_cond_t hF rfl (decide_eq_true c342) ?_
                        refine wp_skip ?_
                        refine then_n ?_
                        refine wp_seq ?_
                        refine wp_block ?_
                        refine wp_seq ?_
                        obtain ⟨c343, H⟩ := ite_some H
                        obtain ⟨t344, h345, H⟩ := bind_some H
                        refine s_region ?_
                        refine s_val hF rfl rfl rfl (e_move hF rfl) ?_; intro a hF
                        refine s_val hF rfl rfl rfl (e_move hF rfl) ?_; intro a hF
                        refine s_val hF rfl rfl rfl (e_move hF rfl) ?_; intro a hF
                        refine s_val hF rfl rfl rfl (e_ia hF rfl rfl Try.underlying22 Try.sizeOf3 c343.1 c343.2) ?_; intro a hF
                        refine s_val hF rfl rfl rfl (e_ldi (i := 0) (k := 0) hF hM rfl rfl rfl rfl rfl Try.isAgg3 c343.1 c343.2) ?_; intro a hF
                        refine s_call hF rfl rfl rfl Try.call84 (spec_l8Step.calls K l1 u1 (q1.frm hM.frm) x317 (a0.get x340) t344 h345) ?_; intro a w v hF hf hR
                        subst hR; have hM := hM.grow hf
                        refine s_val hF rfl rfl rfl (e_assign hF rfl) ?_; intro a hF
                        refine s_nil ?_
                        refine then_n ?_
                        refine wp_seq ?_
                        refine s_region ?_
                        refine s_val hF rfl rfl rfl (e_move hF rfl) ?_; intro a hF
                        refine s_val hF rfl rfl rfl (e_move hF rfl) ?_; intro a hF
                        refine s_val hF rfl rfl rfl (e_len hF rfl (q1.frm hM.frm).toF Try.underlying42) ?_; intro a hF
                        refine s_val hF rfl rfl rfl (e_eql hF rfl rfl) ?_; intro a hF
                        refine s_nil ?_
                        refine then_n ?_
                        rcases ite_cases H with ⟨c346, H⟩ | ⟨c346, H⟩
                        ·
                          refine s_cond_t hF rfl (decide_eq_true c346) ?_
                          obtain ⟨c347, H⟩ := ite_some H
                          refine s_region ?_
                          refine s_val hF rfl rfl rfl (e_move hF rfl) ?_; intro a hF
                          refine s_val hF rfl rfl rfl (e_move hF rfl) ?_; intro a hF
                          refine s_val hF rfl rfl rfl (e_move hF rfl) ?_; intro a hF
                          refine s_val hF rfl rfl rfl (e_ias cd3 hF rfl rfl (hM.sl 2 rfl).toF Try.underlying42 Try.sizeOf3 c347.1 c347.2) ?_; intro a hF
                          refine s_val hF rfl rfl rfl (e_lds (m := x317) hF rfl (hM.sl 2 rfl) (getD_some (z := (0 : Int)) c347.1 c347.2) rfl rfl Try.isAgg3) ?_; intro a hF
                          refine s_val hF rfl rfl rfl (e_add hF rfl rfl) ?_; intro a hF
                          refine s_val hF rfl rfl rfl (e_assign hF rfl) ?_; intro a hF
                          refine s_nil ?_
                          refine blk_n ?_
                          refine then_n ?_
                          refine s_region ?_
                          refine s_val hF rfl rfl rfl (e_move hF rfl) ?_; intro a hF
                          refine s_val hF rfl rfl rfl (e_add hF rfl rfl) ?_; intro a hF
                          refine s_val hF rfl rfl rfl (e_assign hF rfl) ?_; intro a hF
                          refine s_nil ?_
                          refine then_n ?_
                          exact ⟨(wrap64 (x339 + (x242.getD (x317 : Int).toNat (0 : Int)))), (wrap64 (x340 + 1)), x341, H, hF.sub _ ⟨rfl, rfl, rfl, rfl, rfl, rfl, rfl, rfl, rfl, rfl, trivial⟩, hM.pick [0, 1, 2, 3] rfl rfl⟩
                        ·
                          refine s_cond_f hF rfl (decide_eq_false c346) ?_
                          obtain ⟨c348, H⟩ := ite_some H
                          obtain ⟨c349, H⟩ := ite_some H
                          refine s_held (fun w => Ms [] w0 w [boxR b1 [Pt.ar a0] 22, boxR b2 [Pt.ar (Ar.zero 2)] 29, rowR cd3 v241 x242]) #[false, false, false, false, false, false, false, false, false, false, false, false, false] mixed rfl rfl hM ?_; intro w hf hM; clear hf
                          refine h_val 0 #[true, false, false, false, false, false, false, false, false, false, false, false, false] rfl (by kernel_rfl) hF rfl rfl rfl (fun w hS => e_move hF rfl) (hM.pick [0, 1, 2] rfl rfl) ?_; intro a hF
                          refine h_val 1 #[true, true, false, false, false, false, false, false, false, false, false, false, false] rfl (by kernel_rfl) hF rfl rfl rfl (fun w hS => e_move hF rfl) (hM.pick [0, 1, 2] rfl rfl) ?_; intro a hF
                          refine h_val 2 #[true, true, true, false, false, false, false, false, false, false, false, false, false] rfl (by kernel_rfl) hF rfl rfl rfl (fun w hS => e_move hF rfl) (hM.pick [0, 1, 2] rfl rfl) ?_; intro a hF
                          refine h_val 3 #[true, true, true, true, false, false, false, false, false, false, false, false, false] rfl (by kernel_rfl) hF rfl rfl rfl (fun w hS => e_move hF rfl) (hM.pick [0, 1, 2] rfl rfl) ?_; intro a hF
                          have f350 := (hM.sl 3 rfl).toF
                          refine h_val 4 #[true, true, true, true, true, false, false, false, false, false, false, false, false] rfl (by kernel_rfl) hF rfl rfl rfl (fun w hS => e_ias cd3 hF rfl rfl f350 Try.underlying42 Try.sizeOf3 c348.1 c348.2) (hM.pick [0, 1, 2] rfl rfl) ?_; intro a hF
                          refine h_val 6 #[true, true, true, true, true, false, true, false, false, false, false, false, false] rfl (by kernel_rfl) hF rfl rfl rfl (fun w hS => e_move hF rfl) (hM.pick [0, 1, 2] rfl rfl) ?_; intro a hF
                          refine h_val 7 #[true, true, true, true, true, false, true, true, false, false, false, false, false] rfl (by kernel_rfl) hF rfl rfl rfl (fun w hS => e_move hF rfl) (hM.pick [0, 1, 2] rfl rfl) ?_; intro a hF
                          have f351 := (hM.sl 2 rfl).toF
                          refine h_val 8 #[true, true, true, true, true, false, true, true, true, false, false, false, false] rfl (by kernel_rfl) hF rfl rfl rfl (fun w hS => e_ias cd3 hF rfl rfl f351 Try.underlying42 Try.sizeOf3 c349.1 c349.2) (hM.pick [0, 1, 2] rfl rfl) ?_; intro a hF
                          refine h_val 9 #[true, true, true, true, true, false, true, true, true, true, false, false, false] rfl (by kernel_rfl) hF rfl rfl rfl (fun w hS => e_lds (m := x317) hF rfl (hS.sl 2 rfl) (getD_some (z := (0 : Int)) c349.1 c349.2) rfl rfl Try.isAgg3) (hM.pick [0, 1, 2] rfl rfl) ?_; intro a hF
                          refine h_one 5 #[true, true, true, true, true, true, true, true, true, true, false, false, false] rfl (by kernel_rfl) ?_
                          refine s_val hF rfl rfl rfl (e_lds (m := t344) hF rfl (hM.sl 3 rfl) (getD_some (z := (0 : Int)) c348.1 c348.2) rfl rfl Try.isAgg3) ?_; intro a hF
                          refine s_nil ⟨rfl, (hM.pick [0, 1, 2] rfl rfl), ?_⟩
                          refine h_val 10 #[true, true, true, true, true, true, true, true, true, true, true, false, false] rfl (by kernel_rfl) hF rfl rfl rfl (fun w hS => e_add hF rfl rfl) (hM.pick [0, 1, 2] rfl rfl) ?_; intro a hF
                          have f352 := (hM.sl 3 rfl).toF
                          refine h_val 11 #[true, true, true, true, true, true, true, true, true, true, true, true, false] rfl (by kernel_rfl) hF rfl rfl rfl (fun w hS => e_ias cd3 hF rfl rfl f352 Try.underlying42 Try.sizeOf3 c348.1 c348.2) (hM.pick [0, 1, 2] rfl rfl) ?_; intro a hF
                          refine h_one 12 #[true, true, true, true, true, true, true, true, true, true, true, true, true] rfl (by kernel_rfl) ?_
                          refine s_sts (i := 3) (wrap64 ((x341.getD (t344 : Int).toNat (0 : Int)) + (x242.getD (x317 : Int).toNat (0 : Int)))) hF hM rfl rfl rfl rfl rfl c348.1 c348.2 Try.sizeOf3 ?_; intro a w hF hM
                          refine s_nil ⟨rfl, (hM.pick [0, 1, 2] rfl rfl), ?_⟩
                          refine h_done rfl ?_
                          refine blk_n ?_
                          refine then_n ?_
                          refine s_region ?_
                          refine s_val hF rfl rfl rfl (e_move hF rfl) ?_; intro a hF
                          refine s_val hF rfl rfl rfl (e_add hF rfl rfl) ?_; intro a hF
                          refine s_val hF rfl rfl rfl (e_assign hF rfl) ?_; intro a hF
                          refine s_nil ?_
                          refine then_n ?_
                          exact ⟨x339, (wrap64 (x340 + 1)), (x341.set (t344 : Int).toNat (wrap64 ((x341.getD (t344 : Int).toNat (0 : Int)) + (x242.getD (x317 : Int).toNat (0 : Int))))), H, hF.sub _ ⟨rfl, rfl, rfl, rfl, rfl, rfl, rfl, rfl, rfl, rfl, trivial⟩, hM.pick [0, 1, 2, 3] rfl rfl⟩
                      ·
                        refine s_cond_f hF rfl (decide_eq_false c342) ?_
                        refine wp_exit ?_
                        refine then_x ?_
                        refine then_x ?_
                        exact ⟨rfl, x339, x341, some_some H, hF.sub _ ⟨rfl, rfl, rfl, rfl, rfl, rfl, rfl, rfl, rfl, trivial⟩, hM.pick [0, 1, 2, 3] rfl rfl⟩
                  · rintro e a w ⟨rfl, x337, x338, rfl, hF, hM⟩
                    skip
                    refine blk_x ?_
                    refine blk_n ?_
                    refine then_n ?_
                    refine s_region ?_
                    refine s_val hF rfl rfl rfl (e_move hF rfl) ?_; intro a hF
                    refine s_val hF rfl rfl rfl (e_add hF rfl rfl) ?_; intro a hF
                    refine s_val hF rfl rfl rfl (e_assign hF rfl) ?_; intro a hF
                    refine s_nil ?_
                    refine then_n ?_
                    exact ⟨x337, (wrap64 (x317 + 1)), x338, H, hF.sub _ ⟨rfl, rfl, rfl, rfl, rfl, rfl, rfl, rfl, rfl, trivial⟩, hM.pick [0, 1, 2, 3] rfl rfl⟩
                ·
                  refine s_cond_f hF rfl (decide_eq_false c319) ?_
                  refine wp_exit ?_
                  refine then_x ?_
                  refine then_x ?_
                  exact ⟨rfl, x316, x318, some_some H, hF.sub _ ⟨rfl, rfl, rfl, rfl, rfl, rfl, rfl, trivial⟩, hM.pick [0, 1, 3] rfl rfl⟩
            · rintro e a w ⟨rfl, x314, x315, rfl, hF, hM⟩
              skip
              refine blk_x ?_
              refine then_n ?_
              refine s_region ?_
              refine s_val hF rfl rfl rfl (e_move hF rfl) ?_; intro a hF
              refine s_val hF rfl rfl rfl (e_assign hF rfl) ?_; intro a hF
              refine s_nil ?_
              refine blk_n ?_
              refine then_n ?_
              refine s_region ?_
              refine s_val hF rfl rfl rfl (e_move hF rfl) ?_; intro a hF
              refine s_val hF rfl rfl rfl (e_add hF rfl rfl) ?_; intro a hF
              refine s_val hF rfl rfl rfl (e_assign hF rfl) ?_; intro a hF
              refine s_nil ?_
              refine then_n ?_
              exact ⟨v244, x314, (wrap64 (x240 + 1)), x315, H, hF.sub _ ⟨rfl, rfl, rfl, rfl, rfl, rfl, rfl, trivial⟩, hM.pick [0, 1, 2] rfl rfl⟩
          ·
            refine s_cond_f hF rfl (decide_eq_false c243) ?_
            refine wp_exit ?_
            refine then_x ?_
            refine then_x ?_
            exact ⟨rfl, x239, some_some H, hF.sub _ ⟨rfl, rfl, rfl, trivial⟩, hM.pick [1] rfl rfl⟩
      · rintro e a w ⟨rfl, x238, rfl, hF, hM⟩
        skip
        refine blk_x ?_
        refine then_n ?_
        refine wp_seq ?_
        obtain ⟨t359, h360, H⟩ := bind_some H
        obtain ⟨t361, h362, H⟩ := bind_some H
        refine s_region ?_
        refine s_val hF rfl rfl rfl (e_move hF rfl) ?_; intro a hF
        refine s_val hF rfl rfl rfl (e_move hF rfl) ?_; intro a hF
        refine s_call hF rfl rfl rfl Try.call49 (spec_l2All.calls K a2 t359 h360) ?_; intro a w v hF hf hR
        subst hR; have hM := hM.grow hf
        refine s_call hF rfl rfl rfl Try.call54 (spec_l2Cut.calls K x238 t359 t361 h362) ?_; intro a w v hF hf hR
        subst hR; have hM := hM.grow hf
        refine s_stw (i := 0) (ps' := [Pt.ar t361]) hF hM rfl rfl rfl rfl rfl rfl Try.sizeOf29 rfl ?_; intro a w hF hM
        refine s_val hF rfl rfl rfl (e_assign hF rfl) ?_; intro a hF
        refine s_nil ?_
        refine then_n ?_
        refine wp_ret ?_
        obtain rfl := some_some H
        refine s_ret [ag [Pt.ar t361], Value.bool true] hF Try.results45 ⟨⟨_, rfl, rv_box hM (i := 0) rfl Try.isAgg29 Try.sizeOf29 rfl⟩, rfl, trivial⟩ ?_
        exact ⟨_, rfl, hM.frm, rfl⟩
    ·
      refine s_cond_t hF rfl (congrArg Bool.not (bf c8)) ?_
      refine wp_seq ?_
      refine s_region ?_
      refine s_val hF rfl rfl rfl (e_build' (cells := cat [Pt.ar (⟨[0, 0], rfl⟩ : Ar 2)]) hF rfl (by kernel_rfl)) ?_; intro a hF
      refine s_stw (i := 0) (ps' := [Pt.ar (⟨[0, 0], rfl⟩ : Ar 2)]) hF hM rfl rfl rfl rfl rfl rfl Try.sizeOf29 rfl ?_; intro a w hF hM
      refine s_val hF rfl rfl rfl (e_assign hF rfl) ?_; intro a hF
      refine s_nil ?_
      refine then_n ?_
      refine wp_ret ?_
      refine then_r ?_
      obtain rfl := some_some H
      refine s_ret [ag [Pt.ar (⟨[0, 0], rfl⟩ : Ar 2)], Value.bool false] hF Try.results45 ⟨⟨_, rfl, rv_box hM (i := 0) rfl Try.isAgg29 Try.sizeOf29 rfl⟩, rfl, trivial⟩ ?_
      exact ⟨_, rfl, hM.frm, rfl⟩
  ·
    refine s_region ?_
    refine s_val hF rfl rfl rfl (e_lda (i := 1) 0 1 hF hM rfl rfl rfl rfl Try.isAgg22 Try.sizeOf22 rfl) ?_; intro a hF
    refine s_val hF rfl rfl rfl (e_move hF rfl) ?_; intro a hF
    refine s_call hF rfl rfl rfl Try.call74 (spec_l8Phrase.calls K a0 l1 u1 (q1.frm hM.frm) t3 h4) ?_; intro a w v hF hf hR
    subst hR; have hM := hM.grow hf
    refine s_val hF rfl rfl rfl (e_not hF rfl) ?_; intro a hF
    refine s_val hF rfl rfl rfl (e_move hF rfl) ?_; intro a hF
    have hF := hF.topb (congrArg Bool.not (bf c5))
    refine s_skip hF rfl rfl rfl ?_; intro a hF
    refine s_skip hF rfl rfl rfl ?_; intro a hF
    refine s_skip hF rfl rfl rfl ?_; intro a hF
    refine s_skip hF rfl rfl rfl ?_; intro a hF
    refine s_val hF rfl rfl rfl (e_pick_t hF rfl rfl) ?_; intro a hF
    refine s_nil ?_
    refine then_n ?_
    refine s_cond_t hF rfl rfl ?_
    refine wp_seq ?_
    refine s_region ?_
    refine s_val hF rfl rfl rfl (e_build' (cells := cat [Pt.ar (⟨[0, 0], rfl⟩ : Ar 2)]) hF rfl (by kernel_rfl)) ?_; intro a hF
    refine s_stw (i := 0) (ps' := [Pt.ar (⟨[0, 0], rfl⟩ : Ar 2)]) hF hM rfl rfl rfl rfl rfl rfl Try.sizeOf29 rfl ?_; intro a w hF hM
    refine s_val hF rfl rfl rfl (e_assign hF rfl) ?_; intro a hF
    refine s_nil ?_
    refine then_n ?_
    refine wp_ret ?_
    refine then_r ?_
    obtain rfl := some_some H
    refine s_ret [ag [Pt.ar (⟨[0, 0], rfl⟩ : Ar 2)], Value.bool false] hF Try.results45 ⟨⟨_, rfl, rv_box hM (i := 0) rfl Try.isAgg29 Try.sizeOf29 rfl⟩, rfl, trivial⟩ ?_
    exact ⟨_, rfl, hM.frm, rfl⟩

/-! ### loop.example/g01210/impl.within: function 51 -/
def impl_within.f (K : Nat) (a0 : Int) (a1 : Int) (a2 : Int) : Option Bool := if a1 ≤ a0 then (some (decide (a0 ≤ a2))) else (some false)
set_option maxRecDepth 100000 in
set_option maxHeartbeats 4000000 in
theorem impl_within.calls {w0 : World} (K : Nat) (a0 : Int) (a1 : Int) (a2 : Int) (r : Bool) (H : impl_within.f K a0 a1 a2 = some r) : Calls Try.prog 51 [Value.int .i64 a0, Value.int .i64 a1, Value.int .i64 a2].toArray w0 (Post w0 fun w v => v = Value.bool r) := by
  rw [impl_within.f] at H
  refine s_start Try.func51 rfl Try.ntmps51 rfl ?_
  intro a hF
  have hM := Ms.start w0
  skip
  refine wp_seq ?_
  refine s_region ?_
  refine s_val hF rfl rfl rfl (e_assign hF rfl) ?_; intro a hF
  refine s_nil ?_
  refine then_n ?_
  refine wp_seq ?_
  rcases ite_cases H with ⟨c1, H⟩ | ⟨c1, H⟩
  ·
    refine s_region ?_
    refine s_val hF rfl rfl rfl (e_move hF rfl) ?_; intro a hF
    refine s_val hF rfl rfl rfl (e_move hF rfl) ?_; intro a hF
    refine s_val hF rfl rfl rfl (e_leq hF rfl rfl) ?_; intro a hF
    refine s_val hF rfl rfl rfl (e_move hF rfl) ?_; intro a hF
    have hF := hF.topb (decide_eq_true c1)
    refine s_val hF rfl rfl rfl (e_move hF rfl) ?_; intro a hF
    refine s_val hF rfl rfl rfl (e_move hF rfl) ?_; intro a hF
    refine s_val hF rfl rfl rfl (e_leq hF rfl rfl) ?_; intro a hF
    refine s_val hF rfl rfl rfl (e_pick_t hF rfl rfl) ?_; intro a hF
    refine s_val hF rfl rfl rfl (e_assign hF rfl) ?_; intro a hF
    refine s_nil ?_
    refine then_n ?_
    refine wp_ret ?_
    obtain rfl := some_some H
    refine s_ret [Value.bool (decide (a0 ≤ a2))] hF Try.results51 ⟨rfl, trivial⟩ ?_
    exact ⟨_, rfl, hM.frm, rfl⟩
  ·
    refine s_region ?_
    refine s_val hF rfl rfl rfl (e_move hF rfl) ?_; intro a hF
    refine s_val hF rfl rfl rfl (e_move hF rfl) ?_; intro a hF
    refine s_val hF rfl rfl rfl (e_leq hF rfl rfl) ?_; intro a hF
    refine s_val hF rfl rfl rfl (e_move hF rfl) ?_; intro a hF
    have hF := hF.topb (decide_eq_false c1)
    refine s_skip hF rfl rfl rfl ?_; intro a hF
    refine s_skip hF rfl rfl rfl ?_; intro a hF
    refine s_skip hF rfl rfl rfl ?_; intro a hF
    refine s_val hF rfl rfl rfl (e_pick_f hF rfl rfl) ?_; intro a hF
    refine s_val hF rfl rfl rfl (e_assign hF rfl) ?_; intro a hF
    refine s_nil ?_
    refine then_n ?_
    refine wp_ret ?_
    obtain rfl := some_some H
    refine s_ret [Value.bool false] hF Try.results51 ⟨rfl, trivial⟩ ?_
    exact ⟨_, rfl, hM.frm, rfl⟩

/-! ### loop.example/g01210/impl.isFace: function 87 -/
def impl_isFace.f (K : Nat) (a0 : Int) : Option Bool := (impl_within.f K a0 0 30).bind fun t1 => some t1
set_option maxRecDepth 100000 in
set_option maxHeartbeats 4000000 in
theorem impl_isFace.calls {w0 : World} (K : Nat) (a0 : Int) (r : Bool) (H : impl_isFace.f K a0 = some r) : Calls Try.prog 87 [Value.int .i64 a0].toArray w0 (Post w0 fun w v => v = Value.bool r) := by
  rw [impl_isFace.f] at H
  refine s_start Try.func87 rfl Try.ntmps87 rfl ?_
  intro a hF
  have hM := Ms.start w0
  skip
  refine wp_seq ?_
  refine s_region ?_
  refine s_val hF rfl rfl rfl (e_assign hF rfl) ?_; intro a hF
  refine s_nil ?_
  refine then_n ?_
  refine wp_seq ?_
  obtain ⟨t1, h2, H⟩ := bind_some H
  refine s_region ?_
  refine s_val hF rfl rfl rfl (e_move hF rfl) ?_; intro a hF
  refine s_call hF rfl rfl rfl Try.call51 (impl_within.calls K a0 0 30 t1 h2) ?_; intro a w v hF hf hR
  subst hR; have hM := hM.grow hf
  refine s_val hF rfl rfl rfl (e_assign hF rfl) ?_; intro a hF
  refine s_nil ?_
  refine then_n ?_
  refine wp_ret ?_
  obtain rfl := some_some H
  refine s_ret [Value.bool t1] hF Try.results87 ⟨rfl, trivial⟩ ?_
  exact ⟨_, rfl, hM.frm, rfl⟩

/-! ### loop.example/g01210/impl.areAll[int]$1: function 101 -/
def impl_areAll_int_1__isFace.f (K : Nat) (a0 : Int) : Option Bool := (impl_isFace.f K a0).bind fun t3 => some (!t3)
set_option maxRecDepth 100000 in
set_option maxHeartbeats 4000000 in
theorem impl_areAll_int_1__isFace.calls {w0 : World} (K : Nat) (a0 : Int) (b1 : Nat) (q2 : (boxR b1 [Pt.val (Value.func (.func 87) #[] #[]) rfl] 58).holds w0) (r : Bool) (H : impl_areAll_int_1__isFace.f K a0 = some r) : Calls Try.prog 101 [Value.int .i64 a0, pt b1 0].toArray w0 (Post w0 fun w v => v = Value.bool r) := by
  rw [impl_areAll_int_1__isFace.f] at H
  refine s_start Try.func101 rfl Try.ntmps101 rfl ?_
  intro a hF
  have hM := Ms.start w0
  skip
  refine wp_seq ?_
  refine s_region ?_
  refine s_val hF rfl rfl rfl (e_assign hF rfl) ?_; intro a hF
  refine s_nil ?_
  refine then_n ?_
  refine wp_seq ?_
  obtain ⟨t3, h4, H⟩ := bind_some H
  refine s_region ?_
  refine s_val hF rfl rfl rfl (e_ld (i := 0) (k := 0) hF (lent_ms (box_frm q2 hM.frm)) rfl rfl rfl rfl Try.isAgg58 rfl) ?_; intro a hF
  refine s_val hF rfl rfl rfl (e_move hF rfl) ?_; intro a hF
  refine s_callv hF rfl rfl rfl rfl (callsV_of Try.call87 (impl_isFace.calls K a0 t3 h4)) ?_; intro a w v hF ⟨hf, hR⟩
  subst hR; have hM := hM.grow hf
  refine s_val hF rfl rfl rfl (e_not hF rfl) ?_; intro a hF
  refine s_val hF rfl rfl rfl (e_assign hF rfl) ?_; intro a hF
  refine s_nil ?_
  refine then_n ?_
  refine wp_ret ?_
  obtain rfl := some_some H
  refine s_ret [Value.bool (!t3)] hF Try.results101 ⟨rfl, trivial⟩ ?_
  exact ⟨_, rfl, hM.frm, rfl⟩

/-! ### slices.IndexFunc[[]int,int]: function 104 -/
def slices_IndexFunc_int_int__areAll_int_1_isFace.l0 (K : Nat) (l0 : (List Int)) : Nat → Int → Option (Sum Unit Int)
  | 0, _ => none
  | k + 1, x14 => if x14 < (l0.length : Int) then (if (0 : Int) ≤ x14 ∧ x14 < (l0.length : Int) then ((impl_areAll_int_1__isFace.f K (l0.getD (x14 : Int).toNat (0 : Int))).bind fun t17 => if t17 = true then (some (Sum.inr x14)) else (slices_IndexFunc_int_int__areAll_int_1_isFace.l0 K l0 k (wrap64 (x14 + 1)))) else none) else (some (Sum.inl ()))
def slices_IndexFunc_int_int__areAll_int_1_isFace.f (K : Nat) (l0 : (List Int)) : Option Int := (slices_IndexFunc_int_int__areAll_int_1_isFace.l0 K l0 K 0).bind fun o20 => (match o20 with | .inl () => some (-1) | .inr r22 => some r22)
set_option maxRecDepth 100000 in
set_option maxHeartbeats 4000000 in
theorem slices_IndexFunc_int_int__areAll_int_1_isFace.calls {w0 : World} (K : Nat) (l0 : (List Int)) (u0 : Value) (q0 : SlR cd3 w0 u0 l0) (b1 : Nat) (q2 : (boxR b1 [Pt.val (Value.func (.func 87) #[] #[]) rfl] 58).holds w0) (r : Int) (H : slices_IndexFunc_int_int__areAll_int_1_isFace.f K l0 = some r) : Calls Try.prog 104 [u0, Value.func (.func 101) #[] #[pt b1 0]].toArray w0 (Post w0 fun w v => v = Value.int .i64 r) := by
  rw [slices_IndexFunc_int_int__areAll_int_1_isFace.f] at H
  refine s_start Try.func104 rfl Try.ntmps104 rfl ?_
  intro a hF
  have hM := Ms.start w0
  skip
  refine wp_seq ?_
  refine s_region ?_
  refine s_val hF rfl rfl rfl (e_assign hF rfl) ?_; intro a hF
  refine s_nil ?_
  refine then_n ?_
  refine wp_seq ?_
  refine wp_seq ?_
  refine s_region ?_
  refine s_val hF rfl rfl rfl (e_move hF rfl) ?_; intro a hF
  refine s_val hF rfl rfl rfl (e_len hF rfl (q0.frm hM.frm).toF Try.underlying42) ?_; intro a hF
  refine s_val hF rfl rfl rfl (e_move hF rfl) ?_; intro a hF
  refine s_nil ?_
  refine then_n ?_
  refine wp_block ?_
  obtain ⟨o20, h21, H⟩ := bind_some H
  refine wp_mono (Q := fun e a w => (e = Exit.exit 0 ∧ Sum.inl () = o20 ∧ Fr 19 a [] ∧ Ms [] w0 w []) ∨ (e = Exit.ret ∧ ∃ r22 : Int, Sum.inr r22 = o20 ∧ Fr 19 a [(4, Value.int .i64 r22)] ∧ Ms [] w0 w [])) ?_ ?_
  · refine s_loop (fun kq a w => ∃ x14 : Int, slices_IndexFunc_int_int__areAll_int_1_isFace.l0 K l0 kq x14 = some o20 ∧ Fr 19 a [(0, u0), (1, Value.func (.func 101) #[] #[pt b1 0]), (7, Value.int .i64 (l0.length : Int)), (8, Value.int .i64 x14)] ∧ Ms [] w0 w []) K ⟨0, h21, hF.sub _ ⟨rfl, rfl, rfl, rfl, trivial⟩, hM.pick [] rfl rfl⟩ ?_ ?_
    · rintro a w ⟨_, H, _⟩; exact none_some H
    · rintro k a w ⟨x14, H, hF, hM⟩; rw [slices_IndexFunc_int_int__areAll_int_1_isFace.l0] at H
      refine wp_seq ?_
      refine s_region ?_
      refine s_val hF rfl rfl rfl (e_lss hF rfl rfl) ?_; intro a hF
      refine s_nil ?_
      refine then_n ?_
      refine wp_seq ?_
      rcases ite_cases H with ⟨c15, H⟩ | ⟨c15, H⟩
      ·
        refine s_cond_t hF rfl (decide_eq_true c15) ?_
        refine wp_skip ?_
        refine then_n ?_
        refine wp_seq ?_
        refine wp_block ?_
        refine wp_seq ?_
        refine s_region ?_
        refine s_val hF rfl rfl rfl (e_move hF rfl) ?_; intro a hF
        refine s_val hF rfl rfl rfl (e_assign hF rfl) ?_; intro a hF
        refine s_nil ?_
        refine then_n ?_
        refine wp_seq ?_
        obtain ⟨c16, H⟩ := ite_some H
        obtain ⟨t17, h18, H⟩ := bind_some H
        refine s_region ?_
        refine s_val hF rfl rfl rfl (e_move hF rfl) ?_; intro a hF
        refine s_val hF rfl rfl rfl (e_move hF rfl) ?_; intro a hF
        refine s_val hF rfl rfl rfl (e_move hF rfl) ?_; intro a hF
        refine s_val hF rfl rfl rfl (e_ias cd3 hF rfl rfl (q0.frm hM.frm).toF Try.underlying42 Try.sizeOf3 c16.1 c16.2) ?_; intro a hF
        refine s_val hF rfl rfl rfl (e_lds (m := x14) hF rfl (q0.frm hM.frm) (getD_some (z := (0 : Int)) c16.1 c16.2) rfl rfl Try.isAgg3) ?_; intro a hF
        refine s_callv hF rfl rfl rfl rfl (callsV_of Try.call101 (impl_areAll_int_1__isFace.calls K (l0.getD (x14 : Int).toNat (0 : Int)) b1 (box_frm q2 hM.frm) t17 h18)) ?_; intro a w v hF ⟨hf, hR⟩
        subst hR; have hM := hM.grow hf
        refine s_nil ?_
        refine then_n ?_
        rcases ite_cases H with ⟨c19, H⟩ | ⟨c19, H⟩
        ·
          refine s_cond_t hF rfl c19 ?_
          refine wp_seq ?_
          refine s_region ?_
          refine s_val hF rfl rfl rfl (e_move hF rfl) ?_; intro a hF
          refine s_val hF rfl rfl rfl (e_assign hF rfl) ?_; intro a hF
          refine s_nil ?_
          refine then_n ?_
          refine wp_ret ?_
          refine blk_r ?_
          refine then_r ?_
          refine then_r ?_
          exact Or.inr (⟨rfl, x14, some_some H, hF.sub _ ⟨rfl, trivial⟩, hM.pick [] rfl rfl⟩)
        ·
          refine s_cond_f hF rfl (bf c19) ?_
          refine wp_skip ?_
          refine blk_n ?_
          refine then_n ?_
          refine s_region ?_
          refine s_val hF rfl rfl rfl (e_add hF rfl rfl) ?_; intro a hF
          refine s_val hF rfl rfl rfl (e_move hF rfl) ?_; intro a hF
          refine s_nil ?_
          refine then_n ?_
          exact ⟨(wrap64 (x14 + 1)), H, hF.sub _ ⟨rfl, rfl, rfl, rfl, trivial⟩, hM.pick [] rfl rfl⟩
      ·
        refine s_cond_f hF rfl (decide_eq_false c15) ?_
        refine wp_exit ?_
        refine then_x ?_
        refine then_x ?_
        exact Or.inl (⟨rfl, some_some H, hF.sub _ trivial, hM.pick [] rfl rfl⟩)
  · rintro e a w (⟨rfl, rfl, hF, hM⟩ | ⟨rfl, r22, rfl, hF, hM⟩)
    ·
      dsimp only at H
      refine blk_x ?_
      refine then_n ?_
      refine wp_seq ?_
      refine s_region ?_
      refine s_val hF rfl rfl rfl (e_assign hF rfl) ?_; intro a hF
      refine s_nil ?_
      refine then_n ?_
      refine wp_ret ?_
      obtain rfl := some_some H
      refine s_ret [Value.int .i64 (-1)] hF Try.results104 ⟨rfl, trivial⟩ ?_
      exact ⟨_, rfl, hM.frm, rfl⟩
    ·
      dsimp only at H
      refine blk_r ?_
      refine then_r ?_
      obtain rfl := some_some H
      refine s_ret [Value.int .i64 r22] hF Try.results104 ⟨rfl, trivial⟩ ?_
      exact ⟨_, rfl, hM.frm, rfl⟩

/-! ### slices.ContainsFunc[[]int,int]: function 100 -/
def slices_ContainsFunc_int_int__areAll_int_1_isFace.f (K : Nat) (l0 : (List Int)) : Option Bool := (slices_IndexFunc_int_int__areAll_int_1_isFace.f K l0).bind fun t3 => some (decide (0 ≤ t3))
set_option maxRecDepth 100000 in
set_option maxHeartbeats 4000000 in
theorem slices_ContainsFunc_int_int__areAll_int_1_isFace.calls {w0 : World} (K : Nat) (l0 : (List Int)) (u0 : Value) (q0 : SlR cd3 w0 u0 l0) (b1 : Nat) (q2 : (boxR b1 [Pt.val (Value.func (.func 87) #[] #[]) rfl] 58).holds w0) (r : Bool) (H : slices_ContainsFunc_int_int__areAll_int_1_isFace.f K l0 = some r) : Calls Try.prog 100 [u0, Value.func (.func 101) #[] #[pt b1 0]].toArray w0 (Post w0 fun w v => v = Value.bool r) := by
  rw [slices_ContainsFunc_int_int__areAll_int_1_isFace.f] at H
  refine s_start Try.func100 rfl Try.ntmps100 rfl ?_
  intro a hF
  have hM := Ms.start w0
  skip
  refine wp_seq ?_
  refine s_region ?_
  refine s_val hF rfl rfl rfl (e_assign hF rfl) ?_; intro a hF
  refine s_nil ?_
  refine then_n ?_
  refine wp_seq ?_
  obtain ⟨t3, h4, H⟩ := bind_some H
  refine s_region ?_
  refine s_val hF rfl rfl rfl (e_move hF rfl) ?_; intro a hF
  refine s_val hF rfl rfl rfl (e_move hF rfl) ?_; intro a hF
  refine s_call hF rfl rfl rfl Try.call104 (slices_IndexFunc_int_int__areAll_int_1_isFace.calls K l0 u0 (q0.frm hM.frm) b1 (box_frm q2 hM.frm) t3 h4) ?_; intro a w v hF hf hR
  subst hR; have hM := hM.grow hf
  refine s_val hF rfl rfl rfl (e_geq hF rfl rfl) ?_; intro a hF
  refine s_val hF rfl rfl rfl (e_assign hF rfl) ?_; intro a hF
  refine s_nil ?_
  refine then_n ?_
  refine wp_ret ?_
  obtain rfl := some_some H
  refine s_ret [Value.bool (decide (0 ≤ t3))] hF Try.results100 ⟨rfl, trivial⟩ ?_
  exact ⟨_, rfl, hM.frm, rfl⟩

/-! ### loop.example/g01210/impl.areAll[int]: function 86 -/
def impl_areAll_int__isFace.f (K : Nat) (l0 : (List Int)) : Option Bool := (slices_ContainsFunc_int_int__areAll_int_1_isFace.f K l0).bind fun t2 => some (!t2)
set_option maxRecDepth 100000 in
set_option maxHeartbeats 4000000 in
theorem impl_areAll_int__isFace.calls {w0 : World} (K : Nat) (l0 : (List Int)) (u0 : Value) (q0 : SlR cd3 w0 u0 l0) (r : Bool) (H : impl_areAll_int__isFace.f K l0 = some r) : Calls Try.prog 86 [u0, Value.func (.func 87) #[] #[]].toArray w0 (Post w0 fun w v => v = Value.bool r) := by
  rw [impl_areAll_int__isFace.f] at H
  refine s_start Try.func86 rfl Try.ntmps86 rfl ?_
  intro a hF
  have hM := Ms.start w0
  skip
  refine wp_seq ?_
  refine s_region ?_
  refine s_box (ps := [Pt.val (Value.func (.func 87) #[] #[]) rfl]) hF hM rfl rfl rfl rfl ?_; intro a w b1 hF hM
  refine s_val hF rfl rfl rfl (e_assign hF rfl) ?_; intro a hF
  refine s_nil ?_
  refine then_n ?_
  refine wp_seq ?_
  obtain ⟨t2, h3, H⟩ := bind_some H
  refine s_region ?_
  refine s_val hF rfl rfl rfl (e_move hF rfl) ?_; intro a hF
  refine s_val hF rfl rfl rfl (e_mkfunc (hF.evs' rfl)) ?_; intro a hF
  refine s_call hF rfl rfl rfl Try.call100 (slices_ContainsFunc_int_int__areAll_int_1_isFace.calls K l0 u0 (q0.frm hM.frm) b1 (hM.get 0 rfl) t2 h3) ?_; intro a w v hF hf hR
  subst hR; have hM := hM.grow hf
  refine s_val hF rfl rfl rfl (e_not hF rfl) ?_; intro a hF
  refine s_val hF rfl rfl rfl (e_assign hF rfl) ?_; intro a hF
  refine s_nil ?_
  refine then_n ?_
  refine wp_ret ?_
  obtain rfl := some_some H
  refine s_ret [Value.bool (!t2)] hF Try.results86 ⟨rfl, trivial⟩ ?_
  exact ⟨_, rfl, hM.frm, rfl⟩

/-! ### cmp.isNaN[int]: function 105 -/
def cmp_isNaN_int.f (K : Nat) (a0 : Int) : Option Bool := some (!(decide (a0 = a0)))
set_option maxRecDepth 100000 in
set_option maxHeartbeats 4000000 in
theorem cmp_isNaN_int.calls {w0 : World} (K : Nat) (a0 : Int) (r : Bool) (H : cmp_isNaN_int.f K a0 = some r) : Calls Try.prog 105 [Value.int .i64 a0].toArray w0 (Post w0 fun w v => v = Value.bool r) := by
  rw [cmp_isNaN_int.f] at H
  refine s_start Try.func105 rfl Try.ntmps105 rfl ?_
  intro a hF
  have hM := Ms.start w0
  skip
  refine wp_seq ?_
  refine s_region ?_
  refine s_val hF rfl rfl rfl (e_assign hF rfl) ?_; intro a hF
  refine s_nil ?_
  refine then_n ?_
  refine wp_seq ?_
  refine s_region ?_
  refine s_val hF rfl rfl rfl (e_move hF rfl) ?_; intro a hF
  refine s_val hF rfl rfl rfl (e_move hF rfl) ?_; intro a hF
  refine s_val hF rfl rfl rfl (e_neq hF rfl rfl) ?_; intro a hF
  refine s_val hF rfl rfl rfl (e_assign hF rfl) ?_; intro a hF
  refine s_nil ?_
  refine then_n ?_
  refine wp_ret ?_
  obtain rfl := some_some H
  refine s_ret [Value.bool (!(decide (a0 = a0)))] hF Try.results105 ⟨rfl, trivial⟩ ?_
  exact ⟨_, rfl, hM.frm, rfl⟩

/-! ### cmp.Less[int]: function 102 -/
def cmp_Less_int.f (K : Nat) (a0 : Int) (a1 : Int) : Option Bool := (cmp_isNaN_int.f K a0).bind fun t1 => if t1 = true then ((cmp_isNaN_int.f K a1).bind fun t4 => if t4 = true then (some (decide (a0 < a1))) else (some true)) else (some (decide (a0 < a1)))
set_option maxRecDepth 100000 in
set_option maxHeartbeats 4000000 in
theorem cmp_Less_int.calls {w0 : World} (K : Nat) (a0 : Int) (a1 : Int) (r : Bool) (H : cmp_Less_int.f K a0 a1 = some r) : Calls Try.prog 102 [Value.int .i64 a0, Value.int .i64 a1].toArray w0 (Post w0 fun w v => v = Value.bool r) := by
  rw [cmp_Less_int.f] at H
  refine s_start Try.func102 rfl Try.ntmps102 rfl ?_
  intro a hF
  have hM := Ms.start w0
  skip
  refine wp_seq ?_
  refine s_region ?_
  refine s_val hF rfl rfl rfl (e_assign hF rfl) ?_; intro a hF
  refine s_nil ?_
  refine then_n ?_
  refine wp_seq ?_
  obtain ⟨t1, h2, H⟩ := bind_some H
  rcases ite_cases H with ⟨c3, H⟩ | ⟨c3, H⟩
  ·
    obtain ⟨t4, h5, H⟩ := bind_some H
    rcases ite_cases H with ⟨c6, H⟩ | ⟨c6, H⟩
    ·
      refine s_region ?_
      refine s_val hF rfl rfl rfl (e_move hF rfl) ?_; intro a hF
      refine s_call hF rfl rfl rfl Try.call105 (cmp_isNaN_int.calls K a0 t1 h2) ?_; intro a w v hF hf hR
      subst hR; have hM := hM.grow hf
      refine s_val hF rfl rfl rfl (e_move hF rfl) ?_; intro a hF
      have hF := hF.topb c3
      refine s_val hF rfl rfl rfl (e_move hF rfl) ?_; intro a hF
      refine s_call hF rfl rfl rfl Try.call105 (cmp_isNaN_int.calls K a1 t4 h5) ?_; intro a w v hF hf hR
      subst hR; have hM := hM.grow hf
      refine s_val hF rfl rfl rfl (e_not hF rfl) ?_; intro a hF
      refine s_val hF rfl rfl rfl (e_pick_t hF rfl rfl) ?_; intro a hF
      refine s_val hF rfl rfl rfl (e_move hF rfl) ?_; intro a hF
      have hF := hF.topb (congrArg Bool.not c6)
      refine s_val hF rfl rfl rfl (e_move hF rfl) ?_; intro a hF
      refine s_val hF rfl rfl rfl (e_move hF rfl) ?_; intro a hF
      refine s_val hF rfl rfl rfl (e_lss hF rfl rfl) ?_; intro a hF
      refine s_val hF rfl rfl rfl (e_pick_f hF rfl rfl) ?_; intro a hF
      refine s_val hF rfl rfl rfl (e_assign hF rfl) ?_; intro a hF
      refine s_nil ?_
      refine then_n ?_
      refine wp_ret ?_
      obtain rfl := some_some H
      refine s_ret [Value.bool (decide (a0 < a1))] hF Try.results102 ⟨rfl, trivial⟩ ?_
      exact ⟨_, rfl, hM.frm, rfl⟩
    ·
      refine s_region ?_
      refine s_val hF rfl rfl rfl (e_move hF rfl) ?_; intro a hF
      refine s_call hF rfl rfl rfl Try.call105 (cmp_isNaN_int.calls K a0 t1 h2) ?_; intro a w v hF hf hR
      subst hR; have hM := hM.grow hf
      refine s_val hF rfl rfl rfl (e_move hF rfl) ?_; intro a hF
      have hF := hF.topb c3
      refine s_val hF rfl rfl rfl (e_move hF rfl) ?_; intro a hF
      refine s_call hF rfl rfl rfl Try.call105 (cmp_isNaN_int.calls K a1 t4 h5) ?_; intro a w v hF hf hR
      subst hR; have hM := hM.grow hf
      refine s_val hF rfl rfl rfl (e_not hF rfl) ?_; intro a hF
      refine s_val hF rfl rfl rfl (e_pick_t hF rfl rfl) ?_; intro a hF
      refine s_val hF rfl rfl rfl (e_move hF rfl) ?_; intro a hF
      have hF := hF.topb (congrArg Bool.not (bf c6))
      refine s_skip hF rfl rfl rfl ?_; intro a hF
      refine s_skip hF rfl rfl rfl ?_; intro a hF
      refine s_skip hF rfl rfl rfl ?_; intro a hF
      refine s_val hF rfl rfl rfl (e_pick_t hF rfl rfl) ?_; intro a hF
      refine s_val hF rfl rfl rfl (e_assign hF rfl) ?_; intro a hF
      refine s_nil ?_
      refine then_n ?_
      refine wp_ret ?_
      obtain rfl := some_some H
      refine s_ret [Value.bool true] hF Try.results102 ⟨rfl, trivial⟩ ?_
      exact ⟨_, rfl, hM.frm, rfl⟩
  ·
    refine s_region ?_
    refine s_val hF rfl rfl rfl (e_move hF rfl) ?_; intro a hF
    refine s_call hF rfl rfl rfl Try.call105 (cmp_isNaN_int.calls K a0 t1 h2) ?_; intro a w v hF hf hR
    subst hR; have hM := hM.grow hf
    refine s_val hF rfl rfl rfl (e_move hF rfl) ?_; intro a hF
    have hF := hF.topb (bf c3)
    refine s_skip hF rfl rfl rfl ?_; intro a hF
    refine s_skip hF rfl rfl rfl ?_; intro a hF
    refine s_skip hF rfl rfl rfl ?_; intro a hF
    refine s_val hF rfl rfl rfl (e_pick_f hF rfl rfl) ?_; intro a hF
    refine s_val hF rfl rfl rfl (e_move hF rfl) ?_; intro a hF
    refine s_val hF rfl rfl rfl (e_move hF rfl) ?_; intro a hF
    refine s_val hF rfl rfl rfl (e_move hF rfl) ?_; intro a hF
    refine s_val hF rfl rfl rfl (e_lss hF rfl rfl) ?_; intro a hF
    refine s_val hF rfl rfl rfl (e_pick_f hF rfl rfl) ?_; intro a hF
    refine s_val hF rfl rfl rfl (e_assign hF rfl) ?_; intro a hF
    refine s_nil ?_
    refine then_n ?_
    refine wp_ret ?_
    obtain rfl := some_some H
    refine s_ret [Value.bool (decide (a0 < a1))] hF Try.results102 ⟨rfl, trivial⟩ ?_
    exact ⟨_, rfl, hM.frm, rfl⟩

/-! ### slices.IsSorted[[]int,int]: function 88 -/
def slices_IsSorted_int_int.l0 (K : Nat) (l0 : (List Int)) : Nat → Int → Option (Sum Unit Bool)
  | 0, _ => none
  | k + 1, x14 => if 0 < x14 then (if (0 : Int) ≤ x14 ∧ x14 < (l0.length : Int) then (if (0 : Int) ≤ (wrap64 (x14 - 1)) ∧ (wrap64 (x14 - 1)) < (l0.length : Int) then ((cmp_Less_int.f K (l0.getD (x14 : Int).toNat (0 : Int)) (l0.getD ((wrap64 (x14 - 1)) : Int).toNat (0 : Int))).bind fun t18 => if t18 = true then (some (Sum.inr false)) else (slices_IsSorted_int_int.l0 K l0 k (wrap64 (x14 - 1)))) else none) else none) else (some (Sum.inl ()))
def slices_IsSorted_int_int.f (K : Nat) (l0 : (List Int)) : Option Bool := (slices_IsSorted_int_int.l0 K l0 K (wrap64 ((l0.length : Int) - 1))).bind fun o23 => (match o23 with | .inl () => some true | .inr r25 => some r25)
set_option maxRecDepth 100000 in
set_option maxHeartbeats 4000000 in
theorem slices_IsSorted_int_int.calls {w0 : World} (K : Nat) (l0 : (List Int)) (u0 : Value) (q0 : SlR cd3 w0 u0 l0) (r : Bool) (H : slices_IsSorted_int_int.f K l0 = some r) : Calls Try.prog 88 [u0].toArray w0 (Post w0 fun w v => v = Value.bool r) := by
  rw [slices_IsSorted_int_int.f] at H
  refine s_start Try.func88 rfl Try.ntmps88 rfl ?_
  intro a hF
  have hM := Ms.start w0
  skip
  refine wp_seq ?_
  refine s_region ?_
  refine s_val hF rfl rfl rfl (e_assign hF rfl) ?_; intro a hF
  refine s_nil ?_
  refine then_n ?_
  refine wp_seq ?_
  refine wp_seq ?_
  refine s_region ?_
  refine s_val hF rfl rfl rfl (e_move hF rfl) ?_; intro a hF
  refine s_val hF rfl rfl rfl (e_len hF rfl (q0.frm hM.frm).toF Try.underlying42) ?_; intro a hF
  refine s_val hF rfl rfl rfl (e_sub hF rfl rfl) ?_; intro a hF
  refine s_val hF rfl rfl rfl (e_assign hF rfl) ?_; intro a hF
  refine s_nil ?_
  refine then_n ?_
  refine wp_block ?_
  obtain ⟨o23, h24, H⟩ := bind_some H
  refine wp_mono (Q := fun e a w => (e = Exit.exit 0 ∧ Sum.inl () = o23 ∧ Fr 21 a [] ∧ Ms [] w0 w []) ∨ (e = Exit.ret ∧ ∃ r25 : Bool, Sum.inr r25 = o23 ∧ Fr 21 a [(2, Value.bool r25)] ∧ Ms [] w0 w [])) ?_ ?_
  · refine s_loop (fun kq a w => ∃ x14 : Int, slices_IsSorted_int_int.l0 K l0 kq x14 = some o23 ∧ Fr 21 a [(0, u0), (3, Value.int .i64 x14)] ∧ Ms [] w0 w []) K ⟨(wrap64 ((l0.length : Int) - 1)), h24, hF.sub _ ⟨rfl, rfl, trivial⟩, hM.pick [] rfl rfl⟩ ?_ ?_
    · rintro a w ⟨_, H, _⟩; exact none_some H
    · rintro k a w ⟨x14, H, hF, hM⟩; rw [slices_IsSorted_int_int.l0] at H
      refine wp_seq ?_
      refine wp_seq ?_
      refine s_region ?_
      refine s_val hF rfl rfl rfl (e_move hF rfl) ?_; intro a hF
      refine s_val hF rfl rfl rfl (e_gtr hF rfl rfl) ?_; intro a hF
      refine s_nil ?_
      refine then_n ?_
      rcases ite_cases H with ⟨c15, H⟩ | ⟨c15, H⟩
      ·
        refine s_cond_t hF rfl (decide_eq_true c15) ?_
        refine wp_skip ?_
        refine then_n ?_
        refine wp_seq ?_
        refine wp_block ?_
        refine wp_seq ?_
        obtain ⟨c16, H⟩ := ite_some H
        obtain ⟨c17, H⟩ := ite_some H
        obtain ⟨t18, h19, H⟩ := bind_some H
        refine s_held (fun w => Ms [] w0 w []) #[false, false, false, false, false, false, false, false, false, false] mixed rfl rfl hM ?_; intro w hf hM; clear hf
        refine h_val 0 #[true, false, false, false, false, false, false, false, false, false] rfl (by kernel_rfl) hF rfl rfl rfl (fun w hS => e_move hF rfl) (hM.pick [] rfl rfl) ?_; intro a hF
        refine h_val 1 #[true, true, false, false, false, false, false, false, false, false] rfl (by kernel_rfl) hF rfl rfl rfl (fun w hS => e_move hF rfl) (hM.pick [] rfl rfl) ?_; intro a hF
        have f20 := (q0.frm hM.frm).toF
        refine h_val 2 #[true, true, true, false, false, false, false, false, false, false] rfl (by kernel_rfl) hF rfl rfl rfl (fun w hS => e_ias cd3 hF rfl rfl f20 Try.underlying42 Try.sizeOf3 c16.1 c16.2) (hM.pick [] rfl rfl) ?_; intro a hF
        refine h_val 3 #[true, true, true, true, false, false, false, false, false, false] rfl (by kernel_rfl) hF rfl rfl rfl (fun w hS => e_lds (m := x14) hF rfl (q0.frm hS.frm) (getD_some (z := (0 : Int)) c16.1 c16.2) rfl rfl Try.isAgg3) (hM.pick [] rfl rfl) ?_; intro a hF
        refine h_val 4 #[true, true, true, true, true, false, false, false, false, false] rfl (by kernel_rfl) hF rfl rfl rfl (fun w hS => e_move hF rfl) (hM.pick [] rfl rfl) ?_; intro a hF
        refine h_val 5 #[true, true, true, true, true, true, false, false, false, false] rfl (by kernel_rfl) hF rfl rfl rfl (fun w hS => e_move hF rfl) (hM.pick [] rfl rfl) ?_; intro a hF
        refine h_val 6 #[true, true, true, true, true, true, true, false, false, false] rfl (by kernel_rfl) hF rfl rfl rfl (fun w hS => e_sub hF rfl rfl) (hM.pick [] rfl rfl) ?_; intro a hF
        have f21 := (q0.frm hM.frm).toF
        refine h_val 7 #[true, true, true, true, true, true, true, true, false, false] rfl (by kernel_rfl) hF rfl rfl rfl (fun w hS => e_ias cd3 hF rfl rfl f21 Try.underlying42 Try.sizeOf3 c17.1 c17.2) (hM.pick [] rfl rfl) ?_; intro a hF
        refine h_val 8 #[true, true, true, true, true, true, true, true, true, false] rfl (by kernel_rfl) hF rfl rfl rfl (fun w hS => e_lds (m := (wrap64 (x14 - 1))) hF rfl (q0.frm hS.frm) (getD_some (z := (0 : Int)) c17.1 c17.2) rfl rfl Try.isAgg3) (hM.pick [] rfl rfl) ?_; intro a hF
        refine h_one 9 #[true, true, true, true, true, true, true, true, true, true] rfl (by kernel_rfl) ?_
        refine s_call hF rfl rfl rfl Try.call102 (cmp_Less_int.calls K (l0.getD (x14 : Int).toNat (0 : Int)) (l0.getD ((wrap64 (x14 - 1)) : Int).toNat (0 : Int)) t18 h19) ?_; intro a w v hF hf hR
        subst hR; have hM := hM.grow hf
        refine s_nil ⟨rfl, (hM.pick [] rfl rfl), ?_⟩
        refine h_done rfl ?_
        refine then_n ?_
        rcases ite_cases H with ⟨c22, H⟩ | ⟨c22, H⟩
        ·
          refine s_cond_t hF rfl c22 ?_
          refine wp_seq ?_
          refine s_region ?_
          refine s_val hF rfl rfl rfl (e_assign hF rfl) ?_; intro a hF
          refine s_nil ?_
          refine then_n ?_
          refine wp_ret ?_
          refine blk_r ?_
          refine then_r ?_
          refine then_r ?_
          exact Or.inr (⟨rfl, false, some_some H, hF.sub _ ⟨rfl, trivial⟩, hM.pick [] rfl rfl⟩)
        ·
          refine s_cond_f hF rfl (bf c22) ?_
          refine wp_skip ?_
          refine blk_n ?_
          refine then_n ?_
          refine s_region ?_
          refine s_val hF rfl rfl rfl (e_move hF rfl) ?_; intro a hF
          refine s_val hF rfl rfl rfl (e_sub hF rfl rfl) ?_; intro a hF
          refine s_val hF rfl rfl rfl (e_assign hF rfl) ?_; intro a hF
          refine s_nil ?_
          refine then_n ?_
          exact ⟨(wrap64 (x14 - 1)), H, hF.sub _ ⟨rfl, rfl, trivial⟩, hM.pick [] rfl rfl⟩
      ·
        refine s_cond_f hF rfl (decide_eq_false c15) ?_
        refine wp_exit ?_
        refine then_x ?_
        refine then_x ?_
        exact Or.inl (⟨rfl, some_some H, hF.sub _ trivial, hM.pick [] rfl rfl⟩)
  · rintro e a w (⟨rfl, rfl, hF, hM⟩ | ⟨rfl, r25, rfl, hF, hM⟩)
    ·
      dsimp only at H
      refine blk_x ?_
      refine then_n ?_
      refine wp_seq ?_
      refine s_region ?_
      refine s_val hF rfl rfl rfl (e_assign hF rfl) ?_; intro a hF
      refine s_nil ?_
      refine then_n ?_
      refine wp_ret ?_
      obtain rfl := some_some H
      refine s_ret [Value.bool true] hF Try.results88 ⟨rfl, trivial⟩ ?_
      exact ⟨_, rfl, hM.frm, rfl⟩
    ·
      dsimp only at H
      refine blk_r ?_
      refine then_r ?_
      obtain rfl := some_some H
      refine s_ret [Value.bool r25] hF Try.results88 ⟨rfl, trivial⟩ ?_
      exact ⟨_, rfl, hM.frm, rfl⟩

/-! ### loop.example/g01210/impl.IsDie: function 50 -/
def impl_IsDie.f (K : Nat) (a0 : (Ar 6)) : Option Bool := (impl_areAll_int__isFace.f K a0.l).bind fun t2 => if t2 = true then ((slices_IsSorted_int_int.f K a0.l).bind fun t5 => some t5) else (some false)
set_option maxRecDepth 100000 in
set_option maxHeartbeats 4000000 in
theorem impl_IsDie.calls {w0 : World} (K : Nat) (a0 : (Ar 6)) (r : Bool) (H : impl_IsDie.f K a0 = some r) : Calls Try.prog 50 [ag [Pt.ar a0]].toArray w0 (Post w0 fun w v => v = Value.bool r) := by
  rw [impl_IsDie.f] at H
  refine s_start Try.func50 rfl Try.ntmps50 rfl ?_
  intro a hF
  have hM := Ms.start w0
  skip
  refine wp_seq ?_
  refine s_region ?_
  refine s_box (ps := [Pt.ar a0]) hF hM rfl rfl rfl rfl ?_; intro a w b1 hF hM
  refine s_val hF rfl rfl rfl (e_assign hF rfl) ?_; intro a hF
  refine s_nil ?_
  refine then_n ?_
  refine wp_seq ?_
  obtain ⟨t2, h3, H⟩ := bind_some H
  rcases ite_cases H with ⟨c4, H⟩ | ⟨c4, H⟩
  ·
    obtain ⟨t5, h6, H⟩ := bind_some H
    refine s_region ?_
    refine s_val hF rfl rfl rfl (e_slA0 hF rfl Try.underlying22 Try.sizeOf3) ?_; intro a hF
    refine s_call hF rfl rfl rfl Try.call86 (impl_areAll_int__isFace.calls K a0.l (Value.slice (some ⟨b1, 0, none⟩) 6 6) (hM.boxSl (k := 0) (m := 6) 0 rfl rfl rfl cd3 (fun _ => rfl) 6 (by decide)) t2 h3) ?_; intro a w v hF hf hR
    subst hR; have hM := hM.grow hf
    refine s_val hF rfl rfl rfl (e_move hF rfl) ?_; intro a hF
    have hF := hF.topb c4
    refine s_val hF rfl rfl rfl (e_slA0 hF rfl Try.underlying22 Try.sizeOf3) ?_; intro a hF
    refine s_call hF rfl rfl rfl Try.call88 (slices_IsSorted_int_int.calls K a0.l (Value.slice (some ⟨b1, 0, none⟩) 6 6) (hM.boxSl (k := 0) (m := 6) 0 rfl rfl rfl cd3 (fun _ => rfl) 6 (by decide)) t5 h6) ?_; intro a w v hF hf hR
    subst hR; have hM := hM.grow hf
    refine s_val hF rfl rfl rfl (e_pick_t hF rfl rfl) ?_; intro a hF
    refine s_val hF rfl rfl rfl (e_assign hF rfl) ?_; intro a hF
    refine s_nil ?_
    refine then_n ?_
    refine wp_ret ?_
    obtain rfl := some_some H
    refine s_ret [Value.bool t5] hF Try.results50 ⟨rfl, trivial⟩ ?_
    exact ⟨_, rfl, hM.frm, rfl⟩
  ·
    refine s_region ?_
    refine s_val hF rfl rfl rfl (e_slA0 hF rfl Try.underlying22 Try.sizeOf3) ?_; intro a hF
    refine s_call hF rfl rfl rfl Try.call86 (impl_areAll_int__isFace.calls K a0.l (Value.slice (some ⟨b1, 0, none⟩) 6 6) (hM.boxSl (k := 0) (m := 6) 0 rfl rfl rfl cd3 (fun _ => rfl) 6 (by decide)) t2 h3) ?_; intro a w v hF hf hR
    subst hR; have hM := hM.grow hf
    refine s_val hF rfl rfl rfl (e_move hF rfl) ?_; intro a hF
    have hF := hF.topb (bf c4)
    refine s_skip hF rfl rfl rfl ?_; intro a hF
    refine s_skip hF rfl rfl rfl ?_; intro a hF
    refine s_val hF rfl rfl rfl (e_pick_f hF rfl rfl) ?_; intro a hF
    refine s_val hF rfl rfl rfl (e_assign hF rfl) ?_; intro a hF
    refine s_nil ?_
    refine then_n ?_
    refine wp_ret ?_
    obtain rfl := some_some H
    refine s_ret [Value.bool false] hF Try.results50 ⟨rfl, trivial⟩ ?_
    exact ⟨_, rfl, hM.frm, rfl⟩

/-! ### slices.Index[[]int,int]: function 103 -/
def slices_Index_int_int.l0 (K : Nat) (l0 : (List Int)) (a1 : Int) : Nat → Int → Option (Sum Unit Int)
  | 0, _ => none
  | k + 1, x8 => if x8 < (l0.length : Int) then (if (0 : Int) ≤ x8 ∧ x8 < (l0.length : Int) then (if a1 = (l0.getD (x8 : Int).toNat (0 : Int)) then (some (Sum.inr x8)) else (slices_Index_int_int.l0 K l0 a1 k (wrap64 (x8 + 1)))) else none) else (some (Sum.inl ()))
def slices_Index_int_int.f (K : Nat) (l0 : (List Int)) (a1 : Int) : Option Int := (slices_Index_int_int.l0 K l0 a1 K 0).bind fun o12 => (match o12 with | .inl () => some (-1) | .inr r14 => some r14)
set_option maxRecDepth 100000 in
set_option maxHeartbeats 4000000 in
theorem slices_Index_int_int.calls {w0 : World} (K : Nat) (l0 : (List Int)) (u0 : Value) (q0 : SlR cd3 w0 u0 l0) (a1 : Int) (r : Int) (H : slices_Index_int_int.f K l0 a1 = some r) : Calls Try.prog 103 [u0, Value.int .i64 a1].toArray w0 (Post w0 fun w v => v = Value.int .i64 r) := by
  rw [slices_Index_int_int.f] at H
  refine s_start Try.func103 rfl Try.ntmps103 rfl ?_
  intro a hF
  have hM := Ms.start w0
  skip
  refine wp_seq ?_
  refine s_region ?_
  refine s_val hF rfl rfl rfl (e_assign hF rfl) ?_; intro a hF
  refine s_nil ?_
  refine then_n ?_
  refine wp_seq ?_
  refine wp_seq ?_
  refine s_region ?_
  refine s_val hF rfl rfl rfl (e_move hF rfl) ?_; intro a hF
  refine s_val hF rfl rfl rfl (e_len hF rfl (q0.frm hM.frm).toF Try.underlying42) ?_; intro a hF
  refine s_val hF rfl rfl rfl (e_move hF rfl) ?_; intro a hF
  refine s_nil ?_
  refine then_n ?_
  refine wp_block ?_
  obtain ⟨o12, h13, H⟩ := bind_some H
  refine wp_mono (Q := fun e a w => (e = Exit.exit 0 ∧ Sum.inl () = o12 ∧ Fr 19 a [] ∧ Ms [] w0 w []) ∨ (e = Exit.ret ∧ ∃ r14 : Int, Sum.inr r14 = o12 ∧ Fr 19 a [(4, Value.int .i64 r14)] ∧ Ms [] w0 w [])) ?_ ?_
  · refine s_loop (fun kq a w => ∃ x8 : Int, slices_Index_int_int.l0 K l0 a1 kq x8 = some o12 ∧ Fr 19 a [(0, u0), (1, Value.int .i64 a1), (7, Value.int .i64 (l0.length : Int)), (8, Value.int .i64 x8)] ∧ Ms [] w0 w []) K ⟨0, h13, hF.sub _ ⟨rfl, rfl, rfl, rfl, trivial⟩, hM.pick [] rfl rfl⟩ ?_ ?_
    · rintro a w ⟨_, H, _⟩; exact none_some H
    · rintro k a w ⟨x8, H, hF, hM⟩; rw [slices_Index_int_int.l0] at H
      refine wp_seq ?_
      refine s_region ?_
      refine s_val hF rfl rfl rfl (e_lss hF rfl rfl) ?_; intro a hF
      refine s_nil ?_
      refine then_n ?_
      refine wp_seq ?_
      rcases ite_cases H with ⟨c9, H⟩ | ⟨c9, H⟩
      ·
        refine s_cond_t hF rfl (decide_eq_true c9) ?_
        refine wp_skip ?_
        refine then_n ?_
        refine wp_seq ?_
        refine wp_block ?_
        refine wp_seq ?_
        refine s_region ?_
        refine s_val hF rfl rfl rfl (e_move hF rfl) ?_; intro a hF
        refine s_val hF rfl rfl rfl (e_assign hF rfl) ?_; intro a hF
        refine s_nil ?_
        refine then_n ?_
        refine wp_seq ?_
        obtain ⟨c10, H⟩ := ite_some H
        refine s_region ?_
        refine s_val hF rfl rfl rfl (e_move hF rfl) ?_; intro a hF
        refine s_val hF rfl rfl rfl (e_move hF rfl) ?_; intro a hF
        refine s_val hF rfl rfl rfl (e_move hF rfl) ?_; intro a hF
        refine s_val hF rfl rfl rfl (e_ias cd3 hF rfl rfl (q0.frm hM.frm).toF Try.underlying42 Try.sizeOf3 c10.1 c10.2) ?_; intro a hF
        refine s_val hF rfl rfl rfl (e_lds (m := x8) hF rfl (q0.frm hM.frm) (getD_some (z := (0 : Int)) c10.1 c10.2) rfl rfl Try.isAgg3) ?_; intro a hF
        refine s_val hF rfl rfl rfl (e_eql hF rfl rfl) ?_; intro a hF
        refine s_nil ?_
        refine then_n ?_
        rcases ite_cases H with ⟨c11, H⟩ | ⟨c11, H⟩
        ·
          refine s_cond_t hF rfl (decide_eq_true c11) ?_
          refine wp_seq ?_
          refine s_region ?_
          refine s_val hF rfl rfl rfl (e_move hF rfl) ?_; intro a hF
          refine s_val hF rfl rfl rfl (e_assign hF rfl) ?_; intro a hF
          refine s_nil ?_
          refine then_n ?_
          refine wp_ret ?_
          refine blk_r ?_
          refine then_r ?_
          refine then_r ?_
          exact Or.inr (⟨rfl, x8, some_some H, hF.sub _ ⟨rfl, trivial⟩, hM.pick [] rfl rfl⟩)
        ·
          refine s_cond_f hF rfl (decide_eq_false c11) ?_
          refine wp_skip ?_
          refine blk_n ?_
          refine then_n ?_
          refine s_region ?_
          refine s_val hF rfl rfl rfl (e_add hF rfl rfl) ?_; intro a hF
          refine s_val hF rfl rfl rfl (e_move hF rfl) ?_; intro a hF
          refine s_nil ?_
          refine then_n ?_
          exact ⟨(wrap64 (x8 + 1)), H, hF.sub _ ⟨rfl, rfl, rfl, rfl, trivial⟩, hM.pick [] rfl rfl⟩
      ·
        refine s_cond_f hF rfl (decide_eq_false c9) ?_
        refine wp_exit ?_
        refine then_x ?_
        refine then_x ?_
        exact Or.inl (⟨rfl, some_some H, hF.sub _ trivial, hM.pick [] rfl rfl⟩)
  · rintro e a w (⟨rfl, rfl, hF, hM⟩ | ⟨rfl, r14, rfl, hF, hM⟩)
    ·
      dsimp only at H
      refine blk_x ?_
      refine then_n ?_
      refine wp_seq ?_
      refine s_region ?_
      refine s_val hF rfl rfl rfl (e_assign hF rfl) ?_; intro a hF
      refine s_nil ?_
      refine then_n ?_
      refine wp_ret ?_
      obtain rfl := some_some H
      refine s_ret [Value.int .i64 (-1)] hF Try.results103 ⟨rfl, trivial⟩ ?_
      exact ⟨_, rfl, hM.frm, rfl⟩
    ·
      dsimp only at H
      refine blk_r ?_
      refine then_r ?_
      obtain rfl := some_some H
      refine s_ret [Value.int .i64 r14] hF Try.results103 ⟨rfl, trivial⟩ ?_
      exact ⟨_, rfl, hM.frm, rfl⟩

/-! ### slices.Contains[[]int,int]: function 91 -/
def slices_Contains_int_int.f (K : Nat) (l0 : (List Int)) (a1 : Int) : Option Bool := (slices_Index_int_int.f K l0 a1).bind fun t1 => some (decide (0 ≤ t1))
set_option maxRecDepth 100000 in
set_option maxHeartbeats 4000000 in
theorem slices_Contains_int_int.calls {w0 : World} (K : Nat) (l0 : (List Int)) (u0 : Value) (q0 : SlR cd3 w0 u0 l0) (a1 : Int) (r : Bool) (H : slices_Contains_int_int.f K l0 a1 = some r) : Calls Try.prog 91 [u0, Value.int .i64 a1].toArray w0 (Post w0 fun w v => v = Value.bool r) := by
  rw [slices_Contains_int_int.f] at H
  refine s_start Try.func91 rfl Try.ntmps91 rfl ?_
  intro a hF
  have hM := Ms.start w0
  skip
  refine wp_seq ?_
  refine s_region ?_
  refine s_val hF rfl rfl rfl (e_assign hF rfl) ?_; intro a hF
  refine s_nil ?_
  refine then_n ?_
  refine wp_seq ?_
  obtain ⟨t1, h2, H⟩ := bind_some H
  refine s_region ?_
  refine s_val hF rfl rfl rfl (e_move hF rfl) ?_; intro a hF
  refine s_val hF rfl rfl rfl (e_move hF rfl) ?_; intro a hF
  refine s_call hF rfl rfl rfl Try.call103 (slices_Index_int_int.calls K l0 u0 (q0.frm hM.frm) a1 t1 h2) ?_; intro a w v hF hf hR
  subst hR; have hM := hM.grow hf
  refine s_val hF rfl rfl rfl (e_geq hF rfl rfl) ?_; intro a hF
  refine s_val hF rfl rfl rfl (e_assign hF rfl) ?_; intro a hF
  refine s_nil ?_
  refine then_n ?_
  refine wp_ret ?_
  obtain rfl := some_some H
  refine s_ret [Value.bool (decide (0 ≤ t1))] hF Try.results91 ⟨rfl, trivial⟩ ?_
  exact ⟨_, rfl, hM.frm, rfl⟩

/-! ### loop.example/g01210/impl.has: function 59 -/
def impl_has.f (K : Nat) (a0 : (Ar 6)) (a1 : Int) : Option Bool := (slices_Contains_int_int.f K a0.l a1).bind fun t2 => some t2
set_option maxRecDepth 100000 in
set_option maxHeartbeats 4000000 in
theorem impl_has.calls {w0 : World} (K : Nat) (a0 : (Ar 6)) (a1 : Int) (r : Bool) (H : impl_has.f K a0 a1 = some r) : Calls Try.prog 59 [ag [Pt.ar a0], Value.int .i64 a1].toArray w0 (Post w0 fun w v => v = Value.bool r) := by
  rw [impl_has.f] at H
  refine s_start Try.func59 rfl Try.ntmps59 rfl ?_
  intro a hF
  have hM := Ms.start w0
  skip
  refine wp_seq ?_
  refine s_region ?_
  refine s_box (ps := [Pt.ar a0]) hF hM rfl rfl rfl rfl ?_; intro a w b1 hF hM
  refine s_val hF rfl rfl rfl (e_assign hF rfl) ?_; intro a hF
  refine s_nil ?_
  refine then_n ?_
  refine wp_seq ?_
  obtain ⟨t2, h3, H⟩ := bind_some H
  refine s_region ?_
  refine s_val hF rfl rfl rfl (e_slA0 hF rfl Try.underlying22 Try.sizeOf3) ?_; intro a hF
  refine s_val hF rfl rfl rfl (e_move hF rfl) ?_; intro a hF
  refine s_call hF rfl rfl rfl Try.call91 (slices_Contains_int_int.calls K a0.l (Value.slice (some ⟨b1, 0, none⟩) 6 6) (hM.boxSl (k := 0) (m := 6) 0 rfl rfl rfl cd3 (fun _ => rfl) 6 (by decide)) a1 t2 h3) ?_; intro a w v hF hf hR
  subst hR; have hM := hM.grow hf
  refine s_val hF rfl rfl rfl (e_assign hF rfl) ?_; intro a hF
  refine s_nil ?_
  refine then_n ?_
  refine wp_ret ?_
  obtain rfl := some_some H
  refine s_ret [Value.bool t2] hF Try.results59 ⟨rfl, trivial⟩ ?_
  exact ⟨_, rfl, hM.frm, rfl⟩

/-! ### loop.example/g01210/impl.isPhrase$1: function 97 -/
def impl_isPhrase_1__c.f (K : Nat) (a0 : Int) (y3 : (Ar 6)) : Option Bool := (impl_has.f K y3 a0).bind fun t4 => some t4
set_option maxRecDepth 100000 in
set_option maxHeartbeats 4000000 in
theorem impl_isPhrase_1__c.calls {w0 : World} (K : Nat) (a0 : Int) (b1 : Nat) (y3 : (Ar 6)) (q2 : (boxR b1 [Pt.ar y3] 22).holds w0) (r : Bool) (H : impl_isPhrase_1__c.f K a0 y3 = some r) : Calls Try.prog 97 [Value.int .i64 a0, pt b1 0].toArray w0 (Post w0 fun w v => v = Value.bool r) := by
  rw [impl_isPhrase_1__c.f] at H
  refine s_start Try.func97 rfl Try.ntmps97 rfl ?_
  intro a hF
  have hM := Ms.start w0
  skip
  refine wp_seq ?_
  refine s_region ?_
  refine s_val hF rfl rfl rfl (e_assign hF rfl) ?_; intro a hF
  refine s_nil ?_
  refine then_n ?_
  refine wp_seq ?_
  obtain ⟨t4, h5, H⟩ := bind_some H
  refine s_region ?_
  refine s_val hF rfl rfl rfl (e_lda (i := 0) 0 1 hF (lent_ms (box_frm q2 hM.frm)) rfl rfl rfl rfl Try.isAgg22 Try.sizeOf22 rfl) ?_; intro a hF
  refine s_val hF rfl rfl rfl (e_move hF rfl) ?_; intro a hF
  refine s_call hF rfl rfl rfl Try.call59 (impl_has.calls K y3 a0 t4 h5) ?_; intro a w v hF hf hR
  subst hR; have hM := hM.grow hf
  refine s_val hF rfl rfl rfl (e_assign hF rfl) ?_; intro a hF
  refine s_nil ?_
  refine then_n ?_
  refine wp_ret ?_
  obtain rfl := some_some H
  refine s_ret [Value.bool t4] hF Try.results97 ⟨rfl, trivial⟩ ?_
  exact ⟨_, rfl, hM.frm, rfl⟩

/-! ### loop.example/g01210/impl.areAll[int]$1: function 101 -/
def impl_areAll_int_1__isPhrase_1.f (K : Nat) (a0 : Int) (y5 : (Ar 6)) : Option Bool := (impl_isPhrase_1__c.f K a0 y5).bind fun t6 => some (!t6)
set_option maxRecDepth 100000 in
set_option maxHeartbeats 4000000 in
theorem impl_areAll_int_1__isPhrase_1.calls {w0 : World} (K : Nat) (a0 : Int) (b3 : Nat) (y5 : (Ar 6)) (q4 : (boxR b3 [Pt.ar y5] 22).holds w0) (b1 : Nat) (q2 : (boxR b1 [Pt.val (Value.func (.func 97) #[] #[pt b3 0]) rfl] 58).holds w0) (r : Bool) (H : impl_areAll_int_1__isPhrase_1.f K a0 y5 = some r) : Calls Try.prog 101 [Value.int .i64 a0, pt b1 0].toArray w0 (Post w0 fun w v => v = Value.bool r) := by
  rw [impl_areAll_int_1__isPhrase_1.f] at H
  refine s_start Try.func101 rfl Try.ntmps101 rfl ?_
  intro a hF
  have hM := Ms.start w0
  skip
  refine wp_seq ?_
  refine s_region ?_
  refine s_val hF rfl rfl rfl (e_assign hF rfl) ?_; intro a hF
  refine s_nil ?_
  refine then_n ?_
  refine wp_seq ?_
  obtain ⟨t6, h7, H⟩ := bind_some H
  refine s_region ?_
  refine s_val hF rfl rfl rfl (e_ld (i := 0) (k := 0) hF (lent_ms (box_frm q2 hM.frm)) rfl rfl rfl rfl Try.isAgg58 rfl) ?_; intro a hF
  refine s_val hF rfl rfl rfl (e_move hF rfl) ?_; intro a hF
  refine s_callv hF rfl rfl rfl rfl (callsV_of Try.call97 (impl_isPhrase_1__c.calls K a0 b3 y5 (box_frm q4 hM.frm) t6 h7)) ?_; intro a w v hF ⟨hf, hR⟩
  subst hR; have hM := hM.grow hf
  refine s_val hF rfl rfl rfl (e_not hF rfl) ?_; intro a hF
  refine s_val hF rfl rfl rfl (e_assign hF rfl) ?_; intro a hF
  refine s_nil ?_
  refine then_n ?_
  refine wp_ret ?_
  obtain rfl := some_some H
  refine s_ret [Value.bool (!t6)] hF Try.results101 ⟨rfl, trivial⟩ ?_
  exact ⟨_, rfl, hM.frm, rfl⟩

/-! ### slices.IndexFunc[[]int,int]: function 104 -/
def slices_IndexFunc_int_int__areAll_int_1_isPhrase_1.l0 (K : Nat) (l0 : (List Int)) (y5 : (Ar 6)) : Nat → Int → Option (Sum Unit Int)
  | 0, _ => none
  | k + 1, x17 => if x17 < (l0.length : Int) then (if (0 : Int) ≤ x17 ∧ x17 < (l0.length : Int) then ((impl_areAll_int_1__isPhrase_1.f K (l0.getD (x17 : Int).toNat (0 : Int)) y5).bind fun t20 => if t20 = true then (some (Sum.inr x17)) else (slices_IndexFunc_int_int__areAll_int_1_isPhrase_1.l0 K l0 y5 k (wrap64 (x17 + 1)))) else none) else (some (Sum.inl ()))
def slices_IndexFunc_int_int__areAll_int_1_isPhrase_1.f (K : Nat) (l0 : (List Int)) (y5 : (Ar 6)) : Option Int := (slices_IndexFunc_int_int__areAll_int_1_isPhrase_1.l0 K l0 y5 K 0).bind fun o23 => (match o23 with | .inl () => some (-1) | .inr r25 => some r25)
set_option maxRecDepth 100000 in
set_option maxHeartbeats 4000000 in
theorem slices_IndexFunc_int_int__areAll_int_1_isPhrase_1.calls {w0 : World} (K : Nat) (l0 : (List Int)) (u0 : Value) (q0 : SlR cd3 w0 u0 l0) (b3 : Nat) (y5 : (Ar 6)) (q4 : (boxR b3 [Pt.ar y5] 22).holds w0) (b1 : Nat) (q2 : (boxR b1 [Pt.val (Value.func (.func 97) #[] #[pt b3 0]) rfl] 58).holds w0) (r : Int) (H : slices_IndexFunc_int_int__areAll_int_1_isPhrase_1.f K l0 y5 = some r) : Calls Try.prog 104 [u0, Value.func (.func 101) #[] #[pt b1 0]].toArray w0 (Post w0 fun w v => v = Value.int .i64 r) := by
  rw [slices_IndexFunc_int_int__areAll_int_1_isPhrase_1.f] at H
  refine s_start Try.func104 rfl Try.ntmps104 rfl ?_
  intro a hF
  have hM := Ms.start w0
  skip
  refine wp_seq ?_
  refine s_region ?_
  refine s_val hF rfl rfl rfl (e_assign hF rfl) ?_; intro a hF
  refine s_nil ?_
  refine then_n ?_
  refine wp_seq ?_
  refine wp_seq ?_
  refine s_region ?_
  refine s_val hF rfl rfl rfl (e_move hF rfl) ?_; intro a hF
  refine s_val hF rfl rfl rfl (e_len hF rfl (q0.frm hM.frm).toF Try.underlying42) ?_; intro a hF
  refine s_val hF rfl rfl rfl (e_move hF rfl) ?_; intro a hF
  refine s_nil ?_
  refine then_n ?_
  refine wp_block ?_
  obtain ⟨o23, h24, H⟩ := bind_some H
  refine wp_mono (Q := fun e a w => (e = Exit.exit 0 ∧ Sum.inl () = o23 ∧ Fr 19 a [] ∧ Ms [] w0 w []) ∨ (e = Exit.ret ∧ ∃ r25 : Int, Sum.inr r25 = o23 ∧ Fr 19 a [(4, Value.int .i64 r25)] ∧ Ms [] w0 w [])) ?_ ?_
  · refine s_loop (fun kq a w => ∃ x17 : Int, slices_IndexFunc_int_int__areAll_int_1_isPhrase_1.l0 K l0 y5 kq x17 = some o23 ∧ Fr 19 a [(0, u0), (1, Value.func (.func 101) #[] #[pt b1 0]), (7, Value.int .i64 (l0.length : Int)), (8, Value.int .i64 x17)] ∧ Ms [] w0 w []) K ⟨0, h24, hF.sub _ ⟨rfl, rfl, rfl, rfl, trivial⟩, hM.pick [] rfl rfl⟩ ?_ ?_
    · rintro a w ⟨_, H, _⟩; exact none_some H
    · rintro k a w ⟨x17, H, hF, hM⟩; rw [slices_IndexFunc_int_int__areAll_int_1_isPhrase_1.l0] at H
      refine wp_seq ?_
      refine s_region ?_
      refine s_val hF rfl rfl rfl (e_lss hF rfl rfl) ?_; intro a hF
      refine s_nil ?_
      refine then_n ?_
      refine wp_seq ?_
      rcases ite_cases H with ⟨c18, H⟩ | ⟨c18, H⟩
      ·
        refine s_cond_t hF rfl (decide_eq_true c18) ?_
        refine wp_skip ?_
        refine then_n ?_
        refine wp_seq ?_
        refine wp_block ?_
        refine wp_seq ?_
        refine s_region ?_
        refine s_val hF rfl rfl rfl (e_move hF rfl) ?_; intro a hF
        refine s_val hF rfl rfl rfl (e_assign hF rfl) ?_; intro a hF
        refine s_nil ?_
        refine then_n ?_
        refine wp_seq ?_
        obtain ⟨c19, H⟩ := ite_some H
        obtain ⟨t20, h21, H⟩ := bind_some H
        refine s_region ?_
        refine s_val hF rfl rfl rfl (e_move hF rfl) ?_; intro a hF
        refine s_val hF rfl rfl rfl (e_move hF rfl) ?_; intro a hF
        refine s_val hF rfl rfl rfl (e_move hF rfl) ?_; intro a hF
        refine s_val hF rfl rfl rfl (e_ias cd3 hF rfl rfl (q0.frm hM.frm).toF Try.underlying42 Try.sizeOf3 c19.1 c19.2) ?_; intro a hF
        refine s_val hF rfl rfl rfl (e_lds (m := x17) hF rfl (q0.frm hM.frm) (getD_some (z := (0 : Int)) c19.1 c19.2) rfl rfl Try.isAgg3) ?_; intro a hF
        refine s_callv hF rfl rfl rfl rfl (callsV_of Try.call101 (impl_areAll_int_1__isPhrase_1.calls K (l0.getD (x17 : Int).toNat (0 : Int)) b3 y5 (box_frm q4 hM.frm) b1 (box_frm q2 hM.frm) t20 h21)) ?_; intro a w v hF ⟨hf, hR⟩
        subst hR; have hM := hM.grow hf
        refine s_nil ?_
        refine then_n ?_
        rcases ite_cases H with ⟨c22, H⟩ | ⟨c22, H⟩
        ·
          refine s_cond_t hF rfl c22 ?_
          refine wp_seq ?_
          refine s_region ?_
          refine s_val hF rfl rfl rfl (e_move hF rfl) ?_; intro a hF
          refine s_val hF rfl rfl rfl (e_assign hF rfl) ?_; intro a hF
          refine s_nil ?_
          refine then_n ?_
          refine wp_ret ?_
          refine blk_r ?_
          refine then_r ?_
          refine then_r ?_
          exact Or.inr (⟨rfl, x17, some_some H, hF.sub _ ⟨rfl, trivial⟩, hM.pick [] rfl rfl⟩)
        ·
          refine s_cond_f hF rfl (bf c22) ?_
          refine wp_skip ?_
          refine blk_n ?_
          refine then_n ?_
          refine s_region ?_
          refine s_val hF rfl rfl rfl (e_add hF rfl rfl) ?_; intro a hF
          refine s_val hF rfl rfl rfl (e_move hF rfl) ?_; intro a hF
          refine s_nil ?_
          refine then_n ?_
          exact ⟨(wrap64 (x17 + 1)), H, hF.sub _ ⟨rfl, rfl, rfl, rfl, trivial⟩, hM.pick [] rfl rfl⟩
      ·
        refine s_cond_f hF rfl (decide_eq_false c18) ?_
        refine wp_exit ?_
        refine then_x ?_
        refine then_x ?_
        exact Or.inl (⟨rfl, some_some H, hF.sub _ trivial, hM.pick [] rfl rfl⟩)
  · rintro e a w (⟨rfl, rfl, hF, hM⟩ | ⟨rfl, r25, rfl, hF, hM⟩)
    ·
      dsimp only at H
      refine blk_x ?_
      refine then_n ?_
      refine wp_seq ?_
      refine s_region ?_
      refine s_val hF rfl rfl rfl (e_assign hF rfl) ?_; intro a hF
      refine s_nil ?_
      refine then_n ?_
      refine wp_ret ?_
      obtain rfl := some_some H
      refine s_ret [Value.int .i64 (-1)] hF Try.results104 ⟨rfl, trivial⟩ ?_
      exact ⟨_, rfl, hM.frm, rfl⟩
    ·
      dsimp only at H
      refine blk_r ?_
      refine then_r ?_
      obtain rfl := some_some H
      refine s_ret [Value.int .i64 r25] hF Try.results104 ⟨rfl, trivial⟩ ?_
      exact ⟨_, rfl, hM.frm, rfl⟩

/-! ### slices.ContainsFunc[[]int,int]: function 100 -/
def slices_ContainsFunc_int_int__areAll_int_1_isPhrase_1.f (K : Nat) (l0 : (List Int)) (y5 : (Ar 6)) : Option Bool := (slices_IndexFunc_int_int__areAll_int_1_isPhrase_1.f K l0 y5).bind fun t6 => some (decide (0 ≤ t6))
set_option maxRecDepth 100000 in
set_option maxHeartbeats 4000000 in
theorem slices_ContainsFunc_int_int__areAll_int_1_isPhrase_1.calls {w0 : World} (K : Nat) (l0 : (List Int)) (u0 : Value) (q0 : SlR cd3 w0 u0 l0) (b3 : Nat) (y5 : (Ar 6)) (q4 : (boxR b3 [Pt.ar y5] 22).holds w0) (b1 : Nat) (q2 : (boxR b1 [Pt.val (Value.func (.func 97) #[] #[pt b3 0]) rfl] 58).holds w0) (r : Bool) (H : slices_ContainsFunc_int_int__areAll_int_1_isPhrase_1.f K l0 y5 = some r) : Calls Try.prog 100 [u0, Value.func (.func 101) #[] #[pt b1 0]].toArray w0 (Post w0 fun w v => v = Value.bool r) := by
  rw [slices_ContainsFunc_int_int__areAll_int_1_isPhrase_1.f] at H
  refine s_start Try.func100 rfl Try.ntmps100 rfl ?_
  intro a hF
  have hM := Ms.start w0
  skip
  refine wp_seq ?_
  refine s_region ?_
  refine s_val hF rfl rfl rfl (e_assign hF rfl) ?_; intro a hF
  refine s_nil ?_
  refine then_n ?_
  refine wp_seq ?_
  obtain ⟨t6, h7, H⟩ := bind_some H
  refine s_region ?_
  refine s_val hF rfl rfl rfl (e_move hF rfl) ?_; intro a hF
  refine s_val hF rfl rfl rfl (e_move hF rfl) ?_; intro a hF
  refine s_call hF rfl rfl rfl Try.call104 (slices_IndexFunc_int_int__areAll_int_1_isPhrase_1.calls K l0 u0 (q0.frm hM.frm) b3 y5 (box_frm q4 hM.frm) b1 (box_frm q2 hM.frm) t6 h7) ?_; intro a w v hF hf hR
  subst hR; have hM := hM.grow hf
  refine s_val hF rfl rfl rfl (e_geq hF rfl rfl) ?_; intro a hF
  refine s_val hF rfl rfl rfl (e_assign hF rfl) ?_; intro a hF
  refine s_nil ?_
  refine then_n ?_
  refine wp_ret ?_
  obtain rfl := some_some H
  refine s_ret [Value.bool (decide (0 ≤ t6))] hF Try.results100 ⟨rfl, trivial⟩ ?_
  exact ⟨_, rfl, hM.frm, rfl⟩

/-! ### loop.example/g01210/impl.areAll[int]: function 86 -/
def impl_areAll_int__isPhrase_1.f (K : Nat) (l0 : (List Int)) (y3 : (Ar 6)) : Option Bool := (slices_ContainsFunc_int_int__areAll_int_1_isPhrase_1.f K l0 y3).bind fun t5 => some (!t5)
set_option maxRecDepth 100000 in
set_option maxHeartbeats 4000000 in
theorem impl_areAll_int__isPhrase_1.calls {w0 : World} (K : Nat) (l0 : (List Int)) (u0 : Value) (q0 : SlR cd3 w0 u0 l0) (b1 : Nat) (y3 : (Ar 6)) (q2 : (boxR b1 [Pt.ar y3] 22).holds w0) (r : Bool) (H : impl_areAll_int__isPhrase_1.f K l0 y3 = some r) : Calls Try.prog 86 [u0, Value.func (.func 97) #[] #[pt b1 0]].toArray w0 (Post w0 fun w v => v = Value.bool r) := by
  rw [impl_areAll_int__isPhrase_1.f] at H
  refine s_start Try.func86 rfl Try.ntmps86 rfl ?_
  intro a hF
  have hM := Ms.start w0
  skip
  refine wp_seq ?_
  refine s_region ?_
  refine s_box (ps := [Pt.val (Value.func (.func 97) #[] #[pt b1 0]) rfl]) hF hM rfl rfl rfl rfl ?_; intro a w b4 hF hM
  refine s_val hF rfl rfl rfl (e_assign hF rfl) ?_; intro a hF
  refine s_nil ?_
  refine then_n ?_
  refine wp_seq ?_
  obtain ⟨t5, h6, H⟩ := bind_some H
  refine s_region ?_
  refine s_val hF rfl rfl rfl (e_move hF rfl) ?_; intro a hF
  refine s_val hF rfl rfl rfl (e_mkfunc (hF.evs' rfl)) ?_; intro a hF
  refine s_call hF rfl rfl rfl Try.call100 (slices_ContainsFunc_int_int__areAll_int_1_isPhrase_1.calls K l0 u0 (q0.frm hM.frm) b1 y3 (box_frm q2 hM.frm) b4 (hM.get 0 rfl) t5 h6) ?_; intro a w v hF hf hR
  subst hR; have hM := hM.grow hf
  refine s_val hF rfl rfl rfl (e_not hF rfl) ?_; intro a hF
  refine s_val hF rfl rfl rfl (e_assign hF rfl) ?_; intro a hF
  refine s_nil ?_
  refine then_n ?_
  refine wp_ret ?_
  obtain rfl := some_some H
  refine s_ret [Value.bool (!t5)] hF Try.results86 ⟨rfl, trivial⟩ ?_
  exact ⟨_, rfl, hM.frm, rfl⟩

/-! ### loop.example/g01210/impl.isPhrase: function 76 -/
def impl_isPhrase.f (K : Nat) (a0 : (Ar 6)) (l1 : (List Int)) : Option Bool := (impl_within.f K (l1.length : Int) 1 6).bind fun t2 => if t2 = true then ((impl_areAll_int__isPhrase_1.f K l1 a0).bind fun t5 => some t5) else (some false)
set_option maxRecDepth 100000 in
set_option maxHeartbeats 4000000 in
theorem impl_isPhrase.calls {w0 : World} (K : Nat) (a0 : (Ar 6)) (l1 : (List Int)) (u1 : Value) (q1 : SlR cd3 w0 u1 l1) (r : Bool) (H : impl_isPhrase.f K a0 l1 = some r) : Calls Try.prog 76 [ag [Pt.ar a0], u1].toArray w0 (Post w0 fun w v => v = Value.bool r) := by
  rw [impl_isPhrase.f] at H
  refine s_start Try.func76 rfl Try.ntmps76 rfl ?_
  intro a hF
  have hM := Ms.start w0
  skip
  refine wp_seq ?_
  refine s_region ?_
  refine s_box (ps := [Pt.ar a0]) hF hM rfl rfl rfl rfl ?_; intro a w b1 hF hM
  refine s_val hF rfl rfl rfl (e_assign hF rfl) ?_; intro a hF
  refine s_nil ?_
  refine then_n ?_
  refine wp_seq ?_
  obtain ⟨t2, h3, H⟩ := bind_some H
  rcases ite_cases H with ⟨c4, H⟩ | ⟨c4, H⟩
  ·
    obtain ⟨t5, h6, H⟩ := bind_some H
    refine s_region ?_
    refine s_val hF rfl rfl rfl (e_move hF rfl) ?_; intro a hF
    refine s_val hF rfl rfl rfl (e_len hF rfl (q1.frm hM.frm).toF Try.underlying42) ?_; intro a hF
    refine s_call hF rfl rfl rfl Try.call51 (impl_within.calls K (l1.length : Int) 1 6 t2 h3) ?_; intro a w v hF hf hR
    subst hR; have hM := hM.grow hf
    refine s_val hF rfl rfl rfl (e_move hF rfl) ?_; intro a hF
    have hF := hF.topb c4
    refine s_val hF rfl rfl rfl (e_move hF rfl) ?_; intro a hF
    refine s_val hF rfl rfl rfl (e_mkfunc (hF.evs' rfl)) ?_; intro a hF
    refine s_call hF rfl rfl rfl Try.call86 (impl_areAll_int__isPhrase_1.calls K l1 u1 (q1.frm hM.frm) b1 a0 (hM.get 0 rfl) t5 h6) ?_; intro a w v hF hf hR
    subst hR; have hM := hM.grow hf
    refine s_val hF rfl rfl rfl (e_pick_t hF rfl rfl) ?_; intro a hF
    refine s_val hF rfl rfl rfl (e_assign hF rfl) ?_; intro a hF
    refine s_nil ?_
    refine then_n ?_
    refine wp_ret ?_
    obtain rfl := some_some H
    refine s_ret [Value.bool t5] hF Try.results76 ⟨rfl, trivial⟩ ?_
    exact ⟨_, rfl, hM.frm, rfl⟩
  ·
    refine s_region ?_
    refine s_val hF rfl rfl rfl (e_move hF rfl) ?_; intro a hF
    refine s_val hF rfl rfl rfl (e_len hF rfl (q1.frm hM.frm).toF Try.underlying42) ?_; intro a hF
    refine s_call hF rfl rfl rfl Try.call51 (impl_within.calls K (l1.length : Int) 1 6 t2 h3) ?_; intro a w v hF hf hR
    subst hR; have hM := hM.grow hf
    refine s_val hF rfl rfl rfl (e_move hF rfl) ?_; intro a hF
    have hF := hF.topb (bf c4)
    refine s_skip hF rfl rfl rfl ?_; intro a hF
    refine s_skip hF rfl rfl rfl ?_; intro a hF
    refine s_skip hF rfl rfl rfl ?_; intro a hF
    refine s_val hF rfl rfl rfl (e_pick_f hF rfl rfl) ?_; intro a hF
    refine s_val hF rfl rfl rfl (e_assign hF rfl) ?_; intro a hF
    refine s_nil ?_
    refine then_n ?_
    refine wp_ret ?_
    obtain rfl := some_some H
    refine s_ret [Value.bool false] hF Try.results76 ⟨rfl, trivial⟩ ?_
    exact ⟨_, rfl, hM.frm, rfl⟩

/-! ### loop.example/g01210/impl.isRolls: function 62 -/
def impl_isRolls.f (K : Nat) (a0 : Int) : Option Bool := (impl_within.f K a0 0 12).bind fun t1 => some t1
set_option maxRecDepth 100000 in
set_option maxHeartbeats 4000000 in
theorem impl_isRolls.calls {w0 : World} (K : Nat) (a0 : Int) (r : Bool) (H : impl_isRolls.f K a0 = some r) : Calls Try.prog 62 [Value.int .i64 a0].toArray w0 (Post w0 fun w v => v = Value.bool r) := by
  rw [impl_isRolls.f] at H
  refine s_start Try.func62 rfl Try.ntmps62 rfl ?_
  intro a hF
  have hM := Ms.start w0
  skip
  refine wp_seq ?_
  refine s_region ?_
  refine s_val hF rfl rfl rfl (e_assign hF rfl) ?_; intro a hF
  refine s_nil ?_
  refine then_n ?_
  refine wp_seq ?_
  obtain ⟨t1, h2, H⟩ := bind_some H
  refine s_region ?_
  refine s_val hF rfl rfl rfl (e_move hF rfl) ?_; intro a hF
  refine s_call hF rfl rfl rfl Try.call51 (impl_within.calls K a0 0 12 t1 h2) ?_; intro a w v hF hf hR
  subst hR; have hM := hM.grow hf
  refine s_val hF rfl rfl rfl (e_assign hF rfl) ?_; intro a hF
  refine s_nil ?_
  refine then_n ?_
  refine wp_ret ?_
  obtain rfl := some_some H
  refine s_ret [Value.bool t1] hF Try.results62 ⟨rfl, trivial⟩ ?_
  exact ⟨_, rfl, hM.frm, rfl⟩

/-! ### slices.Clone[[]int,int]: function 67 -/
def slices_Clone_int_int.f (K : Nat) (l0 : (List Int)) : Option (List Int) := if l0.length ≤ 1073741824 then some l0 else none
set_option maxRecDepth 100000 in
theorem slices_Clone_int_int.calls {w0 : World} (K : Nat) (l0 : (List Int)) (u0 : Value) (q0 : SlR cd3 w0 u0 l0) (r : (List Int)) (H : slices_Clone_int_int.f K l0 = some r) : Calls Try.prog 67 [u0].toArray w0 (Post w0 fun w v => Fresh cd3 w0.heap.size w v r) := by
  rw [slices_Clone_int_int.f] at H
  obtain ⟨c1, H⟩ := ite_some H
  obtain rfl := some_some H
  refine s_start Try.func67 rfl Try.ntmps67 rfl ?_
  intro a hF
  have hM := Ms.start w0
  refine wp_seq ?_
  refine s_region ?_
  refine s_val hF rfl rfl rfl (e_assign hF rfl) ?_; intro a hF
  refine s_nil ?_
  refine then_n ?_
  refine wp_seq ?_
  refine wp_seq ?_
  refine s_region ?_
  refine s_val hF rfl rfl rfl (e_move hF rfl) ?_; intro a hF
  refine s_val hF rfl rfl rfl (e_slnil hF rfl q0.toF Try.underlying42) ?_; intro a hF
  refine s_nil ?_
  refine then_n ?_
  cases hn : isNilV u0 with
  | true =>
    refine s_cond_t hF rfl hn ?_
    refine wp_seq ?_
    refine s_region ?_
    refine s_val hF rfl rfl rfl (e_assign hF rfl) ?_; intro a hF
    refine s_nil ?_
    refine then_n ?_
    refine wp_ret ?_
    refine then_r ?_
    obtain rfl := q0.nil_of hn
    refine s_ret [Value.slice none 0 0] hF Try.results67 ⟨rfl, trivial⟩ ?_
    exact ⟨_, rfl, hM.frm, Fresh.nil _ _ _⟩
  | false =>
    refine s_cond_f hF rfl hn ?_
    refine wp_skip ?_
    refine then_n ?_
    refine wp_seq ?_
    refine s_region ?_
    refine s_bsl (C := cd3) ([] : List Int) cdok3 hF hM rfl rfl rfl rfl Try.underlying42 rfl ?_; intro a w v1 hF hM
    refine s_val hF rfl rfl rfl (e_move hF rfl) ?_; intro a hF
    refine s_append (i := 0) cdok3 hF hM rfl rfl rfl rfl rfl (q0.frm hM.frm) Try.underlying42 (by simpa using c1) ?_; intro a w v2 hF hM
    refine s_val hF rfl rfl rfl (e_assign hF rfl) ?_; intro a hF
    refine s_nil ?_
    refine then_n ?_
    refine wp_ret ?_
    refine s_ret [v2] hF Try.results67 ⟨rfl, trivial⟩ ?_
    exact ⟨_, rfl, hM.frm, hM.give 0 rfl⟩

/-! ### slices.Equal[[]int,int]: function 98 -/
def slices_Equal_int_int.l0 (K : Nat) (l0 : (List Int)) (l1 : (List Int)) : Nat → Int → Option (Sum Unit Bool)
  | 0, _ => none
  | k + 1, x11 => if x11 < (l0.length : Int) then (if (0 : Int) ≤ x11 ∧ x11 < (l0.length : Int) then (if (0 : Int) ≤ x11 ∧ x11 < (l1.length : Int) then (if (l0.getD (x11 : Int).toNat (0 : Int)) = (l1.getD (x11 : Int).toNat (0 : Int)) then (slices_Equal_int_int.l0 K l0 l1 k (wrap64 (x11 + 1))) else (some (Sum.inr false))) else none) else none) else (some (Sum.inl ()))
def slices_Equal_int_int.f (K : Nat) (l0 : (List Int)) (l1 : (List Int)) : Option Bool := if (l0.length : Int) = (l1.length : Int) then ((slices_Equal_int_int.l0 K l0 l1 K 0).bind fun o18 => (match o18 with | .inl () => some true | .inr r20 => some r20)) else (some false)
set_option maxRecDepth 100000 in
set_option maxHeartbeats 4000000 in
theorem slices_Equal_int_int.calls {w0 : World} (K : Nat) (l0 : (List Int)) (u0 : Value) (q0 : SlR cd3 w0 u0 l0) (l1 : (List Int)) (u1 : Value) (q1 : SlR cd3 w0 u1 l1) (r : Bool) (H : slices_Equal_int_int.f K l0 l1 = some r) : Calls Try.prog 98 [u0, u1].toArray w0 (Post w0 fun w v => v = Value.bool r) := by
  rw [slices_Equal_int_int.f] at H
  refine s_start Try.func98 rfl Try.ntmps98 rfl ?_
  intro a hF
  have hM := Ms.start w0
  skip
  refine wp_seq ?_
  refine s_region ?_
  refine s_val hF rfl rfl rfl (e_assign hF rfl) ?_; intro a hF
  refine s_nil ?_
  refine then_n ?_
  refine wp_seq ?_
  refine wp_seq ?_
  refine s_region ?_
  refine s_val hF rfl rfl rfl (e_move hF rfl) ?_; intro a hF
  refine s_val hF rfl rfl rfl (e_len hF rfl (q0.frm hM.frm).toF Try.underlying42) ?_; intro a hF
  refine s_val hF rfl rfl rfl (e_move hF rfl) ?_; intro a hF
  refine s_val hF rfl rfl rfl (e_len hF rfl (q1.frm hM.frm).toF Try.underlying42) ?_; intro a hF
  refine s_val hF rfl rfl rfl (e_neq hF rfl rfl) ?_; intro a hF
  refine s_nil ?_
  refine then_n ?_
  rcases ite_cases H with ⟨c1, H⟩ | ⟨c1, H⟩
  ·
    refine s_cond_f hF rfl (congrArg Bool.not (decide_eq_true c1)) ?_
    refine wp_skip ?_
    refine then_n ?_
    refine wp_seq ?_
    refine wp_seq ?_
    refine s_region ?_
    refine s_val hF rfl rfl rfl (e_move hF rfl) ?_; intro a hF
    refine s_val hF rfl rfl rfl (e_len hF rfl (q0.frm hM.frm).toF Try.underlying42) ?_; intro a hF
    refine s_val hF rfl rfl rfl (e_move hF rfl) ?_; intro a hF
    refine s_nil ?_
    refine then_n ?_
    refine wp_block ?_
    obtain ⟨o18, h19, H⟩ := bind_some H
    refine wp_mono (Q := fun e a w => (e = Exit.exit 0 ∧ Sum.inl () = o18 ∧ Fr 26 a [] ∧ Ms [] w0 w []) ∨ (e = Exit.ret ∧ ∃ r20 : Bool, Sum.inr r20 = o18 ∧ Fr 26 a [(4, Value.bool r20)] ∧ Ms [] w0 w [])) ?_ ?_
    · refine s_loop (fun kq a w => ∃ x11 : Int, slices_Equal_int_int.l0 K l0 l1 kq x11 = some o18 ∧ Fr 26 a [(0, u0), (1, u1), (12, Value.int .i64 (l0.length : Int)), (13, Value.int .i64 x11)] ∧ Ms [] w0 w []) K ⟨0, h19, hF.sub _ ⟨rfl, rfl, rfl, rfl, trivial⟩, hM.pick [] rfl rfl⟩ ?_ ?_
      · rintro a w ⟨_, H, _⟩; exact none_some H
      · rintro k a w ⟨x11, H, hF, hM⟩; rw [slices_Equal_int_int.l0] at H
        refine wp_seq ?_
        refine s_region ?_
        refine s_val hF rfl rfl rfl (e_lss hF rfl rfl) ?_; intro a hF
        refine s_nil ?_
        refine then_n ?_
        refine wp_seq ?_
        rcases ite_cases H with ⟨c12, H⟩ | ⟨c12, H⟩
        ·
          refine s_cond_t hF rfl (decide_eq_true c12) ?_
          refine wp_skip ?_
          refine then_n ?_
          refine wp_seq ?_
          refine wp_block ?_
          refine wp_seq ?_
          refine s_region ?_
          refine s_val hF rfl rfl rfl (e_move hF rfl) ?_; intro a hF
          refine s_val hF rfl rfl rfl (e_assign hF rfl) ?_; intro a hF
          refine s_nil ?_
          refine then_n ?_
          refine wp_seq ?_
          obtain ⟨c13, H⟩ := ite_some H
          obtain ⟨c14, H⟩ := ite_some H
          refine s_held (fun w => Ms [] w0 w []) #[false, false, false, false, false, false, false, false, false] mixed rfl rfl hM ?_; intro w hf hM; clear hf
          refine h_val 0 #[true, false, false, false, false, false, false, false, false] rfl (by kernel_rfl) hF rfl rfl rfl (fun w hS => e_move hF rfl) (hM.pick [] rfl rfl) ?_; intro a hF
          refine h_val 1 #[true, true, false, false, false, false, false, false, false] rfl (by kernel_rfl) hF rfl rfl rfl (fun w hS => e_move hF rfl) (hM.pick [] rfl rfl) ?_; intro a hF
          have f15 := (q0.frm hM.frm).toF
          refine h_val 2 #[true, true, true, false, false, false, false, false, false] rfl (by kernel_rfl) hF rfl rfl rfl (fun w hS => e_ias cd3 hF rfl rfl f15 Try.underlying42 Try.sizeOf3 c13.1 c13.2) (hM.pick [] rfl rfl) ?_; intro a hF
          refine h_val 3 #[true, true, true, true, false, false, false, false, false] rfl (by kernel_rfl) hF rfl rfl rfl (fun w hS => e_lds (m := x11) hF rfl (q0.frm hS.frm) (getD_some (z := (0 : Int)) c13.1 c13.2) rfl rfl Try.isAgg3) (hM.pick [] rfl rfl) ?_; intro a hF
          refine h_val 4 #[true, true, true, true, true, false, false, false, false] rfl (by kernel_rfl) hF rfl rfl rfl (fun w hS => e_move hF rfl) (hM.pick [] rfl rfl) ?_; intro a hF
          refine h_val 5 #[true, true, true, true, true, true, false, false, false] rfl (by kernel_rfl) hF rfl rfl rfl (fun w hS => e_move hF rfl) (hM.pick [] rfl rfl) ?_; intro a hF
          have f16 := (q1.frm hM.frm).toF
          refine h_val 6 #[true, true, true, true, true, true, true, false, false] rfl (by kernel_rfl) hF rfl rfl rfl (fun w hS => e_ias cd3 hF rfl rfl f16 Try.underlying42 Try.sizeOf3 c14.1 c14.2) (hM.pick [] rfl rfl) ?_; intro a hF
          refine h_val 7 #[true, true, true, true, true, true, true, true, false] rfl (by kernel_rfl) hF rfl rfl rfl (fun w hS => e_lds (m := x11) hF rfl (q1.frm hS.frm) (getD_some (z := (0 : Int)) c14.1 c14.2) rfl rfl Try.isAgg3) (hM.pick [] rfl rfl) ?_; intro a hF
          refine h_val 8 #[true, true, true, true, true, true, true, true, true] rfl (by kernel_rfl) hF rfl rfl rfl (fun w hS => e_neq hF rfl rfl) (hM.pick [] rfl rfl) ?_; intro a hF
          refine h_done rfl ?_
          refine then_n ?_
          rcases ite_cases H with ⟨c17, H⟩ | ⟨c17, H⟩
          ·
            refine s_cond_f hF rfl (congrArg Bool.not (decide_eq_true c17)) ?_
            refine wp_skip ?_
            refine blk_n ?_
            refine then_n ?_
            refine s_region ?_
            refine s_val hF rfl rfl rfl (e_add hF rfl rfl) ?_; intro a hF
            refine s_val hF rfl rfl rfl (e_move hF rfl) ?_; intro a hF
            refine s_nil ?_
            refine then_n ?_
            exact ⟨(wrap64 (x11 + 1)), H, hF.sub _ ⟨rfl, rfl, rfl, rfl, trivial⟩, hM.pick [] rfl rfl⟩
          ·
            refine s_cond_t hF rfl (congrArg Bool.not (decide_eq_false c17)) ?_
            refine wp_seq ?_
            refine s_region ?_
            refine s_val hF rfl rfl rfl (e_assign hF rfl) ?_; intro a hF
            refine s_nil ?_
            refine then_n ?_
            refine wp_ret ?_
            refine blk_r ?_
            refine then_r ?_
            refine then_r ?_
            exact Or.inr (⟨rfl, false, some_some H, hF.sub _ ⟨rfl, trivial⟩, hM.pick [] rfl rfl⟩)
        ·
          refine s_cond_f hF rfl (decide_eq_false c12) ?_
          refine wp_exit ?_
          refine then_x ?_
          refine then_x ?_
          exact Or.inl (⟨rfl, some_some H, hF.sub _ trivial, hM.pick [] rfl rfl⟩)
    · rintro e a w (⟨rfl, rfl, hF, hM⟩ | ⟨rfl, r20, rfl, hF, hM⟩)
      ·
        dsimp only at H
        refine blk_x ?_
        refine then_n ?_
        refine wp_seq ?_
        refine s_region ?_
        refine s_val hF rfl rfl rfl (e_assign hF rfl) ?_; intro a hF
        refine s_nil ?_
        refine then_n ?_
        refine wp_ret ?_
        obtain rfl := some_some H
        refine s_ret [Value.bool true] hF Try.results98 ⟨rfl, trivial⟩ ?_
        exact ⟨_, rfl, hM.frm, rfl⟩
      ·
        dsimp only at H
        refine blk_r ?_
        refine then_r ?_
        obtain rfl := some_some H
        refine s_ret [Value.bool r20] hF Try.results98 ⟨rfl, trivial⟩ ?_
        exact ⟨_, rfl, hM.frm, rfl⟩
  ·
    refine s_cond_t hF rfl (congrArg Bool.not (decide_eq_false c1)) ?_
    refine wp_seq ?_
    refine s_region ?_
    refine s_val hF rfl rfl rfl (e_assign hF rfl) ?_; intro a hF
    refine s_nil ?_
    refine then_n ?_
    refine wp_ret ?_
    refine then_r ?_
    obtain rfl := some_some H
    refine s_ret [Value.bool false] hF Try.results98 ⟨rfl, trivial⟩ ?_
    exact ⟨_, rfl, hM.frm, rfl⟩

/-! ### loop.example/g01210/impl.longest: function 85 -/
def impl_longest.l0 (K : Nat) (l0 : (List Int)) (l1 : (List Int)) : Nat → Int → Option (Sum Unit Int)
  | 0, _ => none
  | k + 1, x14 => if 0 < x14 then (if (0 : Int) ≤ (wrap64 ((l0.length : Int) - x14)) ∧ (wrap64 ((l0.length : Int) - x14)) ≤ (l0.length : Int) ∧ (l0.length : Int) ≤ (l0.length : Int) then (if (0 : Int) ≤ 0 ∧ (0 : Int) ≤ x14 ∧ x14 ≤ (l1.length : Int) then ((slices_Equal_int_int.f K ((l0.take l0.length).drop ((wrap64 ((l0.length : Int) - x14)) : Int).toNat) ((l1.take (x14 : Int).toNat).drop 0)).bind fun t18 => if t18 = true then (some (Sum.inr x14)) else (impl_longest.l0 K l0 l1 k (wrap64 (x14 - 1)))) else none) else none) else (some (Sum.inl ()))
def impl_longest.f (K : Nat) (l0 : (List Int)) (l1 : (List Int)) : Option Int := (impl_longest.l0 K l0 l1 K (if (l1.length : Int) < (l0.length : Int) then (l1.length : Int) else (l0.length : Int))).bind fun o24 => (match o24 with | .inl () => some 0 | .inr r26 => some r26)
set_option maxRecDepth 100000 in
set_option maxHeartbeats 4000000 in
theorem impl_longest.calls {w0 : World} (K : Nat) (l0 : (List Int)) (u0 : Value) (q0 : SlR cd3 w0 u0 l0) (l1 : (List Int)) (u1 : Value) (q1 : SlR cd3 w0 u1 l1) (r : Int) (H : impl_longest.f K l0 l1 = some r) : Calls Try.prog 85 [u0, u1].toArray w0 (Post w0 fun w v => v = Value.int .i64 r) := by
  rw [impl_longest.f] at H
  refine s_start Try.func85 rfl Try.ntmps85 rfl ?_
  intro a hF
  have hM := Ms.start w0
  skip
  refine wp_seq ?_
  refine s_region ?_
  refine s_val hF rfl rfl rfl (e_assign hF rfl) ?_; intro a hF
  refine s_nil ?_
  refine then_n ?_
  refine wp_seq ?_
  refine wp_seq ?_
  refine s_region ?_
  refine s_val hF rfl rfl rfl (e_move hF rfl) ?_; intro a hF
  refine s_val hF rfl rfl rfl (e_len hF rfl (q0.frm hM.frm).toF Try.underlying42) ?_; intro a hF
  refine s_val hF rfl rfl rfl (e_move hF rfl) ?_; intro a hF
  refine s_val hF rfl rfl rfl (e_len hF rfl (q1.frm hM.frm).toF Try.underlying42) ?_; intro a hF
  refine s_val hF rfl rfl rfl (e_min hF rfl rfl) ?_; intro a hF
  refine s_val hF rfl rfl rfl (e_assign hF rfl) ?_; intro a hF
  refine s_nil ?_
  refine then_n ?_
  refine wp_block ?_
  obtain ⟨o24, h25, H⟩ := bind_some H
  refine wp_mono (Q := fun e a w => (e = Exit.exit 0 ∧ Sum.inl () = o24 ∧ Fr 26 a [] ∧ Ms [] w0 w []) ∨ (e = Exit.ret ∧ ∃ r26 : Int, Sum.inr r26 = o24 ∧ Fr 26 a [(4, Value.int .i64 r26)] ∧ Ms [] w0 w [])) ?_ ?_
  · refine s_loop (fun kq a w => ∃ x14 : Int, impl_longest.l0 K l0 l1 kq x14 = some o24 ∧ Fr 26 a [(0, u0), (1, u1), (5, Value.int .i64 x14)] ∧ Ms [] w0 w []) K ⟨(if (l1.length : Int) < (l0.length : Int) then (l1.length : Int) else (l0.length : Int)), h25, hF.sub _ ⟨rfl, rfl, rfl, trivial⟩, hM.pick [] rfl rfl⟩ ?_ ?_
    · rintro a w ⟨_, H, _⟩; exact none_some H
    · rintro k a w ⟨x14, H, hF, hM⟩; rw [impl_longest.l0] at H
      refine wp_seq ?_
      refine wp_seq ?_
      refine s_region ?_
      refine s_val hF rfl rfl rfl (e_move hF rfl) ?_; intro a hF
      refine s_val hF rfl rfl rfl (e_gtr hF rfl rfl) ?_; intro a hF
      refine s_nil ?_
      refine then_n ?_
      rcases ite_cases H with ⟨c15, H⟩ | ⟨c15, H⟩
      ·
        refine s_cond_t hF rfl (decide_eq_true c15) ?_
        refine wp_skip ?_
        refine then_n ?_
        refine wp_seq ?_
        refine wp_block ?_
        refine wp_seq ?_
        obtain ⟨c16, H⟩ := ite_some H
        obtain ⟨c17, H⟩ := ite_some H
        obtain ⟨t18, h19, H⟩ := bind_some H
        refine s_held (fun w => Ms [] w0 w []) #[false, false, false, false, false, false, false, false, false, false] mixed rfl rfl hM ?_; intro w hf hM; clear hf
        refine h_val 0 #[true, false, false, false, false, false, false, false, false, false] rfl (by kernel_rfl) hF rfl rfl rfl (fun w hS => e_move hF rfl) (hM.pick [] rfl rfl) ?_; intro a hF
        refine h_val 1 #[true, true, false, false, false, false, false, false, false, false] rfl (by kernel_rfl) hF rfl rfl rfl (fun w hS => e_move hF rfl) (hM.pick [] rfl rfl) ?_; intro a hF
        have f20 := (q0.frm hM.frm).toF
        refine h_val 2 #[true, true, true, false, false, false, false, false, false, false] rfl (by kernel_rfl) hF rfl rfl rfl (fun w hS => e_len hF rfl f20 Try.underlying42) (hM.pick [] rfl rfl) ?_; intro a hF
        refine h_val 3 #[true, true, true, true, false, false, false, false, false, false] rfl (by kernel_rfl) hF rfl rfl rfl (fun w hS => e_move hF rfl) (hM.pick [] rfl rfl) ?_; intro a hF
        refine h_val 4 #[true, true, true, true, true, false, false, false, false, false] rfl (by kernel_rfl) hF rfl rfl rfl (fun w hS => e_sub hF rfl rfl) (hM.pick [] rfl rfl) ?_; intro a hF
        have f21 := (q0.frm hM.frm).toF
        refine h_val 5 #[true, true, true, true, true, true, false, false, false, false] rfl (by kernel_rfl) hF rfl rfl rfl (fun w hS => e_sl_l hF rfl rfl f21 Try.underlying42 Try.sizeOf3 c16) (hM.pick [] rfl rfl) ?_; intro a hF
        refine h_val 6 #[true, true, true, true, true, true, true, false, false, false] rfl (by kernel_rfl) hF rfl rfl rfl (fun w hS => e_move hF rfl) (hM.pick [] rfl rfl) ?_; intro a hF
        refine h_val 7 #[true, true, true, true, true, true, true, true, false, false] rfl (by kernel_rfl) hF rfl rfl rfl (fun w hS => e_move hF rfl) (hM.pick [] rfl rfl) ?_; intro a hF
        have f22 := (q1.frm hM.frm).toF
        refine h_val 8 #[true, true, true, true, true, true, true, true, true, false] rfl (by kernel_rfl) hF rfl rfl rfl (fun w hS => e_sl_h hF rfl rfl f22 Try.underlying42 Try.sizeOf3 c17) (hM.pick [] rfl rfl) ?_; intro a hF
        refine h_one 9 #[true, true, true, true, true, true, true, true, true, true] rfl (by kernel_rfl) ?_
        refine s_call hF rfl rfl rfl Try.call98 (slices_Equal_int_int.calls K ((l0.take l0.length).drop ((wrap64 ((l0.length : Int) - x14)) : Int).toNat) (subv u0 ((wrap64 ((l0.length : Int) - x14)) : Int).toNat l0.length 1) ((q0.frm hM.frm).sub ((wrap64 ((l0.length : Int) - x14)) : Int).toNat l0.length (sl_lo_n' c16).1 (sl_lo_n' c16).2) ((l1.take (x14 : Int).toNat).drop 0) (subv u1 0 (x14 : Int).toNat 1) ((q1.frm hM.frm).sub 0 (x14 : Int).toNat (sl_0_i' c17).1 (sl_0_i' c17).2) t18 h19) ?_; intro a w v hF hf hR
        subst hR; have hM := hM.grow hf
        refine s_nil ⟨rfl, (hM.pick [] rfl rfl), ?_⟩
        refine h_done rfl ?_
        refine then_n ?_
        rcases ite_cases H with ⟨c23, H⟩ | ⟨c23, H⟩
        ·
          refine s_cond_t hF rfl c23 ?_
          refine wp_seq ?_
          refine s_region ?_
          refine s_val hF rfl rfl rfl (e_move hF rfl) ?_; intro a hF
          refine s_val hF rfl rfl rfl (e_assign hF rfl) ?_; intro a hF
          refine s_nil ?_
          refine then_n ?_
          refine wp_ret ?_
          refine blk_r ?_
          refine then_r ?_
          refine then_r ?_
          exact Or.inr (⟨rfl, x14, some_some H, hF.sub _ ⟨rfl, trivial⟩, hM.pick [] rfl rfl⟩)
        ·
          refine s_cond_f hF rfl (bf c23) ?_
          refine wp_skip ?_
          refine blk_n ?_
          refine then_n ?_
          refine s_region ?_
          refine s_val hF rfl rfl rfl (e_move hF rfl) ?_; intro a hF
          refine s_val hF rfl rfl rfl (e_sub hF rfl rfl) ?_; intro a hF
          refine s_val hF rfl rfl rfl (e_assign hF rfl) ?_; intro a hF
          refine s_nil ?_
          refine then_n ?_
          exact ⟨(wrap64 (x14 - 1)), H, hF.sub _ ⟨rfl, rfl, rfl, trivial⟩, hM.pick [] rfl rfl⟩
      ·
        refine s_cond_f hF rfl (decide_eq_false c15) ?_
        refine wp_exit ?_
        refine then_x ?_
        refine then_x ?_
        exact Or.inl (⟨rfl, some_some H, hF.sub _ trivial, hM.pick [] rfl rfl⟩)
  · rintro e a w (⟨rfl, rfl, hF, hM⟩ | ⟨rfl, r26, rfl, hF, hM⟩)
    ·
      dsimp only at H
      refine blk_x ?_
      refine then_n ?_
      refine wp_seq ?_
      refine s_region ?_
      refine s_val hF rfl rfl rfl (e_assign hF rfl) ?_; intro a hF
      refine s_nil ?_
      refine then_n ?_
      refine wp_ret ?_
      obtain rfl := some_some H
      refine s_ret [Value.int .i64 0] hF Try.results85 ⟨rfl, trivial⟩ ?_
      exact ⟨_, rfl, hM.frm, rfl⟩
    ·
      dsimp only at H
      refine blk_r ?_
      refine then_r ?_
      obtain rfl := some_some H
      refine s_ret [Value.int .i64 r26] hF Try.results85 ⟨rfl, trivial⟩ ?_
      exact ⟨_, rfl, hM.frm, rfl⟩

/-! ### loop.example/g01210/impl.power: function 53 -/
def impl_power.l0 (K : Nat) (a0 : Int) : Nat → Int → Int → Option Int
  | 0, _, _ => none
  | k + 1, x6, x7 => if x7 < a0 then (impl_power.l0 K a0 k (wrap64 (x6 * 6)) (wrap64 (x7 + 1))) else (some x6)
def impl_power.f (K : Nat) (a0 : Int) : Option Int := (impl_power.l0 K a0 K 1 0).bind fun x5 => some x5
set_option maxRecDepth 100000 in
set_option maxHeartbeats 4000000 in
theorem impl_power.calls {w0 : World} (K : Nat) (a0 : Int) (r : Int) (H : impl_power.f K a0 = some r) : Calls Try.prog 53 [Value.int .i64 a0].toArray w0 (Post w0 fun w v => v = Value.int .i64 r) := by
  rw [impl_power.f] at H
  refine s_start Try.func53 rfl Try.ntmps53 rfl ?_
  intro a hF
  have hM := Ms.start w0
  skip
  refine wp_seq ?_
  refine s_region ?_
  refine s_val hF rfl rfl rfl (e_assign hF rfl) ?_; intro a hF
  refine s_nil ?_
  refine then_n ?_
  refine wp_seq ?_
  refine s_region ?_
  refine s_val hF rfl rfl rfl (e_assign hF rfl) ?_; intro a hF
  refine s_nil ?_
  refine then_n ?_
  refine wp_seq ?_
  refine wp_seq ?_
  refine s_region ?_
  refine s_val hF rfl rfl rfl (e_move hF rfl) ?_; intro a hF
  refine s_val hF rfl rfl rfl (e_move hF rfl) ?_; intro a hF
  refine s_nil ?_
  refine then_n ?_
  refine wp_block ?_
  obtain ⟨o9, h10, H⟩ := bind_some H
  refine wp_mono (Q := fun e a w => (e = Exit.exit 0 ∧ ∃ x5 : Int, x5 = o9 ∧ Fr 11 a [(3, Value.int .i64 x5)] ∧ Ms [] w0 w [])) ?_ ?_
  · refine s_loop (fun kq a w => ∃ x6 : Int, ∃ x7 : Int, impl_power.l0 K a0 kq x6 x7 = some o9 ∧ Fr 11 a [(3, Value.int .i64 x6), (4, Value.int .i64 a0), (5, Value.int .i64 x7)] ∧ Ms [] w0 w []) K ⟨1, 0, h10, hF.sub _ ⟨rfl, rfl, rfl, trivial⟩, hM.pick [] rfl rfl⟩ ?_ ?_
    · rintro a w ⟨_, _, H, _⟩; exact none_some H
    · rintro k a w ⟨x6, x7, H, hF, hM⟩; rw [impl_power.l0] at H
      refine wp_seq ?_
      refine s_region ?_
      refine s_val hF rfl rfl rfl (e_lss hF rfl rfl) ?_; intro a hF
      refine s_nil ?_
      refine then_n ?_
      refine wp_seq ?_
      rcases ite_cases H with ⟨c8, H⟩ | ⟨c8, H⟩
      ·
        refine s_cond_t hF rfl (decide_eq_true c8) ?_
        refine wp_skip ?_
        refine then_n ?_
        refine wp_seq ?_
        refine wp_block ?_
        refine s_region ?_
        refine s_val hF rfl rfl rfl (e_move hF rfl) ?_; intro a hF
        refine s_val hF rfl rfl rfl (e_mul hF rfl rfl) ?_; intro a hF
        refine s_val hF rfl rfl rfl (e_assign hF rfl) ?_; intro a hF
        refine s_nil ?_
        refine blk_n ?_
        refine then_n ?_
        refine s_region ?_
        refine s_val hF rfl rfl rfl (e_add hF rfl rfl) ?_; intro a hF
        refine s_val hF rfl rfl rfl (e_move hF rfl) ?_; intro a hF
        refine s_nil ?_
        refine then_n ?_
        exact ⟨(wrap64 (x6 * 6)), (wrap64 (x7 + 1)), H, hF.sub _ ⟨rfl, rfl, rfl, trivial⟩, hM.pick [] rfl rfl⟩
      ·
        refine s_cond_f hF rfl (decide_eq_false c8) ?_
        refine wp_exit ?_
        refine then_x ?_
        refine then_x ?_
        exact ⟨rfl, x6, some_some H, hF.sub _ ⟨rfl, trivial⟩, hM.pick [] rfl rfl⟩
  · rintro e a w ⟨rfl, x5, rfl, hF, hM⟩
    skip
    refine blk_x ?_
    refine then_n ?_
    refine wp_seq ?_
    refine s_region ?_
    refine s_val hF rfl rfl rfl (e_move hF rfl) ?_; intro a hF
    refine s_val hF rfl rfl rfl (e_assign hF rfl) ?_; intro a hF
    refine s_nil ?_
    refine then_n ?_
    refine wp_ret ?_
    obtain rfl := some_some H
    refine s_ret [Value.int .i64 x5] hF Try.results53 ⟨rfl, trivial⟩ ?_
    exact ⟨_, rfl, hM.frm, rfl⟩

/-! ### loop.example/g01210/impl.fraction: function 56 -/
def impl_fraction.l0 (K : Nat) : Nat → Int → Int → Option Int
  | 0, _, _ => none
  | k + 1, x9, x10 => if x10 = 0 then (some x9) else (if x10 ≠ 0 then (impl_fraction.l0 K k x10 (x9.tmod x10)) else none)
def impl_fraction.f (K : Nat) (a0 : Int) (a1 : Int) : Option (Ar 2) := (impl_fraction.l0 K K a0 a1).bind fun x8 => if x8 ≠ 0 then (some (⟨[(wrap64 (a0.tdiv x8)), (wrap64 (a1.tdiv x8))], rfl⟩ : Ar 2)) else none
set_option maxRecDepth 100000 in
set_option maxHeartbeats 4000000 in
theorem impl_fraction.calls {w0 : World} (K : Nat) (a0 : Int) (a1 : Int) (r : (Ar 2)) (H : impl_fraction.f K a0 a1 = some r) : Calls Try.prog 56 [Value.int .i64 a0, Value.int .i64 a1].toArray w0 (Post w0 fun w v => v = ag [Pt.ar r]) := by
  rw [impl_fraction.f] at H
  refine s_start Try.func56 rfl Try.ntmps56 rfl ?_
  intro a hF
  have hM := Ms.start w0
  skip
  refine wp_seq ?_
  refine s_region ?_
  refine s_alloc (ps := [Pt.ar (Ar.zero 2)]) hF hM rfl rfl zv29 rfl ?_; intro a w b1 hF hM
  refine s_nil ?_
  refine then_n ?_
  refine wp_seq ?_
  refine s_region ?_
  refine s_val hF rfl rfl rfl (e_move hF rfl) ?_; intro a hF
  refine s_val hF rfl rfl rfl (e_move hF rfl) ?_; intro a hF
  refine s_val hF rfl rfl rfl (e_assign hF rfl) ?_; intro a hF
  refine s_val hF rfl rfl rfl (e_assign hF rfl) ?_; intro a hF
  refine s_nil ?_
  refine then_n ?_
  refine wp_seq ?_
  refine wp_block ?_
  obtain ⟨o13, h14, H⟩ := bind_some H
  refine wp_mono (Q := fun e a w => (e = Exit.exit 0 ∧ ∃ x8 : Int, x8 = o13 ∧ Fr 22 a [(0, Value.int .i64 a0), (1, Value.int .i64 a1), (4, pt b1 0), (5, Value.int .i64 x8)] ∧ Ms [] w0 w [boxR b1 [Pt.ar (Ar.zero 2)] 29])) ?_ ?_
  · refine s_loop (fun kq a w => ∃ x9 : Int, ∃ x10 : Int, impl_fraction.l0 K kq x9 x10 = some o13 ∧ Fr 22 a [(0, Value.int .i64 a0), (1, Value.int .i64 a1), (4, pt b1 0), (5, Value.int .i64 x9), (6, Value.int .i64 x10)] ∧ Ms [] w0 w [boxR b1 [Pt.ar (Ar.zero 2)] 29]) K ⟨a0, a1, h14, hF.sub _ ⟨rfl, rfl, rfl, rfl, rfl, trivial⟩, hM.pick [0] rfl rfl⟩ ?_ ?_
    · rintro a w ⟨_, _, H, _⟩; exact none_some H
    · rintro k a w ⟨x9, x10, H, hF, hM⟩; rw [impl_fraction.l0] at H
      refine wp_seq ?_
      refine wp_seq ?_
      refine s_region ?_
      refine s_val hF rfl rfl rfl (e_move hF rfl) ?_; intro a hF
      refine s_val hF rfl rfl rfl (e_neq hF rfl rfl) ?_; intro a hF
      refine s_nil ?_
      refine then_n ?_
      rcases ite_cases H with ⟨c11, H⟩ | ⟨c11, H⟩
      ·
        refine s_cond_f hF rfl (congrArg Bool.not (decide_eq_true c11)) ?_
        refine wp_exit ?_
        refine then_x ?_
        refine then_x ?_
        exact ⟨rfl, x9, some_some H, hF.sub _ ⟨rfl, rfl, rfl, rfl, trivial⟩, hM.pick [0] rfl rfl⟩
      ·
        refine s_cond_t hF rfl (congrArg Bool.not (decide_eq_false c11)) ?_
        refine wp_skip ?_
        refine then_n ?_
        refine wp_block ?_
        obtain ⟨c12, H⟩ := ite_some H
        refine s_held (fun w => Ms [] w0 w [boxR b1 [Pt.ar (Ar.zero 2)] 29]) #[false, false, false, false, false, false] mixed rfl rfl hM ?_; intro w hf hM; clear hf
        refine h_val 0 #[true, false, false, false, false, false] rfl (by kernel_rfl) hF rfl rfl rfl (fun w hS => e_move hF rfl) (hM.pick [0] rfl rfl) ?_; intro a hF
        refine h_val 1 #[true, true, false, false, false, false] rfl (by kernel_rfl) hF rfl rfl rfl (fun w hS => e_move hF rfl) (hM.pick [0] rfl rfl) ?_; intro a hF
        refine h_val 2 #[true, true, true, false, false, false] rfl (by kernel_rfl) hF rfl rfl rfl (fun w hS => e_move hF rfl) (hM.pick [0] rfl rfl) ?_; intro a hF
        refine h_val 3 #[true, true, true, true, false, false] rfl (by kernel_rfl) hF rfl rfl rfl (fun w hS => e_rem hF rfl rfl c12) (hM.pick [0] rfl rfl) ?_; intro a hF
        refine h_val 4 #[true, true, true, true, true, false] rfl (by kernel_rfl) hF rfl rfl rfl (fun w hS => e_assign hF rfl) (hM.pick [0] rfl rfl) ?_; intro a hF
        refine h_val 5 #[true, true, true, true, true, true] rfl (by kernel_rfl) hF rfl rfl rfl (fun w hS => e_assign hF rfl) (hM.pick [0] rfl rfl) ?_; intro a hF
        refine h_done rfl ?_
        refine blk_n ?_
        refine then_n ?_
        exact ⟨x10, (x9.tmod x10), H, hF.sub _ ⟨rfl, rfl, rfl, rfl, rfl, trivial⟩, hM.pick [0] rfl rfl⟩
  · rintro e a w ⟨rfl, x8, rfl, hF, hM⟩
    skip
    refine blk_x ?_
    refine then_n ?_
    refine wp_seq ?_
    obtain ⟨c15, H⟩ := ite_some H
    refine s_held (fun w => Ms [] w0 w []) #[false, false, false, false, false, false, false, false] mixed rfl rfl hM ?_; intro w hf hM; clear hf
    refine h_val 0 #[true, false, false, false, false, false, false, false] rfl (by kernel_rfl) hF rfl rfl rfl (fun w hS => e_move hF rfl) (hM.pick [] rfl rfl) ?_; intro a hF
    refine h_val 1 #[true, true, false, false, false, false, false, false] rfl (by kernel_rfl) hF rfl rfl rfl (fun w hS => e_move hF rfl) (hM.pick [] rfl rfl) ?_; intro a hF
    refine h_val 2 #[true, true, true, false, false, false, false, false] rfl (by kernel_rfl) hF rfl rfl rfl (fun w hS => e_quo hF rfl rfl c15) (hM.pick [] rfl rfl) ?_; intro a hF
    refine h_val 3 #[true, true, true, true, false, false, false, false] rfl (by kernel_rfl) hF rfl rfl rfl (fun w hS => e_move hF rfl) (hM.pick [] rfl rfl) ?_; intro a hF
    refine h_val 4 #[true, true, true, true, true, false, false, false] rfl (by kernel_rfl) hF rfl rfl rfl (fun w hS => e_move hF rfl) (hM.pick [] rfl rfl) ?_; intro a hF
    refine h_val 5 #[true, true, true, true, true, true, false, false] rfl (by kernel_rfl) hF rfl rfl rfl (fun w hS => e_quo hF rfl rfl c15) (hM.pick [] rfl rfl) ?_; intro a hF
    refine h_val 6 #[true, true, true, true, true, true, true, false] rfl (by kernel_rfl) hF rfl rfl rfl (fun w hS => e_build' (cells := cat [Pt.ar (⟨[(wrap64 (a0.tdiv x8)), (wrap64 (a1.tdiv x8))], rfl⟩ : Ar 2)]) hF rfl (by kernel_rfl)) (hM.pick [] rfl rfl) ?_; intro a hF
    refine h_one 7 #[true, true, true, true, true, true, true, true] rfl (by kernel_rfl) ?_
    refine s_stw (i := 0) (ps' := [Pt.ar (⟨[(wrap64 (a0.tdiv x8)), (wrap64 (a1.tdiv x8))], rfl⟩ : Ar 2)]) hF hM rfl rfl rfl rfl rfl rfl Try.sizeOf29 rfl ?_; intro a w hF hM
    refine s_nil ⟨rfl, (hM.pick [] rfl rfl), ?_⟩
    refine h_done rfl ?_
    refine then_n ?_
    refine wp_ret ?_
    obtain rfl := some_some H
    refine s_ret [ag [Pt.ar (⟨[(wrap64 (a0.tdiv x8)), (wrap64 (a1.tdiv x8))], rfl⟩ : Ar 2)]] hF Try.results56 ⟨⟨_, rfl, rv_box hM (i := 0) rfl Try.isAgg29 Try.sizeOf29 rfl⟩, trivial⟩ ?_
    exact ⟨_, rfl, hM.frm, rfl⟩

/-! ### loop.example/g01210/impl.PhraseWithin: function 46 -/
def impl_PhraseWithin.l12 (K : Nat) (a0 : (Ar 6)) (l1 : (List Int)) (x306 : (List Int)) (x402 : Int) : Nat → Int → (List Int) → Option (List Int)
  | 0, _, _ => none
  | k + 1, x431, x432 => if x431 < 6 then (if (0 : Int) ≤ x431 ∧ x431 < 6 then (if (0 : Int) ≤ 0 ∧ (0 : Int) ≤ x402 ∧ x402 ≤ (l1.length : Int) then ((slices_Clone_int_int.f K ((l1.take (x402 : Int).toNat).drop 0)).bind fun t436 => if t436.length + [(a0.get x431)].length ≤ 1073741824 then ((impl_longest.f K (t436 ++ [(a0.get x431)]) l1).bind fun t442 => if (0 : Int) ≤ t442 ∧ t442 < (x432.length : Int) then (impl_PhraseWithin.l12 K a0 l1 x306 x402 k (wrap64 (x431 + 1)) (x432.set (t442 : Int).toNat (wrap64 ((x432.getD (t442 : Int).toNat (0 : Int)) + (((x306.take ((l1.length : Int) : Int).toNat).drop 0).getD (x402 : Int).toNat (0 : Int)))))) else none) else none) else none) else none) else (some x432)
def impl_PhraseWithin.l11 (K : Nat) (a0 : (Ar 6)) (l1 : (List Int)) (x306 : (List Int)) : Nat → Int → (List Int) → Option (List Int)
  | 0, _, _ => none
  | k + 1, x402, x403 => if x402 < (((x306.take ((l1.length : Int) : Int).toNat).drop 0).length : Int) then (if (0 : Int) ≤ x402 ∧ x402 < (((x306.take ((l1.length : Int) : Int).toNat).drop 0).length : Int) then ((impl_PhraseWithin.l12 K a0 l1 x306 x402 K 0 x403).bind fun x430 => impl_PhraseWithin.l11 K a0 l1 x306 k (wrap64 (x402 + 1)) x430) else none) else (some x403)
def impl_PhraseWithin.l8 (K : Nat) (a0 : (Ar 6)) (l1 : (List Int)) (a2 : Int) : Nat → Int → (List Int) → Option (List Int)
  | 0, _, _ => none
  | k + 1, x304, x306 => if x304 < a2 then (if (0 : Int) ≤ (x306.length : Int) ∧ (x306.length : Int) ≤ 1073741824 then (if (0 : Int) ≤ (l1.length : Int) ∧ (l1.length : Int) < (x306.length : Int) then (if (0 : Int) ≤ (l1.length : Int) ∧ (l1.length : Int) < ((List.replicate (x306.length : Int).toNat (0 : Int)).length : Int) then (if (0 : Int) ≤ 0 ∧ (0 : Int) ≤ (l1.length : Int) ∧ (l1.length : Int) ≤ (x306.length : Int) then ((impl_PhraseWithin.l11 K a0 l1 x306 K 0 ((List.replicate (x306.length : Int).toNat (0 : Int)).set ((l1.length : Int) : Int).toNat (wrap64 ((x306.getD ((l1.length : Int) : Int).toNat (0 : Int)) * 6)))).bind fun x401 => impl_PhraseWithin.l8 K a0 l1 a2 k (wrap64 (x304 + 1)) x401) else none) else none) else none) else none) else (some x306)
def impl_PhraseWithin.f (K : Nat) (a0 : (Ar 6)) (l1 : (List Int)) (a2 : Int) : Option ((Ar 2) × Bool) := (impl_IsDie.f K a0).bind fun t3 => if t3 = true then ((impl_isPhrase.f K a0 l1).bind fun t6 => if t6 = true then ((impl_isRolls.f K a2).bind fun t9 => if t9 = true then (if (0 : Int) ≤ (wrap64 ((l1.length : Int) + 1)) ∧ (wrap64 ((l1.length : Int) + 1)) ≤ 1073741824 then (if (0 : Int) ≤ 0 ∧ 0 < ((List.replicate (wrap64 ((l1.length : Int) + 1)).toNat (0 : Int)).length : Int) then ((impl_PhraseWithin.l8 K a0 l1 a2 K 0 ((List.replicate (wrap64 ((l1.length : Int) + 1)).toNat (0 : Int)).set (0 : Int).toNat 1)).bind fun x303 => if (0 : Int) ≤ (l1.length : Int) ∧ (l1.length : Int) < (x303.length : Int) then ((impl_power.f K a2).bind fun t452 => (impl_fraction.f K (x303.getD ((l1.length : Int) : Int).toNat (0 : Int)) t452).bind fun t454 => some (t454, true)) else none) else none) else none) else (some ((⟨[0, 0], rfl⟩ : Ar 2), false))) else (some ((⟨[0, 0], rfl⟩ : Ar 2), false))) else (some ((⟨[0, 0], rfl⟩ : Ar 2), false))
set_option maxRecDepth 100000 in
set_option maxHeartbeats 4000000 in
theorem impl_PhraseWithin.calls {w0 : World} (K : Nat) (a0 : (Ar 6)) (l1 : (List Int)) (u1 : Value) (q1 : SlR cd3 w0 u1 l1) (a2 : Int) (r : ((Ar 2) × Bool)) (H : impl_PhraseWithin.f K a0 l1 a2 = some r) : Calls Try.prog 46 [ag [Pt.ar a0], u1, Value.int .i64 a2].toArray w0 (Post w0 fun w v => v = Value.tuple #[ag [Pt.ar r.1], Value.bool r.2]) := by
  rw [impl_PhraseWithin.f] at H
  refine s_start Try.func46 rfl Try.ntmps46 rfl ?_
  intro a hF
  have hM := Ms.start w0
  skip
  refine wp_seq ?_
  refine s_region ?_
  refine s_box (ps := [Pt.ar a0]) hF hM rfl rfl rfl rfl ?_; intro a w b1 hF hM
  refine s_alloc (ps := [Pt.ar (Ar.zero 2)]) hF hM rfl rfl zv29 rfl ?_; intro a w b2 hF hM
  refine s_val hF rfl rfl rfl (e_assign hF rfl) ?_; intro a hF
  refine s_nil ?_
  refine then_n ?_
  refine wp_seq ?_
  refine wp_seq ?_
  obtain ⟨t3, h4, H⟩ := bind_some H
  rcases ite_cases H with ⟨c5, H⟩ | ⟨c5, H⟩
  ·
    obtain ⟨t6, h7, H⟩ := bind_some H
    rcases ite_cases H with ⟨c8, H⟩ | ⟨c8, H⟩
    ·
      obtain ⟨t9, h10, H⟩ := bind_some H
      refine s_region ?_
      refine s_val hF rfl rfl rfl (e_lda (i := 1) 0 1 hF hM rfl rfl rfl rfl Try.isAgg22 Try.sizeOf22 rfl) ?_; intro a hF
      refine s_call hF rfl rfl rfl Try.call50 (impl_IsDie.calls K a0 t3 h4) ?_; intro a w v hF hf hR
      subst hR; have hM := hM.grow hf
      refine s_val hF rfl rfl rfl (e_not hF rfl) ?_; intro a hF
      refine s_val hF rfl rfl rfl (e_move hF rfl) ?_; intro a hF
      have hF := hF.topb (congrArg Bool.not c5)
      refine s_val hF rfl rfl rfl (e_lda (i := 1) 0 1 hF hM rfl rfl rfl rfl Try.isAgg22 Try.sizeOf22 rfl) ?_; intro a hF
      refine s_val hF rfl rfl rfl (e_move hF rfl) ?_; intro a hF
      refine s_call hF rfl rfl rfl Try.call76 (impl_isPhrase.calls K a0 l1 u1 (q1.frm hM.frm) t6 h7) ?_; intro a w v hF hf hR
      subst hR; have hM := hM.grow hf
      refine s_val hF rfl rfl rfl (e_not hF rfl) ?_; intro a hF
      refine s_val hF rfl rfl rfl (e_pick_f hF rfl rfl) ?_; intro a hF
      refine s_val hF rfl rfl rfl (e_move hF rfl) ?_; intro a hF
      have hF := hF.topb (congrArg Bool.not c8)
      refine s_val hF rfl rfl rfl (e_move hF rfl) ?_; intro a hF
      refine s_call hF rfl rfl rfl Try.call62 (impl_isRolls.calls K a2 t9 h10) ?_; intro a w v hF hf hR
      subst hR; have hM := hM.grow hf
      refine s_val hF rfl rfl rfl (e_not hF rfl) ?_; intro a hF
      refine s_val hF rfl rfl rfl (e_pick_f hF rfl rfl) ?_; intro a hF
      refine s_nil ?_
      refine then_n ?_
      rcases ite_cases H with ⟨c11, H⟩ | ⟨c11, H⟩
      ·
        refine s_cond_f hF rfl (congrArg Bool.not c11) ?_
        refine wp_skip ?_
        refine then_n ?_
        refine wp_seq ?_
        obtain ⟨c13, H⟩ := ite_some H
        refine s_region ?_
        refine s_val hF rfl rfl rfl (e_move hF rfl) ?_; intro a hF
        refine s_val hF rfl rfl rfl (e_len hF rfl (q1.frm hM.frm).toF Try.underlying42) ?_; intro a hF
        refine s_val hF rfl rfl rfl (e_add hF rfl rfl) ?_; intro a hF
        refine s_make (C := cd3) cdok3 hF hM rfl rfl rfl rfl Try.underlying42 c13.1 c13.2 ?_; intro a w v12 hF hM
        refine s_val hF rfl rfl rfl (e_assign hF rfl) ?_; intro a hF
        refine s_nil ?_
        refine then_n ?_
        refine wp_seq ?_
        obtain ⟨c14, H⟩ := ite_some H
        refine s_region ?_
        refine s_val hF rfl rfl rfl (e_move hF rfl) ?_; intro a hF
        refine s_val hF rfl rfl rfl (e_ias cd3 hF rfl rfl (hM.sl 0 rfl).toF Try.underlying42 Try.sizeOf3 c14.1 c14.2) ?_; intro a hF
        refine s_sts (i := 0) 1 hF hM rfl rfl rfl rfl rfl c14.1 c14.2 Try.sizeOf3 ?_; intro a w hF hM
        refine s_nil ?_
        refine then_n ?_
        refine wp_seq ?_
        refine wp_seq ?_
        refine s_region ?_
        refine s_val hF rfl rfl rfl (e_move hF rfl) ?_; intro a hF
        refine s_val hF rfl rfl rfl (e_move hF rfl) ?_; intro a hF
        refine s_nil ?_
        refine then_n ?_
        refine wp_block ?_
        obtain ⟨o449, h450, H⟩ := bind_some H
        refine wp_mono (Q := fun e a w => (e = Exit.exit 0 ∧ ∃ v302 : Value, ∃ x303 : (List Int), x303 = o449 ∧ Fr 92 a [(1, u1), (2, Value.int .i64 a2), (6, pt b2 0), (8, v302)] ∧ Ms [] w0 w [boxR b2 [Pt.ar (Ar.zero 2)] 29, rowR cd3 v302 x303])) ?_ ?_
        · refine s_loop (fun kq a w => ∃ v305 : Value, ∃ x304 : Int, ∃ x306 : (List Int), impl_PhraseWithin.l8 K a0 l1 a2 kq x304 x306 = some o449 ∧ Fr 92 a [(1, u1), (2, Value.int .i64 a2), (3, pt b1 0), (6, pt b2 0), (8, v305), (35, Value.int .i64 a2), (36, Value.int .i64 x304)] ∧ Ms [] w0 w [boxR b1 [Pt.ar a0] 22, boxR b2 [Pt.ar (Ar.zero 2)] 29, rowR cd3 v305 x306]) K ⟨v12, 0, ((List.replicate (wrap64 ((l1.length : Int) + 1)).toNat (0 : Int)).set (0 : Int).toNat 1), h450, hF.sub _ ⟨rfl, rfl, rfl, rfl, rfl, rfl, rfl, trivial⟩, hM.pick [2, 1, 0] rfl rfl⟩ ?_ ?_
          · rintro a w ⟨_, _, _, H, _⟩; exact none_some H
          · rintro k a w ⟨v305, x304, x306, H, hF, hM⟩; rw [impl_PhraseWithin.l8] at H
            refine wp_seq ?_
            refine s_region ?_
            refine s_val hF rfl rfl rfl (e_lss hF rfl rfl) ?_; intro a hF
            refine s_nil ?_
            refine then_n ?_
            refine wp_seq ?_
            rcases ite_cases H with ⟨c307, H⟩ | ⟨c307, H⟩
            ·
              refine s_cond_t hF rfl (decide_eq_true c307) ?_
              refine wp_skip ?_
              refine then_n ?_
              refine wp_seq ?_
              refine wp_block ?_
              refine wp_seq ?_
              obtain ⟨c309, H⟩ := ite_some H
              refine s_region ?_
              refine s_val hF rfl rfl rfl (e_move hF rfl) ?_; intro a hF
              refine s_val hF rfl rfl rfl (e_len hF rfl (hM.sl 2 rfl).toF Try.underlying42) ?_; intro a hF
              refine s_make (C := cd3) cdok3 hF hM rfl rfl rfl rfl Try.underlying42 c309.1 c309.2 ?_; intro a w v308 hF hM
              refine s_val hF rfl rfl rfl (e_assign hF rfl) ?_; intro a hF
              refine s_nil ?_
              refine then_n ?_
              refine wp_seq ?_
              obtain ⟨c310, H⟩ := ite_some H
              obtain ⟨c311, H⟩ := ite_some H
              refine s_region ?_
              refine s_val hF rfl rfl rfl (e_move hF rfl) ?_; intro a hF
              refine s_val hF rfl rfl rfl (e_move hF rfl) ?_; intro a hF
              refine s_val hF rfl rfl rfl (e_len hF rfl (q1.frm hM.frm).toF Try.underlying42) ?_; intro a hF
              refine s_val hF rfl rfl rfl (e_move hF rfl) ?_; intro a hF
              refine s_val hF rfl rfl rfl (e_move hF rfl) ?_; intro a hF
              refine s_val hF rfl rfl rfl (e_len hF rfl (q1.frm hM.frm).toF Try.underlying42) ?_; intro a hF
              refine s_val hF rfl rfl rfl (e_ias cd3 hF rfl rfl (hM.sl 3 rfl).toF Try.underlying42 Try.sizeOf3 c310.1 c310.2) ?_; intro a hF
              refine s_val hF rfl rfl rfl (e_lds (m := (l1.length : Int)) hF rfl (hM.sl 3 rfl) (getD_some (z := (0 : Int)) c310.1 c310.2) rfl rfl Try.isAgg3) ?_; intro a hF
              refine s_val hF rfl rfl rfl (e_mul hF rfl rfl) ?_; intro a hF
              refine s_val hF rfl rfl rfl (e_ias cd3 hF rfl rfl (hM.sl 0 rfl).toF Try.underlying42 Try.sizeOf3 c311.1 c311.2) ?_; intro a hF
              refine s_sts (i := 0) (wrap64 ((x306.getD ((l1.length : Int) : Int).toNat (0 : Int)) * 6)) hF hM rfl rfl rfl rfl rfl c311.1 c311.2 Try.sizeOf3 ?_; intro a w hF hM
              refine s_nil ?_
              refine then_n ?_
              refine wp_seq ?_
              refine wp_seq ?_
              obtain ⟨c312, H⟩ := ite_some H
              refine s_region ?_
              refine s_val hF rfl rfl rfl (e_move hF rfl) ?_; intro a hF
              refine s_val hF rfl rfl rfl (e_move hF rfl) ?_; intro a hF
              refine s_val hF rfl rfl rfl (e_len hF rfl (q1.frm hM.frm).toF Try.underlying42) ?_; intro a hF
              refine s_val hF rfl rfl rfl (e_sl_h hF rfl rfl (hM.sl 3 rfl).toF Try.underlying42 Try.sizeOf3 c312) ?_; intro a hF
              refine s_val hF rfl rfl rfl (e_len hF rfl ((hM.sl 3 rfl).sub 0 ((l1.length : Int) : Int).toNat (sl_0_i' c312).1 (sl_0_i' c312).2).toF Try.underlying42) ?_; intro a hF
              refine s_val hF rfl rfl rfl (e_move hF rfl) ?_; intro a hF
              refine s_nil ?_
              refine then_n ?_
              refine wp_block ?_
              obtain ⟨o447, h448, H⟩ := bind_some H
              refine wp_mono (Q := fun e a w => (e = Exit.exit 2 ∧ ∃ x401 : (List Int), x401 = o447 ∧ Fr 92 a [(1, u1), (2, Value.int .i64 a2), (3, pt b1 0), (6, pt b2 0), (9, v308), (35, Value.int .i64 a2), (36, Value.int .i64 x304)] ∧ Ms [] w0 w [boxR b1 [Pt.ar a0] 22, boxR b2 [Pt.ar (Ar.zero 2)] 29, rowR cd3 v308 x401])) ?_ ?_
              · refine s_loop (fun kq a w => ∃ x402 : Int, ∃ x403 : (List Int), impl_PhraseWithin.l11 K a0 l1 x306 kq x402 x403 = some o447 ∧ Fr 92 a [(1, u1), (2, Value.int .i64 a2), (3, pt b1 0), (6, pt b2 0), (9, v308), (35, Value.int .i64 a2), (36, Value.int .i64 x304), (54, (subv v305 0 ((l1.length : Int) : Int).toNat 1)), (55, Value.int .i64 (((x306.take ((l1.length : Int) : Int).toNat).drop 0).length : Int)), (56, Value.int .i64 x402)] ∧ Ms [] w0 w [boxR b1 [Pt.ar a0] 22, boxR b2 [Pt.ar (Ar.zero 2)] 29, rowR cd3 v308 x403, rowR cd3 v305 x306]) K ⟨0, ((List.replicate (x306.length : Int).toNat (0 : Int)).set ((l1.length : Int) : Int).toNat (wrap64 ((x306.getD ((l1.length : Int) : Int).toNat (0 : Int)) * 6))), h448, hF.sub _ ⟨rfl, rfl, rfl, rfl, rfl, rfl, rfl, rfl, rfl, rfl, trivial⟩, hM.pick [1, 2, 0, 3] rfl rfl⟩ ?_ ?_
                · rintro a w ⟨_, _, H, _⟩; exact none_some H
                · rintro k a w ⟨x402, x403, H, hF, hM⟩; rw [impl_PhraseWithin.l11] at H
                  refine wp_seq ?_
                  refine s_region ?_
                  refine s_val hF rfl rfl rfl (e_lss hF rfl rfl) ?_; intro a hF
                  refine s_nil ?_
                  refine then_n ?_
                  refine wp_seq ?_
                  rcases ite_cases H with ⟨c404, H⟩ | ⟨c404, H⟩
                  ·
                    refine s_cond_t hF rfl (decide_eq_true c404) ?_
                    refine wp_skip ?_
                    refine then_n ?_
                    refine wp_seq ?_
                    refine wp_block ?_
                    refine wp_seq ?_
                    obtain ⟨c405, H⟩ := ite_some H
                    refine s_region ?_
                    refine s_val hF rfl rfl rfl (e_move hF rfl) ?_; intro a hF
                    refine s_val hF rfl rfl rfl (e_ias cd3 hF rfl rfl ((hM.sl 3 rfl).sub 0 ((l1.length : Int) : Int).toNat (sl_0_i' c312).1 (sl_0_i' c312).2).toF Try.underlying42 Try.sizeOf3 c405.1 c405.2) ?_; intro a hF
                    refine s_val hF rfl rfl rfl (e_lds (m := x402) hF rfl ((hM.sl 3 rfl).sub 0 ((l1.length : Int) : Int).toNat (sl_0_i' c312).1 (sl_0_i' c312).2) (getD_some (z := (0 : Int)) c405.1 c405.2) rfl rfl Try.isAgg3) ?_; intro a hF
                    refine s_val hF rfl rfl rfl (e_assign hF rfl) ?_; intro a hF
                    refine s_val hF rfl rfl rfl (e_assign hF rfl) ?_; intro a hF
                    refine s_nil ?_
                    refine then_n ?_
                    refine wp_seq ?_
                    refine s_region ?_
                    refine s_val hF rfl rfl rfl (e_lda (i := 0) 0 1 hF hM rfl rfl rfl rfl Try.isAgg22 Try.sizeOf22 rfl) ?_; intro a hF
                    refine s_val hF rfl rfl rfl (e_move hF rfl) ?_; intro a hF
                    refine s_nil ?_
                    refine then_n ?_
                    refine wp_block ?_
                    obtain ⟨o445, h446, H⟩ := bind_some H
                    refine wp_mono (Q := fun e a w => (e = Exit.exit 4 ∧ ∃ x430 : (List Int), x430 = o445 ∧ Fr 92 a [(1, u1), (2, Value.int .i64 a2), (3, pt b1 0), (6, pt b2 0), (9, v308), (35, Value.int .i64 a2), (36, Value.int .i64 x304), (54, (subv v305 0 ((l1.length : Int) : Int).toNat 1)), (55, Value.int .i64 (((x306.take ((l1.length : Int) : Int).toNat).drop 0).length : Int)), (56, Value.int .i64 x402)] ∧ Ms [] w0 w [boxR b1 [Pt.ar a0] 22, boxR b2 [Pt.ar (Ar.zero 2)] 29, rowR cd3 v308 x430, rowR cd3 v305 x306])) ?_ ?_
                    · refine s_loop (fun kq a w => ∃ x431 : Int, ∃ x432 : (List Int), impl_PhraseWithin.l12 K a0 l1 x306 x402 kq x431 x432 = some o445 ∧ Fr 92 a [(1, u1), (2, Value.int .i64 a2), (3, pt b1 0), (6, pt b2 0), (9, v308), (10, Value.int .i64 x402), (11, Value.int .i64 (((x306.take ((l1.length : Int) : Int).toNat).drop 0).getD (x402 : Int).toNat (0 : Int))), (35, Value.int .i64 a2), (36, Value.int .i64 x304), (54, (subv v305 0 ((l1.length : Int) : Int).toNat 1)), (55, Value.int .i64 (((x306.take ((l1.length : Int) : Int).toNat).drop 0).length : Int)), (56, Value.int .i64 x402), (61, ag [Pt.ar a0]), (62, Value.int .i64 x431)] ∧ Ms [] w0 w [boxR b1 [Pt.ar a0] 22, boxR b2 [Pt.ar (Ar.zero 2)] 29, rowR cd3 v308 x432, rowR cd3 v305 x306]) K ⟨0, x403, h446, hF.sub _ ⟨rfl, rfl, rfl, rfl, rfl, rfl, rfl, rfl, rfl, rfl, rfl, rfl, rfl, rfl, trivial⟩, hM.pick [0, 1, 2, 3] rfl rfl⟩ ?_ ?_
                      · rintro a w ⟨_, _, H, _⟩; exact none_some H
                      · rintro k a w ⟨x431, x432, H, hF, hM⟩; rw [impl_PhraseWithin.l12] at H
                        refine wp_seq ?_
                        refine s_region ?_
                        refine s_val hF rfl rfl rfl (e_lss hF rfl rfl) ?_; intro a hF
                        refine s_nil ?_
                        refine then_n ?_
                        refine wp_seq ?_
                        rcases ite_cases H with ⟨c433, H⟩ | ⟨c433, H⟩
                        ·
                          refine s_cond_t hF rfl (decide_eq_true c433) ?_
                          refine wp_skip ?_
                          refine then_n ?_
                          refine wp_seq ?_
                          refine wp_block ?_
                          refine wp_seq ?_
                          obtain ⟨c434, H⟩ := ite_some H
                          refine s_region ?_
                          refine s_val hF rfl rfl rfl (e_ix hF rfl rfl Try.underlying22 Try.sizeOf3 Try.isAgg3 c434.1 c434.2) ?_; intro a hF
                          refine s_val hF rfl rfl rfl (e_assign hF rfl) ?_; intro a hF
                          refine s_nil ?_
                          refine then_n ?_
                          obtain ⟨c435, H⟩ := ite_some H
                          obtain ⟨t436, h437, H⟩ := bind_some H
                          obtain ⟨c441, H⟩ := ite_some H
                          obtain ⟨t442, h443, H⟩ := bind_some H
                          obtain ⟨c444, H⟩ := ite_some H
                          refine s_region ?_
                          refine s_val hF rfl rfl rfl (e_move hF rfl) ?_; intro a hF
                          refine s_val hF rfl rfl rfl (e_move hF rfl) ?_; intro a hF
                          refine s_val hF rfl rfl rfl (e_move hF rfl) ?_; intro a hF
                          refine s_val hF rfl rfl rfl (e_sl_h hF rfl rfl (q1.frm hM.frm).toF Try.underlying42 Try.sizeOf3 c435) ?_; intro a hF
                          refine s_call hF rfl rfl rfl Try.call67 (slices_Clone_int_int.calls K ((l1.take (x402 : Int).toNat).drop 0) (subv u1 0 (x402 : Int).toNat 1) ((q1.frm hM.frm).sub 0 (x402 : Int).toNat (sl_0_i' c435).1 (sl_0_i' c435).2) t436 h437) ?_; intro a w v438 hF hf hR
                          have hM := hM.fresh hf hR
                          refine s_val hF rfl rfl rfl (e_move hF rfl) ?_; intro a hF
                          refine s_bsl (C := cd3) [(a0.get x431)] cdok3 hF hM rfl rfl rfl rfl Try.underlying42 rfl ?_; intro a w v439 hF hM
                          refine s_append (i := 1) cdok3 hF hM rfl rfl rfl rfl rfl (hM.sl 0 rfl) Try.underlying42 c441 ?_; intro a w v440 hF hM
                          refine s_val hF rfl rfl rfl (e_move hF rfl) ?_; intro a hF
                          refine s_call hF rfl rfl rfl Try.call85 (impl_longest.calls K (t436 ++ [(a0.get x431)]) v440 (hM.sl 1 rfl) l1 u1 (q1.frm hM.frm) t442 h443) ?_; intro a w v hF hf hR
                          subst hR; have hM := hM.grow hf
                          refine s_val hF rfl rfl rfl (e_ias cd3 hF rfl rfl (hM.sl 4 rfl).toF Try.underlying42 Try.sizeOf3 c444.1 c444.2) ?_; intro a hF
                          refine s_val hF rfl rfl rfl (e_lds (m := t442) hF rfl (hM.sl 4 rfl) (getD_some (z := (0 : Int)) c444.1 c444.2) rfl rfl Try.isAgg3) ?_; intro a hF
                          refine s_val hF rfl rfl rfl (e_move hF rfl) ?_; intro a hF
                          refine s_val hF rfl rfl rfl (e_add hF rfl rfl) ?_; intro a hF
                          refine s_val hF rfl rfl rfl (e_ias cd3 hF rfl rfl (hM.sl 4 rfl).toF Try.underlying42 Try.sizeOf3 c444.1 c444.2) ?_; intro a hF
                          refine s_sts (i := 4) (wrap64 ((x432.getD (t442 : Int).toNat (0 : Int)) + (((x306.take ((l1.length : Int) : Int).toNat).drop 0).getD (x402 : Int).toNat (0 : Int)))) hF hM rfl rfl rfl rfl rfl c444.1 c444.2 Try.sizeOf3 ?_; intro a w hF hM
                          refine s_nil ?_
                          refine blk_n ?_
                          refine then_n ?_
                          refine s_region ?_
                          refine s_val hF rfl rfl rfl (e_add hF rfl rfl) ?_; intro a hF
                          refine s_val hF rfl rfl rfl (e_move hF rfl) ?_; intro a hF
                          refine s_nil ?_
                          refine then_n ?_
                          exact ⟨(wrap64 (x431 + 1)), (x432.set (t442 : Int).toNat (wrap64 ((x432.getD (t442 : Int).toNat (0 : Int)) + (((x306.take ((l1.length : Int) : Int).toNat).drop 0).getD (x402 : Int).toNat (0 : Int))))), H, hF.sub _ ⟨rfl, rfl, rfl, rfl, rfl, rfl, rfl, rfl, rfl, rfl, rfl, rfl, rfl, rfl, trivial⟩, hM.pick [2, 3, 4, 5] rfl rfl⟩
                        ·
                          refine s_cond_f hF rfl (decide_eq_false c433) ?_
                          refine wp_exit ?_
                          refine then_x ?_
                          refine then_x ?_
                          exact ⟨rfl, x432, some_some H, hF.sub _ ⟨rfl, rfl, rfl, rfl, rfl, rfl, rfl, rfl, rfl, rfl, trivial⟩, hM.pick [0, 1, 2, 3] rfl rfl⟩
                    · rintro e a w ⟨rfl, x430, rfl, hF, hM⟩
                      skip
                      refine blk_x ?_
                      refine blk_n ?_
                      refine then_n ?_
                      refine s_region ?_
                      refine s_val hF rfl rfl rfl (e_add hF rfl rfl) ?_; intro a hF
                      refine s_val hF rfl rfl rfl (e_move hF rfl) ?_; intro a hF
                      refine s_nil ?_
                      refine then_n ?_
                      exact ⟨(wrap64 (x402 + 1)), x430, H, hF.sub _ ⟨rfl, rfl, rfl, rfl, rfl, rfl, rfl, rfl, rfl, rfl, trivial⟩, hM.pick [0, 1, 2, 3] rfl rfl⟩
                  ·
                    refine s_cond_f hF rfl (decide_eq_false c404) ?_
                    refine wp_exit ?_
                    refine then_x ?_
                    refine then_x ?_
                    exact ⟨rfl, x403, some_some H, hF.sub _ ⟨rfl, rfl, rfl, rfl, rfl, rfl, rfl, trivial⟩, hM.pick [0, 1, 2] rfl rfl⟩
              · rintro e a w ⟨rfl, x401, rfl, hF, hM⟩
                skip
                refine blk_x ?_
                refine then_n ?_
                refine s_region ?_
                refine s_val hF rfl rfl rfl (e_move hF rfl) ?_; intro a hF
                refine s_val hF rfl rfl rfl (e_assign hF rfl) ?_; intro a hF
                refine s_nil ?_
                refine blk_n ?_
                refine then_n ?_
                refine s_region ?_
                refine s_val hF rfl rfl rfl (e_add hF rfl rfl) ?_; intro a hF
                refine s_val hF rfl rfl rfl (e_move hF rfl) ?_; intro a hF
                refine s_nil ?_
                refine then_n ?_
                exact ⟨v308, (wrap64 (x304 + 1)), x401, H, hF.sub _ ⟨rfl, rfl, rfl, rfl, rfl, rfl, rfl, trivial⟩, hM.pick [0, 1, 2] rfl rfl⟩
            ·
              refine s_cond_f hF rfl (decide_eq_false c307) ?_
              refine wp_exit ?_
              refine then_x ?_
              refine then_x ?_
              exact ⟨rfl, v305, x306, some_some H, hF.sub _ ⟨rfl, rfl, rfl, rfl, trivial⟩, hM.pick [1, 2] rfl rfl⟩
        · rintro e a w ⟨rfl, v302, x303, rfl, hF, hM⟩
          skip
          refine blk_x ?_
          refine then_n ?_
          refine wp_seq ?_
          obtain ⟨c451, H⟩ := ite_some H
          obtain ⟨t452, h453, H⟩ := bind_some H
          obtain ⟨t454, h455, H⟩ := bind_some H
          refine s_held (fun w => Ms [] w0 w [rowR cd3 v302 x303]) #[false, false, false, false, false, false, false, false, false, false] mixed rfl rfl hM ?_; intro w hf hM; clear hf
          refine h_val 0 #[true, false, false, false, false, false, false, false, false, false] rfl (by kernel_rfl) hF rfl rfl rfl (fun w hS => e_move hF rfl) (hM.pick [1] rfl rfl) ?_; intro a hF
          refine h_val 1 #[true, true, false, false, false, false, false, false, false, false] rfl (by kernel_rfl) hF rfl rfl rfl (fun w hS => e_move hF rfl) (hM.pick [1] rfl rfl) ?_; intro a hF
          have f456 := (q1.frm hM.frm).toF
          refine h_val 2 #[true, true, true, false, false, false, false, false, false, false] rfl (by kernel_rfl) hF rfl rfl rfl (fun w hS => e_len hF rfl f456 Try.underlying42) (hM.pick [1] rfl rfl) ?_; intro a hF
          have f457 := (hM.sl 1 rfl).toF
          refine h_val 3 #[true, true, true, true, false, false, false, false, false, false] rfl (by kernel_rfl) hF rfl rfl rfl (fun w hS => e_ias cd3 hF rfl rfl f457 Try.underlying42 Try.sizeOf3 c451.1 c451.2) (hM.pick [1] rfl rfl) ?_; intro a hF
          refine h_val 4 #[true, true, true, true, true, false, false, false, false, false] rfl (by kernel_rfl) hF rfl rfl rfl (fun w hS => e_lds (m := (l1.length : Int)) hF rfl (hS.sl 0 rfl) (getD_some (z := (0 : Int)) c451.1 c451.2) rfl rfl Try.isAgg3) (hM.pick [1] rfl rfl) ?_; intro a hF
          refine h_val 5 #[true, true, true, true, true, true, false, false, false, false] rfl (by kernel_rfl) hF rfl rfl rfl (fun w hS => e_move hF rfl) (hM.pick [1] rfl rfl) ?_; intro a hF
          refine h_one 6 #[true, true, true, true, true, true, true, false, false, false] rfl (by kernel_rfl) ?_
          refine s_call hF rfl rfl rfl Try.call53 (impl_power.calls K a2 t452 h453) ?_; intro a w v hF hf hR
          subst hR; have hM := hM.grow hf
          refine s_nil ⟨rfl, (hM.pick [1] rfl rfl), ?_⟩
          refine h_one 7 #[true, true, true, true, true, true, true, true, false, false] rfl (by kernel_rfl) ?_
          refine s_call hF rfl rfl rfl Try.call56 (impl_fraction.calls K (x303.getD ((l1.length : Int) : Int).toNat (0 : Int)) t452 t454 h455) ?_; intro a w v hF hf hR
          subst hR; have hM := hM.grow hf
          refine s_nil ⟨rfl, (hM.pick [1] rfl rfl), ?_⟩
          refine h_one 8 #[true, true, true, true, true, true, true, true, true, false] rfl (by kernel_rfl) ?_
          refine s_stw (i := 0) (ps' := [Pt.ar t454]) hF hM rfl rfl rfl rfl rfl rfl Try.sizeOf29 rfl ?_; intro a w hF hM
          refine s_nil ⟨rfl, (hM.pick [1] rfl rfl), ?_⟩
          refine h_val 9 #[true, true, true, true, true, true, true, true, true, true] rfl (by kernel_rfl) hF rfl rfl rfl (fun w hS => e_assign hF rfl) (hM.pick [1] rfl rfl) ?_; intro a hF
          refine h_done rfl ?_
          refine then_n ?_
          refine wp_ret ?_
          obtain rfl := some_some H
          refine s_ret [ag [Pt.ar t454], Value.bool true] hF Try.results46 ⟨⟨_, rfl, rv_box hM (i := 0) rfl Try.isAgg29 Try.sizeOf29 rfl⟩, rfl, trivial⟩ ?_
          exact ⟨_, rfl, hM.frm, rfl⟩
      ·
        refine s_cond_t hF rfl (congrArg Bool.not (bf c11)) ?_
        refine wp_seq ?_
        refine s_region ?_
        refine s_val hF rfl rfl rfl (e_build' (cells := cat [Pt.ar (⟨[0, 0], rfl⟩ : Ar 2)]) hF rfl (by kernel_rfl)) ?_; intro a hF
        refine s_stw (i := 0) (ps' := [Pt.ar (⟨[0, 0], rfl⟩ : Ar 2)]) hF hM rfl rfl rfl rfl rfl rfl Try.sizeOf29 rfl ?_; intro a w hF hM
        refine s_val hF rfl rfl rfl (e_assign hF rfl) ?_; intro a hF
        refine s_nil ?_
        refine then_n ?_
        refine wp_ret ?_
        refine then_r ?_
        obtain rfl := some_some H
        refine s_ret [ag [Pt.ar (⟨[0, 0], rfl⟩ : Ar 2)], Value.bool false] hF Try.results46 ⟨⟨_, rfl, rv_box hM (i := 0) rfl Try.isAgg29 Try.sizeOf29 rfl⟩, rfl, trivial⟩ ?_
        exact ⟨_, rfl, hM.frm, rfl⟩
    ·
      refine s_region ?_
      refine s_val hF rfl rfl rfl (e_lda (i := 1) 0 1 hF hM rfl rfl rfl rfl Try.isAgg22 Try.sizeOf22 rfl) ?_; intro a hF
      refine s_call hF rfl rfl rfl Try.call50 (impl_IsDie.calls K a0 t3 h4) ?_; intro a w v hF hf hR
      subst hR; have hM := hM.grow hf
      refine s_val hF rfl rfl rfl (e_not hF rfl) ?_; intro a hF
      refine s_val hF rfl rfl rfl (e_move hF rfl) ?_; intro a hF
      have hF := hF.topb (congrArg Bool.not c5)
      refine s_val hF rfl rfl rfl (e_lda (i := 1) 0 1 hF hM rfl rfl rfl rfl Try.isAgg22 Try.sizeOf22 rfl) ?_; intro a hF
      refine s_val hF rfl rfl rfl (e_move hF rfl) ?_; intro a hF
      refine s_call hF rfl rfl rfl Try.call76 (impl_isPhrase.calls K a0 l1 u1 (q1.frm hM.frm) t6 h7) ?_; intro a w v hF hf hR
      subst hR; have hM := hM.grow hf
      refine s_val hF rfl rfl rfl (e_not hF rfl) ?_; intro a hF
      refine s_val hF rfl rfl rfl (e_pick_f hF rfl rfl) ?_; intro a hF
      refine s_val hF rfl rfl rfl (e_move hF rfl) ?_; intro a hF
      have hF := hF.topb (congrArg Bool.not (bf c8))
      refine s_skip hF rfl rfl rfl ?_; intro a hF
      refine s_skip hF rfl rfl rfl ?_; intro a hF
      refine s_skip hF rfl rfl rfl ?_; intro a hF
      refine s_val hF rfl rfl rfl (e_pick_t hF rfl rfl) ?_; intro a hF
      refine s_nil ?_
      refine then_n ?_
      refine s_cond_t hF rfl rfl ?_
      refine wp_seq ?_
      refine s_region ?_
      refine s_val hF rfl rfl rfl (e_build' (cells := cat [Pt.ar (⟨[0, 0], rfl⟩ : Ar 2)]) hF rfl (by kernel_rfl)) ?_; intro a hF
      refine s_stw (i := 0) (ps' := [Pt.ar (⟨[0, 0], rfl⟩ : Ar 2)]) hF hM rfl rfl rfl rfl rfl rfl Try.sizeOf29 rfl ?_; intro a w hF hM
      refine s_val hF rfl rfl rfl (e_assign hF rfl) ?_; intro a hF
      refine s_nil ?_
      refine then_n ?_
      refine wp_ret ?_
      refine then_r ?_
      obtain rfl := some_some H
      refine s_ret [ag [Pt.ar (⟨[0, 0], rfl⟩ : Ar 2)], Value.bool false] hF Try.results46 ⟨⟨_, rfl, rv_box hM (i := 0) rfl Try.isAgg29 Try.sizeOf29 rfl⟩, rfl, trivial⟩ ?_
      exact ⟨_, rfl, hM.frm, rfl⟩
  ·
    refine s_region ?_
    refine s_val hF rfl rfl rfl (e_lda (i := 1) 0 1 hF hM rfl rfl rfl rfl Try.isAgg22 Try.sizeOf22 rfl) ?_; intro a hF
    refine s_call hF rfl rfl rfl Try.call50 (impl_IsDie.calls K a0 t3 h4) ?_; intro a w v hF hf hR
    subst hR; have hM := hM.grow hf
    refine s_val hF rfl rfl rfl (e_not hF rfl) ?_; intro a hF
    refine s_val hF rfl rfl rfl (e_move hF rfl) ?_; intro a hF
    have hF := hF.topb (congrArg Bool.not (bf c5))
    refine s_skip hF rfl rfl rfl ?_; intro a hF
    refine s_skip hF rfl rfl rfl ?_; intro a hF
    refine s_skip hF rfl rfl rfl ?_; intro a hF
    refine s_skip hF rfl rfl rfl ?_; intro a hF
    refine s_val hF rfl rfl rfl (e_pick_t hF rfl rfl) ?_; intro a hF
    refine s_val hF rfl rfl rfl (e_move hF rfl) ?_; intro a hF
    refine s_skip hF rfl rfl rfl ?_; intro a hF
    refine s_skip hF rfl rfl rfl ?_; intro a hF
    refine s_skip hF rfl rfl rfl ?_; intro a hF
    refine s_val hF rfl rfl rfl (e_pick_t hF rfl rfl) ?_; intro a hF
    refine s_nil ?_
    refine then_n ?_
    refine s_cond_t hF rfl rfl ?_
    refine wp_seq ?_
    refine s_region ?_
    refine s_val hF rfl rfl rfl (e_build' (cells := cat [Pt.ar (⟨[0, 0], rfl⟩ : Ar 2)]) hF rfl (by kernel_rfl)) ?_; intro a hF
    refine s_stw (i := 0) (ps' := [Pt.ar (⟨[0, 0], rfl⟩ : Ar 2)]) hF hM rfl rfl rfl rfl rfl rfl Try.sizeOf29 rfl ?_; intro a w hF hM
    refine s_val hF rfl rfl rfl (e_assign hF rfl) ?_; intro a hF
    refine s_nil ?_
    refine then_n ?_
    refine wp_ret ?_
    refine then_r ?_
    obtain rfl := some_some H
    refine s_ret [ag [Pt.ar (⟨[0, 0], rfl⟩ : Ar 2)], Value.bool false] hF Try.results46 ⟨⟨_, rfl, rv_box hM (i := 0) rfl Try.isAgg29 Try.sizeOf29 rfl⟩, rfl, trivial⟩ ?_
    exact ⟨_, rfl, hM.frm, rfl⟩

/-! ### loop.example/g01210/laws.eqIntA2: function 21 -/
def laws_eqIntA2.l0 (K : Nat) (a0 : (Ar 2)) (a1 : (Ar 2)) : Nat → Int → Option (Sum Unit Bool)
  | 0, _ => none
  | k + 1, x8 => if x8 < 2 then (if (0 : Int) ≤ x8 ∧ x8 < 2 then (if (a0.get x8) = (a1.get x8) then (laws_eqIntA2.l0 K a0 a1 k (wrap64 (x8 + 1))) else (some (Sum.inr false))) else none) else (some (Sum.inl ()))
def laws_eqIntA2.f (K : Nat) (a0 : (Ar 2)) (a1 : (Ar 2)) : Option Bool := (laws_eqIntA2.l0 K a0 a1 K 0).bind fun o12 => (match o12 with | .inl () => some true | .inr r14 => some r14)
set_option maxRecDepth 100000 in
set_option maxHeartbeats 4000000 in
theorem laws_eqIntA2.calls {w0 : World} (K : Nat) (a0 : (Ar 2)) (a1 : (Ar 2)) (r : Bool) (H : laws_eqIntA2.f K a0 a1 = some r) : Calls Try.prog 21 [ag [Pt.ar a0], ag [Pt.ar a1]].toArray w0 (Post w0 fun w v => v = Value.bool r) := by
  rw [laws_eqIntA2.f] at H
  refine s_start Try.func21 rfl Try.ntmps21 rfl ?_
  intro a hF
  have hM := Ms.start w0
  skip
  refine wp_seq ?_
  refine s_region ?_
  refine s_box (ps := [Pt.ar a0]) hF hM rfl rfl rfl rfl ?_; intro a w b1 hF hM
  refine s_box (ps := [Pt.ar a1]) hF hM rfl rfl rfl rfl ?_; intro a w b2 hF hM
  refine s_val hF rfl rfl rfl (e_assign hF rfl) ?_; intro a hF
  refine s_nil ?_
  refine then_n ?_
  refine wp_seq ?_
  refine wp_seq ?_
  refine s_region ?_
  refine s_val hF rfl rfl rfl (e_assign hF rfl) ?_; intro a hF
  refine s_nil ?_
  refine then_n ?_
  refine wp_block ?_
  obtain ⟨o12, h13, H⟩ := bind_some H
  refine wp_mono (Q := fun e a w => (e = Exit.exit 0 ∧ Sum.inl () = o12 ∧ Fr 17 a [] ∧ Ms [] w0 w []) ∨ (e = Exit.ret ∧ ∃ r14 : Bool, Sum.inr r14 = o12 ∧ Fr 17 a [(4, Value.bool r14)] ∧ Ms [] w0 w [])) ?_ ?_
  · refine s_loop (fun kq a w => ∃ x8 : Int, laws_eqIntA2.l0 K a0 a1 kq x8 = some o12 ∧ Fr 17 a [(2, pt b1 0), (3, pt b2 0), (5, Value.int .i64 x8)] ∧ Ms [] w0 w [boxR b1 [Pt.ar a0] 29, boxR b2 [Pt.ar a1] 29]) K ⟨0, h13, hF.sub _ ⟨rfl, rfl, rfl, trivial⟩, hM.pick [1, 0] rfl rfl⟩ ?_ ?_
    · rintro a w ⟨_, H, _⟩; exact none_some H
    · rintro k a w ⟨x8, H, hF, hM⟩; rw [laws_eqIntA2.l0] at H
      refine wp_seq ?_
      refine wp_seq ?_
      refine s_region ?_
      refine s_val hF rfl rfl rfl (e_move hF rfl) ?_; intro a hF
      refine s_val hF rfl rfl rfl (e_lss hF rfl rfl) ?_; intro a hF
      refine s_nil ?_
      refine then_n ?_
      rcases ite_cases H with ⟨c9, H⟩ | ⟨c9, H⟩
      ·
        refine s_cond_t hF rfl (decide_eq_true c9) ?_
        refine wp_skip ?_
        refine then_n ?_
        refine wp_seq ?_
        refine wp_block ?_
        refine wp_seq ?_
        obtain ⟨c10, H⟩ := ite_some H
        refine s_held (fun w => Ms [] w0 w [boxR b1 [Pt.ar a0] 29, boxR b2 [Pt.ar a1] 29]) #[false, false, false, false, false, false, false] mixed rfl rfl hM ?_; intro w hf hM; clear hf
        refine h_val 0 #[true, false, false, false, false, false, false] rfl (by kernel_rfl) hF rfl rfl rfl (fun w hS => e_move hF rfl) (hM.pick [0, 1] rfl rfl) ?_; intro a hF
        refine h_val 1 #[true, true, false, false, false, false, false] rfl (by kernel_rfl) hF rfl rfl rfl (fun w hS => e_ia hF rfl rfl Try.underlying29 Try.sizeOf3 c10.1 c10.2) (hM.pick [0, 1] rfl rfl) ?_; intro a hF
        refine h_val 2 #[true, true, true, false, false, false, false] rfl (by kernel_rfl) hF rfl rfl rfl (fun w hS => e_ldi (i := 0) (k := 0) hF hS rfl rfl rfl rfl rfl Try.isAgg3 c10.1 c10.2) (hM.pick [0, 1] rfl rfl) ?_; intro a hF
        refine h_val 3 #[true, true, true, true, false, false, false] rfl (by kernel_rfl) hF rfl rfl rfl (fun w hS => e_move hF rfl) (hM.pick [0, 1] rfl rfl) ?_; intro a hF
        refine h_val 4 #[true, true, true, true, true, false, false] rfl (by kernel_rfl) hF rfl rfl rfl (fun w hS => e_ia hF rfl rfl Try.underlying29 Try.sizeOf3 c10.1 c10.2) (hM.pick [0, 1] rfl rfl) ?_; intro a hF
        refine h_val 5 #[true, true, true, true, true, true, false] rfl (by kernel_rfl) hF rfl rfl rfl (fun w hS => e_ldi (i := 1) (k := 0) hF hS rfl rfl rfl rfl rfl Try.isAgg3 c10.1 c10.2) (hM.pick [0, 1] rfl rfl) ?_; intro a hF
        refine h_val 6 #[true, true, true, true, true, true, true] rfl (by kernel_rfl) hF rfl rfl rfl (fun w hS => e_neq hF rfl rfl) (hM.pick [0, 1] rfl rfl) ?_; intro a hF
        refine h_done rfl ?_
        refine then_n ?_
        rcases ite_cases H with ⟨c11, H⟩ | ⟨c11, H⟩
        ·
          refine s_cond_f hF rfl (congrArg Bool.not (decide_eq_true c11)) ?_
          refine wp_skip ?_
          refine blk_n ?_
          refine then_n ?_
          refine s_region ?_
          refine s_val hF rfl rfl rfl (e_move hF rfl) ?_; intro a hF
          refine s_val hF rfl rfl rfl (e_add hF rfl rfl) ?_; intro a hF
          refine s_val hF rfl rfl rfl (e_assign hF rfl) ?_; intro a hF
          refine s_nil ?_
          refine then_n ?_
          exact ⟨(wrap64 (x8 + 1)), H, hF.sub _ ⟨rfl, rfl, rfl, trivial⟩, hM.pick [0, 1] rfl rfl⟩
        ·
          refine s_cond_t hF rfl (congrArg Bool.not (decide_eq_false c11)) ?_
          refine wp_seq ?_
          refine s_region ?_
          refine s_val hF rfl rfl rfl (e_assign hF rfl) ?_; intro a hF
          refine s_nil ?_
          refine then_n ?_
          refine wp_ret ?_
          refine blk_r ?_
          refine then_r ?_
          refine then_r ?_
          exact Or.inr (⟨rfl, false, some_some H, hF.sub _ ⟨rfl, trivial⟩, hM.pick [] rfl rfl⟩)
      ·
        refine s_cond_f hF rfl (decide_eq_false c9) ?_
        refine wp_exit ?_
        refine then_x ?_
        refine then_x ?_
        exact Or.inl (⟨rfl, some_some H, hF.sub _ trivial, hM.pick [] rfl rfl⟩)
  · rintro e a w (⟨rfl, rfl, hF, hM⟩ | ⟨rfl, r14, rfl, hF, hM⟩)
    ·
      dsimp only at H
      refine blk_x ?_
      refine then_n ?_
      refine wp_seq ?_
      refine s_region ?_
      refine s_val hF rfl rfl rfl (e_assign hF rfl) ?_; intro a hF
      refine s_nil ?_
      refine then_n ?_
      refine wp_ret ?_
      obtain rfl := some_some H
      refine s_ret [Value.bool true] hF Try.results21 ⟨rfl, trivial⟩ ?_
      exact ⟨_, rfl, hM.frm, rfl⟩
    ·
      dsimp only at H
      refine blk_r ?_
      refine then_r ?_
      obtain rfl := some_some H
      refine s_ret [Value.bool r14] hF Try.results21 ⟨rfl, trivial⟩ ?_
      exact ⟨_, rfl, hM.frm, rfl⟩

/-! ### loop.example/g01210/laws.eqIntS: function 38 -/
def laws_eqIntS.l0 (K : Nat) (l0 : (List Int)) (l1 : (List Int)) : Nat → Int → Option (Sum Unit Bool)
  | 0, _ => none
  | k + 1, x11 => if x11 < (l0.length : Int) then (if (0 : Int) ≤ x11 ∧ x11 < (l0.length : Int) then (if (0 : Int) ≤ x11 ∧ x11 < (l1.length : Int) then (if (l0.getD (x11 : Int).toNat (0 : Int)) = (l1.getD (x11 : Int).toNat (0 : Int)) then (laws_eqIntS.l0 K l0 l1 k (wrap64 (x11 + 1))) else (some (Sum.inr false))) else none) else none) else (some (Sum.inl ()))
def laws_eqIntS.f (K : Nat) (l0 : (List Int)) (l1 : (List Int)) : Option Bool := if (l0.length : Int) = (l1.length : Int) then ((laws_eqIntS.l0 K l0 l1 K 0).bind fun o18 => (match o18 with | .inl () => some true | .inr r20 => some r20)) else (some false)
set_option maxRecDepth 100000 in
set_option maxHeartbeats 4000000 in
theorem laws_eqIntS.calls {w0 : World} (K : Nat) (l0 : (List Int)) (u0 : Value) (q0 : SlR cd3 w0 u0 l0) (l1 : (List Int)) (u1 : Value) (q1 : SlR cd3 w0 u1 l1) (r : Bool) (H : laws_eqIntS.f K l0 l1 = some r) : Calls Try.prog 38 [u0, u1].toArray w0 (Post w0 fun w v => v = Value.bool r) := by
  rw [laws_eqIntS.f] at H
  refine s_start Try.func38 rfl Try.ntmps38 rfl ?_
  intro a hF
  have hM := Ms.start w0
  skip
  refine wp_seq ?_
  refine s_region ?_
  refine s_val hF rfl rfl rfl (e_assign hF rfl) ?_; intro a hF
  refine s_nil ?_
  refine then_n ?_
  refine wp_seq ?_
  refine wp_seq ?_
  refine s_region ?_
  refine s_val hF rfl rfl rfl (e_move hF rfl) ?_; intro a hF
  refine s_val hF rfl rfl rfl (e_len hF rfl (q0.frm hM.frm).toF Try.underlying42) ?_; intro a hF
  refine s_val hF rfl rfl rfl (e_move hF rfl) ?_; intro a hF
  refine s_val hF rfl rfl rfl (e_len hF rfl (q1.frm hM.frm).toF Try.underlying42) ?_; intro a hF
  refine s_val hF rfl rfl rfl (e_neq hF rfl rfl) ?_; intro a hF
  refine s_nil ?_
  refine then_n ?_
  rcases ite_cases H with ⟨c1, H⟩ | ⟨c1, H⟩
  ·
    refine s_cond_f hF rfl (congrArg Bool.not (decide_eq_true c1)) ?_
    refine wp_skip ?_
    refine then_n ?_
    refine wp_seq ?_
    refine wp_seq ?_
    refine s_region ?_
    refine s_val hF rfl rfl rfl (e_assign hF rfl) ?_; intro a hF
    refine s_nil ?_
    refine then_n ?_
    refine wp_block ?_
    obtain ⟨o18, h19, H⟩ := bind_some H
    refine wp_mono (Q := fun e a w => (e = Exit.exit 0 ∧ Sum.inl () = o18 ∧ Fr 26 a [] ∧ Ms [] w0 w []) ∨ (e = Exit.ret ∧ ∃ r20 : Bool, Sum.inr r20 = o18 ∧ Fr 26 a [(4, Value.bool r20)] ∧ Ms [] w0 w [])) ?_ ?_
    · refine s_loop (fun kq a w => ∃ x11 : Int, laws_eqIntS.l0 K l0 l1 kq x11 = some o18 ∧ Fr 26 a [(0, u0), (1, u1), (5, Value.int .i64 x11)] ∧ Ms [] w0 w []) K ⟨0, h19, hF.sub _ ⟨rfl, rfl, rfl, trivial⟩, hM.pick [] rfl rfl⟩ ?_ ?_
      · rintro a w ⟨_, H, _⟩; exact none_some H
      · rintro k a w ⟨x11, H, hF, hM⟩; rw [laws_eqIntS.l0] at H
        refine wp_seq ?_
        refine wp_seq ?_
        refine s_region ?_
        refine s_val hF rfl rfl rfl (e_move hF rfl) ?_; intro a hF
        refine s_val hF rfl rfl rfl (e_move hF rfl) ?_; intro a hF
        refine s_val hF rfl rfl rfl (e_len hF rfl (q0.frm hM.frm).toF Try.underlying42) ?_; intro a hF
        refine s_val hF rfl rfl rfl (e_lss hF rfl rfl) ?_; intro a hF
        refine s_nil ?_
        refine then_n ?_
        rcases ite_cases H with ⟨c12, H⟩ | ⟨c12, H⟩
        ·
          refine s_cond_t hF rfl (decide_eq_true c12) ?_
          refine wp_skip ?_
          refine then_n ?_
          refine wp_seq ?_
          refine wp_block ?_
          refine wp_seq ?_
          obtain ⟨c13, H⟩ := ite_some H
          obtain ⟨c14, H⟩ := ite_some H
          refine s_held (fun w => Ms [] w0 w []) #[false, false, false, false, false, false, false, false, false] mixed rfl rfl hM ?_; intro w hf hM; clear hf
          refine h_val 0 #[true, false, false, false, false, false, false, false, false] rfl (by kernel_rfl) hF rfl rfl rfl (fun w hS => e_move hF rfl) (hM.pick [] rfl rfl) ?_; intro a hF
          refine h_val 1 #[true, true, false, false, false, false, false, false, false] rfl (by kernel_rfl) hF rfl rfl rfl (fun w hS => e_move hF rfl) (hM.pick [] rfl rfl) ?_; intro a hF
          have f15 := (q0.frm hM.frm).toF
          refine h_val 2 #[true, true, true, false, false, false, false, false, false] rfl (by kernel_rfl) hF rfl rfl rfl (fun w hS => e_ias cd3 hF rfl rfl f15 Try.underlying42 Try.sizeOf3 c13.1 c13.2) (hM.pick [] rfl rfl) ?_; intro a hF
          refine h_val 3 #[true, true, true, true, false, false, false, false, false] rfl (by kernel_rfl) hF rfl rfl rfl (fun w hS => e_lds (m := x11) hF rfl (q0.frm hS.frm) (getD_some (z := (0 : Int)) c13.1 c13.2) rfl rfl Try.isAgg3) (hM.pick [] rfl rfl) ?_; intro a hF
          refine h_val 4 #[true, true, true, true, true, false, false, false, false] rfl (by kernel_rfl) hF rfl rfl rfl (fun w hS => e_move hF rfl) (hM.pick [] rfl rfl) ?_; intro a hF
          refine h_val 5 #[true, true, true, true, true, true, false, false, false] rfl (by kernel_rfl) hF rfl rfl rfl (fun w hS => e_move hF rfl) (hM.pick [] rfl rfl) ?_; intro a hF
          have f16 := (q1.frm hM.frm).toF
          refine h_val 6 #[true, true, true, true, true, true, true, false, false] rfl (by kernel_rfl) hF rfl rfl rfl (fun w hS => e_ias cd3 hF rfl rfl f16 Try.underlying42 Try.sizeOf3 c14.1 c14.2) (hM.pick [] rfl rfl) ?_; intro a hF
          refine h_val 7 #[true, true, true, true, true, true, true, true, false] rfl (by kernel_rfl) hF rfl rfl rfl (fun w hS => e_lds (m := x11) hF rfl (q1.frm hS.frm) (getD_some (z := (0 : Int)) c14.1 c14.2) rfl rfl Try.isAgg3) (hM.pick [] rfl rfl) ?_; intro a hF
          refine h_val 8 #[true, true, true, true, true, true, true, true, true] rfl (by kernel_rfl) hF rfl rfl rfl (fun w hS => e_neq hF rfl rfl) (hM.pick [] rfl rfl) ?_; intro a hF
          refine h_done rfl ?_
          refine then_n ?_
          rcases ite_cases H with ⟨c17, H⟩ | ⟨c17, H⟩
          ·
            refine s_cond_f hF rfl (congrArg Bool.not (decide_eq_true c17)) ?_
            refine wp_skip ?_
            refine blk_n ?_
            refine then_n ?_
            refine s_region ?_
            refine s_val hF rfl rfl rfl (e_move hF rfl) ?_; intro a hF
            refine s_val hF rfl rfl rfl (e_add hF rfl rfl) ?_; intro a hF
            refine s_val hF rfl rfl rfl (e_assign hF rfl) ?_; intro a hF
            refine s_nil ?_
            refine then_n ?_
            exact ⟨(wrap64 (x11 + 1)), H, hF.sub _ ⟨rfl, rfl, rfl, trivial⟩, hM.pick [] rfl rfl⟩
          ·
            refine s_cond_t hF rfl (congrArg Bool.not (decide_eq_false c17)) ?_
            refine wp_seq ?_
            refine s_region ?_
            refine s_val hF rfl rfl rfl (e_assign hF rfl) ?_; intro a hF
            refine s_nil ?_
            refine then_n ?_
            refine wp_ret ?_
            refine blk_r ?_
            refine then_r ?_
            refine then_r ?_
            exact Or.inr (⟨rfl, false, some_some H, hF.sub _ ⟨rfl, trivial⟩, hM.pick [] rfl rfl⟩)
        ·
          refine s_cond_f hF rfl (decide_eq_false c12) ?_
          refine wp_exit ?_
          refine then_x ?_
          refine then_x ?_
          exact Or.inl (⟨rfl, some_some H, hF.sub _ trivial, hM.pick [] rfl rfl⟩)
    · rintro e a w (⟨rfl, rfl, hF, hM⟩ | ⟨rfl, r20, rfl, hF, hM⟩)
      ·
        dsimp only at H
        refine blk_x ?_
        refine then_n ?_
        refine wp_seq ?_
        refine s_region ?_
        refine s_val hF rfl rfl rfl (e_assign hF rfl) ?_; intro a hF
        refine s_nil ?_
        refine then_n ?_
        refine wp_ret ?_
        obtain rfl := some_some H
        refine s_ret [Value.bool true] hF Try.results38 ⟨rfl, trivial⟩ ?_
        exact ⟨_, rfl, hM.frm, rfl⟩
      ·
        dsimp only at H
        refine blk_r ?_
        refine then_r ?_
        obtain rfl := some_some H
        refine s_ret [Value.bool r20] hF Try.results38 ⟨rfl, trivial⟩ ?_
        exact ⟨_, rfl, hM.frm, rfl⟩
  ·
    refine s_cond_t hF rfl (congrArg Bool.not (decide_eq_false c1)) ?_
    refine wp_seq ?_
    refine s_region ?_
    refine s_val hF rfl rfl rfl (e_assign hF rfl) ?_; intro a hF
    refine s_nil ?_
    refine then_n ?_
    refine wp_ret ?_
    refine then_r ?_
    obtain rfl := some_some H
    refine s_ret [Value.bool false] hF Try.results38 ⟨rfl, trivial⟩ ?_
    exact ⟨_, rfl, hM.frm, rfl⟩

/-! ### loop.example/g01210/laws.FnExactPhraseWithin: function 14 -/
def laws_FnExactPhraseWithin.f (K : Nat) (a0 : (Ar 6)) (l1 : (List Int)) (a2 : Int) : Option Bool := if 1048576 < (l1.length : Int) then (some true) else ((laws_toIntA6.f K a0).bind fun t3 => (laws_toIntS.f K l1).bind fun t5 => (spec_PhraseWithin.f K t3 t5 a2).bind fun t8 => (laws_toIntS.f K l1).bind fun t11 => (laws_toIntA6.f K a0).bind fun t14 => (impl_PhraseWithin.f K t14 t11 a2).bind fun t16 => (laws_eqIntA2.f K t16.1 t8.1).bind fun t19 => if t19 = true then (if (t16.2 == t8.2) = true then ((laws_toIntS.f K l1).bind fun t23 => (laws_eqIntS.f K t11 t23).bind fun t26 => if t26 = true then (some true) else (some false)) else (some false)) else (some false))
set_option maxRecDepth 100000 in
set_option maxHeartbeats 4000000 in
theorem laws_FnExactPhraseWithin.calls {w0 : World} (K : Nat) (a0 : (Ar 6)) (l1 : (List Int)) (u1 : Value) (q1 : SlR cd3 w0 u1 l1) (a2 : Int) (r : Bool) (H : laws_FnExactPhraseWithin.f K a0 l1 a2 = some r) : Calls Try.prog 14 [ag [Pt.ar a0], u1, Value.int .i64 a2].toArray w0 (Post w0 fun w v => v = Value.bool r) := by
  rw [laws_FnExactPhraseWithin.f] at H
  refine s_start Try.func14 rfl Try.ntmps14 rfl ?_
  intro a hF
  have hM := Ms.start w0
  skip
  refine wp_seq ?_
  refine s_region ?_
  refine s_box (ps := [Pt.ar a0]) hF hM rfl rfl rfl rfl ?_; intro a w b1 hF hM
  refine s_val hF rfl rfl rfl (e_assign hF rfl) ?_; intro a hF
  refine s_nil ?_
  refine then_n ?_
  refine wp_seq ?_
  refine wp_seq ?_
  refine s_region ?_
  refine s_val hF rfl rfl rfl (e_move hF rfl) ?_; intro a hF
  refine s_val hF rfl rfl rfl (e_len hF rfl (q1.frm hM.frm).toF Try.underlying42) ?_; intro a hF
  refine s_val hF rfl rfl rfl (e_gtr hF rfl rfl) ?_; intro a hF
  refine s_nil ?_
  refine then_n ?_
  rcases ite_cases H with ⟨c2, H⟩ | ⟨c2, H⟩
  ·
    refine s_cond_t hF rfl (decide_eq_true c2) ?_
    refine wp_seq ?_
    refine s_region ?_
    refine s_val hF rfl rfl rfl (e_assign hF rfl) ?_; intro a hF
    refine s_nil ?_
    refine then_n ?_
    refine wp_ret ?_
    refine then_r ?_
    obtain rfl := some_some H
    refine s_ret [Value.bool true] hF Try.results14 ⟨rfl, trivial⟩ ?_
    exact ⟨_, rfl, hM.frm, rfl⟩
  ·
    refine s_cond_f hF rfl (decide_eq_false c2) ?_
    refine wp_skip ?_
    refine then_n ?_
    refine wp_seq ?_
    obtain ⟨t3, h4, H⟩ := bind_some H
    obtain ⟨t5, h6, H⟩ := bind_some H
    obtain ⟨t8, h9, H⟩ := bind_some H
    refine s_region ?_
    refine s_val hF rfl rfl rfl (e_lda (i := 0) 0 1 hF hM rfl rfl rfl rfl Try.isAgg22 Try.sizeOf22 rfl) ?_; intro a hF
    refine s_call hF rfl rfl rfl Try.call16 (laws_toIntA6.calls K a0 t3 h4) ?_; intro a w v hF hf hR
    subst hR; have hM := hM.grow hf
    refine s_val hF rfl rfl rfl (e_move hF rfl) ?_; intro a hF
    refine s_call hF rfl rfl rfl Try.call36 (laws_toIntS.calls K l1 u1 (q1.frm hM.frm) t5 h6) ?_; intro a w v7 hF hf hR
    have hM := hM.fresh hf hR
    refine s_val hF rfl rfl rfl (e_move hF rfl) ?_; intro a hF
    refine s_call hF rfl rfl rfl Try.call45 (spec_PhraseWithin.calls K t3 t5 v7 (hM.sl 0 rfl) a2 t8 h9) ?_; intro a w v hF hf hR
    subst hR; have hM := hM.grow hf
    refine s_val hF rfl rfl rfl (e_move hF rfl) ?_; intro a hF
    refine s_val hF rfl rfl rfl (e_extract hF rfl rfl) ?_; intro a hF
    refine s_val hF rfl rfl rfl (e_extract hF rfl rfl) ?_; intro a hF
    refine s_alloc (ps := [Pt.ar (Ar.zero 2)]) hF hM rfl rfl zv29 rfl ?_; intro a w b10 hF hM
    refine s_stw (i := 0) (ps' := [Pt.ar t8.1]) hF hM rfl rfl rfl rfl rfl rfl Try.sizeOf29 rfl ?_; intro a w hF hM
    refine s_val hF rfl rfl rfl (e_assign hF rfl) ?_; intro a hF
    refine s_nil ?_
    refine then_n ?_
    refine wp_seq ?_
    obtain ⟨t11, h12, H⟩ := bind_some H
    refine s_region ?_
    refine s_val hF rfl rfl rfl (e_move hF rfl) ?_; intro a hF
    refine s_call hF rfl rfl rfl Try.call36 (laws_toIntS.calls K l1 u1 (q1.frm hM.frm) t11 h12) ?_; intro a w v13 hF hf hR
    have hM := hM.fresh hf hR
    refine s_val hF rfl rfl rfl (e_assign hF rfl) ?_; intro a hF
    refine s_nil ?_
    refine then_n ?_
    refine wp_seq ?_
    obtain ⟨t14, h15, H⟩ := bind_some H
    obtain ⟨t16, h17, H⟩ := bind_some H
    refine s_region ?_
    refine s_val hF rfl rfl rfl (e_lda (i := 3) 0 1 hF hM rfl rfl rfl rfl Try.isAgg22 Try.sizeOf22 rfl) ?_; intro a hF
    refine s_call hF rfl rfl rfl Try.call16 (laws_toIntA6.calls K a0 t14 h15) ?_; intro a w v hF hf hR
    subst hR; have hM := hM.grow hf
    refine s_val hF rfl rfl rfl (e_move hF rfl) ?_; intro a hF
    refine s_val hF rfl rfl rfl (e_move hF rfl) ?_; intro a hF
    refine s_call hF rfl rfl rfl Try.call46 (impl_PhraseWithin.calls K t14 t11 v13 (hM.sl 0 rfl) a2 t16 h17) ?_; intro a w v hF hf hR
    subst hR; have hM := hM.grow hf
    refine s_val hF rfl rfl rfl (e_move hF rfl) ?_; intro a hF
    refine s_val hF rfl rfl rfl (e_extract hF rfl rfl) ?_; intro a hF
    refine s_val hF rfl rfl rfl (e_extract hF rfl rfl) ?_; intro a hF
    refine s_alloc (ps := [Pt.ar (Ar.zero 2)]) hF hM rfl rfl zv29 rfl ?_; intro a w b18 hF hM
    refine s_stw (i := 0) (ps' := [Pt.ar t16.1]) hF hM rfl rfl rfl rfl rfl rfl Try.sizeOf29 rfl ?_; intro a w hF hM
    refine s_val hF rfl rfl rfl (e_assign hF rfl) ?_; intro a hF
    refine s_nil ?_
    refine then_n ?_
    refine wp_seq ?_
    refine wp_seq ?_
    obtain ⟨t19, h20, H⟩ := bind_some H
    rcases ite_cases H with ⟨c21, H⟩ | ⟨c21, H⟩
    ·
      refine s_region ?_
      refine s_val hF rfl rfl rfl (e_lda (i := 0) 0 1 hF hM rfl rfl rfl rfl Try.isAgg29 Try.sizeOf29 rfl) ?_; intro a hF
      refine s_val hF rfl rfl rfl (e_lda (i := 2) 0 1 hF hM rfl rfl rfl rfl Try.isAgg29 Try.sizeOf29 rfl) ?_; intro a hF
      refine s_call hF rfl rfl rfl Try.call21 (laws_eqIntA2.calls K t16.1 t8.1 t19 h20) ?_; intro a w v hF hf hR
      subst hR; have hM := hM.grow hf
      refine s_val hF rfl rfl rfl (e_not hF rfl) ?_; intro a hF
      refine s_val hF rfl rfl rfl (e_move hF rfl) ?_; intro a hF
      have hF := hF.topb (congrArg Bool.not c21)
      refine s_val hF rfl rfl rfl (e_move hF rfl) ?_; intro a hF
      refine s_val hF rfl rfl rfl (e_move hF rfl) ?_; intro a hF
      refine s_val hF rfl rfl rfl (e_bneq hF rfl rfl Try.underlying4) ?_; intro a hF
      refine s_val hF rfl rfl rfl (e_pick_f hF rfl rfl) ?_; intro a hF
      refine s_nil ?_
      refine then_n ?_
      rcases ite_cases H with ⟨c22, H⟩ | ⟨c22, H⟩
      ·
        refine s_cond_f hF rfl (congrArg Bool.not c22) ?_
        refine wp_skip ?_
        refine then_n ?_
        refine wp_seq ?_
        refine wp_seq ?_
        obtain ⟨t23, h24, H⟩ := bind_some H
        obtain ⟨t26, h27, H⟩ := bind_some H
        refine s_region ?_
        refine s_val hF rfl rfl rfl (e_move hF rfl) ?_; intro a hF
        refine s_val hF rfl rfl rfl (e_move hF rfl) ?_; intro a hF
        refine s_call hF rfl rfl rfl Try.call36 (laws_toIntS.calls K l1 u1 (q1.frm hM.frm) t23 h24) ?_; intro a w v25 hF hf hR
        have hM := hM.fresh hf hR
        refine s_call hF rfl rfl rfl Try.call38 (laws_eqIntS.calls K t11 v13 (hM.sl 2 rfl) t23 v25 (hM.sl 0 rfl) t26 h27) ?_; intro a w v hF hf hR
        subst hR; have hM := hM.grow hf
        refine s_val hF rfl rfl rfl (e_not hF rfl) ?_; intro a hF
        refine s_nil ?_
        refine then_n ?_
        rcases ite_cases H with ⟨c28, H⟩ | ⟨c28, H⟩
        ·
          refine s_cond_f hF rfl (congrArg Bool.not c28) ?_
          refine wp_skip ?_
          refine then_n ?_
          refine wp_seq ?_
          refine s_region ?_
          refine s_val hF rfl rfl rfl (e_assign hF rfl) ?_; intro a hF
          refine s_nil ?_
          refine then_n ?_
          refine wp_ret ?_
          obtain rfl := some_some H
          refine s_ret [Value.bool true] hF Try.results14 ⟨rfl, trivial⟩ ?_
          exact ⟨_, rfl, hM.frm, rfl⟩
        ·
          refine s_cond_t hF rfl (congrArg Bool.not (bf c28)) ?_
          refine wp_seq ?_
          refine s_region ?_
          refine s_val hF rfl rfl rfl (e_assign hF rfl) ?_; intro a hF
          refine s_nil ?_
          refine then_n ?_
          refine wp_ret ?_
          refine then_r ?_
          obtain rfl := some_some H
          refine s_ret [Value.bool false] hF Try.results14 ⟨rfl, trivial⟩ ?_
          exact ⟨_, rfl, hM.frm, rfl⟩
      ·
        refine s_cond_t hF rfl (congrArg Bool.not (bf c22)) ?_
        refine wp_seq ?_
        refine s_region ?_
        refine s_val hF rfl rfl rfl (e_assign hF rfl) ?_; intro a hF
        refine s_nil ?_
        refine then_n ?_
        refine wp_ret ?_
        refine then_r ?_
        obtain rfl := some_some H
        refine s_ret [Value.bool false] hF Try.results14 ⟨rfl, trivial⟩ ?_
        exact ⟨_, rfl, hM.frm, rfl⟩
    ·
      refine s_region ?_
      refine s_val hF rfl rfl rfl (e_lda (i := 0) 0 1 hF hM rfl rfl rfl rfl Try.isAgg29 Try.sizeOf29 rfl) ?_; intro a hF
      refine s_val hF rfl rfl rfl (e_lda (i := 2) 0 1 hF hM rfl rfl rfl rfl Try.isAgg29 Try.sizeOf29 rfl) ?_; intro a hF
      refine s_call hF rfl rfl rfl Try.call21 (laws_eqIntA2.calls K t16.1 t8.1 t19 h20) ?_; intro a w v hF hf hR
      subst hR; have hM := hM.grow hf
      refine s_val hF rfl rfl rfl (e_not hF rfl) ?_; intro a hF
      refine s_val hF rfl rfl rfl (e_move hF rfl) ?_; intro a hF
      have hF := hF.topb (congrArg Bool.not (bf c21))
      refine s_skip hF rfl rfl rfl ?_; intro a hF
      refine s_skip hF rfl rfl rfl ?_; intro a hF
      refine s_skip hF rfl rfl rfl ?_; intro a hF
      refine s_val hF rfl rfl rfl (e_pick_t hF rfl rfl) ?_; intro a hF
      refine s_nil ?_
      refine then_n ?_
      refine s_cond_t hF rfl rfl ?_
      refine wp_seq ?_
      refine s_region ?_
      refine s_val hF rfl rfl rfl (e_assign hF rfl) ?_; intro a hF
      refine s_nil ?_
      refine then_n ?_
      refine wp_ret ?_
      refine then_r ?_
      obtain rfl := some_some H
      refine s_ret [Value.bool false] hF Try.results14 ⟨rfl, trivial⟩ ?_
      exact ⟨_, rfl, hM.frm, rfl⟩

/-! ### loop.example/g01210/impl.truth: function 90 -/
def impl_truth.f (K : Nat) (a0 : Bool) : Option Int := if a0 = true then (some 1) else (some 0)
set_option maxRecDepth 100000 in
set_option maxHeartbeats 4000000 in
theorem impl_truth.calls {w0 : World} (K : Nat) (a0 : Bool) (r : Int) (H : impl_truth.f K a0 = some r) : Calls Try.prog 90 [Value.bool a0].toArray w0 (Post w0 fun w v => v = Value.int .i64 r) := by
  rw [impl_truth.f] at H
  refine s_start Try.func90 rfl Try.ntmps90 rfl ?_
  intro a hF
  have hM := Ms.start w0
  skip
  refine wp_seq ?_
  refine s_region ?_
  refine s_val hF rfl rfl rfl (e_assign hF rfl) ?_; intro a hF
  refine s_nil ?_
  refine then_n ?_
  refine wp_seq ?_
  refine wp_seq ?_
  refine s_region ?_
  refine s_val hF rfl rfl rfl (e_move hF rfl) ?_; intro a hF
  refine s_nil ?_
  refine then_n ?_
  rcases ite_cases H with ⟨c1, H⟩ | ⟨c1, H⟩
  ·
    refine s_cond_t hF rfl c1 ?_
    refine wp_seq ?_
    refine s_region ?_
    refine s_val hF rfl rfl rfl (e_assign hF rfl) ?_; intro a hF
    refine s_nil ?_
    refine then_n ?_
    refine wp_ret ?_
    refine then_r ?_
    obtain rfl := some_some H
    refine s_ret [Value.int .i64 1] hF Try.results90 ⟨rfl, trivial⟩ ?_
    exact ⟨_, rfl, hM.frm, rfl⟩
  ·
    refine s_cond_f hF rfl (bf c1) ?_
    refine wp_skip ?_
    refine then_n ?_
    refine wp_seq ?_
    refine s_region ?_
    refine s_val hF rfl rfl rfl (e_assign hF rfl) ?_; intro a hF
    refine s_nil ?_
    refine then_n ?_
    refine wp_ret ?_
    obtain rfl := some_some H
    refine s_ret [Value.int .i64 0] hF Try.results90 ⟨rfl, trivial⟩ ?_
    exact ⟨_, rfl, hM.frm, rfl⟩

/-! ### loop.example/g01210/impl.weight: function 58 -/
def impl_weight.l0 (K : Nat) (a0 : (Ar 6)) (a1 : Int) : Nat → Int → Int → Option Int
  | 0, _, _ => none
  | k + 1, x11, x12 => if x12 < 6 then (if (0 : Int) ≤ x12 ∧ x12 < 6 then ((impl_truth.f K (decide ((a0.get x12) = a1))).bind fun t15 => impl_weight.l0 K a0 a1 k (wrap64 (x11 + t15)) (wrap64 (x12 + 1))) else none) else (some x11)
def impl_weight.f (K : Nat) (a0 : (Ar 6)) (a1 : Int) : Option Int := (impl_weight.l0 K a0 a1 K 0 0).bind fun x10 => some x10
set_option maxRecDepth 100000 in
set_option maxHeartbeats 4000000 in
theorem impl_weight.calls {w0 : World} (K : Nat) (a0 : (Ar 6)) (a1 : Int) (r : Int) (H : impl_weight.f K a0 a1 = some r) : Calls Try.prog 58 [ag [Pt.ar a0], Value.int .i64 a1].toArray w0 (Post w0 fun w v => v = Value.int .i64 r) := by
  rw [impl_weight.f] at H
  refine s_start Try.func58 rfl Try.ntmps58 rfl ?_
  intro a hF
  have hM := Ms.start w0
  skip
  refine wp_seq ?_
  refine s_region ?_
  refine s_box (ps := [Pt.ar a0]) hF hM rfl rfl rfl rfl ?_; intro a w b1 hF hM
  refine s_val hF rfl rfl rfl (e_assign hF rfl) ?_; intro a hF
  refine s_nil ?_
  refine then_n ?_
  refine wp_seq ?_
  refine s_region ?_
  refine s_val hF rfl rfl rfl (e_assign hF rfl) ?_; intro a hF
  refine s_nil ?_
  refine then_n ?_
  refine wp_seq ?_
  refine wp_seq ?_
  refine s_region ?_
  refine s_val hF rfl rfl rfl (e_lda (i := 0) 0 1 hF hM rfl rfl rfl rfl Try.isAgg22 Try.sizeOf22 rfl) ?_; intro a hF
  refine s_val hF rfl rfl rfl (e_move hF rfl) ?_; intro a hF
  refine s_nil ?_
  refine then_n ?_
  refine wp_block ?_
  obtain ⟨o17, h18, H⟩ := bind_some H
  refine wp_mono (Q := fun e a w => (e = Exit.exit 0 ∧ ∃ x10 : Int, x10 = o17 ∧ Fr 20 a [(5, Value.int .i64 x10)] ∧ Ms [] w0 w [])) ?_ ?_
  · refine s_loop (fun kq a w => ∃ x11 : Int, ∃ x12 : Int, impl_weight.l0 K a0 a1 kq x11 x12 = some o17 ∧ Fr 20 a [(1, Value.int .i64 a1), (5, Value.int .i64 x11), (8, ag [Pt.ar a0]), (9, Value.int .i64 x12)] ∧ Ms [] w0 w []) K ⟨0, 0, h18, hF.sub _ ⟨rfl, rfl, rfl, rfl, trivial⟩, hM.pick [] rfl rfl⟩ ?_ ?_
    · rintro a w ⟨_, _, H, _⟩; exact none_some H
    · rintro k a w ⟨x11, x12, H, hF, hM⟩; rw [impl_weight.l0] at H
      refine wp_seq ?_
      refine s_region ?_
      refine s_val hF rfl rfl rfl (e_lss hF rfl rfl) ?_; intro a hF
      refine s_nil ?_
      refine then_n ?_
      refine wp_seq ?_
      rcases ite_cases H with ⟨c13, H⟩ | ⟨c13, H⟩
      ·
        refine s_cond_t hF rfl (decide_eq_true c13) ?_
        refine wp_skip ?_
        refine then_n ?_
        refine wp_seq ?_
        refine wp_block ?_
        refine wp_seq ?_
        obtain ⟨c14, H⟩ := ite_some H
        refine s_region ?_
        refine s_val hF rfl rfl rfl (e_ix hF rfl rfl Try.underlying22 Try.sizeOf3 Try.isAgg3 c14.1 c14.2) ?_; intro a hF
        refine s_val hF rfl rfl rfl (e_assign hF rfl) ?_; intro a hF
        refine s_nil ?_
        refine then_n ?_
        obtain ⟨t15, h16, H⟩ := bind_some H
        refine s_region ?_
        refine s_val hF rfl rfl rfl (e_move hF rfl) ?_; intro a hF
        refine s_val hF rfl rfl rfl (e_move hF rfl) ?_; intro a hF
        refine s_val hF rfl rfl rfl (e_move hF rfl) ?_; intro a hF
        refine s_val hF rfl rfl rfl (e_eql hF rfl rfl) ?_; intro a hF
        refine s_call hF rfl rfl rfl Try.call90 (impl_truth.calls K (decide ((a0.get x12) = a1)) t15 h16) ?_; intro a w v hF hf hR
        subst hR; have hM := hM.grow hf
        refine s_val hF rfl rfl rfl (e_add hF rfl rfl) ?_; intro a hF
        refine s_val hF rfl rfl rfl (e_assign hF rfl) ?_; intro a hF
        refine s_nil ?_
        refine blk_n ?_
        refine then_n ?_
        refine s_region ?_
        refine s_val hF rfl rfl rfl (e_add hF rfl rfl) ?_; intro a hF
        refine s_val hF rfl rfl rfl (e_move hF rfl) ?_; intro a hF
        refine s_nil ?_
        refine then_n ?_
        exact ⟨(wrap64 (x11 + t15)), (wrap64 (x12 + 1)), H, hF.sub _ ⟨rfl, rfl, rfl, rfl, trivial⟩, hM.pick [] rfl rfl⟩
      ·
        refine s_cond_f hF rfl (decide_eq_false c13) ?_
        refine wp_exit ?_
        refine then_x ?_
        refine then_x ?_
        exact ⟨rfl, x11, some_some H, hF.sub _ ⟨rfl, trivial⟩, hM.pick [] rfl rfl⟩
  · rintro e a w ⟨rfl, x10, rfl, hF, hM⟩
    skip
    refine blk_x ?_
    refine then_n ?_
    refine wp_seq ?_
    refine s_region ?_
    refine s_val hF rfl rfl rfl (e_move hF rfl) ?_; intro a hF
    refine s_val hF rfl rfl rfl (e_assign hF rfl) ?_; intro a hF
    refine s_nil ?_
    refine then_n ?_
    refine wp_ret ?_
    obtain rfl := some_some H
    refine s_ret [Value.int .i64 x10] hF Try.results58 ⟨rfl, trivial⟩ ?_
    exact ⟨_, rfl, hM.frm, rfl⟩

end Go.Proofs.Ytnjfmhgmbfemdaa.WPhraseWithin

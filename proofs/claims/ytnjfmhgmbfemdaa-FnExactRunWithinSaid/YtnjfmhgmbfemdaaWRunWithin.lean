/- The walk through the code that the statement reaches: what each function computes. Conditions: none but those in each line. -/
import Derived.Test.YtnjfmhgmbfemdaaProg
import Derived.Test.YtnjfmhgmbfemdaaK
namespace Go.Proofs.Ytnjfmhgmbfemdaa.WRunWithin
open Go.K Go.RowKit
set_option linter.unusedVariables false
set_option linter.unusedSimpArgs false

def cd3 : Cd Int := ⟨3, 1, 8, fun x => [Pt.int x], fun x => Value.int .i64 x, (0 : Int), fun _ => rfl, fun _ => rfl, by decide⟩
theorem cdok3 : CdOk Try.prog cd3 := by
  obtain ⟨i, h1, h2, h3, h4⟩ := info_parts (by kernel_rfl : (Try.prog.info? 3).map (fun i => (i.zero, i.size, i.bytes)) = some (some (cd3.v cd3.z), 1, 8))
  exact ⟨⟨i, h1, h3, h4, h2⟩, by decide⟩
theorem zv3 (w : World) : (zeroValue 3).run Try.prog w = .ok (Value.int .i64 (0 : Int)) w := by kernel_rfl
theorem zv22 (w : World) : (zeroValue 22).run Try.prog w = .ok (ag [Pt.ar (Ar.zero 6)]) w := by kernel_rfl
theorem zv29 (w : World) : (zeroValue 29).run Try.prog w = .ok (ag [Pt.ar (Ar.zero 2)]) w := by kernel_rfl
theorem mixed : Try.prog.follows .mixedOrders = true := by kernel_rfl

/-! ### loop.example/g01210/laws.toIntA6: function 16 -/
def laws_toIntA6.l0 (K : Nat) (a0 : (Ar 6)) : Nat → Int → (Ar 6) → Option (Ar 6)
  | 0, _, _ => none
  | k + 1, x9, x10 => if x9 < 6 then (if (0 : Int) ≤ x9 ∧ x9 < 6 then (laws_toIntA6.l0 K a0 k (wrap64 (x9 + 1)) (x10.set x9 (a0.get x9))) else none) else (some x10)
def laws_toIntA6.f (K : Nat) (a0 : (Ar 6)) : Option (Ar 6) := (laws_toIntA6.l0 K a0 K 0 (Ar.zero 6)).bind fun x8 => some x8
set_option maxRecDepth 100000 in
set_option maxHeartbeats 4000000 in
theorem laws_toIntA6.calls {w0 : World} (K : Nat) (a0 : (Ar 6)) (r : (Ar 6)) (H : laws_toIntA6.f K a0 = some r) : Calls Try.prog 16 [ag [Pt.ar a0]].toArray w0 (Post w0 fun w v => v = ag [Pt.ar r]) := by
  rw [laws_toIntA6.f] at H
  refine s_start Try.func16 rfl Try.ntmps16 rfl ?_
  intro a hF
  have hM := Ms.start w0
  skip
  refine wp_seq ?_
  refine s_region ?_
  refine s_box (ps := [Pt.ar a0]) hF hM rfl rfl rfl rfl ?_; intro a w b1 hF hM
  refine s_alloc (ps := [Pt.ar (Ar.zero 6)]) hF hM rfl rfl zv22 rfl ?_; intro a w b2 hF hM
  refine s_nil ?_
  refine then_n ?_
  refine wp_seq ?_
  refine s_region ?_
  refine s_alloc (ps := [Pt.ar (Ar.zero 6)]) hF hM rfl rfl zv22 rfl ?_; intro a w b3 hF hM
  refine s_nil ?_
  refine then_n ?_
  refine wp_seq ?_
  refine wp_seq ?_
  refine s_region ?_
  refine s_val hF rfl rfl rfl (e_assign hF rfl) ?_; intro a hF
  refine s_nil ?_
  refine then_n ?_
  refine wp_block ?_
  obtain ⟨o13, h14, H⟩ := bind_some H
  refine wp_mono (Q := fun e a w => (e = Exit.exit 0 ∧ ∃ x8 : (Ar 6), x8 = o13 ∧ Fr 15 a [(2, pt b2 0), (3, pt b3 0)] ∧ Ms [] w0 w [boxR b2 [Pt.ar (Ar.zero 6)] 22, boxR b3 [Pt.ar x8] 22])) ?_ ?_
  · refine s_loop (fun kq a w => ∃ x9 : Int, ∃ x10 : (Ar 6), laws_toIntA6.l0 K a0 kq x9 x10 = some o13 ∧ Fr 15 a [(1, pt b1 0), (2, pt b2 0), (3, pt b3 0), (4, Value.int .i64 x9)] ∧ Ms [] w0 w [boxR b1 [Pt.ar a0] 22, boxR b2 [Pt.ar (Ar.zero 6)] 22, boxR b3 [Pt.ar x10] 22]) K ⟨0, (Ar.zero 6), h14, hF.sub _ ⟨rfl, rfl, rfl, rfl, trivial⟩, hM.pick [2, 1, 0] rfl rfl⟩ ?_ ?_
    · rintro a w ⟨_, _, H, _⟩; exact none_some H
    · rintro k a w ⟨x9, x10, H, hF, hM⟩; rw [laws_toIntA6.l0] at H
      refine wp_seq ?_
      refine wp_seq ?_
      refine s_region ?_
      refine s_val hF rfl rfl rfl (e_move hF rfl) ?_; intro a hF
      refine s_val hF rfl rfl rfl (e_lss hF rfl rfl) ?_; intro a hF
      refine s_nil ?_
      refine then_n ?_
      rcases ite_cases H with ⟨c11, H⟩ | ⟨c11, H⟩
      ·
        refine s_cond_t hF rfl (decide_eq_true c11) ?_
        refine wp_skip ?_
        refine then_n ?_
        refine wp_seq ?_
        refine wp_block ?_
        obtain ⟨c12, H⟩ := ite_some H
        refine s_region ?_
        refine s_val hF rfl rfl rfl (e_move hF rfl) ?_; intro a hF
        refine s_val hF rfl rfl rfl (e_move hF rfl) ?_; intro a hF
        refine s_val hF rfl rfl rfl (e_ia hF rfl rfl Try.underlying22 Try.sizeOf3 c12.1 c12.2) ?_; intro a hF
        refine s_val hF rfl rfl rfl (e_ldi (i := 0) (k := 0) hF hM rfl rfl rfl rfl rfl Try.isAgg3 c12.1 c12.2) ?_; intro a hF
        refine s_val hF rfl rfl rfl (e_ia hF rfl rfl Try.underlying22 Try.sizeOf3 c12.1 c12.2) ?_; intro a hF
        refine s_sti (i := 2) (k := 0) hF hM rfl rfl rfl rfl rfl rfl rfl Try.sizeOf3 c12.1 c12.2 ?_; intro a w hF hM
        refine s_nil ?_
        refine blk_n ?_
        refine then_n ?_
        refine s_region ?_
        refine s_val hF rfl rfl rfl (e_move hF rfl) ?_; intro a hF
        refine s_val hF rfl rfl rfl (e_add hF rfl rfl) ?_; intro a hF
        refine s_val hF rfl rfl rfl (e_assign hF rfl) ?_; intro a hF
        refine s_nil ?_
        refine then_n ?_
        exact ⟨(wrap64 (x9 + 1)), (x10.set x9 (a0.get x9)), H, hF.sub _ ⟨rfl, rfl, rfl, rfl, trivial⟩, hM.pick [0, 1, 2] rfl rfl⟩
      ·
        refine s_cond_f hF rfl (decide_eq_false c11) ?_
        refine wp_exit ?_
        refine then_x ?_
        refine then_x ?_
        exact ⟨rfl, x10, some_some H, hF.sub _ ⟨rfl, rfl, trivial⟩, hM.pick [1, 2] rfl rfl⟩
  · rintro e a w ⟨rfl, x8, rfl, hF, hM⟩
    skip
    refine blk_x ?_
    refine then_n ?_
    refine wp_seq ?_
    refine s_region ?_
    refine s_val hF rfl rfl rfl (e_lda (i := 1) 0 1 hF hM rfl rfl rfl rfl Try.isAgg22 Try.sizeOf22 rfl) ?_; intro a hF
    refine s_stw (i := 0) (ps' := [Pt.ar x8]) hF hM rfl rfl rfl rfl rfl rfl Try.sizeOf22 rfl ?_; intro a w hF hM
    refine s_nil ?_
    refine then_n ?_
    refine wp_ret ?_
    obtain rfl := some_some H
    refine s_ret [ag [Pt.ar x8]] hF Try.results16 ⟨⟨_, rfl, rv_box hM (i := 0) rfl Try.isAgg22 Try.sizeOf22 rfl⟩, trivial⟩ ?_
    exact ⟨_, rfl, hM.frm, rfl⟩

/-! ### loop.example/g01210/spec.l1In: function 48 -/
def spec_l1In.f (K : Nat) (a0 : Int) (a1 : Int) (a2 : Int) : Option Bool := if a1 ≤ a0 then (some (decide (a0 ≤ a2))) else (some false)
set_option maxRecDepth 100000 in
set_option maxHeartbeats 4000000 in
theorem spec_l1In.calls {w0 : World} (K : Nat) (a0 : Int) (a1 : Int) (a2 : Int) (r : Bool) (H : spec_l1In.f K a0 a1 a2 = some r) : Calls Try.prog 48 [Value.int .i64 a0, Value.int .i64 a1, Value.int .i64 a2].toArray w0 (Post w0 fun w v => v = Value.bool r) := by
  rw [spec_l1In.f] at H
  refine s_start Try.func48 rfl Try.ntmps48 rfl ?_
  intro a hF
  have hM := Ms.start w0
  skip
  refine wp_seq ?_
  refine s_region ?_
  refine s_val hF rfl rfl rfl (e_assign hF rfl) ?_; intro a hF
  refine s_nil ?_
  refine then_n ?_
  refine wp_seq ?_
  rcases ite_cases H with ⟨c1, H⟩ | ⟨c1, H⟩
  ·
    refine s_region ?_
    refine s_val hF rfl rfl rfl (e_move hF rfl) ?_; intro a hF
    refine s_val hF rfl rfl rfl (e_move hF rfl) ?_; intro a hF
    refine s_val hF rfl rfl rfl (e_geq hF rfl rfl) ?_; intro a hF
    refine s_val hF rfl rfl rfl (e_move hF rfl) ?_; intro a hF
    have hF := hF.topb (decide_eq_true c1)
    refine s_val hF rfl rfl rfl (e_move hF rfl) ?_; intro a hF
    refine s_val hF rfl rfl rfl (e_move hF rfl) ?_; intro a hF
    refine s_val hF rfl rfl rfl (e_leq hF rfl rfl) ?_; intro a hF
    refine s_val hF rfl rfl rfl (e_pick_t hF rfl rfl) ?_; intro a hF
    refine s_val hF rfl rfl rfl (e_assign hF rfl) ?_; intro a hF
    refine s_nil ?_
    refine then_n ?_
    refine wp_ret ?_
    obtain rfl := some_some H
    refine s_ret [Value.bool (decide (a0 ≤ a2))] hF Try.results48 ⟨rfl, trivial⟩ ?_
    exact ⟨_, rfl, hM.frm, rfl⟩
  ·
    refine s_region ?_
    refine s_val hF rfl rfl rfl (e_move hF rfl) ?_; intro a hF
    refine s_val hF rfl rfl rfl (e_move hF rfl) ?_; intro a hF
    refine s_val hF rfl rfl rfl (e_geq hF rfl rfl) ?_; intro a hF
    refine s_val hF rfl rfl rfl (e_move hF rfl) ?_; intro a hF
    have hF := hF.topb (decide_eq_false c1)
    refine s_skip hF rfl rfl rfl ?_; intro a hF
    refine s_skip hF rfl rfl rfl ?_; intro a hF
    refine s_skip hF rfl rfl rfl ?_; intro a hF
    refine s_val hF rfl rfl rfl (e_pick_f hF rfl rfl) ?_; intro a hF
    refine s_val hF rfl rfl rfl (e_assign hF rfl) ?_; intro a hF
    refine s_nil ?_
    refine then_n ?_
    refine wp_ret ?_
    obtain rfl := some_some H
    refine s_ret [Value.bool false] hF Try.results48 ⟨rfl, trivial⟩ ?_
    exact ⟨_, rfl, hM.frm, rfl⟩

/-! ### loop.example/g01210/spec.l2Die: function 47 -/
def spec_l2Die.l0 (K : Nat) (a0 : (Ar 6)) : Nat → Int → Option (Sum Unit Bool)
  | 0, _ => none
  | k + 1, x14 => if x14 < 6 then (if (0 : Int) ≤ x14 ∧ x14 < 6 then ((spec_l1In.f K (a0.get x14) 0 30).bind fun t17 => if t17 = true then (if 0 < x14 then (if (0 : Int) ≤ (wrap64 (x14 - 1)) ∧ (wrap64 (x14 - 1)) < 6 then (if (a0.get x14) < (a0.get (wrap64 (x14 - 1))) then (some (Sum.inr false)) else (spec_l2Die.l0 K a0 k (wrap64 (x14 + 1)))) else none) else (spec_l2Die.l0 K a0 k (wrap64 (x14 + 1)))) else (some (Sum.inr false))) else none) else (some (Sum.inl ()))
def spec_l2Die.f (K : Nat) (a0 : (Ar 6)) : Option Bool := (spec_l2Die.l0 K a0 K 0).bind fun o23 => (match o23 with | .inl () => some true | .inr r25 => some r25)
set_option maxRecDepth 100000 in
set_option maxHeartbeats 4000000 in
theorem spec_l2Die.calls {w0 : World} (K : Nat) (a0 : (Ar 6)) (r : Bool) (H : spec_l2Die.f K a0 = some r) : Calls Try.prog 47 [ag [Pt.ar a0]].toArray w0 (Post w0 fun w v => v = Value.bool r) := by
  rw [spec_l2Die.f] at H
  refine s_start Try.func47 rfl Try.ntmps47 rfl ?_
  intro a hF
  have hM := Ms.start w0
  skip
  refine wp_seq ?_
  refine s_region ?_
  refine s_box (ps := [Pt.ar a0]) hF hM rfl rfl rfl rfl ?_; intro a w b1 hF hM
  refine s_val hF rfl rfl rfl (e_assign hF rfl) ?_; intro a hF
  refine s_nil ?_
  refine then_n ?_
  refine wp_seq ?_
  refine wp_seq ?_
  refine s_region ?_
  refine s_val hF rfl rfl rfl (e_assign hF rfl) ?_; intro a hF
  refine s_nil ?_
  refine then_n ?_
  refine wp_block ?_
  obtain ⟨o23, h24, H⟩ := bind_some H
  refine wp_mono (Q := fun e a w => (e = Exit.exit 0 ∧ Sum.inl () = o23 ∧ Fr 27 a [] ∧ Ms [] w0 w []) ∨ (e = Exit.ret ∧ ∃ r25 : Bool, Sum.inr r25 = o23 ∧ Fr 27 a [(2, Value.bool r25)] ∧ Ms [] w0 w [])) ?_ ?_
  · refine s_loop (fun kq a w => ∃ x14 : Int, spec_l2Die.l0 K a0 kq x14 = some o23 ∧ Fr 27 a [(1, pt b1 0), (3, Value.int .i64 x14)] ∧ Ms [] w0 w [boxR b1 [Pt.ar a0] 22]) K ⟨0, h24, hF.sub _ ⟨rfl, rfl, trivial⟩, hM.pick [0] rfl rfl⟩ ?_ ?_
    · rintro a w ⟨_, H, _⟩; exact none_some H
    · rintro k a w ⟨x14, H, hF, hM⟩; rw [spec_l2Die.l0] at H
      refine wp_seq ?_
      refine wp_seq ?_
      refine s_region ?_
      refine s_val hF rfl rfl rfl (e_move hF rfl) ?_; intro a hF
      refine s_val hF rfl rfl rfl (e_lss hF rfl rfl) ?_; intro a hF
      refine s_nil ?_
      refine then_n ?_
      rcases ite_cases H with ⟨c15, H⟩ | ⟨c15, H⟩
      ·
        refine s_cond_t hF rfl (decide_eq_true c15) ?_
        refine wp_skip ?_
        refine then_n ?_
        refine wp_seq ?_
        refine wp_block ?_
        refine wp_seq ?_
        obtain ⟨c16, H⟩ := ite_some H
        obtain ⟨t17, h18, H⟩ := bind_some H
        rcases ite_cases H with ⟨c19, H⟩ | ⟨c19, H⟩
        ·
          rcases ite_cases H with ⟨c20, H⟩ | ⟨c20, H⟩
          ·
            obtain ⟨c21, H⟩ := ite_some H
            refine s_held (fun w => Ms [] w0 w [boxR b1 [Pt.ar a0] 22]) #[false, false, false, false, false, false, false, false, false, false, false, false, false, false, false, false, false, false, false] mixed rfl rfl hM ?_; intro w hf hM; clear hf
            refine h_val 0 #[true, false, false, false, false, false, false, false, false, false, false, false, false, false, false, false, false, false, false] rfl (by kernel_rfl) hF rfl rfl rfl (fun w hS => e_move hF rfl) (hM.pick [0] rfl rfl) ?_; intro a hF
            refine h_val 1 #[true, true, false, false, false, false, false, false, false, false, false, false, false, false, false, false, false, false, false] rfl (by kernel_rfl) hF rfl rfl rfl (fun w hS => e_ia hF rfl rfl Try.underlying22 Try.sizeOf3 c16.1 c16.2) (hM.pick [0] rfl rfl) ?_; intro a hF
            refine h_val 2 #[true, true, true, false, false, false, false, false, false, false, false, false, false, false, false, false, false, false, false] rfl (by kernel_rfl) hF rfl rfl rfl (fun w hS => e_ldi (i := 0) (k := 0) hF hS rfl rfl rfl rfl rfl Try.isAgg3 c16.1 c16.2) (hM.pick [0] rfl rfl) ?_; intro a hF
            refine h_one 3 #[true, true, true, true, false, false, false, false, false, false, false, false, false, false, false, false, false, false, false] rfl (by kernel_rfl) ?_
            refine s_call hF rfl rfl rfl Try.call48 (spec_l1In.calls K (a0.get x14) 0 30 t17 h18) ?_; intro a w v hF hf hR
            subst hR; have hM := hM.grow hf
            refine s_nil ⟨rfl, (hM.pick [0] rfl rfl), ?_⟩
            refine h_val 4 #[true, true, true, true, true, false, false, false, false, false, false, false, false, false, false, false, false, false, false] rfl (by kernel_rfl) hF rfl rfl rfl (fun w hS => e_not hF rfl) (hM.pick [0] rfl rfl) ?_; intro a hF
            refine h_val 5 #[true, true, true, true, true, true, false, false, false, false, false, false, false, false, false, false, false, false, false] rfl (by kernel_rfl) hF rfl rfl rfl (fun w hS => e_move hF rfl) (hM.pick [0] rfl rfl) ?_; intro a hF
            have hF := hF.topb (congrArg Bool.not c19)
            refine h_val 6 #[true, true, true, true, true, true, true, false, false, false, false, false, false, false, false, false, false, false, false] rfl (by kernel_rfl) hF rfl rfl rfl (fun w hS => e_move hF rfl) (hM.pick [0] rfl rfl) ?_; intro a hF
            refine h_val 7 #[true, true, true, true, true, true, true, true, false, false, false, false, false, false, false, false, false, false, false] rfl (by kernel_rfl) hF rfl rfl rfl (fun w hS => e_gtr hF rfl rfl) (hM.pick [0] rfl rfl) ?_; intro a hF
            refine h_val 8 #[true, true, true, true, true, true, true, true, true, false, false, false, false, false, false, false, false, false, false] rfl (by kernel_rfl) hF rfl rfl rfl (fun w hS => e_move hF rfl) (hM.pick [0] rfl rfl) ?_; intro a hF
            have hF := hF.topb (decide_eq_true c20)
            refine h_val 9 #[true, true, true, true, true, true, true, true, true, true, false, false, false, false, false, false, false, false, false] rfl (by kernel_rfl) hF rfl rfl rfl (fun w hS => e_move hF rfl) (hM.pick [0] rfl rfl) ?_; intro a hF
            refine h_val 10 #[true, true, true, true, true, true, true, true, true, true, true, false, false, false, false, false, false, false, false] rfl (by kernel_rfl) hF rfl rfl rfl (fun w hS => e_ia hF rfl rfl Try.underlying22 Try.sizeOf3 c16.1 c16.2) (hM.pick [0] rfl rfl) ?_; intro a hF
            refine h_val 11 #[true, true, true, true, true, true, true, true, true, true, true, true, false, false, false, false, false, false, false] rfl (by kernel_rfl) hF rfl rfl rfl (fun w hS => e_ldi (i := 0) (k := 0) hF hS rfl rfl rfl rfl rfl Try.isAgg3 c16.1 c16.2) (hM.pick [0] rfl rfl) ?_; intro a hF
            refine h_val 12 #[true, true, true, true, true, true, true, true, true, true, true, true, true, false, false, false, false, false, false] rfl (by kernel_rfl) hF rfl rfl rfl (fun w hS => e_move hF rfl) (hM.pick [0] rfl rfl) ?_; intro a hF
            refine h_val 13 #[true, true, true, true, true, true, true, true, true, true, true, true, true, true, false, false, false, false, false] rfl (by kernel_rfl) hF rfl rfl rfl (fun w hS => e_sub hF rfl rfl) (hM.pick [0] rfl rfl) ?_; intro a hF
            refine h_val 14 #[true, true, true, true, true, true, true, true, true, true, true, true, true, true, true, false, false, false, false] rfl (by kernel_rfl) hF rfl rfl rfl (fun w hS => e_ia hF rfl rfl Try.underlying22 Try.sizeOf3 c21.1 c21.2) (hM.pick [0] rfl rfl) ?_; intro a hF
            refine h_val 15 #[true, true, true, true, true, true, true, true, true, true, true, true, true, true, true, true, false, false, false] rfl (by kernel_rfl) hF rfl rfl rfl (fun w hS => e_ldi (i := 0) (k := 0) hF hS rfl rfl rfl rfl rfl Try.isAgg3 c21.1 c21.2) (hM.pick [0] rfl rfl) ?_; intro a hF
            refine h_val 16 #[true, true, true, true, true, true, true, true, true, true, true, true, true, true, true, true, true, false, false] rfl (by kernel_rfl) hF rfl rfl rfl (fun w hS => e_lss hF rfl rfl) (hM.pick [0] rfl rfl) ?_; intro a hF
            refine h_val 17 #[true, true, true, true, true, true, true, true, true, true, true, true, true, true, true, true, true, true, false] rfl (by kernel_rfl) hF rfl rfl rfl (fun w hS => e_pick_t hF rfl rfl) (hM.pick [0] rfl rfl) ?_; intro a hF
            refine h_val 18 #[true, true, true, true, true, true, true, true, true, true, true, true, true, true, true, true, true, true, true] rfl (by kernel_rfl) hF rfl rfl rfl (fun w hS => e_pick_f hF rfl rfl) (hM.pick [0] rfl rfl) ?_; intro a hF
            refine h_done rfl ?_
            refine then_n ?_
            rcases ite_cases H with ⟨c22, H⟩ | ⟨c22, H⟩
            ·
              refine s_cond_t hF rfl (decide_eq_true c22) ?_
              refine wp_seq ?_
              refine s_region ?_
              refine s_val hF rfl rfl rfl (e_assign hF rfl) ?_; intro a hF
              refine s_nil ?_
              refine then_n ?_
              refine wp_ret ?_
              refine blk_r ?_
              refine then_r ?_
              refine then_r ?_
              exact Or.inr (⟨rfl, false, some_some H, hF.sub _ ⟨rfl, trivial⟩, hM.pick [] rfl rfl⟩)
            ·
              refine s_cond_f hF rfl (decide_eq_false c22) ?_
              refine wp_skip ?_
              refine blk_n ?_
              refine then_n ?_
              refine s_region ?_
              refine s_val hF rfl rfl rfl (e_move hF rfl) ?_; intro a hF
              refine s_val hF rfl rfl rfl (e_add hF rfl rfl) ?_; intro a hF
              refine s_val hF rfl rfl rfl (e_assign hF rfl) ?_; intro a hF
              refine s_nil ?_
              refine then_n ?_
              exact ⟨(wrap64 (x14 + 1)), H, hF.sub _ ⟨rfl, rfl, trivial⟩, hM.pick [0] rfl rfl⟩
          ·
            refine s_held (fun w => Ms [] w0 w [boxR b1 [Pt.ar a0] 22]) #[false, false, false, false, false, false, false, false, false, false, false, false, false, false, false, false, false, false, false] mixed rfl rfl hM ?_; intro w hf hM; clear hf
            refine h_val 0 #[true, false, false, false, false, false, false, false, false, false, false, false, false, false, false, false, false, false, false] rfl (by kernel_rfl) hF rfl rfl rfl (fun w hS => e_move hF rfl) (hM.pick [0] rfl rfl) ?_; intro a hF
            refine h_val 1 #[true, true, false, false, false, false, false, false, false, false, false, false, false, false, false, false, false, false, false] rfl (by kernel_rfl) hF rfl rfl rfl (fun w hS => e_ia hF rfl rfl Try.underlying22 Try.sizeOf3 c16.1 c16.2) (hM.pick [0] rfl rfl) ?_; intro a hF
            refine h_val 2 #[true, true, true, false, false, false, false, false, false, false, false, false, false, false, false, false, false, false, false] rfl (by kernel_rfl) hF rfl rfl rfl (fun w hS => e_ldi (i := 0) (k := 0) hF hS rfl rfl rfl rfl rfl Try.isAgg3 c16.1 c16.2) (hM.pick [0] rfl rfl) ?_; intro a hF
            refine h_one 3 #[true, true, true, true, false, false, false, false, false, false, false, false, false, false, false, false, false, false, false] rfl (by kernel_rfl) ?_
            refine s_call hF rfl rfl rfl Try.call48 (spec_l1In.calls K (a0.get x14) 0 30 t17 h18) ?_; intro a w v hF hf hR
            subst hR; have hM := hM.grow hf
            refine s_nil ⟨rfl, (hM.pick [0] rfl rfl), ?_⟩
            refine h_val 4 #[true, true, true, true, true, false, false, false, false, false, false, false, false, false, false, false, false, false, false] rfl (by kernel_rfl) hF rfl rfl rfl (fun w hS => e_not hF rfl) (hM.pick [0] rfl rfl) ?_; intro a hF
            refine h_val 5 #[true, true, true, true, true, true, false, false, false, false, false, false, false, false, false, false, false, false, false] rfl (by kernel_rfl) hF rfl rfl rfl (fun w hS => e_move hF rfl) (hM.pick [0] rfl rfl) ?_; intro a hF
            have hF := hF.topb (congrArg Bool.not c19)
            refine h_val 6 #[true, true, true, true, true, true, true, false, false, false, false, false, false, false, false, false, false, false, false] rfl (by kernel_rfl) hF rfl rfl rfl (fun w hS => e_move hF rfl) (hM.pick [0] rfl rfl) ?_; intro a hF
            refine h_val 7 #[true, true, true, true, true, true, true, true, false, false, false, false, false, false, false, false, false, false, false] rfl (by kernel_rfl) hF rfl rfl rfl (fun w hS => e_gtr hF rfl rfl) (hM.pick [0] rfl rfl) ?_; intro a hF
            refine h_val 8 #[true, true, true, true, true, true, true, true, true, false, false, false, false, false, false, false, false, false, false] rfl (by kernel_rfl) hF rfl rfl rfl (fun w hS => e_move hF rfl) (hM.pick [0] rfl rfl) ?_; intro a hF
            have hF := hF.topb (decide_eq_false c20)
            refine h_skip 9 #[true, true, true, true, true, true, true, true, true, true, false, false, false, false, false, false, false, false, false] rfl (by kernel_rfl) hF rfl rfl rfl (hM.pick [0] rfl rfl) ?_; intro a hF
            refine h_skip 10 #[true, true, true, true, true, true, true, true, true, true, true, false, false, false, false, false, false, false, false] rfl (by kernel_rfl) hF rfl rfl rfl (hM.pick [0] rfl rfl) ?_; intro a hF
            refine h_skip 11 #[true, true, true, true, true, true, true, true, true, true, true, true, false, false, false, false, false, false, false] rfl (by kernel_rfl) hF rfl rfl rfl (hM.pick [0] rfl rfl) ?_; intro a hF
            refine h_skip 12 #[true, true, true, true, true, true, true, true, true, true, true, true, true, false, false, false, false, false, false] rfl (by kernel_rfl) hF rfl rfl rfl (hM.pick [0] rfl rfl) ?_; intro a hF
            refine h_skip 13 #[true, true, true, true, true, true, true, true, true, true, true, true, true, true, false, false, false, false, false] rfl (by kernel_rfl) hF rfl rfl rfl (hM.pick [0] rfl rfl) ?_; intro a hF
            refine h_skip 14 #[true, true, true, true, true, true, true, true, true, true, true, true, true, true, true, false, false, false, false] rfl (by kernel_rfl) hF rfl rfl rfl (hM.pick [0] rfl rfl) ?_; intro a hF
            refine h_skip 15 #[true, true, true, true, true, true, true, true, true, true, true, true, true, true, true, true, false, false, false] rfl (by kernel_rfl) hF rfl rfl rfl (hM.pick [0] rfl rfl) ?_; intro a hF
            refine h_skip 16 #[true, true, true, true, true, true, true, true, true, true, true, true, true, true, true, true, true, false, false] rfl (by kernel_rfl) hF rfl rfl rfl (hM.pick [0] rfl rfl) ?_; intro a hF
            refine h_val 17 #[true, true, true, true, true, true, true, true, true, true, true, true, true, true, true, true, true, true, false] rfl (by kernel_rfl) hF rfl rfl rfl (fun w hS => e_pick_f hF rfl rfl) (hM.pick [0] rfl rfl) ?_; intro a hF
            refine h_val 18 #[true, true, true, true, true, true, true, true, true, true, true, true, true, true, true, true, true, true, true] rfl (by kernel_rfl) hF rfl rfl rfl (fun w hS => e_pick_f hF rfl rfl) (hM.pick [0] rfl rfl) ?_; intro a hF
            refine h_done rfl ?_
            refine then_n ?_
            refine s_cond_f hF rfl rfl ?_
            refine wp_skip ?_
            refine blk_n ?_
            refine then_n ?_
            refine s_region ?_
            refine s_val hF rfl rfl rfl (e_move hF rfl) ?_; intro a hF
            refine s_val hF rfl rfl rfl (e_add hF rfl rfl) ?_; intro a hF
            refine s_val hF rfl rfl rfl (e_assign hF rfl) ?_; intro a hF
            refine s_nil ?_
            refine then_n ?_
            exact ⟨(wrap64 (x14 + 1)), H, hF.sub _ ⟨rfl, rfl, trivial⟩, hM.pick [0] rfl rfl⟩
        ·
          refine s_held (fun w => Ms [] w0 w [boxR b1 [Pt.ar a0] 22]) #[false, false, false, false, false, false, false, false, false, false, false, false, false, false, false, false, false, false, false] mixed rfl rfl hM ?_; intro w hf hM; clear hf
          refine h_val 0 #[true, false, false, false, false, false, false, false, false, false, false, false, false, false, false, false, false, false, false] rfl (by kernel_rfl) hF rfl rfl rfl (fun w hS => e_move hF rfl) (hM.pick [0] rfl rfl) ?_; intro a hF
          refine h_val 1 #[true, true, false, false, false, false, false, false, false, false, false, false, false, false, false, false, false, false, false] rfl (by kernel_rfl) hF rfl rfl rfl (fun w hS => e_ia hF rfl rfl Try.underlying22 Try.sizeOf3 c16.1 c16.2) (hM.pick [0] rfl rfl) ?_; intro a hF
          refine h_val 2 #[true, true, true, false, false, false, false, false, false, false, false, false, false, false, false, false, false, false, false] rfl (by kernel_rfl) hF rfl rfl rfl (fun w hS => e_ldi (i := 0) (k := 0) hF hS rfl rfl rfl rfl rfl Try.isAgg3 c16.1 c16.2) (hM.pick [0] rfl rfl) ?_; intro a hF
          refine h_one 3 #[true, true, true, true, false, false, false, false, false, false, false, false, false, false, false, false, false, false, false] rfl (by kernel_rfl) ?_
          refine s_call hF rfl rfl rfl Try.call48 (spec_l1In.calls K (a0.get x14) 0 30 t17 h18) ?_; intro a w v hF hf hR
          subst hR; have hM := hM.grow hf
          refine s_nil ⟨rfl, (hM.pick [0] rfl rfl), ?_⟩
          refine h_val 4 #[true, true, true, true, true, false, false, false, false, false, false, false, false, false, false, false, false, false, false] rfl (by kernel_rfl) hF rfl rfl rfl (fun w hS => e_not hF rfl) (hM.pick [0] rfl rfl) ?_; intro a hF
          refine h_val 5 #[true, true, true, true, true, true, false, false, false, false, false, false, false, false, false, false, false, false, false] rfl (by kernel_rfl) hF rfl rfl rfl (fun w hS => e_move hF rfl) (hM.pick [0] rfl rfl) ?_; intro a hF
          have hF := hF.topb (congrArg Bool.not (bf c19))
          refine h_skip 6 #[true, true, true, true, true, true, true, false, false, false, false, false, false, false, false, false, false, false, false] rfl (by kernel_rfl) hF rfl rfl rfl (hM.pick [0] rfl rfl) ?_; intro a hF
          refine h_skip 7 #[true, true, true, true, true, true, true, true, false, false, false, false, false, false, false, false, false, false, false] rfl (by kernel_rfl) hF rfl rfl rfl (hM.pick [0] rfl rfl) ?_; intro a hF
          refine h_skip 8 #[true, true, true, true, true, true, true, true, true, false, false, false, false, false, false, false, false, false, false] rfl (by kernel_rfl) hF rfl rfl rfl (hM.pick [0] rfl rfl) ?_; intro a hF
          refine h_skip 9 #[true, true, true, true, true, true, true, true, true, true, false, false, false, false, false, false, false, false, false] rfl (by kernel_rfl) hF rfl rfl rfl (hM.pick [0] rfl rfl) ?_; intro a hF
          refine h_skip 10 #[true, true, true, true, true, true, true, true, true, true, true, false, false, false, false, false, false, false, false] rfl (by kernel_rfl) hF rfl rfl rfl (hM.pick [0] rfl rfl) ?_; intro a hF
          refine h_skip 11 #[true, true, true, true, true, true, true, true, true, true, true, true, false, false, false, false, false, false, false] rfl (by kernel_rfl) hF rfl rfl rfl (hM.pick [0] rfl rfl) ?_; intro a hF
          refine h_skip 12 #[true, true, true, true, true, true, true, true, true, true, true, true, true, false, false, false, false, false, false] rfl (by kernel_rfl) hF rfl rfl rfl (hM.pick [0] rfl rfl) ?_; intro a hF
          refine h_skip 13 #[true, true, true, true, true, true, true, true, true, true, true, true, true, true, false, false, false, false, false] rfl (by kernel_rfl) hF rfl rfl rfl (hM.pick [0] rfl rfl) ?_; intro a hF
          refine h_skip 14 #[true, true, true, true, true, true, true, true, true, true, true, true, true, true, true, false, false, false, false] rfl (by kernel_rfl) hF rfl rfl rfl (hM.pick [0] rfl rfl) ?_; intro a hF
          refine h_skip 15 #[true, true, true, true, true, true, true, true, true, true, true, true, true, true, true, true, false, false, false] rfl (by kernel_rfl) hF rfl rfl rfl (hM.pick [0] rfl rfl) ?_; intro a hF
          refine h_skip 16 #[true, true, true, true, true, true, true, true, true, true, true, true, true, true, true, true, true, false, false] rfl (by kernel_rfl) hF rfl rfl rfl (hM.pick [0] rfl rfl) ?_; intro a hF
          refine h_skip 17 #[true, true, true, true, true, true, true, true, true, true, true, true, true, true, true, true, true, true, false] rfl (by kernel_rfl) hF rfl rfl rfl (hM.pick [0] rfl rfl) ?_; intro a hF
          refine h_val 18 #[true, true, true, true, true, true, true, true, true, true, true, true, true, true, true, true, true, true, true] rfl (by kernel_rfl) hF rfl rfl rfl (fun w hS => e_pick_t hF rfl rfl) (hM.pick [0] rfl rfl) ?_; intro a hF
          refine h_done rfl ?_
          refine then_n ?_
          refine s_cond_t hF rfl rfl ?_
          refine wp_seq ?_
          refine s_region ?_
          refine s_val hF rfl rfl rfl (e_assign hF rfl) ?_; intro a hF
          refine s_nil ?_
          refine then_n ?_
          refine wp_ret ?_
          refine blk_r ?_
          refine then_r ?_
          refine then_r ?_
          exact Or.inr (⟨rfl, false, some_some H, hF.sub _ ⟨rfl, trivial⟩, hM.pick [] rfl rfl⟩)
      ·
        refine s_cond_f hF rfl (decide_eq_false c15) ?_
        refine wp_exit ?_
        refine then_x ?_
        refine then_x ?_
        exact Or.inl (⟨rfl, some_some H, hF.sub _ trivial, hM.pick [] rfl rfl⟩)
  · rintro e a w (⟨rfl, rfl, hF, hM⟩ | ⟨rfl, r25, rfl, hF, hM⟩)
    ·
      dsimp only at H
      refine blk_x ?_
      refine then_n ?_
      refine wp_seq ?_
      refine s_region ?_
      refine s_val hF rfl rfl rfl (e_assign hF rfl) ?_; intro a hF
      refine s_nil ?_
      refine then_n ?_
      refine wp_ret ?_
      obtain rfl := some_some H
      refine s_ret [Value.bool true] hF Try.results47 ⟨rfl, trivial⟩ ?_
      exact ⟨_, rfl, hM.frm, rfl⟩
    ·
      dsimp only at H
      refine blk_r ?_
      refine then_r ?_
      obtain rfl := some_some H
      refine s_ret [Value.bool r25] hF Try.results47 ⟨rfl, trivial⟩ ?_
      exact ⟨_, rfl, hM.frm, rfl⟩

/-! ### loop.example/g01210/spec.l8Rolls: function 60 -/
def spec_l8Rolls.f (K : Nat) (a0 : (Ar 6)) (a1 : Int) : Option Bool := (spec_l2Die.f K a0).bind fun t2 => if t2 = true then ((spec_l1In.f K a1 0 12).bind fun t5 => some t5) else (some false)
set_option maxRecDepth 100000 in
set_option maxHeartbeats 4000000 in
theorem spec_l8Rolls.calls {w0 : World} (K : Nat) (a0 : (Ar 6)) (a1 : Int) (r : Bool) (H : spec_l8Rolls.f K a0 a1 = some r) : Calls Try.prog 60 [ag [Pt.ar a0], Value.int .i64 a1].toArray w0 (Post w0 fun w v => v = Value.bool r) := by
  rw [spec_l8Rolls.f] at H
  refine s_start Try.func60 rfl Try.ntmps60 rfl ?_
  intro a hF
  have hM := Ms.start w0
  skip
  refine wp_seq ?_
  refine s_region ?_
  refine s_box (ps := [Pt.ar a0]) hF hM rfl rfl rfl rfl ?_; intro a w b1 hF hM
  refine s_val hF rfl rfl rfl (e_assign hF rfl) ?_; intro a hF
  refine s_nil ?_
  refine then_n ?_
  refine wp_seq ?_
  obtain ⟨t2, h3, H⟩ := bind_some H
  rcases ite_cases H with ⟨c4, H⟩ | ⟨c4, H⟩
  ·
    obtain ⟨t5, h6, H⟩ := bind_some H
    refine s_region ?_
    refine s_val hF rfl rfl rfl (e_lda (i := 0) 0 1 hF hM rfl rfl rfl rfl Try.isAgg22 Try.sizeOf22 rfl) ?_; intro a hF
    refine s_call hF rfl rfl rfl Try.call47 (spec_l2Die.calls K a0 t2 h3) ?_; intro a w v hF hf hR
    subst hR; have hM := hM.grow hf
    refine s_val hF rfl rfl rfl (e_move hF rfl) ?_; intro a hF
    have hF := hF.topb c4
    refine s_val hF rfl rfl rfl (e_move hF rfl) ?_; intro a hF
    refine s_call hF rfl rfl rfl Try.call48 (spec_l1In.calls K a1 0 12 t5 h6) ?_; intro a w v hF hf hR
    subst hR; have hM := hM.grow hf
    refine s_val hF rfl rfl rfl (e_pick_t hF rfl rfl) ?_; intro a hF
    refine s_val hF rfl rfl rfl (e_assign hF rfl) ?_; intro a hF
    refine s_nil ?_
    refine then_n ?_
    refine wp_ret ?_
    obtain rfl := some_some H
    refine s_ret [Value.bool t5] hF Try.results60 ⟨rfl, trivial⟩ ?_
    exact ⟨_, rfl, hM.frm, rfl⟩
  ·
    refine s_region ?_
    refine s_val hF rfl rfl rfl (e_lda (i := 0) 0 1 hF hM rfl rfl rfl rfl Try.isAgg22 Try.sizeOf22 rfl) ?_; intro a hF
    refine s_call hF rfl rfl rfl Try.call47 (spec_l2Die.calls K a0 t2 h3) ?_; intro a w v hF hf hR
    subst hR; have hM := hM.grow hf
    refine s_val hF rfl rfl rfl (e_move hF rfl) ?_; intro a hF
    have hF := hF.topb (bf c4)
    refine s_skip hF rfl rfl rfl ?_; intro a hF
    refine s_skip hF rfl rfl rfl ?_; intro a hF
    refine s_val hF rfl rfl rfl (e_pick_f hF rfl rfl) ?_; intro a hF
    refine s_val hF rfl rfl rfl (e_assign hF rfl) ?_; intro a hF
    refine s_nil ?_
    refine then_n ?_
    refine wp_ret ?_
    obtain rfl := some_some H
    refine s_ret [Value.bool false] hF Try.results60 ⟨rfl, trivial⟩ ?_
    exact ⟨_, rfl, hM.frm, rfl⟩

/-! ### loop.example/g01210/spec.l1Put: function 92 -/
def spec_l1Put.l0 (K : Nat) (l0 : (List Int)) (a1 : Int) : Nat → Int → Option Int
  | 0, _ => none
  | k + 1, x9 => if x9 < (l0.length : Int) then (if (0 : Int) ≤ x9 ∧ x9 < (l0.length : Int) then (if (l0.getD (x9 : Int).toNat (0 : Int)) < a1 then (spec_l1Put.l0 K l0 a1 k (wrap64 (x9 + 1))) else (some x9)) else none) else (some x9)
def spec_l1Put.f (K : Nat) (l0 : (List Int)) (a1 : Int) : Option (List Int) := (spec_l1Put.l0 K l0 a1 K 0).bind fun x8 => if x8 < (l0.length : Int) then (if (0 : Int) ≤ x8 ∧ x8 < (l0.length : Int) then (if (l0.getD (x8 : Int).toNat (0 : Int)) = a1 then (some l0) else (if (0 : Int) ≤ 0 ∧ (0 : Int) ≤ x8 ∧ x8 ≤ (l0.length : Int) then (if ([] : List Int).length + ((l0.take (x8 : Int).toNat).drop 0).length ≤ 1073741824 then (if (([] : List Int) ++ ((l0.take (x8 : Int).toNat).drop 0)).length + [a1].length ≤ 1073741824 then (if (0 : Int) ≤ x8 ∧ x8 ≤ (l0.length : Int) ∧ (l0.length : Int) ≤ (l0.length : Int) then (if ((([] : List Int) ++ ((l0.take (x8 : Int).toNat).drop 0)) ++ [a1]).length + ((l0.take l0.length).drop (x8 : Int).toNat).length ≤ 1073741824 then (some (((([] : List Int) ++ ((l0.take (x8 : Int).toNat).drop 0)) ++ [a1]) ++ ((l0.take l0.length).drop (x8 : Int).toNat))) else none) else none) else none) else none) else none)) else none) else (if (0 : Int) ≤ 0 ∧ (0 : Int) ≤ x8 ∧ x8 ≤ (l0.length : Int) then (if ([] : List Int).length + ((l0.take (x8 : Int).toNat).drop 0).length ≤ 1073741824 then (if (([] : List Int) ++ ((l0.take (x8 : Int).toNat).drop 0)).length + [a1].length ≤ 1073741824 then (if (0 : Int) ≤ x8 ∧ x8 ≤ (l0.length : Int) ∧ (l0.length : Int) ≤ (l0.length : Int) then (if ((([] : List Int) ++ ((l0.take (x8 : Int).toNat).drop 0)) ++ [a1]).length + ((l0.take l0.length).drop (x8 : Int).toNat).length ≤ 1073741824 then (some (((([] : List Int) ++ ((l0.take (x8 : Int).toNat).drop 0)) ++ [a1]) ++ ((l0.take l0.length).drop (x8 : Int).toNat))) else none) else none) else none) else none) else none)
set_option maxRecDepth 100000 in
set_option maxHeartbeats 4000000 in
theorem spec_l1Put.calls {w0 : World} {X : List Nat} (K : Nat) (l0 : (List Int)) (u0 : Value) (a1 : Int) (qM : Ms X w0 w0 [rowR cd3 u0 l0]) (r : (List Int)) (H : spec_l1Put.f K l0 a1 = some r) : Calls Try.prog 92 [u0, Value.int .i64 a1].toArray w0 (fun e w => ∃ v, e = .returned v ∧ ∃ v42 : Value, Ms X w0 w [rowR cd3 v42 r] ∧ v42 = v) := by
  rw [spec_l1Put.f] at H
  refine s_start Try.func92 rfl Try.ntmps92 rfl ?_
  intro a hF
  have hM := qM
  refine wp_seq ?_
  refine s_region ?_
  refine s_val hF rfl rfl rfl (e_assign hF rfl) ?_; intro a hF
  refine s_nil ?_
  refine then_n ?_
  refine wp_seq ?_
  refine s_region ?_
  refine s_val hF rfl rfl rfl (e_assign hF rfl) ?_; intro a hF
  refine s_nil ?_
  refine then_n ?_
  refine wp_seq ?_
  refine wp_block ?_
  obtain ⟨o13, h14, H⟩ := bind_some H
  refine wp_mono (Q := fun e a w => (e = Exit.exit 0 ∧ ∃ x8 : Int, x8 = o13 ∧ Fr 45 a [(0, u0), (1, Value.int .i64 a1), (5, Value.int .i64 x8)] ∧ Ms X w0 w [rowR cd3 u0 l0])) ?_ ?_
  · refine s_loop (fun kq a w => ∃ x9 : Int, spec_l1Put.l0 K l0 a1 kq x9 = some o13 ∧ Fr 45 a [(0, u0), (1, Value.int .i64 a1), (5, Value.int .i64 x9)] ∧ Ms X w0 w [rowR cd3 u0 l0]) K ⟨0, h14, hF.sub _ ⟨rfl, rfl, rfl, trivial⟩, hM.pick [0] rfl rfl⟩ ?_ ?_
    · rintro a w ⟨_, H, _⟩; exact none_some H
    · rintro k a w ⟨x9, H, hF, hM⟩; rw [spec_l1Put.l0] at H
      refine wp_seq ?_
      refine wp_seq ?_
      rcases ite_cases H with ⟨c10, H⟩ | ⟨c10, H⟩
      ·
        obtain ⟨c11, H⟩ := ite_some H
        refine s_region ?_
        refine s_val hF rfl rfl rfl (e_move hF rfl) ?_; intro a hF
        refine s_val hF rfl rfl rfl (e_move hF rfl) ?_; intro a hF
        refine s_val hF rfl rfl rfl (e_len hF rfl (hM.sl 0 rfl).toF Try.underlying42) ?_; intro a hF
        refine s_val hF rfl rfl rfl (e_lss hF rfl rfl) ?_; intro a hF
        refine s_val hF rfl rfl rfl (e_move hF rfl) ?_; intro a hF
        have hF := hF.topb (decide_eq_true c10)
        refine s_val hF rfl rfl rfl (e_move hF rfl) ?_; intro a hF
        refine s_val hF rfl rfl rfl (e_move hF rfl) ?_; intro a hF
        refine s_val hF rfl rfl rfl (e_ias cd3 hF rfl rfl (hM.sl 0 rfl).toF Try.underlying42 Try.sizeOf3 c11.1 c11.2) ?_; intro a hF
        refine s_val hF rfl rfl rfl (e_lds (m := x9) hF rfl (hM.sl 0 rfl) (getD_some (z := (0 : Int)) c11.1 c11.2) rfl rfl Try.isAgg3) ?_; intro a hF
        refine s_val hF rfl rfl rfl (e_move hF rfl) ?_; intro a hF
        refine s_val hF rfl rfl rfl (e_lss hF rfl rfl) ?_; intro a hF
        refine s_val hF rfl rfl rfl (e_pick_t hF rfl rfl) ?_; intro a hF
        refine s_nil ?_
        refine then_n ?_
        rcases ite_cases H with ⟨c12, H⟩ | ⟨c12, H⟩
        ·
          refine s_cond_t hF rfl (decide_eq_true c12) ?_
          refine wp_skip ?_
          refine then_n ?_
          refine wp_block ?_
          refine s_region ?_
          refine s_val hF rfl rfl rfl (e_move hF rfl) ?_; intro a hF
          refine s_val hF rfl rfl rfl (e_add hF rfl rfl) ?_; intro a hF
          refine s_val hF rfl rfl rfl (e_assign hF rfl) ?_; intro a hF
          refine s_nil ?_
          refine blk_n ?_
          refine then_n ?_
          exact ⟨(wrap64 (x9 + 1)), H, hF.sub _ ⟨rfl, rfl, rfl, trivial⟩, hM.pick [0] rfl rfl⟩
        ·
          refine s_cond_f hF rfl (decide_eq_false c12) ?_
          refine wp_exit ?_
          refine then_x ?_
          refine then_x ?_
          exact ⟨rfl, x9, some_some H, hF.sub _ ⟨rfl, rfl, rfl, trivial⟩, hM.pick [0] rfl rfl⟩
      ·
        refine s_region ?_
        refine s_val hF rfl rfl rfl (e_move hF rfl) ?_; intro a hF
        refine s_val hF rfl rfl rfl (e_move hF rfl) ?_; intro a hF
        refine s_val hF rfl rfl rfl (e_len hF rfl (hM.sl 0 rfl).toF Try.underlying42) ?_; intro a hF
        refine s_val hF rfl rfl rfl (e_lss hF rfl rfl) ?_; intro a hF
        refine s_val hF rfl rfl rfl (e_move hF rfl) ?_; intro a hF
        have hF := hF.topb (decide_eq_false c10)
        refine s_skip hF rfl rfl rfl ?_; intro a hF
        refine s_skip hF rfl rfl rfl ?_; intro a hF
        refine s_skip hF rfl rfl rfl ?_; intro a hF
        refine s_skip hF rfl rfl rfl ?_; intro a hF
        refine s_skip hF rfl rfl rfl ?_; intro a hF
        refine s_skip hF rfl rfl rfl ?_; intro a hF
        refine s_val hF rfl rfl rfl (e_pick_f hF rfl rfl) ?_; intro a hF
        refine s_nil ?_
        refine then_n ?_
        refine s_cond_f hF rfl rfl ?_
        refine wp_exit ?_
        refine then_x ?_
        refine then_x ?_
        exact ⟨rfl, x9, some_some H, hF.sub _ ⟨rfl, rfl, rfl, trivial⟩, hM.pick [0] rfl rfl⟩
  · rintro e a w ⟨rfl, x8, rfl, hF, hM⟩
    skip
    refine blk_x ?_
    refine then_n ?_
    refine wp_seq ?_
    refine wp_seq ?_
    rcases ite_cases H with ⟨c15, H⟩ | ⟨c15, H⟩
    ·
      obtain ⟨c16, H⟩ := ite_some H
      refine s_region ?_
      refine s_val hF rfl rfl rfl (e_move hF rfl) ?_; intro a hF
      refine s_val hF rfl rfl rfl (e_move hF rfl) ?_; intro a hF
      refine s_val hF rfl rfl rfl (e_len hF rfl (hM.sl 0 rfl).toF Try.underlying42) ?_; intro a hF
      refine s_val hF rfl rfl rfl (e_lss hF rfl rfl) ?_; intro a hF
      refine s_val hF rfl rfl rfl (e_move hF rfl) ?_; intro a hF
      have hF := hF.topb (decide_eq_true c15)
      refine s_val hF rfl rfl rfl (e_move hF rfl) ?_; intro a hF
      refine s_val hF rfl rfl rfl (e_move hF rfl) ?_; intro a hF
      refine s_val hF rfl rfl rfl (e_ias cd3 hF rfl rfl (hM.sl 0 rfl).toF Try.underlying42 Try.sizeOf3 c16.1 c16.2) ?_; intro a hF
      refine s_val hF rfl rfl rfl (e_lds (m := x8) hF rfl (hM.sl 0 rfl) (getD_some (z := (0 : Int)) c16.1 c16.2) rfl rfl Try.isAgg3) ?_; intro a hF
      refine s_val hF rfl rfl rfl (e_move hF rfl) ?_; intro a hF
      refine s_val hF rfl rfl rfl (e_eql hF rfl rfl) ?_; intro a hF
      refine s_val hF rfl rfl rfl (e_pick_t hF rfl rfl) ?_; intro a hF
      refine s_nil ?_
      refine then_n ?_
      rcases ite_cases H with ⟨c17, H⟩ | ⟨c17, H⟩
      ·
        refine s_cond_t hF rfl (decide_eq_true c17) ?_
        refine wp_seq ?_
        refine s_region ?_
        refine s_val hF rfl rfl rfl (e_move hF rfl) ?_; intro a hF
        refine s_val hF rfl rfl rfl (e_assign hF rfl) ?_; intro a hF
        refine s_nil ?_
        refine then_n ?_
        refine wp_ret ?_
        refine then_r ?_
        obtain rfl := some_some H
        refine s_ret [u0] hF Try.results92 ⟨rfl, trivial⟩ ?_
        exact ⟨_, rfl, u0, hM.pick [0] rfl rfl, rfl⟩
      ·
        refine s_cond_f hF rfl (decide_eq_false c17) ?_
        refine wp_skip ?_
        refine then_n ?_
        refine wp_seq ?_
        obtain ⟨c19, H⟩ := ite_some H
        obtain ⟨c21, H⟩ := ite_some H
        obtain ⟨c24, H⟩ := ite_some H
        obtain ⟨c25, H⟩ := ite_some H
        obtain ⟨c27, H⟩ := ite_some H
        refine wp_mono (Q := fun e a w => e = Exit.normal ∧ ∃ v26 : Value, ∃ v22 : Value, Fr 45 a [(4, v26)] ∧ Ms X w0 w [rowR cd3 v26 (((([] : List Int) ++ ((l0.take (x8 : Int).toNat).drop 0)) ++ [a1]) ++ ((l0.take l0.length).drop (x8 : Int).toNat)), rowR cd3 v22 [a1], rowR cd3 u0 l0]) ?_ ?_
        · skip
          refine s_held (fun w => Ms X w0 w [rowR cd3 u0 l0]) #[false, false, false, false, false, false, false, false, false, false, false, false, false] mixed rfl rfl hM ?_; intro w hf hM; clear hf
          refine h_val 1 #[false, true, false, false, false, false, false, false, false, false, false, false, false] rfl (by kernel_rfl) hF rfl rfl rfl (fun w hS => e_move hF rfl) (hM.pick [0] rfl rfl) ?_; intro a hF
          refine h_val 2 #[false, true, true, false, false, false, false, false, false, false, false, false, false] rfl (by kernel_rfl) hF rfl rfl rfl (fun w hS => e_move hF rfl) (hM.pick [0] rfl rfl) ?_; intro a hF
          have f28 := (hM.sl 0 rfl).toF
          refine h_val 3 #[false, true, true, true, false, false, false, false, false, false, false, false, false] rfl (by kernel_rfl) hF rfl rfl rfl (fun w hS => e_sl_h hF rfl rfl f28 Try.underlying42 Try.sizeOf3 c19) (hM.pick [0] rfl rfl) ?_; intro a hF
          refine h_val 5 #[false, true, true, true, false, true, false, false, false, false, false, false, false] rfl (by kernel_rfl) hF rfl rfl rfl (fun w hS => e_move hF rfl) (hM.pick [0] rfl rfl) ?_; intro a hF
          refine h_val 8 #[false, true, true, true, false, true, false, false, true, false, false, false, false] rfl (by kernel_rfl) hF rfl rfl rfl (fun w hS => e_move hF rfl) (hM.pick [0] rfl rfl) ?_; intro a hF
          refine h_val 9 #[false, true, true, true, false, true, false, false, true, true, false, false, false] rfl (by kernel_rfl) hF rfl rfl rfl (fun w hS => e_move hF rfl) (hM.pick [0] rfl rfl) ?_; intro a hF
          have f29 := (hM.sl 0 rfl).toF
          refine h_val 10 #[false, true, true, true, false, true, false, false, true, true, true, false, false] rfl (by kernel_rfl) hF rfl rfl rfl (fun w hS => e_sl_l hF rfl rfl f29 Try.underlying42 Try.sizeOf3 c25) (hM.pick [0] rfl rfl) ?_; intro a hF
          refine h_two 0 6 #[true, true, true, true, false, true, false, false, true, true, true, false, false] #[false, true, true, true, false, true, true, false, true, true, true, false, false] rfl rfl rfl rfl (by kernel_rfl) ?_ ?_
          · skip
            refine s_bsl (C := cd3) ([] : List Int) cdok3 hF hM rfl rfl rfl rfl Try.underlying42 rfl ?_; intro a w v18 hF hM
            refine s_nil ⟨rfl, (hM.pick [1] rfl rfl), ?_⟩
            refine h_two 4 6 #[true, true, true, true, true, true, false, false, true, true, true, false, false] #[true, true, true, true, false, true, true, false, true, true, true, false, false] rfl rfl rfl rfl (by kernel_rfl) ?_ ?_
            · skip
              refine s_append (i := 0) cdok3 hF hM rfl rfl rfl rfl rfl ((hM.sl 1 rfl).sub 0 (x8 : Int).toNat (sl_0_i' c19).1 (sl_0_i' c19).2) Try.underlying42 c21 ?_; intro a w v20 hF hM
              refine s_nil ⟨rfl, (hM.pick [1] rfl rfl), ?_⟩
              refine h_one 6 #[true, true, true, true, true, true, true, false, true, true, true, false, false] rfl (by kernel_rfl) ?_
              refine s_bsl (C := cd3) [a1] cdok3 hF hM rfl rfl rfl rfl Try.underlying42 rfl ?_; intro a w v22 hF hM
              refine s_nil ⟨rfl, (hM.pick [2] rfl rfl), ?_⟩
              refine h_one 7 #[true, true, true, true, true, true, true, true, true, true, true, false, false] rfl (by kernel_rfl) ?_
              refine s_append (i := 1) cdok3 hF hM rfl rfl rfl rfl rfl (hM.sl 0 rfl) Try.underlying42 c24 ?_; intro a w v23 hF hM
              refine s_nil ⟨rfl, (hM.pick [2] rfl rfl), ?_⟩
              refine h_one 11 #[true, true, true, true, true, true, true, true, true, true, true, true, false] rfl (by kernel_rfl) ?_
              refine s_append (i := 1) cdok3 hF hM rfl rfl rfl rfl rfl ((hM.sl 2 rfl).sub (x8 : Int).toNat l0.length (sl_lo_n' c25).1 (sl_lo_n' c25).2) Try.underlying42 c27 ?_; intro a w v26 hF hM
              refine s_nil ⟨rfl, (hM.pick [2] rfl rfl), ?_⟩
              refine h_val 12 #[true, true, true, true, true, true, true, true, true, true, true, true, true] rfl (by kernel_rfl) hF rfl rfl rfl (fun w hS => e_assign hF rfl) (hM.pick [2] rfl rfl) ?_; intro a hF
              exact h_done rfl ⟨rfl, v26, v22, hF.sub _ ⟨rfl, trivial⟩, hM.pick [1, 0, 2] rfl rfl⟩
            · skip
              refine s_bsl (C := cd3) [a1] cdok3 hF hM rfl rfl rfl rfl Try.underlying42 rfl ?_; intro a w v22 hF hM
              refine s_nil ⟨rfl, (hM.pick [2] rfl rfl), ?_⟩
              refine h_one 4 #[true, true, true, true, true, true, true, false, true, true, true, false, false] rfl (by kernel_rfl) ?_
              refine s_append (i := 1) cdok3 hF hM rfl rfl rfl rfl rfl ((hM.sl 2 rfl).sub 0 (x8 : Int).toNat (sl_0_i' c19).1 (sl_0_i' c19).2) Try.underlying42 c21 ?_; intro a w v20 hF hM
              refine s_nil ⟨rfl, (hM.pick [2] rfl rfl), ?_⟩
              refine h_one 7 #[true, true, true, true, true, true, true, true, true, true, true, false, false] rfl (by kernel_rfl) ?_
              refine s_append (i := 1) cdok3 hF hM rfl rfl rfl rfl rfl (hM.sl 0 rfl) Try.underlying42 c24 ?_; intro a w v23 hF hM
              refine s_nil ⟨rfl, (hM.pick [2] rfl rfl), ?_⟩
              refine h_one 11 #[true, true, true, true, true, true, true, true, true, true, true, true, false] rfl (by kernel_rfl) ?_
              refine s_append (i := 1) cdok3 hF hM rfl rfl rfl rfl rfl ((hM.sl 2 rfl).sub (x8 : Int).toNat l0.length (sl_lo_n' c25).1 (sl_lo_n' c25).2) Try.underlying42 c27 ?_; intro a w v26 hF hM
              refine s_nil ⟨rfl, (hM.pick [2] rfl rfl), ?_⟩
              refine h_val 12 #[true, true, true, true, true, true, true, true, true, true, true, true, true] rfl (by kernel_rfl) hF rfl rfl rfl (fun w hS => e_assign hF rfl) (hM.pick [2] rfl rfl) ?_; intro a hF
              exact h_done rfl ⟨rfl, v26, v22, hF.sub _ ⟨rfl, trivial⟩, hM.pick [1, 0, 2] rfl rfl⟩
          · skip
            refine s_bsl (C := cd3) [a1] cdok3 hF hM rfl rfl rfl rfl Try.underlying42 rfl ?_; intro a w v22 hF hM
            refine s_nil ⟨rfl, (hM.pick [1] rfl rfl), ?_⟩
            refine h_one 0 #[true, true, true, true, false, true, true, false, true, true, true, false, false] rfl (by kernel_rfl) ?_
            refine s_bsl (C := cd3) ([] : List Int) cdok3 hF hM rfl rfl rfl rfl Try.underlying42 rfl ?_; intro a w v18 hF hM
            refine s_nil ⟨rfl, (hM.pick [2] rfl rfl), ?_⟩
            refine h_one 4 #[true, true, true, true, true, true, true, false, true, true, true, false, false] rfl (by kernel_rfl) ?_
            refine s_append (i := 0) cdok3 hF hM rfl rfl rfl rfl rfl ((hM.sl 2 rfl).sub 0 (x8 : Int).toNat (sl_0_i' c19).1 (sl_0_i' c19).2) Try.underlying42 c21 ?_; intro a w v20 hF hM
            refine s_nil ⟨rfl, (hM.pick [2] rfl rfl), ?_⟩
            refine h_one 7 #[true, true, true, true, true, true, true, true, true, true, true, false, false] rfl (by kernel_rfl) ?_
            refine s_append (i := 0) cdok3 hF hM rfl rfl rfl rfl rfl (hM.sl 1 rfl) Try.underlying42 c24 ?_; intro a w v23 hF hM
            refine s_nil ⟨rfl, (hM.pick [2] rfl rfl), ?_⟩
            refine h_one 11 #[true, true, true, true, true, true, true, true, true, true, true, true, false] rfl (by kernel_rfl) ?_
            refine s_append (i := 0) cdok3 hF hM rfl rfl rfl rfl rfl ((hM.sl 2 rfl).sub (x8 : Int).toNat l0.length (sl_lo_n' c25).1 (sl_lo_n' c25).2) Try.underlying42 c27 ?_; intro a w v26 hF hM
            refine s_nil ⟨rfl, (hM.pick [2] rfl rfl), ?_⟩
            refine h_val 12 #[true, true, true, true, true, true, true, true, true, true, true, true, true] rfl (by kernel_rfl) hF rfl rfl rfl (fun w hS => e_assign hF rfl) (hM.pick [2] rfl rfl) ?_; intro a hF
            exact h_done rfl ⟨rfl, v26, v22, hF.sub _ ⟨rfl, trivial⟩, hM.pick [0, 1, 2] rfl rfl⟩
        rintro e a w ⟨rfl, v26, v22, hF, hM⟩
        refine then_n ?_
        refine wp_ret ?_
        obtain rfl := some_some H
        refine s_ret [v26] hF Try.results92 ⟨rfl, trivial⟩ ?_
        exact ⟨_, rfl, v26, hM.pick [0] rfl rfl, rfl⟩
    ·
      refine s_region ?_
      refine s_val hF rfl rfl rfl (e_move hF rfl) ?_; intro a hF
      refine s_val hF rfl rfl rfl (e_move hF rfl) ?_; intro a hF
      refine s_val hF rfl rfl rfl (e_len hF rfl (hM.sl 0 rfl).toF Try.underlying42) ?_; intro a hF
      refine s_val hF rfl rfl rfl (e_lss hF rfl rfl) ?_; intro a hF
      refine s_val hF rfl rfl rfl (e_move hF rfl) ?_; intro a hF
      have hF := hF.topb (decide_eq_false c15)
      refine s_skip hF rfl rfl rfl ?_; intro a hF
      refine s_skip hF rfl rfl rfl ?_; intro a hF
      refine s_skip hF rfl rfl rfl ?_; intro a hF
      refine s_skip hF rfl rfl rfl ?_; intro a hF
      refine s_skip hF rfl rfl rfl ?_; intro a hF
      refine s_skip hF rfl rfl rfl ?_; intro a hF
      refine s_val hF rfl rfl rfl (e_pick_f hF rfl rfl) ?_; intro a hF
      refine s_nil ?_
      refine then_n ?_
      refine s_cond_f hF rfl rfl ?_
      refine wp_skip ?_
      refine then_n ?_
      refine wp_seq ?_
      obtain ⟨c31, H⟩ := ite_some H
      obtain ⟨c33, H⟩ := ite_some H
      obtain ⟨c36, H⟩ := ite_some H
      obtain ⟨c37, H⟩ := ite_some H
      obtain ⟨c39, H⟩ := ite_some H
      refine wp_mono (Q := fun e a w => e = Exit.normal ∧ ∃ v38 : Value, ∃ v34 : Value, Fr 45 a [(4, v38)] ∧ Ms X w0 w [rowR cd3 v38 (((([] : List Int) ++ ((l0.take (x8 : Int).toNat).drop 0)) ++ [a1]) ++ ((l0.take l0.length).drop (x8 : Int).toNat)), rowR cd3 v34 [a1], rowR cd3 u0 l0]) ?_ ?_
      · skip
        refine s_held (fun w => Ms X w0 w [rowR cd3 u0 l0]) #[false, false, false, false, false, false, false, false, false, false, false, false, false] mixed rfl rfl hM ?_; intro w hf hM; clear hf
        refine h_val 1 #[false, true, false, false, false, false, false, false, false, false, false, false, false] rfl (by kernel_rfl) hF rfl rfl rfl (fun w hS => e_move hF rfl) (hM.pick [0] rfl rfl) ?_; intro a hF
        refine h_val 2 #[false, true, true, false, false, false, false, false, false, false, false, false, false] rfl (by kernel_rfl) hF rfl rfl rfl (fun w hS => e_move hF rfl) (hM.pick [0] rfl rfl) ?_; intro a hF
        have f40 := (hM.sl 0 rfl).toF
        refine h_val 3 #[false, true, true, true, false, false, false, false, false, false, false, false, false] rfl (by kernel_rfl) hF rfl rfl rfl (fun w hS => e_sl_h hF rfl rfl f40 Try.underlying42 Try.sizeOf3 c31) (hM.pick [0] rfl rfl) ?_; intro a hF
        refine h_val 5 #[false, true, true, true, false, true, false, false, false, false, false, false, false] rfl (by kernel_rfl) hF rfl rfl rfl (fun w hS => e_move hF rfl) (hM.pick [0] rfl rfl) ?_; intro a hF
        refine h_val 8 #[false, true, true, true, false, true, false, false, true, false, false, false, false] rfl (by kernel_rfl) hF rfl rfl rfl (fun w hS => e_move hF rfl) (hM.pick [0] rfl rfl) ?_; intro a hF
        refine h_val 9 #[false, true, true, true, false, true, false, false, true, true, false, false, false] rfl (by kernel_rfl) hF rfl rfl rfl (fun w hS => e_move hF rfl) (hM.pick [0] rfl rfl) ?_; intro a hF
        have f41 := (hM.sl 0 rfl).toF
        refine h_val 10 #[false, true, true, true, false, true, false, false, true, true, true, false, false] rfl (by kernel_rfl) hF rfl rfl rfl (fun w hS => e_sl_l hF rfl rfl f41 Try.underlying42 Try.sizeOf3 c37) (hM.pick [0] rfl rfl) ?_; intro a hF
        refine h_two 0 6 #[true, true, true, true, false, true, false, false, true, true, true, false, false] #[false, true, true, true, false, true, true, false, true, true, true, false, false] rfl rfl rfl rfl (by kernel_rfl) ?_ ?_
        · skip
          refine s_bsl (C := cd3) ([] : List Int) cdok3 hF hM rfl rfl rfl rfl Try.underlying42 rfl ?_; intro a w v30 hF hM
          refine s_nil ⟨rfl, (hM.pick [1] rfl rfl), ?_⟩
          refine h_two 4 6 #[true, true, true, true, true, true, false, false, true, true, true, false, false] #[true, true, true, true, false, true, true, false, true, true, true, false, false] rfl rfl rfl rfl (by kernel_rfl) ?_ ?_
          · skip
            refine s_append (i := 0) cdok3 hF hM rfl rfl rfl rfl rfl ((hM.sl 1 rfl).sub 0 (x8 : Int).toNat (sl_0_i' c31).1 (sl_0_i' c31).2) Try.underlying42 c33 ?_; intro a w v32 hF hM
            refine s_nil ⟨rfl, (hM.pick [1] rfl rfl), ?_⟩
            refine h_one 6 #[true, true, true, true, true, true, true, false, true, true, true, false, false] rfl (by kernel_rfl) ?_
            refine s_bsl (C := cd3) [a1] cdok3 hF hM rfl rfl rfl rfl Try.underlying42 rfl ?_; intro a w v34 hF hM
            refine s_nil ⟨rfl, (hM.pick [2] rfl rfl), ?_⟩
            refine h_one 7 #[true, true, true, true, true, true, true, true, true, true, true, false, false] rfl (by kernel_rfl) ?_
            refine s_append (i := 1) cdok3 hF hM rfl rfl rfl rfl rfl (hM.sl 0 rfl) Try.underlying42 c36 ?_; intro a w v35 hF hM
            refine s_nil ⟨rfl, (hM.pick [2] rfl rfl), ?_⟩
            refine h_one 11 #[true, true, true, true, true, true, true, true, true, true, true, true, false] rfl (by kernel_rfl) ?_
            refine s_append (i := 1) cdok3 hF hM rfl rfl rfl rfl rfl ((hM.sl 2 rfl).sub (x8 : Int).toNat l0.length (sl_lo_n' c37).1 (sl_lo_n' c37).2) Try.underlying42 c39 ?_; intro a w v38 hF hM
            refine s_nil ⟨rfl, (hM.pick [2] rfl rfl), ?_⟩
            refine h_val 12 #[true, true, true, true, true, true, true, true, true, true, true, true, true] rfl (by kernel_rfl) hF rfl rfl rfl (fun w hS => e_assign hF rfl) (hM.pick [2] rfl rfl) ?_; intro a hF
            exact h_done rfl ⟨rfl, v38, v34, hF.sub _ ⟨rfl, trivial⟩, hM.pick [1, 0, 2] rfl rfl⟩
          · skip
            refine s_bsl (C := cd3) [a1] cdok3 hF hM rfl rfl rfl rfl Try.underlying42 rfl ?_; intro a w v34 hF hM
            refine s_nil ⟨rfl, (hM.pick [2] rfl rfl), ?_⟩
            refine h_one 4 #[true, true, true, true, true, true, true, false, true, true, true, false, false] rfl (by kernel_rfl) ?_
            refine s_append (i := 1) cdok3 hF hM rfl rfl rfl rfl rfl ((hM.sl 2 rfl).sub 0 (x8 : Int).toNat (sl_0_i' c31).1 (sl_0_i' c31).2) Try.underlying42 c33 ?_; intro a w v32 hF hM
            refine s_nil ⟨rfl, (hM.pick [2] rfl rfl), ?_⟩
            refine h_one 7 #[true, true, true, true, true, true, true, true, true, true, true, false, false] rfl (by kernel_rfl) ?_
            refine s_append (i := 1) cdok3 hF hM rfl rfl rfl rfl rfl (hM.sl 0 rfl) Try.underlying42 c36 ?_; intro a w v35 hF hM
            refine s_nil ⟨rfl, (hM.pick [2] rfl rfl), ?_⟩
            refine h_one 11 #[true, true, true, true, true, true, true, true, true, true, true, true, false] rfl (by kernel_rfl) ?_
            refine s_append (i := 1) cdok3 hF hM rfl rfl rfl rfl rfl ((hM.sl 2 rfl).sub (x8 : Int).toNat l0.length (sl_lo_n' c37).1 (sl_lo_n' c37).2) Try.underlying42 c39 ?_; intro a w v38 hF hM
            refine s_nil ⟨rfl, (hM.pick [2] rfl rfl), ?_⟩
            refine h_val 12 #[true, true, true, true, true, true, true, true, true, true, true, true, true] rfl (by kernel_rfl) hF rfl rfl rfl (fun w hS => e_assign hF rfl) (hM.pick [2] rfl rfl) ?_; intro a hF
            exact h_done rfl ⟨rfl, v38, v34, hF.sub _ ⟨rfl, trivial⟩, hM.pick [1, 0, 2] rfl rfl⟩
        · skip
          refine s_bsl (C := cd3) [a1] cdok3 hF hM rfl rfl rfl rfl Try.underlying42 rfl ?_; intro a w v34 hF hM
          refine s_nil ⟨rfl, (hM.pick [1] rfl rfl), ?_⟩
          refine h_one 0 #[true, true, true, true, false, true, true, false, true, true, true, false, false] rfl (by kernel_rfl) ?_
          refine s_bsl (C := cd3) ([] : List Int) cdok3 hF hM rfl rfl rfl rfl Try.underlying42 rfl ?_; intro a w v30 hF hM
          refine s_nil ⟨rfl, (hM.pick [2] rfl rfl), ?_⟩
          refine h_one 4 #[true, true, true, true, true, true, true, false, true, true, true, false, false] rfl (by kernel_rfl) ?_
          refine s_append (i := 0) cdok3 hF hM rfl rfl rfl rfl rfl ((hM.sl 2 rfl).sub 0 (x8 : Int).toNat (sl_0_i' c31).1 (sl_0_i' c31).2) Try.underlying42 c33 ?_; intro a w v32 hF hM
          refine s_nil ⟨rfl, (hM.pick [2] rfl rfl), ?_⟩
          refine h_one 7 #[true, true, true, true, true, true, true, true, true, true, true, false, false] rfl (by kernel_rfl) ?_
          refine s_append (i := 0) cdok3 hF hM rfl rfl rfl rfl rfl (hM.sl 1 rfl) Try.underlying42 c36 ?_; intro a w v35 hF hM
          refine s_nil ⟨rfl, (hM.pick [2] rfl rfl), ?_⟩
          refine h_one 11 #[true, true, true, true, true, true, true, true, true, true, true, true, false] rfl (by kernel_rfl) ?_
          refine s_append (i := 0) cdok3 hF hM rfl rfl rfl rfl rfl ((hM.sl 2 rfl).sub (x8 : Int).toNat l0.length (sl_lo_n' c37).1 (sl_lo_n' c37).2) Try.underlying42 c39 ?_; intro a w v38 hF hM
          refine s_nil ⟨rfl, (hM.pick [2] rfl rfl), ?_⟩
          refine h_val 12 #[true, true, true, true, true, true, true, true, true, true, true, true, true] rfl (by kernel_rfl) hF rfl rfl rfl (fun w hS => e_assign hF rfl) (hM.pick [2] rfl rfl) ?_; intro a hF
          exact h_done rfl ⟨rfl, v38, v34, hF.sub _ ⟨rfl, trivial⟩, hM.pick [0, 1, 2] rfl rfl⟩
      rintro e a w ⟨rfl, v38, v34, hF, hM⟩
      refine then_n ?_
      refine wp_ret ?_
      obtain rfl := some_some H
      refine s_ret [v38] hF Try.results92 ⟨rfl, trivial⟩ ?_
      exact ⟨_, rfl, v38, hM.pick [0] rfl rfl, rfl⟩

/-! ### loop.example/g01210/spec.l8Numbers: function 64 -/
def spec_l8Numbers.l0 (K : Nat) (a0 : (Ar 6)) : Nat → Int → (List Int) → Option (List Int)
  | 0, _, _ => none
  | k + 1, x16, x18 => if x16 < 6 then (if (0 : Int) ≤ x16 ∧ x16 < 6 then ((spec_l1Put.f K x18 (a0.get x16)).bind fun t21 => spec_l8Numbers.l0 K a0 k (wrap64 (x16 + 1)) t21) else none) else (some x18)
def spec_l8Numbers.f (K : Nat) (a0 : (Ar 6)) : Option (List Int) := (spec_l8Numbers.l0 K a0 K 0 ([] : List Int)).bind fun x15 => some x15
set_option maxRecDepth 100000 in
set_option maxHeartbeats 4000000 in
theorem spec_l8Numbers.calls {w0 : World} (K : Nat) (a0 : (Ar 6)) (r : (List Int)) (H : spec_l8Numbers.f K a0 = some r) : Calls Try.prog 64 [ag [Pt.ar a0]].toArray w0 (Post w0 fun w v => Fresh cd3 w0.heap.size w v r) := by
  rw [spec_l8Numbers.f] at H
  refine s_start Try.func64 rfl Try.ntmps64 rfl ?_
  intro a hF
  have hM := Ms.start w0
  skip
  refine wp_seq ?_
  refine s_region ?_
  refine s_box (ps := [Pt.ar a0]) hF hM rfl rfl rfl rfl ?_; intro a w b1 hF hM
  refine s_val hF rfl rfl rfl (e_assign hF rfl) ?_; intro a hF
  refine s_nil ?_
  refine then_n ?_
  refine wp_seq ?_
  refine s_region ?_
  refine s_bsl (C := cd3) ([] : List Int) cdok3 hF hM rfl rfl rfl rfl Try.underlying42 rfl ?_; intro a w v2 hF hM
  refine s_val hF rfl rfl rfl (e_assign hF rfl) ?_; intro a hF
  refine s_nil ?_
  refine then_n ?_
  refine wp_seq ?_
  refine wp_seq ?_
  refine s_region ?_
  refine s_val hF rfl rfl rfl (e_assign hF rfl) ?_; intro a hF
  refine s_nil ?_
  refine then_n ?_
  refine wp_block ?_
  obtain ⟨o24, h25, H⟩ := bind_some H
  refine wp_mono (Q := fun e a w => (e = Exit.exit 0 ∧ ∃ v14 : Value, ∃ x15 : (List Int), x15 = o24 ∧ Fr 16 a [(3, v14)] ∧ Ms [] w0 w [rowR cd3 v14 x15])) ?_ ?_
  · refine s_loop (fun kq a w => ∃ v17 : Value, ∃ x16 : Int, ∃ x18 : (List Int), spec_l8Numbers.l0 K a0 kq x16 x18 = some o24 ∧ Fr 16 a [(1, pt b1 0), (3, v17), (4, Value.int .i64 x16)] ∧ Ms [] w0 w [boxR b1 [Pt.ar a0] 22, rowR cd3 v17 x18]) K ⟨v2, 0, ([] : List Int), h25, hF.sub _ ⟨rfl, rfl, rfl, trivial⟩, hM.pick [1, 0] rfl rfl⟩ ?_ ?_
    · rintro a w ⟨_, _, _, H, _⟩; exact none_some H
    · rintro k a w ⟨v17, x16, x18, H, hF, hM⟩; rw [spec_l8Numbers.l0] at H
      refine wp_seq ?_
      refine wp_seq ?_
      refine s_region ?_
      refine s_val hF rfl rfl rfl (e_move hF rfl) ?_; intro a hF
      refine s_val hF rfl rfl rfl (e_lss hF rfl rfl) ?_; intro a hF
      refine s_nil ?_
      refine then_n ?_
      rcases ite_cases H with ⟨c19, H⟩ | ⟨c19, H⟩
      ·
        refine s_cond_t hF rfl (decide_eq_true c19) ?_
        refine wp_skip ?_
        refine then_n ?_
        refine wp_seq ?_
        refine wp_block ?_
        obtain ⟨c20, H⟩ := ite_some H
        obtain ⟨t21, h22, H⟩ := bind_some H
        refine s_region ?_
        refine s_val hF rfl rfl rfl (e_move hF rfl) ?_; intro a hF
        refine s_val hF rfl rfl rfl (e_move hF rfl) ?_; intro a hF
        refine s_val hF rfl rfl rfl (e_ia hF rfl rfl Try.underlying22 Try.sizeOf3 c20.1 c20.2) ?_; intro a hF
        refine s_val hF rfl rfl rfl (e_ldi (i := 0) (k := 0) hF hM rfl rfl rfl rfl rfl Try.isAgg3 c20.1 c20.2) ?_; intro a hF
        refine s_callx hF rfl rfl rfl Try.call92 (spec_l1Put.calls K x18 v17 (a0.get x16) (hM.lend [1] rfl rfl) t21 h22) ?_; intro a w v hF hR
        obtain ⟨v23, hR, rfl⟩ := hR; have hM := hM.back [1] [0] (by decide) rfl rfl hR
        refine s_val hF rfl rfl rfl (e_assign hF rfl) ?_; intro a hF
        refine s_nil ?_
        refine blk_n ?_
        refine then_n ?_
        refine s_region ?_
        refine s_val hF rfl rfl rfl (e_move hF rfl) ?_; intro a hF
        refine s_val hF rfl rfl rfl (e_add hF rfl rfl) ?_; intro a hF
        refine s_val hF rfl rfl rfl (e_assign hF rfl) ?_; intro a hF
        refine s_nil ?_
        refine then_n ?_
        exact ⟨v23, (wrap64 (x16 + 1)), t21, H, hF.sub _ ⟨rfl, rfl, rfl, trivial⟩, hM.pick [1, 0] rfl rfl⟩
      ·
        refine s_cond_f hF rfl (decide_eq_false c19) ?_
        refine wp_exit ?_
        refine then_x ?_
        refine then_x ?_
        exact ⟨rfl, v17, x18, some_some H, hF.sub _ ⟨rfl, trivial⟩, hM.pick [1] rfl rfl⟩
  · rintro e a w ⟨rfl, v14, x15, rfl, hF, hM⟩
    skip
    refine blk_x ?_
    refine then_n ?_
    refine wp_seq ?_
    refine s_region ?_
    refine s_val hF rfl rfl rfl (e_move hF rfl) ?_; intro a hF
    refine s_val hF rfl rfl rfl (e_assign hF rfl) ?_; intro a hF
    refine s_nil ?_
    refine then_n ?_
    refine wp_ret ?_
    obtain rfl := some_some H
    refine s_ret [v14] hF Try.results64 ⟨rfl, trivial⟩ ?_
    exact ⟨_, rfl, hM.frm, hM.give 0 rfl⟩

/-! ### loop.example/g01210/spec.l8Weight: function 55 -/
def spec_l8Weight.l0 (K : Nat) (a0 : (Ar 6)) (a1 : Int) : Nat → Int → Int → Option Int
  | 0, _, _ => none
  | k + 1, x9, x10 => if x10 < 6 then (if (0 : Int) ≤ x10 ∧ x10 < 6 then (if (a0.get x10) = a1 then (spec_l8Weight.l0 K a0 a1 k (wrap64 (x9 + 1)) (wrap64 (x10 + 1))) else (spec_l8Weight.l0 K a0 a1 k x9 (wrap64 (x10 + 1)))) else none) else (some x9)
def spec_l8Weight.f (K : Nat) (a0 : (Ar 6)) (a1 : Int) : Option Int := (spec_l8Weight.l0 K a0 a1 K 0 0).bind fun x8 => some x8
set_option maxRecDepth 100000 in
set_option maxHeartbeats 4000000 in
theorem spec_l8Weight.calls {w0 : World} (K : Nat) (a0 : (Ar 6)) (a1 : Int) (r : Int) (H : spec_l8Weight.f K a0 a1 = some r) : Calls Try.prog 55 [ag [Pt.ar a0], Value.int .i64 a1].toArray w0 (Post w0 fun w v => v = Value.int .i64 r) := by
  rw [spec_l8Weight.f] at H
  refine s_start Try.func55 rfl Try.ntmps55 rfl ?_
  intro a hF
  have hM := Ms.start w0
  skip
  refine wp_seq ?_
  refine s_region ?_
  refine s_box (ps := [Pt.ar a0]) hF hM rfl rfl rfl rfl ?_; intro a w b1 hF hM
  refine s_val hF rfl rfl rfl (e_assign hF rfl) ?_; intro a hF
  refine s_nil ?_
  refine then_n ?_
  refine wp_seq ?_
  refine s_region ?_
  refine s_val hF rfl rfl rfl (e_assign hF rfl) ?_; intro a hF
  refine s_nil ?_
  refine then_n ?_
  refine wp_seq ?_
  refine wp_seq ?_
  refine s_region ?_
  refine s_val hF rfl rfl rfl (e_assign hF rfl) ?_; intro a hF
  refine s_nil ?_
  refine then_n ?_
  refine wp_block ?_
  obtain ⟨o14, h15, H⟩ := bind_some H
  refine wp_mono (Q := fun e a w => (e = Exit.exit 0 ∧ ∃ x8 : Int, x8 = o14 ∧ Fr 19 a [(5, Value.int .i64 x8)] ∧ Ms [] w0 w [])) ?_ ?_
  · refine s_loop (fun kq a w => ∃ x9 : Int, ∃ x10 : Int, spec_l8Weight.l0 K a0 a1 kq x9 x10 = some o14 ∧ Fr 19 a [(1, Value.int .i64 a1), (2, pt b1 0), (5, Value.int .i64 x9), (6, Value.int .i64 x10)] ∧ Ms [] w0 w [boxR b1 [Pt.ar a0] 22]) K ⟨0, 0, h15, hF.sub _ ⟨rfl, rfl, rfl, rfl, trivial⟩, hM.pick [0] rfl rfl⟩ ?_ ?_
    · rintro a w ⟨_, _, H, _⟩; exact none_some H
    · rintro k a w ⟨x9, x10, H, hF, hM⟩; rw [spec_l8Weight.l0] at H
      refine wp_seq ?_
      refine wp_seq ?_
      refine s_region ?_
      refine s_val hF rfl rfl rfl (e_move hF rfl) ?_; intro a hF
      refine s_val hF rfl rfl rfl (e_lss hF rfl rfl) ?_; intro a hF
      refine s_nil ?_
      refine then_n ?_
      rcases ite_cases H with ⟨c11, H⟩ | ⟨c11, H⟩
      ·
        refine s_cond_t hF rfl (decide_eq_true c11) ?_
        refine wp_skip ?_
        refine then_n ?_
        refine wp_seq ?_
        refine wp_block ?_
        refine wp_seq ?_
        obtain ⟨c12, H⟩ := ite_some H
        refine s_region ?_
        refine s_val hF rfl rfl rfl (e_move hF rfl) ?_; intro a hF
        refine s_val hF rfl rfl rfl (e_ia hF rfl rfl Try.underlying22 Try.sizeOf3 c12.1 c12.2) ?_; intro a hF
        refine s_val hF rfl rfl rfl (e_ldi (i := 0) (k := 0) hF hM rfl rfl rfl rfl rfl Try.isAgg3 c12.1 c12.2) ?_; intro a hF
        refine s_val hF rfl rfl rfl (e_move hF rfl) ?_; intro a hF
        refine s_val hF rfl rfl rfl (e_eql hF rfl rfl) ?_; intro a hF
        refine s_nil ?_
        refine then_n ?_
        rcases ite_cases H with ⟨c13, H⟩ | ⟨c13, H⟩
        ·
          refine s_cond_t hF rfl (decide_eq_true c13) ?_
          refine s_region ?_
          refine s_val hF rfl rfl rfl (e_move hF rfl) ?_; intro a hF
          refine s_val hF rfl rfl rfl (e_add hF rfl rfl) ?_; intro a hF
          refine s_val hF rfl rfl rfl (e_assign hF rfl) ?_; intro a hF
          refine s_nil ?_
          refine blk_n ?_
          refine then_n ?_
          refine s_region ?_
          refine s_val hF rfl rfl rfl (e_move hF rfl) ?_; intro a hF
          refine s_val hF rfl rfl rfl (e_add hF rfl rfl) ?_; intro a hF
          refine s_val hF rfl rfl rfl (e_assign hF rfl) ?_; intro a hF
          refine s_nil ?_
          refine then_n ?_
          exact ⟨(wrap64 (x9 + 1)), (wrap64 (x10 + 1)), H, hF.sub _ ⟨rfl, rfl, rfl, rfl, trivial⟩, hM.pick [0] rfl rfl⟩
        ·
          refine s_cond_f hF rfl (decide_eq_false c13) ?_
          refine wp_skip ?_
          refine blk_n ?_
          refine then_n ?_
          refine s_region ?_
          refine s_val hF rfl rfl rfl (e_move hF rfl) ?_; intro a hF
          refine s_val hF rfl rfl rfl (e_add hF rfl rfl) ?_; intro a hF
          refine s_val hF rfl rfl rfl (e_assign hF rfl) ?_; intro a hF
          refine s_nil ?_
          refine then_n ?_
          exact ⟨x9, (wrap64 (x10 + 1)), H, hF.sub _ ⟨rfl, rfl, rfl, rfl, trivial⟩, hM.pick [0] rfl rfl⟩
      ·
        refine s_cond_f hF rfl (decide_eq_false c11) ?_
        refine wp_exit ?_
        refine then_x ?_
        refine then_x ?_
        exact ⟨rfl, x9, some_some H, hF.sub _ ⟨rfl, trivial⟩, hM.pick [] rfl rfl⟩
  · rintro e a w ⟨rfl, x8, rfl, hF, hM⟩
    skip
    refine blk_x ?_
    refine then_n ?_
    refine wp_seq ?_
    refine s_region ?_
    refine s_val hF rfl rfl rfl (e_move hF rfl) ?_; intro a hF
    refine s_val hF rfl rfl rfl (e_assign hF rfl) ?_; intro a hF
    refine s_nil ?_
    refine then_n ?_
    refine wp_ret ?_
    obtain rfl := some_some H
    refine s_ret [Value.int .i64 x8] hF Try.results55 ⟨rfl, trivial⟩ ?_
    exact ⟨_, rfl, hM.frm, rfl⟩

/-! ### loop.example/g01210/spec.l2All: function 49 -/
def spec_l2All.l0 (K : Nat) (a0 : Int) : Nat → Int → Int → Option Int
  | 0, _, _ => none
  | k + 1, x6, x7 => if x7 < a0 then (spec_l2All.l0 K a0 k (wrap64 (x6 * 6)) (wrap64 (x7 + 1))) else (some x6)
def spec_l2All.f (K : Nat) (a0 : Int) : Option Int := (spec_l2All.l0 K a0 K 1 0).bind fun x5 => some x5
set_option maxRecDepth 100000 in
set_option maxHeartbeats 4000000 in
theorem spec_l2All.calls {w0 : World} (K : Nat) (a0 : Int) (r : Int) (H : spec_l2All.f K a0 = some r) : Calls Try.prog 49 [Value.int .i64 a0].toArray w0 (Post w0 fun w v => v = Value.int .i64 r) := by
  rw [spec_l2All.f] at H
  refine s_start Try.func49 rfl Try.ntmps49 rfl ?_
  intro a hF
  have hM := Ms.start w0
  skip
  refine wp_seq ?_
  refine s_region ?_
  refine s_val hF rfl rfl rfl (e_assign hF rfl) ?_; intro a hF
  refine s_nil ?_
  refine then_n ?_
  refine wp_seq ?_
  refine s_region ?_
  refine s_val hF rfl rfl rfl (e_assign hF rfl) ?_; intro a hF
  refine s_nil ?_
  refine then_n ?_
  refine wp_seq ?_
  refine wp_seq ?_
  refine s_region ?_
  refine s_val hF rfl rfl rfl (e_assign hF rfl) ?_; intro a hF
  refine s_nil ?_
  refine then_n ?_
  refine wp_block ?_
  obtain ⟨o9, h10, H⟩ := bind_some H
  refine wp_mono (Q := fun e a w => (e = Exit.exit 0 ∧ ∃ x5 : Int, x5 = o9 ∧ Fr 13 a [(3, Value.int .i64 x5)] ∧ Ms [] w0 w [])) ?_ ?_
  · refine s_loop (fun kq a w => ∃ x6 : Int, ∃ x7 : Int, spec_l2All.l0 K a0 kq x6 x7 = some o9 ∧ Fr 13 a [(0, Value.int .i64 a0), (3, Value.int .i64 x6), (4, Value.int .i64 x7)] ∧ Ms [] w0 w []) K ⟨1, 0, h10, hF.sub _ ⟨rfl, rfl, rfl, trivial⟩, hM.pick [] rfl rfl⟩ ?_ ?_
    · rintro a w ⟨_, _, H, _⟩; exact none_some H
    · rintro k a w ⟨x6, x7, H, hF, hM⟩; rw [spec_l2All.l0] at H
      refine wp_seq ?_
      refine wp_seq ?_
      refine s_region ?_
      refine s_val hF rfl rfl rfl (e_move hF rfl) ?_; intro a hF
      refine s_val hF rfl rfl rfl (e_move hF rfl) ?_; intro a hF
      refine s_val hF rfl rfl rfl (e_lss hF rfl rfl) ?_; intro a hF
      refine s_nil ?_
      refine then_n ?_
      rcases ite_cases H with ⟨c8, H⟩ | ⟨c8, H⟩
      ·
        refine s_cond_t hF rfl (decide_eq_true c8) ?_
        refine wp_skip ?_
        refine then_n ?_
        refine wp_seq ?_
        refine wp_block ?_
        refine s_region ?_
        refine s_val hF rfl rfl rfl (e_move hF rfl) ?_; intro a hF
        refine s_val hF rfl rfl rfl (e_mul hF rfl rfl) ?_; intro a hF
        refine s_val hF rfl rfl rfl (e_assign hF rfl) ?_; intro a hF
        refine s_nil ?_
        refine blk_n ?_
        refine then_n ?_
        refine s_region ?_
        refine s_val hF rfl rfl rfl (e_move hF rfl) ?_; intro a hF
        refine s_val hF rfl rfl rfl (e_add hF rfl rfl) ?_; intro a hF
        refine s_val hF rfl rfl rfl (e_assign hF rfl) ?_; intro a hF
        refine s_nil ?_
        refine then_n ?_
        exact ⟨(wrap64 (x6 * 6)), (wrap64 (x7 + 1)), H, hF.sub _ ⟨rfl, rfl, rfl, trivial⟩, hM.pick [] rfl rfl⟩
      ·
        refine s_cond_f hF rfl (decide_eq_false c8) ?_
        refine wp_exit ?_
        refine then_x ?_
        refine then_x ?_
        exact ⟨rfl, x6, some_some H, hF.sub _ ⟨rfl, trivial⟩, hM.pick [] rfl rfl⟩
  · rintro e a w ⟨rfl, x5, rfl, hF, hM⟩
    skip
    refine blk_x ?_
    refine then_n ?_
    refine wp_seq ?_
    refine s_region ?_
    refine s_val hF rfl rfl rfl (e_move hF rfl) ?_; intro a hF
    refine s_val hF rfl rfl rfl (e_assign hF rfl) ?_; intro a hF
    refine s_nil ?_
    refine then_n ?_
    refine wp_ret ?_
    obtain rfl := some_some H
    refine s_ret [Value.int .i64 x5] hF Try.results49 ⟨rfl, trivial⟩ ?_
    exact ⟨_, rfl, hM.frm, rfl⟩

/-! ### loop.example/g01210/spec.l1Most: function 89 -/
def spec_l1Most.f (K : Nat) (a0 : Int) (a1 : Int) : Option Int := if a1 < a0 then (some a0) else (some a1)
set_option maxRecDepth 100000 in
set_option maxHeartbeats 4000000 in
theorem spec_l1Most.calls {w0 : World} (K : Nat) (a0 : Int) (a1 : Int) (r : Int) (H : spec_l1Most.f K a0 a1 = some r) : Calls Try.prog 89 [Value.int .i64 a0, Value.int .i64 a1].toArray w0 (Post w0 fun w v => v = Value.int .i64 r) := by
  rw [spec_l1Most.f] at H
  refine s_start Try.func89 rfl Try.ntmps89 rfl ?_
  intro a hF
  have hM := Ms.start w0
  skip
  refine wp_seq ?_
  refine s_region ?_
  refine s_val hF rfl rfl rfl (e_assign hF rfl) ?_; intro a hF
  refine s_nil ?_
  refine then_n ?_
  refine wp_seq ?_
  refine wp_seq ?_
  refine s_region ?_
  refine s_val hF rfl rfl rfl (e_move hF rfl) ?_; intro a hF
  refine s_val hF rfl rfl rfl (e_move hF rfl) ?_; intro a hF
  refine s_val hF rfl rfl rfl (e_gtr hF rfl rfl) ?_; intro a hF
  refine s_nil ?_
  refine then_n ?_
  rcases ite_cases H with ⟨c1, H⟩ | ⟨c1, H⟩
  ·
    refine s_cond_t hF rfl (decide_eq_true c1) ?_
    refine wp_seq ?_
    refine s_region ?_
    refine s_val hF rfl rfl rfl (e_move hF rfl) ?_; intro a hF
    refine s_val hF rfl rfl rfl (e_assign hF rfl) ?_; intro a hF
    refine s_nil ?_
    refine then_n ?_
    refine wp_ret ?_
    refine then_r ?_
    obtain rfl := some_some H
    refine s_ret [Value.int .i64 a0] hF Try.results89 ⟨rfl, trivial⟩ ?_
    exact ⟨_, rfl, hM.frm, rfl⟩
  ·
    refine s_cond_f hF rfl (decide_eq_false c1) ?_
    refine wp_skip ?_
    refine then_n ?_
    refine wp_seq ?_
    refine s_region ?_
    refine s_val hF rfl rfl rfl (e_move hF rfl) ?_; intro a hF
    refine s_val hF rfl rfl rfl (e_assign hF rfl) ?_; intro a hF
    refine s_nil ?_
    refine then_n ?_
    refine wp_ret ?_
    obtain rfl := some_some H
    refine s_ret [Value.int .i64 a1] hF Try.results89 ⟨rfl, trivial⟩ ?_
    exact ⟨_, rfl, hM.frm, rfl⟩

/-! ### loop.example/g01210/spec.l2Cut: function 54 -/
def spec_l2Cut.l0 (K : Nat) : Nat → Int → Int → Option Int
  | 0, _, _ => none
  | k + 1, x9, x10 => if 0 < x10 then (if x10 ≠ 0 then (spec_l2Cut.l0 K k x10 (x9.tmod x10)) else none) else (some x9)
def spec_l2Cut.f (K : Nat) (a0 : Int) (a1 : Int) : Option (Ar 2) := (spec_l2Cut.l0 K K a0 a1).bind fun x8 => (spec_l1Most.f K x8 1).bind fun t15 => if t15 ≠ 0 then ((spec_l1Most.f K x8 1).bind fun t18 => if t18 ≠ 0 then (some (⟨[(wrap64 (a0.tdiv t15)), (wrap64 (a1.tdiv t18))], rfl⟩ : Ar 2)) else none) else none
set_option maxRecDepth 100000 in
set_option maxHeartbeats 4000000 in
theorem spec_l2Cut.calls {w0 : World} (K : Nat) (a0 : Int) (a1 : Int) (r : (Ar 2)) (H : spec_l2Cut.f K a0 a1 = some r) : Calls Try.prog 54 [Value.int .i64 a0, Value.int .i64 a1].toArray w0 (Post w0 fun w v => v = ag [Pt.ar r]) := by
  rw [spec_l2Cut.f] at H
  refine s_start Try.func54 rfl Try.ntmps54 rfl ?_
  intro a hF
  have hM := Ms.start w0
  skip
  refine wp_seq ?_
  refine s_region ?_
  refine s_alloc (ps := [Pt.ar (Ar.zero 2)]) hF hM rfl rfl zv29 rfl ?_; intro a w b1 hF hM
  refine s_nil ?_
  refine then_n ?_
  refine wp_seq ?_
  refine s_region ?_
  refine s_val hF rfl rfl rfl (e_move hF rfl) ?_; intro a hF
  refine s_val hF rfl rfl rfl (e_move hF rfl) ?_; intro a hF
  refine s_val hF rfl rfl rfl (e_assign hF rfl) ?_; intro a hF
  refine s_val hF rfl rfl rfl (e_assign hF rfl) ?_; intro a hF
  refine s_nil ?_
  refine then_n ?_
  refine wp_seq ?_
  refine wp_block ?_
  obtain ⟨o13, h14, H⟩ := bind_some H
  refine wp_mono (Q := fun e a w => (e = Exit.exit 0 ∧ ∃ x8 : Int, x8 = o13 ∧ Fr 24 a [(0, Value.int .i64 a0), (1, Value.int .i64 a1), (4, pt b1 0), (5, Value.int .i64 x8)] ∧ Ms [] w0 w [boxR b1 [Pt.ar (Ar.zero 2)] 29])) ?_ ?_
  · refine s_loop (fun kq a w => ∃ x9 : Int, ∃ x10 : Int, spec_l2Cut.l0 K kq x9 x10 = some o13 ∧ Fr 24 a [(0, Value.int .i64 a0), (1, Value.int .i64 a1), (4, pt b1 0), (5, Value.int .i64 x9), (6, Value.int .i64 x10)] ∧ Ms [] w0 w [boxR b1 [Pt.ar (Ar.zero 2)] 29]) K ⟨a0, a1, h14, hF.sub _ ⟨rfl, rfl, rfl, rfl, rfl, trivial⟩, hM.pick [0] rfl rfl⟩ ?_ ?_
    · rintro a w ⟨_, _, H, _⟩; exact none_some H
    · rintro k a w ⟨x9, x10, H, hF, hM⟩; rw [spec_l2Cut.l0] at H
      refine wp_seq ?_
      refine wp_seq ?_
      refine s_region ?_
      refine s_val hF rfl rfl rfl (e_move hF rfl) ?_; intro a hF
      refine s_val hF rfl rfl rfl (e_gtr hF rfl rfl) ?_; intro a hF
      refine s_nil ?_
      refine then_n ?_
      rcases ite_cases H with ⟨c11, H⟩ | ⟨c11, H⟩
      ·
        refine s_cond_t hF rfl (decide_eq_true c11) ?_
        refine wp_skip ?_
        refine then_n ?_
        refine wp_block ?_
        obtain ⟨c12, H⟩ := ite_some H
        refine s_held (fun w => Ms [] w0 w [boxR b1 [Pt.ar (Ar.zero 2)] 29]) #[false, false, false, false, false, false] mixed rfl rfl hM ?_; intro w hf hM; clear hf
        refine h_val 0 #[true, false, false, false, false, false] rfl (by kernel_rfl) hF rfl rfl rfl (fun w hS => e_move hF rfl) (hM.pick [0] rfl rfl) ?_; intro a hF
        refine h_val 1 #[true, true, false, false, false, false] rfl (by kernel_rfl) hF rfl rfl rfl (fun w hS => e_move hF rfl) (hM.pick [0] rfl rfl) ?_; intro a hF
        refine h_val 2 #[true, true, true, false, false, false] rfl (by kernel_rfl) hF rfl rfl rfl (fun w hS => e_move hF rfl) (hM.pick [0] rfl rfl) ?_; intro a hF
        refine h_val 3 #[true, true, true, true, false, false] rfl (by kernel_rfl) hF rfl rfl rfl (fun w hS => e_rem hF rfl rfl c12) (hM.pick [0] rfl rfl) ?_; intro a hF
        refine h_val 4 #[true, true, true, true, true, false] rfl (by kernel_rfl) hF rfl rfl rfl (fun w hS => e_assign hF rfl) (hM.pick [0] rfl rfl) ?_; intro a hF
        refine h_val 5 #[true, true, true, true, true, true] rfl (by kernel_rfl) hF rfl rfl rfl (fun w hS => e_assign hF rfl) (hM.pick [0] rfl rfl) ?_; intro a hF
        refine h_done rfl ?_
        refine blk_n ?_
        refine then_n ?_
        exact ⟨x10, (x9.tmod x10), H, hF.sub _ ⟨rfl, rfl, rfl, rfl, rfl, trivial⟩, hM.pick [0] rfl rfl⟩
      ·
        refine s_cond_f hF rfl (decide_eq_false c11) ?_
        refine wp_exit ?_
        refine then_x ?_
        refine then_x ?_
        exact ⟨rfl, x9, some_some H, hF.sub _ ⟨rfl, rfl, rfl, rfl, trivial⟩, hM.pick [0] rfl rfl⟩
  · rintro e a w ⟨rfl, x8, rfl, hF, hM⟩
    skip
    refine blk_x ?_
    refine then_n ?_
    refine wp_seq ?_
    obtain ⟨t15, h16, H⟩ := bind_some H
    obtain ⟨c17, H⟩ := ite_some H
    obtain ⟨t18, h19, H⟩ := bind_some H
    obtain ⟨c20, H⟩ := ite_some H
    refine s_held (fun w => Ms [] w0 w []) #[false, false, false, false, false, false, false, false, false, false] mixed rfl rfl hM ?_; intro w hf hM; clear hf
    refine h_val 0 #[true, false, false, false, false, false, false, false, false, false] rfl (by kernel_rfl) hF rfl rfl rfl (fun w hS => e_move hF rfl) (hM.pick [] rfl rfl) ?_; intro a hF
    refine h_val 1 #[true, true, false, false, false, false, false, false, false, false] rfl (by kernel_rfl) hF rfl rfl rfl (fun w hS => e_move hF rfl) (hM.pick [] rfl rfl) ?_; intro a hF
    refine h_val 4 #[true, true, false, false, true, false, false, false, false, false] rfl (by kernel_rfl) hF rfl rfl rfl (fun w hS => e_move hF rfl) (hM.pick [] rfl rfl) ?_; intro a hF
    refine h_val 5 #[true, true, false, false, true, true, false, false, false, false] rfl (by kernel_rfl) hF rfl rfl rfl (fun w hS => e_move hF rfl) (hM.pick [] rfl rfl) ?_; intro a hF
    refine h_one 2 #[true, true, true, false, true, true, false, false, false, false] rfl (by kernel_rfl) ?_
    refine s_call hF rfl rfl rfl Try.call89 (spec_l1Most.calls K x8 1 t15 h16) ?_; intro a w v hF hf hR
    subst hR; have hM := hM.grow hf
    refine s_nil ⟨rfl, (hM.pick [] rfl rfl), ?_⟩
    refine h_val 3 #[true, true, true, true, true, true, false, false, false, false] rfl (by kernel_rfl) hF rfl rfl rfl (fun w hS => e_quo hF rfl rfl c17) (hM.pick [] rfl rfl) ?_; intro a hF
    refine h_one 6 #[true, true, true, true, true, true, true, false, false, false] rfl (by kernel_rfl) ?_
    refine s_call hF rfl rfl rfl Try.call89 (spec_l1Most.calls K x8 1 t18 h19) ?_; intro a w v hF hf hR
    subst hR; have hM := hM.grow hf
    refine s_nil ⟨rfl, (hM.pick [] rfl rfl), ?_⟩
    refine h_val 7 #[true, true, true, true, true, true, true, true, false, false] rfl (by kernel_rfl) hF rfl rfl rfl (fun w hS => e_quo hF rfl rfl c20) (hM.pick [] rfl rfl) ?_; intro a hF
    refine h_val 8 #[true, true, true, true, true, true, true, true, true, false] rfl (by kernel_rfl) hF rfl rfl rfl (fun w hS => e_build' (cells := cat [Pt.ar (⟨[(wrap64 (a0.tdiv t15)), (wrap64 (a1.tdiv t18))], rfl⟩ : Ar 2)]) hF rfl (by kernel_rfl)) (hM.pick [] rfl rfl) ?_; intro a hF
    refine h_one 9 #[true, true, true, true, true, true, true, true, true, true] rfl (by kernel_rfl) ?_
    refine s_stw (i := 0) (ps' := [Pt.ar (⟨[(wrap64 (a0.tdiv t15)), (wrap64 (a1.tdiv t18))], rfl⟩ : Ar 2)]) hF hM rfl rfl rfl rfl rfl rfl Try.sizeOf29 rfl ?_; intro a w hF hM
    refine s_nil ⟨rfl, (hM.pick [] rfl rfl), ?_⟩
    refine h_done rfl ?_
    refine then_n ?_
    refine wp_ret ?_
    obtain rfl := some_some H
    refine s_ret [ag [Pt.ar (⟨[(wrap64 (a0.tdiv t15)), (wrap64 (a1.tdiv t18))], rfl⟩ : Ar 2)]] hF Try.results54 ⟨⟨_, rfl, rv_box hM (i := 0) rfl Try.isAgg29 Try.sizeOf29 rfl⟩, trivial⟩ ?_
    exact ⟨_, rfl, hM.frm, rfl⟩

/-! ### loop.example/g01210/spec.RunWithin: function 26 -/
def spec_RunWithin.l20 (K : Nat) (a1 : Int) (x348 : (List Int)) (x457 : Int) : Nat → Int → Int → Option Int
  | 0, _, _ => none
  | k + 1, x475, x476 => if x476 < (x348.length : Int) then (if a1 ≠ 0 then (if (wrap64 (x476.tdiv a1)) = x457 then (spec_RunWithin.l20 K a1 x348 x457 k x475 (wrap64 (x476 + 1))) else (if (0 : Int) ≤ x476 ∧ x476 < (x348.length : Int) then (spec_RunWithin.l20 K a1 x348 x457 k (wrap64 (x475 + (x348.getD (x476 : Int).toNat (0 : Int)))) (wrap64 (x476 + 1))) else none)) else none) else (some x475)
def spec_RunWithin.l21 (K : Nat) (a1 : Int) (x348 : (List Int)) (x457 : Int) (t461 : Int) (x474 : Int) : Nat → Int → Int → (List Int) → Option (Int × (List Int))
  | 0, _, _, _ => none
  | k + 1, x498, x499, x500 => if x499 ≤ a1 then (if 1 < x499 then (if (0 : Int) ≤ (wrap64 ((wrap64 ((wrap64 (x457 * a1)) + x499)) - 1)) ∧ (wrap64 ((wrap64 ((wrap64 (x457 * a1)) + x499)) - 1)) < (x348.length : Int) then (if x499 = a1 then (spec_RunWithin.l21 K a1 x348 x457 t461 x474 k (wrap64 (x498 + (wrap64 (t461 * (x348.getD ((wrap64 ((wrap64 ((wrap64 (x457 * a1)) + x499)) - 1)) : Int).toNat (0 : Int)))))) (wrap64 (x499 + 1)) x500) else (if (0 : Int) ≤ (wrap64 ((wrap64 (x457 * a1)) + x499)) ∧ (wrap64 ((wrap64 (x457 * a1)) + x499)) < (x500.length : Int) then (spec_RunWithin.l21 K a1 x348 x457 t461 x474 k x498 (wrap64 (x499 + 1)) (x500.set ((wrap64 ((wrap64 (x457 * a1)) + x499)) : Int).toNat (wrap64 ((x500.getD ((wrap64 ((wrap64 (x457 * a1)) + x499)) : Int).toNat (0 : Int)) + (wrap64 (t461 * (x348.getD ((wrap64 ((wrap64 ((wrap64 (x457 * a1)) + x499)) - 1)) : Int).toNat (0 : Int)))))))) else none)) else none) else (if x499 = a1 then (spec_RunWithin.l21 K a1 x348 x457 t461 x474 k (wrap64 (x498 + (wrap64 (t461 * x474)))) (wrap64 (x499 + 1)) x500) else (if (0 : Int) ≤ (wrap64 ((wrap64 (x457 * a1)) + x499)) ∧ (wrap64 ((wrap64 (x457 * a1)) + x499)) < (x500.length : Int) then (spec_RunWithin.l21 K a1 x348 x457 t461 x474 k x498 (wrap64 (x499 + 1)) (x500.set ((wrap64 ((wrap64 (x457 * a1)) + x499)) : Int).toNat (wrap64 ((x500.getD ((wrap64 ((wrap64 (x457 * a1)) + x499)) : Int).toNat (0 : Int)) + (wrap64 (t461 * x474)))))) else none))) else (some (x498, x500))
def spec_RunWithin.l19 (K : Nat) (a0 : (Ar 6)) (a1 : Int) (t9 : (List Int)) (x345 : Int) (x348 : (List Int)) : Nat → Int → Int → (List Int) → Option (Int × (List Int))
  | 0, _, _, _ => none
  | k + 1, x456, x457, x458 => if x457 < (t9.length : Int) then (if (0 : Int) ≤ x457 ∧ x457 < (t9.length : Int) then ((spec_l8Weight.f K a0 (t9.getD (x457 : Int).toNat (0 : Int))).bind fun t461 => (spec_RunWithin.l20 K a1 x348 x457 K x345 0).bind fun x474 => (spec_RunWithin.l21 K a1 x348 x457 t461 x474 K x456 1 x458).bind fun (x496, x497) => spec_RunWithin.l19 K a0 a1 t9 x345 x348 k x496 (wrap64 (x457 + 1)) x497) else none) else (some (x456, x458))
def spec_RunWithin.l14 (K : Nat) (a0 : (Ar 6)) (a1 : Int) (a2 : Int) (t9 : (List Int)) : Nat → Int → Int → Int → (List Int) → Option Int
  | 0, _, _, _, _ => none
  | k + 1, x344, x345, x346, x348 => if x346 < a2 then ((spec_RunWithin.l19 K a0 a1 t9 x345 x348 K (wrap64 (6 * x344)) 0 (List.replicate (wrap64 ((t9.length : Int) * a1)).toNat (0 : Int))).bind fun (x454, x455) => spec_RunWithin.l14 K a0 a1 a2 t9 k x454 0 (wrap64 (x346 + 1)) x455) else (some x344)
def spec_RunWithin.f (K : Nat) (a0 : (Ar 6)) (a1 : Int) (a2 : Int) : Option ((Ar 2) × Bool) := (spec_l8Rolls.f K a0 a2).bind fun t3 => if t3 = true then ((spec_l1In.f K a1 1 12).bind fun t6 => if t6 = true then ((spec_l8Numbers.f K a0).bind fun t9 => if (0 : Int) ≤ (wrap64 ((t9.length : Int) * a1)) ∧ (wrap64 ((t9.length : Int) * a1)) ≤ 1073741824 then ((spec_RunWithin.l14 K a0 a1 a2 t9 K 0 1 0 (List.replicate (wrap64 ((t9.length : Int) * a1)).toNat (0 : Int))).bind fun x343 => (spec_l2All.f K a2).bind fun t514 => (spec_l2Cut.f K x343 t514).bind fun t516 => some (t516, true)) else none) else (some ((⟨[0, 0], rfl⟩ : Ar 2), false))) else (some ((⟨[0, 0], rfl⟩ : Ar 2), false))
set_option maxRecDepth 100000 in
set_option maxHeartbeats 4000000 in
theorem spec_RunWithin.calls {w0 : World} (K : Nat) (a0 : (Ar 6)) (a1 : Int) (a2 : Int) (r : ((Ar 2) × Bool)) (H : spec_RunWithin.f K a0 a1 a2 = some r) : Calls Try.prog 26 [ag [Pt.ar a0], Value.int .i64 a1, Value.int .i64 a2].toArray w0 (Post w0 fun w v => v = Value.tuple #[ag [Pt.ar r.1], Value.bool r.2]) := by
  rw [spec_RunWithin.f] at H
  refine s_start Try.func26 rfl Try.ntmps26 rfl ?_
  intro a hF
  have hM := Ms.start w0
  skip
  refine wp_seq ?_
  refine s_region ?_
  refine s_box (ps := [Pt.ar a0]) hF hM rfl rfl rfl rfl ?_; intro a w b1 hF hM
  refine s_alloc (ps := [Pt.ar (Ar.zero 2)]) hF hM rfl rfl zv29 rfl ?_; intro a w b2 hF hM
  refine s_val hF rfl rfl rfl (e_assign hF rfl) ?_; intro a hF
  refine s_nil ?_
  refine then_n ?_
  refine wp_seq ?_
  refine wp_seq ?_
  obtain ⟨t3, h4, H⟩ := bind_some H
  rcases ite_cases H with ⟨c5, H⟩ | ⟨c5, H⟩
  ·
    obtain ⟨t6, h7, H⟩ := bind_some H
    refine s_region ?_
    refine s_val hF rfl rfl rfl (e_lda (i := 1) 0 1 hF hM rfl rfl rfl rfl Try.isAgg22 Try.sizeOf22 rfl) ?_; intro a hF
    refine s_val hF rfl rfl rfl (e_move hF rfl) ?_; intro a hF
    refine s_call hF rfl rfl rfl Try.call60 (spec_l8Rolls.calls K a0 a2 t3 h4) ?_; intro a w v hF hf hR
    subst hR; have hM := hM.grow hf
    refine s_val hF rfl rfl rfl (e_not hF rfl) ?_; intro a hF
    refine s_val hF rfl rfl rfl (e_move hF rfl) ?_; intro a hF
    have hF := hF.topb (congrArg Bool.not c5)
    refine s_val hF rfl rfl rfl (e_move hF rfl) ?_; intro a hF
    refine s_call hF rfl rfl rfl Try.call48 (spec_l1In.calls K a1 1 12 t6 h7) ?_; intro a w v hF hf hR
    subst hR; have hM := hM.grow hf
    refine s_val hF rfl rfl rfl (e_not hF rfl) ?_; intro a hF
    refine s_val hF rfl rfl rfl (e_pick_f hF rfl rfl) ?_; intro a hF
    refine s_nil ?_
    refine then_n ?_
    rcases ite_cases H with ⟨c8, H⟩ | ⟨c8, H⟩
    ·
      refine s_cond_f hF rfl (congrArg Bool.not c8) ?_
      refine wp_skip ?_
      refine then_n ?_
      refine wp_seq ?_
      obtain ⟨t9, h10, H⟩ := bind_some H
      refine s_region ?_
      refine s_val hF rfl rfl rfl (e_lda (i := 1) 0 1 hF hM rfl rfl rfl rfl Try.isAgg22 Try.sizeOf22 rfl) ?_; intro a hF
      refine s_call hF rfl rfl rfl Try.call64 (spec_l8Numbers.calls K a0 t9 h10) ?_; intro a w v11 hF hf hR
      have hM := hM.fresh hf hR
      refine s_val hF rfl rfl rfl (e_assign hF rfl) ?_; intro a hF
      refine s_val hF rfl rfl rfl (e_assign hF rfl) ?_; intro a hF
      refine s_nil ?_
      refine then_n ?_
      refine wp_seq ?_
      obtain ⟨c13, H⟩ := ite_some H
      refine s_region ?_
      refine s_val hF rfl rfl rfl (e_move hF rfl) ?_; intro a hF
      refine s_val hF rfl rfl rfl (e_len hF rfl (hM.sl 0 rfl).toF Try.underlying42) ?_; intro a hF
      refine s_val hF rfl rfl rfl (e_move hF rfl) ?_; intro a hF
      refine s_val hF rfl rfl rfl (e_mul hF rfl rfl) ?_; intro a hF
      refine s_make (C := cd3) cdok3 hF hM rfl rfl rfl rfl Try.underlying42 c13.1 c13.2 ?_; intro a w v12 hF hM
      refine s_val hF rfl rfl rfl (e_assign hF rfl) ?_; intro a hF
      refine s_val hF rfl rfl rfl (e_assign hF rfl) ?_; intro a hF
      refine s_nil ?_
      refine then_n ?_
      refine wp_seq ?_
      refine wp_seq ?_
      refine s_region ?_
      refine s_val hF rfl rfl rfl (e_assign hF rfl) ?_; intro a hF
      refine s_nil ?_
      refine then_n ?_
      refine wp_block ?_
      obtain ⟨o512, h513, H⟩ := bind_some H
      refine wp_mono (Q := fun e a w => (e = Exit.exit 0 ∧ ∃ x343 : Int, x343 = o512 ∧ Fr 128 a [(2, Value.int .i64 a2), (6, pt b2 0), (9, Value.int .i64 x343)] ∧ Ms [] w0 w [boxR b2 [Pt.ar (Ar.zero 2)] 29])) ?_ ?_
      · refine s_loop (fun kq a w => ∃ v347 : Value, ∃ x344 : Int, ∃ x345 : Int, ∃ x346 : Int, ∃ x348 : (List Int), spec_RunWithin.l14 K a0 a1 a2 t9 kq x344 x345 x346 x348 = some o512 ∧ Fr 128 a [(1, Value.int .i64 a1), (2, Value.int .i64 a2), (3, pt b1 0), (6, pt b2 0), (8, v11), (9, Value.int .i64 x344), (10, v347), (11, Value.int .i64 x345), (12, Value.int .i64 x346)] ∧ Ms [] w0 w [boxR b1 [Pt.ar a0] 22, boxR b2 [Pt.ar (Ar.zero 2)] 29, rowR cd3 v11 t9, rowR cd3 v347 x348]) K ⟨v12, 0, 1, 0, (List.replicate (wrap64 ((t9.length : Int) * a1)).toNat (0 : Int)), h513, hF.sub _ ⟨rfl, rfl, rfl, rfl, rfl, rfl, rfl, rfl, rfl, trivial⟩, hM.pick [3, 2, 1, 0] rfl rfl⟩ ?_ ?_
        · rintro a w ⟨_, _, _, _, _, H, _⟩; exact none_some H
        · rintro k a w ⟨v347, x344, x345, x346, x348, H, hF, hM⟩; rw [spec_RunWithin.l14] at H
          refine wp_seq ?_
          refine wp_seq ?_
          refine s_region ?_
          refine s_val hF rfl rfl rfl (e_move hF rfl) ?_; intro a hF
          refine s_val hF rfl rfl rfl (e_move hF rfl) ?_; intro a hF
          refine s_val hF rfl rfl rfl (e_lss hF rfl rfl) ?_; intro a hF
          refine s_nil ?_
          refine then_n ?_
          rcases ite_cases H with ⟨c349, H⟩ | ⟨c349, H⟩
          ·
            refine s_cond_t hF rfl (decide_eq_true c349) ?_
            refine wp_skip ?_
            refine then_n ?_
            refine wp_seq ?_
            refine wp_block ?_
            refine wp_seq ?_
            refine s_region ?_
            refine s_val hF rfl rfl rfl (e_move hF rfl) ?_; intro a hF
            refine s_val hF rfl rfl rfl (e_len hF rfl (hM.sl 2 rfl).toF Try.underlying42) ?_; intro a hF
            refine s_val hF rfl rfl rfl (e_move hF rfl) ?_; intro a hF
            refine s_val hF rfl rfl rfl (e_mul hF rfl rfl) ?_; intro a hF
            refine s_make (C := cd3) cdok3 hF hM rfl rfl rfl rfl Try.underlying42 c13.1 c13.2 ?_; intro a w v350 hF hM
            refine s_val hF rfl rfl rfl (e_assign hF rfl) ?_; intro a hF
            refine s_nil ?_
            refine then_n ?_
            refine wp_seq ?_
            refine s_region ?_
            refine s_val hF rfl rfl rfl (e_move hF rfl) ?_; intro a hF
            refine s_val hF rfl rfl rfl (e_mul hF rfl rfl) ?_; intro a hF
            refine s_val hF rfl rfl rfl (e_assign hF rfl) ?_; intro a hF
            refine s_nil ?_
            refine then_n ?_
            refine wp_seq ?_
            refine wp_seq ?_
            refine s_region ?_
            refine s_val hF rfl rfl rfl (e_assign hF rfl) ?_; intro a hF
            refine s_nil ?_
            refine then_n ?_
            refine wp_block ?_
            obtain ⟨o510, h511, H⟩ := bind_some H
            refine wp_mono (Q := fun e a w => (e = Exit.exit 2 ∧ ∃ x454 : Int, ∃ x455 : (List Int), (x454, x455) = o510 ∧ Fr 128 a [(1, Value.int .i64 a1), (2, Value.int .i64 a2), (3, pt b1 0), (6, pt b2 0), (8, v11), (9, Value.int .i64 x454), (12, Value.int .i64 x346), (13, v350)] ∧ Ms [] w0 w [boxR b1 [Pt.ar a0] 22, boxR b2 [Pt.ar (Ar.zero 2)] 29, rowR cd3 v11 t9, rowR cd3 v350 x455])) ?_ ?_
            · refine s_loop (fun kq a w => ∃ x456 : Int, ∃ x457 : Int, ∃ x458 : (List Int), spec_RunWithin.l19 K a0 a1 t9 x345 x348 kq x456 x457 x458 = some o510 ∧ Fr 128 a [(1, Value.int .i64 a1), (2, Value.int .i64 a2), (3, pt b1 0), (6, pt b2 0), (8, v11), (9, Value.int .i64 x456), (10, v347), (11, Value.int .i64 x345), (12, Value.int .i64 x346), (13, v350), (14, Value.int .i64 x457)] ∧ Ms [] w0 w [boxR b1 [Pt.ar a0] 22, boxR b2 [Pt.ar (Ar.zero 2)] 29, rowR cd3 v11 t9, rowR cd3 v347 x348, rowR cd3 v350 x458]) K ⟨(wrap64 (6 * x344)), 0, (List.replicate (wrap64 ((t9.length : Int) * a1)).toNat (0 : Int)), h511, hF.sub _ ⟨rfl, rfl, rfl, rfl, rfl, rfl, rfl, rfl, rfl, rfl, rfl, trivial⟩, hM.pick [1, 2, 3, 4, 0] rfl rfl⟩ ?_ ?_
              · rintro a w ⟨_, _, _, H, _⟩; exact none_some H
              · rintro k a w ⟨x456, x457, x458, H, hF, hM⟩; rw [spec_RunWithin.l19] at H
                refine wp_seq ?_
                refine wp_seq ?_
                refine s_region ?_
                refine s_val hF rfl rfl rfl (e_move hF rfl) ?_; intro a hF
                refine s_val hF rfl rfl rfl (e_move hF rfl) ?_; intro a hF
                refine s_val hF rfl rfl rfl (e_len hF rfl (hM.sl 2 rfl).toF Try.underlying42) ?_; intro a hF
                refine s_val hF rfl rfl rfl (e_lss hF rfl rfl) ?_; intro a hF
                refine s_nil ?_
                refine then_n ?_
                rcases ite_cases H with ⟨c459, H⟩ | ⟨c459, H⟩
                ·
                  refine s_cond_t hF rfl (decide_eq_true c459) ?_
                  refine wp_skip ?_
                  refine then_n ?_
                  refine wp_seq ?_
                  refine wp_block ?_
                  refine wp_seq ?_
                  obtain ⟨c460, H⟩ := ite_some H
                  obtain ⟨t461, h462, H⟩ := bind_some H
                  refine s_held (fun w => Ms [] w0 w [boxR b1 [Pt.ar a0] 22, boxR b2 [Pt.ar (Ar.zero 2)] 29, rowR cd3 v11 t9, rowR cd3 v347 x348, rowR cd3 v350 x458]) #[false, false, false, false, false, false, false, false, false] mixed rfl rfl hM ?_; intro w hf hM; clear hf
                  refine h_val 0 #[true, false, false, false, false, false, false, false, false] rfl (by kernel_rfl) hF rfl rfl rfl (fun w hS => e_lda (i := 0) 0 1 hF hS rfl rfl rfl rfl Try.isAgg22 Try.sizeOf22 rfl) (hM.pick [0, 1, 2, 3, 4] rfl rfl) ?_; intro a hF
                  refine h_val 1 #[true, true, false, false, false, false, false, false, false] rfl (by kernel_rfl) hF rfl rfl rfl (fun w hS => e_move hF rfl) (hM.pick [0, 1, 2, 3, 4] rfl rfl) ?_; intro a hF
                  refine h_val 2 #[true, true, true, false, false, false, false, false, false] rfl (by kernel_rfl) hF rfl rfl rfl (fun w hS => e_move hF rfl) (hM.pick [0, 1, 2, 3, 4] rfl rfl) ?_; intro a hF
                  have f463 := (hM.sl 2 rfl).toF
                  refine h_val 3 #[true, true, true, true, false, false, false, false, false] rfl (by kernel_rfl) hF rfl rfl rfl (fun w hS => e_ias cd3 hF rfl rfl f463 Try.underlying42 Try.sizeOf3 c460.1 c460.2) (hM.pick [0, 1, 2, 3, 4] rfl rfl) ?_; intro a hF
                  refine h_val 4 #[true, true, true, true, true, false, false, false, false] rfl (by kernel_rfl) hF rfl rfl rfl (fun w hS => e_lds (m := x457) hF rfl (hS.sl 2 rfl) (getD_some (z := (0 : Int)) c460.1 c460.2) rfl rfl Try.isAgg3) (hM.pick [0, 1, 2, 3, 4] rfl rfl) ?_; intro a hF
                  refine h_val 6 #[true, true, true, true, true, false, true, false, false] rfl (by kernel_rfl) hF rfl rfl rfl (fun w hS => e_move hF rfl) (hM.pick [0, 1, 2, 3, 4] rfl rfl) ?_; intro a hF
                  refine h_one 5 #[true, true, true, true, true, true, true, false, false] rfl (by kernel_rfl) ?_
                  refine s_call hF rfl rfl rfl Try.call55 (spec_l8Weight.calls K a0 (t9.getD (x457 : Int).toNat (0 : Int)) t461 h462) ?_; intro a w v hF hf hR
                  subst hR; have hM := hM.grow hf
                  refine s_nil ⟨rfl, (hM.pick [0, 1, 2, 3, 4] rfl rfl), ?_⟩
                  refine h_val 7 #[true, true, true, true, true, true, true, true, false] rfl (by kernel_rfl) hF rfl rfl rfl (fun w hS => e_assign hF rfl) (hM.pick [0, 1, 2, 3, 4] rfl rfl) ?_; intro a hF
                  refine h_val 8 #[true, true, true, true, true, true, true, true, true] rfl (by kernel_rfl) hF rfl rfl rfl (fun w hS => e_assign hF rfl) (hM.pick [0, 1, 2, 3, 4] rfl rfl) ?_; intro a hF
                  refine h_done rfl ?_
                  refine then_n ?_
                  refine wp_seq ?_
                  refine wp_seq ?_
                  refine s_region ?_
                  refine s_val hF rfl rfl rfl (e_assign hF rfl) ?_; intro a hF
                  refine s_nil ?_
                  refine then_n ?_
                  refine wp_block ?_
                  obtain ⟨o481, h482, H⟩ := bind_some H
                  refine wp_mono (Q := fun e a w => (e = Exit.exit 4 ∧ ∃ x474 : Int, x474 = o481 ∧ Fr 128 a [(1, Value.int .i64 a1), (2, Value.int .i64 a2), (3, pt b1 0), (6, pt b2 0), (8, v11), (9, Value.int .i64 x456), (10, v347), (11, Value.int .i64 x345), (12, Value.int .i64 x346), (13, v350), (14, Value.int .i64 x457), (15, Value.int .i64 t461), (16, Value.int .i64 x474)] ∧ Ms [] w0 w [boxR b1 [Pt.ar a0] 22, boxR b2 [Pt.ar (Ar.zero 2)] 29, rowR cd3 v11 t9, rowR cd3 v347 x348, rowR cd3 v350 x458])) ?_ ?_
                  · refine s_loop (fun kq a w => ∃ x475 : Int, ∃ x476 : Int, spec_RunWithin.l20 K a1 x348 x457 kq x475 x476 = some o481 ∧ Fr 128 a [(1, Value.int .i64 a1), (2, Value.int .i64 a2), (3, pt b1 0), (6, pt b2 0), (8, v11), (9, Value.int .i64 x456), (10, v347), (11, Value.int .i64 x345), (12, Value.int .i64 x346), (13, v350), (14, Value.int .i64 x457), (15, Value.int .i64 t461), (16, Value.int .i64 x475), (17, Value.int .i64 x476)] ∧ Ms [] w0 w [boxR b1 [Pt.ar a0] 22, boxR b2 [Pt.ar (Ar.zero 2)] 29, rowR cd3 v11 t9, rowR cd3 v347 x348, rowR cd3 v350 x458]) K ⟨x345, 0, h482, hF.sub _ ⟨rfl, rfl, rfl, rfl, rfl, rfl, rfl, rfl, rfl, rfl, rfl, rfl, rfl, rfl, trivial⟩, hM.pick [0, 1, 2, 3, 4] rfl rfl⟩ ?_ ?_
                    · rintro a w ⟨_, _, H, _⟩; exact none_some H
                    · rintro k a w ⟨x475, x476, H, hF, hM⟩; rw [spec_RunWithin.l20] at H
                      refine wp_seq ?_
                      refine wp_seq ?_
                      refine s_region ?_
                      refine s_val hF rfl rfl rfl (e_move hF rfl) ?_; intro a hF
                      refine s_val hF rfl rfl rfl (e_move hF rfl) ?_; intro a hF
                      refine s_val hF rfl rfl rfl (e_len hF rfl (hM.sl 3 rfl).toF Try.underlying42) ?_; intro a hF
                      refine s_val hF rfl rfl rfl (e_lss hF rfl rfl) ?_; intro a hF
                      refine s_nil ?_
                      refine then_n ?_
                      rcases ite_cases H with ⟨c477, H⟩ | ⟨c477, H⟩
                      ·
                        refine s_cond_t hF rfl (decide_eq_true c477) ?_
                        refine wp_skip ?_
                        refine then_n ?_
                        refine wp_seq ?_
                        refine wp_block ?_
                        refine wp_seq ?_
                        obtain ⟨c478, H⟩ := ite_some H
                        refine s_region ?_
                        refine s_val hF rfl rfl rfl (e_move hF rfl) ?_; intro a hF
                        refine s_val hF rfl rfl rfl (e_move hF rfl) ?_; intro a hF
                        refine s_val hF rfl rfl rfl (e_quo hF rfl rfl c478) ?_; intro a hF
                        refine s_val hF rfl rfl rfl (e_move hF rfl) ?_; intro a hF
                        refine s_val hF rfl rfl rfl (e_neq hF rfl rfl) ?_; intro a hF
                        refine s_nil ?_
                        refine then_n ?_
                        rcases ite_cases H with ⟨c479, H⟩ | ⟨c479, H⟩
                        ·
                          refine s_cond_f hF rfl (congrArg Bool.not (decide_eq_true c479)) ?_
                          refine wp_skip ?_
                          refine blk_n ?_
                          refine then_n ?_
                          refine s_region ?_
                          refine s_val hF rfl rfl rfl (e_move hF rfl) ?_; intro a hF
                          refine s_val hF rfl rfl rfl (e_add hF rfl rfl) ?_; intro a hF
                          refine s_val hF rfl rfl rfl (e_assign hF rfl) ?_; intro a hF
                          refine s_nil ?_
                          refine then_n ?_
                          exact ⟨x475, (wrap64 (x476 + 1)), H, hF.sub _ ⟨rfl, rfl, rfl, rfl, rfl, rfl, rfl, rfl, rfl, rfl, rfl, rfl, rfl, rfl, trivial⟩, hM.pick [0, 1, 2, 3, 4] rfl rfl⟩
                        ·
                          refine s_cond_t hF rfl (congrArg Bool.not (decide_eq_false c479)) ?_
                          obtain ⟨c480, H⟩ := ite_some H
                          refine s_region ?_
                          refine s_val hF rfl rfl rfl (e_move hF rfl) ?_; intro a hF
                          refine s_val hF rfl rfl rfl (e_move hF rfl) ?_; intro a hF
                          refine s_val hF rfl rfl rfl (e_move hF rfl) ?_; intro a hF
                          refine s_val hF rfl rfl rfl (e_ias cd3 hF rfl rfl (hM.sl 3 rfl).toF Try.underlying42 Try.sizeOf3 c480.1 c480.2) ?_; intro a hF
                          refine s_val hF rfl rfl rfl (e_lds (m := x476) hF rfl (hM.sl 3 rfl) (getD_some (z := (0 : Int)) c480.1 c480.2) rfl rfl Try.isAgg3) ?_; intro a hF
                          refine s_val hF rfl rfl rfl (e_add hF rfl rfl) ?_; intro a hF
                          refine s_val hF rfl rfl rfl (e_assign hF rfl) ?_; intro a hF
                          refine s_nil ?_
                          refine blk_n ?_
                          refine then_n ?_
                          refine s_region ?_
                          refine s_val hF rfl rfl rfl (e_move hF rfl) ?_; intro a hF
                          refine s_val hF rfl rfl rfl (e_add hF rfl rfl) ?_; intro a hF
                          refine s_val hF rfl rfl rfl (e_assign hF rfl) ?_; intro a hF
                          refine s_nil ?_
                          refine then_n ?_
                          exact ⟨(wrap64 (x475 + (x348.getD (x476 : Int).toNat (0 : Int)))), (wrap64 (x476 + 1)), H, hF.sub _ ⟨rfl, rfl, rfl, rfl, rfl, rfl, rfl, rfl, rfl, rfl, rfl, rfl, rfl, rfl, trivial⟩, hM.pick [0, 1, 2, 3, 4] rfl rfl⟩
                      ·
                        refine s_cond_f hF rfl (decide_eq_false c477) ?_
                        refine wp_exit ?_
                        refine then_x ?_
                        refine then_x ?_
                        exact ⟨rfl, x475, some_some H, hF.sub _ ⟨rfl, rfl, rfl, rfl, rfl, rfl, rfl, rfl, rfl, rfl, rfl, rfl, rfl, trivial⟩, hM.pick [0, 1, 2, 3, 4] rfl rfl⟩
                  · rintro e a w ⟨rfl, x474, rfl, hF, hM⟩
                    skip
                    refine blk_x ?_
                    refine then_n ?_
                    refine wp_seq ?_
                    refine s_region ?_
                    refine s_val hF rfl rfl rfl (e_assign hF rfl) ?_; intro a hF
                    refine s_nil ?_
                    refine then_n ?_
                    refine wp_block ?_
                    obtain ⟨o508, h509, H⟩ := bind_some H
                    refine wp_mono (Q := fun e a w => (e = Exit.exit 6 ∧ ∃ x496 : Int, ∃ x497 : (List Int), (x496, x497) = o508 ∧ Fr 128 a [(1, Value.int .i64 a1), (2, Value.int .i64 a2), (3, pt b1 0), (6, pt b2 0), (8, v11), (9, Value.int .i64 x496), (10, v347), (11, Value.int .i64 x345), (12, Value.int .i64 x346), (13, v350), (14, Value.int .i64 x457)] ∧ Ms [] w0 w [boxR b1 [Pt.ar a0] 22, boxR b2 [Pt.ar (Ar.zero 2)] 29, rowR cd3 v11 t9, rowR cd3 v347 x348, rowR cd3 v350 x497])) ?_ ?_
                    · refine s_loop (fun kq a w => ∃ x498 : Int, ∃ x499 : Int, ∃ x500 : (List Int), spec_RunWithin.l21 K a1 x348 x457 t461 x474 kq x498 x499 x500 = some o508 ∧ Fr 128 a [(1, Value.int .i64 a1), (2, Value.int .i64 a2), (3, pt b1 0), (6, pt b2 0), (8, v11), (9, Value.int .i64 x498), (10, v347), (11, Value.int .i64 x345), (12, Value.int .i64 x346), (13, v350), (14, Value.int .i64 x457), (15, Value.int .i64 t461), (16, Value.int .i64 x474), (18, Value.int .i64 x499)] ∧ Ms [] w0 w [boxR b1 [Pt.ar a0] 22, boxR b2 [Pt.ar (Ar.zero 2)] 29, rowR cd3 v11 t9, rowR cd3 v347 x348, rowR cd3 v350 x500]) K ⟨x456, 1, x458, h509, hF.sub _ ⟨rfl, rfl, rfl, rfl, rfl, rfl, rfl, rfl, rfl, rfl, rfl, rfl, rfl, rfl, trivial⟩, hM.pick [0, 1, 2, 3, 4] rfl rfl⟩ ?_ ?_
                      · rintro a w ⟨_, _, _, H, _⟩; exact none_some H
                      · rintro k a w ⟨x498, x499, x500, H, hF, hM⟩; rw [spec_RunWithin.l21] at H
                        refine wp_seq ?_
                        refine wp_seq ?_
                        refine s_region ?_
                        refine s_val hF rfl rfl rfl (e_move hF rfl) ?_; intro a hF
                        refine s_val hF rfl rfl rfl (e_move hF rfl) ?_; intro a hF
                        refine s_val hF rfl rfl rfl (e_leq hF rfl rfl) ?_; intro a hF
                        refine s_nil ?_
                        refine then_n ?_
                        rcases ite_cases H with ⟨c501, H⟩ | ⟨c501, H⟩
                        ·
                          refine s_cond_t hF rfl (decide_eq_true c501) ?_
                          refine wp_skip ?_
                          refine then_n ?_
                          refine wp_seq ?_
                          refine wp_block ?_
                          refine wp_seq ?_
                          refine s_region ?_
                          refine s_val hF rfl rfl rfl (e_move hF rfl) ?_; intro a hF
                          refine s_val hF rfl rfl rfl (e_assign hF rfl) ?_; intro a hF
                          refine s_nil ?_
                          refine then_n ?_
                          refine wp_seq ?_
                          refine wp_seq ?_
                          refine s_region ?_
                          refine s_val hF rfl rfl rfl (e_move hF rfl) ?_; intro a hF
                          refine s_val hF rfl rfl rfl (e_gtr hF rfl rfl) ?_; intro a hF
                          refine s_nil ?_
                          refine then_n ?_
                          rcases ite_cases H with ⟨c502, H⟩ | ⟨c502, H⟩
                          ·
                            refine s_cond_t hF rfl (decide_eq_true c502) ?_
                            obtain ⟨c503, H⟩ := ite_some H
                            refine s_region ?_
                            refine s_val hF rfl rfl rfl (e_move hF rfl) ?_; intro a hF
                            refine s_val hF rfl rfl rfl (e_move hF rfl) ?_; intro a hF
                            refine s_val hF rfl rfl rfl (e_move hF rfl) ?_; intro a hF
                            refine s_val hF rfl rfl rfl (e_mul hF rfl rfl) ?_; intro a hF
                            refine s_val hF rfl rfl rfl (e_move hF rfl) ?_; intro a hF
                            refine s_val hF rfl rfl rfl (e_add hF rfl rfl) ?_; intro a hF
                            refine s_val hF rfl rfl rfl (e_sub hF rfl rfl) ?_; intro a hF
                            refine s_val hF rfl rfl rfl (e_ias cd3 hF rfl rfl (hM.sl 3 rfl).toF Try.underlying42 Try.sizeOf3 c503.1 c503.2) ?_; intro a hF
                            refine s_val hF rfl rfl rfl (e_lds (m := (wrap64 ((wrap64 ((wrap64 (x457 * a1)) + x499)) - 1))) hF rfl (hM.sl 3 rfl) (getD_some (z := (0 : Int)) c503.1 c503.2) rfl rfl Try.isAgg3) ?_; intro a hF
                            refine s_val hF rfl rfl rfl (e_assign hF rfl) ?_; intro a hF
                            refine s_nil ?_
                            refine then_n ?_
                            refine wp_seq ?_
                            refine s_region ?_
                            refine s_val hF rfl rfl rfl (e_move hF rfl) ?_; intro a hF
                            refine s_val hF rfl rfl rfl (e_move hF rfl) ?_; intro a hF
                            refine s_val hF rfl rfl rfl (e_eql hF rfl rfl) ?_; intro a hF
                            refine s_nil ?_
                            refine then_n ?_
                            rcases ite_cases H with ⟨c504, H⟩ | ⟨c504, H⟩
                            ·
                              refine s_cond_t hF rfl (decide_eq_true c504) ?_
                              refine s_region ?_
                              refine s_val hF rfl rfl rfl (e_move hF rfl) ?_; intro a hF
                              refine s_val hF rfl rfl rfl (e_move hF rfl) ?_; intro a hF
                              refine s_val hF rfl rfl rfl (e_move hF rfl) ?_; intro a hF
                              refine s_val hF rfl rfl rfl (e_mul hF rfl rfl) ?_; intro a hF
                              refine s_val hF rfl rfl rfl (e_add hF rfl rfl) ?_; intro a hF
                              refine s_val hF rfl rfl rfl (e_assign hF rfl) ?_; intro a hF
                              refine s_nil ?_
                              refine blk_n ?_
                              refine then_n ?_
                              refine s_region ?_
                              refine s_val hF rfl rfl rfl (e_move hF rfl) ?_; intro a hF
                              refine s_val hF rfl rfl rfl (e_add hF rfl rfl) ?_; intro a hF
                              refine s_val hF rfl rfl rfl (e_assign hF rfl) ?_; intro a hF
                              refine s_nil ?_
                              refine then_n ?_
                              exact ⟨(wrap64 (x498 + (wrap64 (t461 * (x348.getD ((wrap64 ((wrap64 ((wrap64 (x457 * a1)) + x499)) - 1)) : Int).toNat (0 : Int)))))), (wrap64 (x499 + 1)), x500, H, hF.sub _ ⟨rfl, rfl, rfl, rfl, rfl, rfl, rfl, rfl, rfl, rfl, rfl, rfl, rfl, rfl, trivial⟩, hM.pick [0, 1, 2, 3, 4] rfl rfl⟩
                            ·
                              refine s_cond_f hF rfl (decide_eq_false c504) ?_
                              obtain ⟨c505, H⟩ := ite_some H
                              refine s_region ?_
                              refine s_val hF rfl rfl rfl (e_move hF rfl) ?_; intro a hF
                              refine s_val hF rfl rfl rfl (e_move hF rfl) ?_; intro a hF
                              refine s_val hF rfl rfl rfl (e_move hF rfl) ?_; intro a hF
                              refine s_val hF rfl rfl rfl (e_mul hF rfl rfl) ?_; intro a hF
                              refine s_val hF rfl rfl rfl (e_move hF rfl) ?_; intro a hF
                              refine s_val hF rfl rfl rfl (e_add hF rfl rfl) ?_; intro a hF
                              refine s_val hF rfl rfl rfl (e_move hF rfl) ?_; intro a hF
                              refine s_val hF rfl rfl rfl (e_move hF rfl) ?_; intro a hF
                              refine s_val hF rfl rfl rfl (e_move hF rfl) ?_; intro a hF
                              refine s_val hF rfl rfl rfl (e_mul hF rfl rfl) ?_; intro a hF
                              refine s_val hF rfl rfl rfl (e_move hF rfl) ?_; intro a hF
                              refine s_val hF rfl rfl rfl (e_add hF rfl rfl) ?_; intro a hF
                              refine s_val hF rfl rfl rfl (e_ias cd3 hF rfl rfl (hM.sl 4 rfl).toF Try.underlying42 Try.sizeOf3 c505.1 c505.2) ?_; intro a hF
                              refine s_val hF rfl rfl rfl (e_lds (m := (wrap64 ((wrap64 (x457 * a1)) + x499))) hF rfl (hM.sl 4 rfl) (getD_some (z := (0 : Int)) c505.1 c505.2) rfl rfl Try.isAgg3) ?_; intro a hF
                              refine s_val hF rfl rfl rfl (e_move hF rfl) ?_; intro a hF
                              refine s_val hF rfl rfl rfl (e_move hF rfl) ?_; intro a hF
                              refine s_val hF rfl rfl rfl (e_mul hF rfl rfl) ?_; intro a hF
                              refine s_val hF rfl rfl rfl (e_add hF rfl rfl) ?_; intro a hF
                              refine s_val hF rfl rfl rfl (e_ias cd3 hF rfl rfl (hM.sl 4 rfl).toF Try.underlying42 Try.sizeOf3 c505.1 c505.2) ?_; intro a hF
                              refine s_sts (i := 4) (wrap64 ((x500.getD ((wrap64 ((wrap64 (x457 * a1)) + x499)) : Int).toNat (0 : Int)) + (wrap64 (t461 * (x348.getD ((wrap64 ((wrap64 ((wrap64 (x457 * a1)) + x499)) - 1)) : Int).toNat (0 : Int)))))) hF hM rfl rfl rfl rfl rfl c505.1 c505.2 Try.sizeOf3 ?_; intro a w hF hM
                              refine s_nil ?_
                              refine blk_n ?_
                              refine then_n ?_
                              refine s_region ?_
                              refine s_val hF rfl rfl rfl (e_move hF rfl) ?_; intro a hF
                              refine s_val hF rfl rfl rfl (e_add hF rfl rfl) ?_; intro a hF
                              refine s_val hF rfl rfl rfl (e_assign hF rfl) ?_; intro a hF
                              refine s_nil ?_
                              refine then_n ?_
                              exact ⟨x498, (wrap64 (x499 + 1)), (x500.set ((wrap64 ((wrap64 (x457 * a1)) + x499)) : Int).toNat (wrap64 ((x500.getD ((wrap64 ((wrap64 (x457 * a1)) + x499)) : Int).toNat (0 : Int)) + (wrap64 (t461 * (x348.getD ((wrap64 ((wrap64 ((wrap64 (x457 * a1)) + x499)) - 1)) : Int).toNat (0 : Int))))))), H, hF.sub _ ⟨rfl, rfl, rfl, rfl, rfl, rfl, rfl, rfl, rfl, rfl, rfl, rfl, rfl, rfl, trivial⟩, hM.pick [0, 1, 2, 3, 4] rfl rfl⟩
                          ·
                            refine s_cond_f hF rfl (decide_eq_false c502) ?_
                            refine wp_skip ?_
                            refine then_n ?_
                            refine wp_seq ?_
                            refine s_region ?_
                            refine s_val hF rfl rfl rfl (e_move hF rfl) ?_; intro a hF
                            refine s_val hF rfl rfl rfl (e_move hF rfl) ?_; intro a hF
                            refine s_val hF rfl rfl rfl (e_eql hF rfl rfl) ?_; intro a hF
                            refine s_nil ?_
                            refine then_n ?_
                            rcases ite_cases H with ⟨c506, H⟩ | ⟨c506, H⟩
                            ·
                              refine s_cond_t hF rfl (decide_eq_true c506) ?_
                              refine s_region ?_
                              refine s_val hF rfl rfl rfl (e_move hF rfl) ?_; intro a hF
                              refine s_val hF rfl rfl rfl (e_move hF rfl) ?_; intro a hF
                              refine s_val hF rfl rfl rfl (e_move hF rfl) ?_; intro a hF
                              refine s_val hF rfl rfl rfl (e_mul hF rfl rfl) ?_; intro a hF
                              refine s_val hF rfl rfl rfl (e_add hF rfl rfl) ?_; intro a hF
                              refine s_val hF rfl rfl rfl (e_assign hF rfl) ?_; intro a hF
                              refine s_nil ?_
                              refine blk_n ?_
                              refine then_n ?_
                              refine s_region ?_
                              refine s_val hF rfl rfl rfl (e_move hF rfl) ?_; intro a hF
                              refine s_val hF rfl rfl rfl (e_add hF rfl rfl) ?_; intro a hF
                              refine s_val hF rfl rfl rfl (e_assign hF rfl) ?_; intro a hF
                              refine s_nil ?_
                              refine then_n ?_
                              exact ⟨(wrap64 (x498 + (wrap64 (t461 * x474)))), (wrap64 (x499 + 1)), x500, H, hF.sub _ ⟨rfl, rfl, rfl, rfl, rfl, rfl, rfl, rfl, rfl, rfl, rfl, rfl, rfl, rfl, trivial⟩, hM.pick [0, 1, 2, 3, 4] rfl rfl⟩
                            ·
                              refine s_cond_f hF rfl (decide_eq_false c506) ?_
                              obtain ⟨c507, H⟩ := ite_some H
                              refine s_region ?_
                              refine s_val hF rfl rfl rfl (e_move hF rfl) ?_; intro a hF
                              refine s_val hF rfl rfl rfl (e_move hF rfl) ?_; intro a hF
                              refine s_val hF rfl rfl rfl (e_move hF rfl) ?_; intro a hF
                              refine s_val hF rfl rfl rfl (e_mul hF rfl rfl) ?_; intro a hF
                              refine s_val hF rfl rfl rfl (e_move hF rfl) ?_; intro a hF
                              refine s_val hF rfl rfl rfl (e_add hF rfl rfl) ?_; intro a hF
                              refine s_val hF rfl rfl rfl (e_move hF rfl) ?_; intro a hF
                              refine s_val hF rfl rfl rfl (e_move hF rfl) ?_; intro a hF
                              refine s_val hF rfl rfl rfl (e_move hF rfl) ?_; intro a hF
                              refine s_val hF rfl rfl rfl (e_mul hF rfl rfl) ?_; intro a hF
                              refine s_val hF rfl rfl rfl (e_move hF rfl) ?_; intro a hF
                              refine s_val hF rfl rfl rfl (e_add hF rfl rfl) ?_; intro a hF
                              refine s_val hF rfl rfl rfl (e_ias cd3 hF rfl rfl (hM.sl 4 rfl).toF Try.underlying42 Try.sizeOf3 c507.1 c507.2) ?_; intro a hF
                              refine s_val hF rfl rfl rfl (e_lds (m := (wrap64 ((wrap64 (x457 * a1)) + x499))) hF rfl (hM.sl 4 rfl) (getD_some (z := (0 : Int)) c507.1 c507.2) rfl rfl Try.isAgg3) ?_; intro a hF
                              refine s_val hF rfl rfl rfl (e_move hF rfl) ?_; intro a hF
                              refine s_val hF rfl rfl rfl (e_move hF rfl) ?_; intro a hF
                              refine s_val hF rfl rfl rfl (e_mul hF rfl rfl) ?_; intro a hF
                              refine s_val hF rfl rfl rfl (e_add hF rfl rfl) ?_; intro a hF
                              refine s_val hF rfl rfl rfl (e_ias cd3 hF rfl rfl (hM.sl 4 rfl).toF Try.underlying42 Try.sizeOf3 c507.1 c507.2) ?_; intro a hF
                              refine s_sts (i := 4) (wrap64 ((x500.getD ((wrap64 ((wrap64 (x457 * a1)) + x499)) : Int).toNat (0 : Int)) + (wrap64 (t461 * x474)))) hF hM rfl rfl rfl rfl rfl c507.1 c507.2 Try.sizeOf3 ?_; intro a w hF hM
                              refine s_nil ?_
                              refine blk_n ?_
                              refine then_n ?_
                              refine s_region ?_
                              refine s_val hF rfl rfl rfl (e_move hF rfl) ?_; intro a hF
                              refine s_val hF rfl rfl rfl (e_add hF rfl rfl) ?_; intro a hF
                              refine s_val hF rfl rfl rfl (e_assign hF rfl) ?_; intro a hF
                              refine s_nil ?_
                              refine then_n ?_
                              exact ⟨x498, (wrap64 (x499 + 1)), (x500.set ((wrap64 ((wrap64 (x457 * a1)) + x499)) : Int).toNat (wrap64 ((x500.getD ((wrap64 ((wrap64 (x457 * a1)) + x499)) : Int).toNat (0 : Int)) + (wrap64 (t461 * x474))))), H, hF.sub _ ⟨rfl, rfl, rfl, rfl, rfl, rfl, rfl, rfl, rfl, rfl, rfl, rfl, rfl, rfl, trivial⟩, hM.pick [0, 1, 2, 3, 4] rfl rfl⟩
                        ·
                          refine s_cond_f hF rfl (decide_eq_false c501) ?_
                          refine wp_exit ?_
                          refine then_x ?_
                          refine then_x ?_
                          exact ⟨rfl, x498, x500, some_some H, hF.sub _ ⟨rfl, rfl, rfl, rfl, rfl, rfl, rfl, rfl, rfl, rfl, rfl, trivial⟩, hM.pick [0, 1, 2, 3, 4] rfl rfl⟩
                    · rintro e a w ⟨rfl, x496, x497, rfl, hF, hM⟩
                      skip
                      refine blk_x ?_
                      refine blk_n ?_
                      refine then_n ?_
                      refine s_region ?_
                      refine s_val hF rfl rfl rfl (e_move hF rfl) ?_; intro a hF
                      refine s_val hF rfl rfl rfl (e_add hF rfl rfl) ?_; intro a hF
                      refine s_val hF rfl rfl rfl (e_assign hF rfl) ?_; intro a hF
                      refine s_nil ?_
                      refine then_n ?_
                      exact ⟨x496, (wrap64 (x457 + 1)), x497, H, hF.sub _ ⟨rfl, rfl, rfl, rfl, rfl, rfl, rfl, rfl, rfl, rfl, rfl, trivial⟩, hM.pick [0, 1, 2, 3, 4] rfl rfl⟩
                ·
                  refine s_cond_f hF rfl (decide_eq_false c459) ?_
                  refine wp_exit ?_
                  refine then_x ?_
                  refine then_x ?_
                  exact ⟨rfl, x456, x458, some_some H, hF.sub _ ⟨rfl, rfl, rfl, rfl, rfl, rfl, rfl, rfl, trivial⟩, hM.pick [0, 1, 2, 4] rfl rfl⟩
            · rintro e a w ⟨rfl, x454, x455, rfl, hF, hM⟩
              skip
              refine blk_x ?_
              refine then_n ?_
              refine wp_seq ?_
              refine s_region ?_
              refine s_val hF rfl rfl rfl (e_move hF rfl) ?_; intro a hF
              refine s_val hF rfl rfl rfl (e_assign hF rfl) ?_; intro a hF
              refine s_nil ?_
              refine then_n ?_
              refine s_region ?_
              refine s_val hF rfl rfl rfl (e_assign hF rfl) ?_; intro a hF
              refine s_nil ?_
              refine blk_n ?_
              refine then_n ?_
              refine s_region ?_
              refine s_val hF rfl rfl rfl (e_move hF rfl) ?_; intro a hF
              refine s_val hF rfl rfl rfl (e_add hF rfl rfl) ?_; intro a hF
              refine s_val hF rfl rfl rfl (e_assign hF rfl) ?_; intro a hF
              refine s_nil ?_
              refine then_n ?_
              exact ⟨v350, x454, 0, (wrap64 (x346 + 1)), x455, H, hF.sub _ ⟨rfl, rfl, rfl, rfl, rfl, rfl, rfl, rfl, rfl, trivial⟩, hM.pick [0, 1, 2, 3] rfl rfl⟩
          ·
            refine s_cond_f hF rfl (decide_eq_false c349) ?_
            refine wp_exit ?_
            refine then_x ?_
            refine then_x ?_
            exact ⟨rfl, x344, some_some H, hF.sub _ ⟨rfl, rfl, rfl, trivial⟩, hM.pick [1] rfl rfl⟩
      · rintro e a w ⟨rfl, x343, rfl, hF, hM⟩
        skip
        refine blk_x ?_
        refine then_n ?_
        refine wp_seq ?_
        obtain ⟨t514, h515, H⟩ := bind_some H
        obtain ⟨t516, h517, H⟩ := bind_some H
        refine s_region ?_
        refine s_val hF rfl rfl rfl (e_move hF rfl) ?_; intro a hF
        refine s_val hF rfl rfl rfl (e_move hF rfl) ?_; intro a hF
        refine s_call hF rfl rfl rfl Try.call49 (spec_l2All.calls K a2 t514 h515) ?_; intro a w v hF hf hR
        subst hR; have hM := hM.grow hf
        refine s_call hF rfl rfl rfl Try.call54 (spec_l2Cut.calls K x343 t514 t516 h517) ?_; intro a w v hF hf hR
        subst hR; have hM := hM.grow hf
        refine s_stw (i := 0) (ps' := [Pt.ar t516]) hF hM rfl rfl rfl rfl rfl rfl Try.sizeOf29 rfl ?_; intro a w hF hM
        refine s_val hF rfl rfl rfl (e_assign hF rfl) ?_; intro a hF
        refine s_nil ?_
        refine then_n ?_
        refine wp_ret ?_
        obtain rfl := some_some H
        refine s_ret [ag [Pt.ar t516], Value.bool true] hF Try.results26 ⟨⟨_, rfl, rv_box hM (i := 0) rfl Try.isAgg29 Try.sizeOf29 rfl⟩, rfl, trivial⟩ ?_
        exact ⟨_, rfl, hM.frm, rfl⟩
    ·
      refine s_cond_t hF rfl (congrArg Bool.not (bf c8)) ?_
      refine wp_seq ?_
      refine s_region ?_
      refine s_val hF rfl rfl rfl (e_build' (cells := cat [Pt.ar (⟨[0, 0], rfl⟩ : Ar 2)]) hF rfl (by kernel_rfl)) ?_; intro a hF
      refine s_stw (i := 0) (ps' := [Pt.ar (⟨[0, 0], rfl⟩ : Ar 2)]) hF hM rfl rfl rfl rfl rfl rfl Try.sizeOf29 rfl ?_; intro a w hF hM
      refine s_val hF rfl rfl rfl (e_assign hF rfl) ?_; intro a hF
      refine s_nil ?_
      refine then_n ?_
      refine wp_ret ?_
      refine then_r ?_
      obtain rfl := some_some H
      refine s_ret [ag [Pt.ar (⟨[0, 0], rfl⟩ : Ar 2)], Value.bool false] hF Try.results26 ⟨⟨_, rfl, rv_box hM (i := 0) rfl Try.isAgg29 Try.sizeOf29 rfl⟩, rfl, trivial⟩ ?_
      exact ⟨_, rfl, hM.frm, rfl⟩
  ·
    refine s_region ?_
    refine s_val hF rfl rfl rfl (e_lda (i := 1) 0 1 hF hM rfl rfl rfl rfl Try.isAgg22 Try.sizeOf22 rfl) ?_; intro a hF
    refine s_val hF rfl rfl rfl (e_move hF rfl) ?_; intro a hF
    refine s_call hF rfl rfl rfl Try.call60 (spec_l8Rolls.calls K a0 a2 t3 h4) ?_; intro a w v hF hf hR
    subst hR; have hM := hM.grow hf
    refine s_val hF rfl rfl rfl (e_not hF rfl) ?_; intro a hF
    refine s_val hF rfl rfl rfl (e_move hF rfl) ?_; intro a hF
    have hF := hF.topb (congrArg Bool.not (bf c5))
    refine s_skip hF rfl rfl rfl ?_; intro a hF
    refine s_skip hF rfl rfl rfl ?_; intro a hF
    refine s_skip hF rfl rfl rfl ?_; intro a hF
    refine s_val hF rfl rfl rfl (e_pick_t hF rfl rfl) ?_; intro a hF
    refine s_nil ?_
    refine then_n ?_
    refine s_cond_t hF rfl rfl ?_
    refine wp_seq ?_
    refine s_region ?_
    refine s_val hF rfl rfl rfl (e_build' (cells := cat [Pt.ar (⟨[0, 0], rfl⟩ : Ar 2)]) hF rfl (by kernel_rfl)) ?_; intro a hF
    refine s_stw (i := 0) (ps' := [Pt.ar (⟨[0, 0], rfl⟩ : Ar 2)]) hF hM rfl rfl rfl rfl rfl rfl Try.sizeOf29 rfl ?_; intro a w hF hM
    refine s_val hF rfl rfl rfl (e_assign hF rfl) ?_; intro a hF
    refine s_nil ?_
    refine then_n ?_
    refine wp_ret ?_
    refine then_r ?_
    obtain rfl := some_some H
    refine s_ret [ag [Pt.ar (⟨[0, 0], rfl⟩ : Ar 2)], Value.bool false] hF Try.results26 ⟨⟨_, rfl, rv_box hM (i := 0) rfl Try.isAgg29 Try.sizeOf29 rfl⟩, rfl, trivial⟩ ?_
    exact ⟨_, rfl, hM.frm, rfl⟩

/-! ### loop.example/g01210/impl.within: function 51 -/
def impl_within.f (K : Nat) (a0 : Int) (a1 : Int) (a2 : Int) : Option Bool := if a1 ≤ a0 then (some (decide (a0 ≤ a2))) else (some false)
set_option maxRecDepth 100000 in
set_option maxHeartbeats 4000000 in
theorem impl_within.calls {w0 : World} (K : Nat) (a0 : Int) (a1 : Int) (a2 : Int) (r : Bool) (H : impl_within.f K a0 a1 a2 = some r) : Calls Try.prog 51 [Value.int .i64 a0, Value.int .i64 a1, Value.int .i64 a2].toArray w0 (Post w0 fun w v => v = Value.bool r) := by
  rw [impl_within.f] at H
  refine s_start Try.func51 rfl Try.ntmps51 rfl ?_
  intro a hF
  have hM := Ms.start w0
  skip
  refine wp_seq ?_
  refine s_region ?_
  refine s_val hF rfl rfl rfl (e_assign hF rfl) ?_; intro a hF
  refine s_nil ?_
  refine then_n ?_
  refine wp_seq ?_
  rcases ite_cases H with ⟨c1, H⟩ | ⟨c1, H⟩
  ·
    refine s_region ?_
    refine s_val hF rfl rfl rfl (e_move hF rfl) ?_; intro a hF
    refine s_val hF rfl rfl rfl (e_move hF rfl) ?_; intro a hF
    refine s_val hF rfl rfl rfl (e_leq hF rfl rfl) ?_; intro a hF
    refine s_val hF rfl rfl rfl (e_move hF rfl) ?_; intro a hF
    have hF := hF.topb (decide_eq_true c1)
    refine s_val hF rfl rfl rfl (e_move hF rfl) ?_; intro a hF
    refine s_val hF rfl rfl rfl (e_move hF rfl) ?_; intro a hF
    refine s_val hF rfl rfl rfl (e_leq hF rfl rfl) ?_; intro a hF
    refine s_val hF rfl rfl rfl (e_pick_t hF rfl rfl) ?_; intro a hF
    refine s_val hF rfl rfl rfl (e_assign hF rfl) ?_; intro a hF
    refine s_nil ?_
    refine then_n ?_
    refine wp_ret ?_
    obtain rfl := some_some H
    refine s_ret [Value.bool (decide (a0 ≤ a2))] hF Try.results51 ⟨rfl, trivial⟩ ?_
    exact ⟨_, rfl, hM.frm, rfl⟩
  ·
    refine s_region ?_
    refine s_val hF rfl rfl rfl (e_move hF rfl) ?_; intro a hF
    refine s_val hF rfl rfl rfl (e_move hF rfl) ?_; intro a hF
    refine s_val hF rfl rfl rfl (e_leq hF rfl rfl) ?_; intro a hF
    refine s_val hF rfl rfl rfl (e_move hF rfl) ?_; intro a hF
    have hF := hF.topb (decide_eq_false c1)
    refine s_skip hF rfl rfl rfl ?_; intro a hF
    refine s_skip hF rfl rfl rfl ?_; intro a hF
    refine s_skip hF rfl rfl rfl ?_; intro a hF
    refine s_val hF rfl rfl rfl (e_pick_f hF rfl rfl) ?_; intro a hF
    refine s_val hF rfl rfl rfl (e_assign hF rfl) ?_; intro a hF
    refine s_nil ?_
    refine then_n ?_
    refine wp_ret ?_
    obtain rfl := some_some H
    refine s_ret [Value.bool false] hF Try.results51 ⟨rfl, trivial⟩ ?_
    exact ⟨_, rfl, hM.frm, rfl⟩

/-! ### loop.example/g01210/impl.isFace: function 87 -/
def impl_isFace.f (K : Nat) (a0 : Int) : Option Bool := (impl_within.f K a0 0 30).bind fun t1 => some t1
set_option maxRecDepth 100000 in
set_option maxHeartbeats 4000000 in
theorem impl_isFace.calls {w0 : World} (K : Nat) (a0 : Int) (r : Bool) (H : impl_isFace.f K a0 = some r) : Calls Try.prog 87 [Value.int .i64 a0].toArray w0 (Post w0 fun w v => v = Value.bool r) := by
  rw [impl_isFace.f] at H
  refine s_start Try.func87 rfl Try.ntmps87 rfl ?_
  intro a hF
  have hM := Ms.start w0
  skip
  refine wp_seq ?_
  refine s_region ?_
  refine s_val hF rfl rfl rfl (e_assign hF rfl) ?_; intro a hF
  refine s_nil ?_
  refine then_n ?_
  refine wp_seq ?_
  obtain ⟨t1, h2, H⟩ := bind_some H
  refine s_region ?_
  refine s_val hF rfl rfl rfl (e_move hF rfl) ?_; intro a hF
  refine s_call hF rfl rfl rfl Try.call51 (impl_within.calls K a0 0 30 t1 h2) ?_; intro a w v hF hf hR
  subst hR; have hM := hM.grow hf
  refine s_val hF rfl rfl rfl (e_assign hF rfl) ?_; intro a hF
  refine s_nil ?_
  refine then_n ?_
  refine wp_ret ?_
  obtain rfl := some_some H
  refine s_ret [Value.bool t1] hF Try.results87 ⟨rfl, trivial⟩ ?_
  exact ⟨_, rfl, hM.frm, rfl⟩

/-! ### loop.example/g01210/impl.areAll[int]$1: function 101 -/
def impl_areAll_int_1__isFace.f (K : Nat) (a0 : Int) : Option Bool := (impl_isFace.f K a0).bind fun t3 => some (!t3)
set_option maxRecDepth 100000 in
set_option maxHeartbeats 4000000 in
theorem impl_areAll_int_1__isFace.calls {w0 : World} (K : Nat) (a0 : Int) (b1 : Nat) (q2 : (boxR b1 [Pt.val (Value.func (.func 87) #[] #[]) rfl] 58).holds w0) (r : Bool) (H : impl_areAll_int_1__isFace.f K a0 = some r) : Calls Try.prog 101 [Value.int .i64 a0, pt b1 0].toArray w0 (Post w0 fun w v => v = Value.bool r) := by
  rw [impl_areAll_int_1__isFace.f] at H
  refine s_start Try.func101 rfl Try.ntmps101 rfl ?_
  intro a hF
  have hM := Ms.start w0
  skip
  refine wp_seq ?_
  refine s_region ?_
  refine s_val hF rfl rfl rfl (e_assign hF rfl) ?_; intro a hF
  refine s_nil ?_
  refine then_n ?_
  refine wp_seq ?_
  obtain ⟨t3, h4, H⟩ := bind_some H
  refine s_region ?_
  refine s_val hF rfl rfl rfl (e_ld (i := 0) (k := 0) hF (lent_ms (box_frm q2 hM.frm)) rfl rfl rfl rfl Try.isAgg58 rfl) ?_; intro a hF
  refine s_val hF rfl rfl rfl (e_move hF rfl) ?_; intro a hF
  refine s_callv hF rfl rfl rfl rfl (callsV_of Try.call87 (impl_isFace.calls K a0 t3 h4)) ?_; intro a w v hF ⟨hf, hR⟩
  subst hR; have hM := hM.grow hf
  refine s_val hF rfl rfl rfl (e_not hF rfl) ?_; intro a hF
  refine s_val hF rfl rfl rfl (e_assign hF rfl) ?_; intro a hF
  refine s_nil ?_
  refine then_n ?_
  refine wp_ret ?_
  obtain rfl := some_some H
  refine s_ret [Value.bool (!t3)] hF Try.results101 ⟨rfl, trivial⟩ ?_
  exact ⟨_, rfl, hM.frm, rfl⟩

/-! ### slices.IndexFunc[[]int,int]: function 104 -/
def slices_IndexFunc_int_int__areAll_int_1_isFace.l0 (K : Nat) (l0 : (List Int)) : Nat → Int → Option (Sum Unit Int)
  | 0, _ => none
  | k + 1, x14 => if x14 < (l0.length : Int) then (if (0 : Int) ≤ x14 ∧ x14 < (l0.length : Int) then ((impl_areAll_int_1__isFace.f K (l0.getD (x14 : Int).toNat (0 : Int))).bind fun t17 => if t17 = true then (some (Sum.inr x14)) else (slices_IndexFunc_int_int__areAll_int_1_isFace.l0 K l0 k (wrap64 (x14 + 1)))) else none) else (some (Sum.inl ()))
def slices_IndexFunc_int_int__areAll_int_1_isFace.f (K : Nat) (l0 : (List Int)) : Option Int := (slices_IndexFunc_int_int__areAll_int_1_isFace.l0 K l0 K 0).bind fun o20 => (match o20 with | .inl () => some (-1) | .inr r22 => some r22)
set_option maxRecDepth 100000 in
set_option maxHeartbeats 4000000 in
theorem slices_IndexFunc_int_int__areAll_int_1_isFace.calls {w0 : World} (K : Nat) (l0 : (List Int)) (u0 : Value) (q0 : SlR cd3 w0 u0 l0) (b1 : Nat) (q2 : (boxR b1 [Pt.val (Value.func (.func 87) #[] #[]) rfl] 58).holds w0) (r : Int) (H : slices_IndexFunc_int_int__areAll_int_1_isFace.f K l0 = some r) : Calls Try.prog 104 [u0, Value.func (.func 101) #[] #[pt b1 0]].toArray w0 (Post w0 fun w v => v = Value.int .i64 r) := by
  rw [slices_IndexFunc_int_int__areAll_int_1_isFace.f] at H
  refine s_start Try.func104 rfl Try.ntmps104 rfl ?_
  intro a hF
  have hM := Ms.start w0
  skip
  refine wp_seq ?_
  refine s_region ?_
  refine s_val hF rfl rfl rfl (e_assign hF rfl) ?_; intro a hF
  refine s_nil ?_
  refine then_n ?_
  refine wp_seq ?_
  refine wp_seq ?_
  refine s_region ?_
  refine s_val hF rfl rfl rfl (e_move hF rfl) ?_; intro a hF
  refine s_val hF rfl rfl rfl (e_len hF rfl (q0.frm hM.frm).toF Try.underlying42) ?_; intro a hF
  refine s_val hF rfl rfl rfl (e_move hF rfl) ?_; intro a hF
  refine s_nil ?_
  refine then_n ?_
  refine wp_block ?_
  obtain ⟨o20, h21, H⟩ := bind_some H
  refine wp_mono (Q := fun e a w => (e = Exit.exit 0 ∧ Sum.inl () = o20 ∧ Fr 19 a [] ∧ Ms [] w0 w []) ∨ (e = Exit.ret ∧ ∃ r22 : Int, Sum.inr r22 = o20 ∧ Fr 19 a [(4, Value.int .i64 r22)] ∧ Ms [] w0 w [])) ?_ ?_
  · refine s_loop (fun kq a w => ∃ x14 : Int, slices_IndexFunc_int_int__areAll_int_1_isFace.l0 K l0 kq x14 = some o20 ∧ Fr 19 a [(0, u0), (1, Value.func (.func 101) #[] #[pt b1 0]), (7, Value.int .i64 (l0.length : Int)), (8, Value.int .i64 x14)] ∧ Ms [] w0 w []) K ⟨0, h21, hF.sub _ ⟨rfl, rfl, rfl, rfl, trivial⟩, hM.pick [] rfl rfl⟩ ?_ ?_
    · rintro a w ⟨_, H, _⟩; exact none_some H
    · rintro k a w ⟨x14, H, hF, hM⟩; rw [slices_IndexFunc_int_int__areAll_int_1_isFace.l0] at H
      refine wp_seq ?_
      refine s_region ?_
      refine s_val hF rfl rfl rfl (e_lss hF rfl rfl) ?_; intro a hF
      refine s_nil ?_
      refine then_n ?_
      refine wp_seq ?_
      rcases ite_cases H with ⟨c15, H⟩ | ⟨c15, H⟩
      ·
        refine s_cond_t hF rfl (decide_eq_true c15) ?_
        refine wp_skip ?_
        refine then_n ?_
        refine wp_seq ?_
        refine wp_block ?_
        refine wp_seq ?_
        refine s_region ?_
        refine s_val hF rfl rfl rfl (e_move hF rfl) ?_; intro a hF
        refine s_val hF rfl rfl rfl (e_assign hF rfl) ?_; intro a hF
        refine s_nil ?_
        refine then_n ?_
        refine wp_seq ?_
        obtain ⟨c16, H⟩ := ite_some H
        obtain ⟨t17, h18, H⟩ := bind_some H
        refine s_region ?_
        refine s_val hF rfl rfl rfl (e_move hF rfl) ?_; intro a hF
        refine s_val hF rfl rfl rfl (e_move hF rfl) ?_; intro a hF
        refine s_val hF rfl rfl rfl (e_move hF rfl) ?_; intro a hF
        refine s_val hF rfl rfl rfl (e_ias cd3 hF rfl rfl (q0.frm hM.frm).toF Try.underlying42 Try.sizeOf3 c16.1 c16.2) ?_; intro a hF
        refine s_val hF rfl rfl rfl (e_lds (m := x14) hF rfl (q0.frm hM.frm) (getD_some (z := (0 : Int)) c16.1 c16.2) rfl rfl Try.isAgg3) ?_; intro a hF
        refine s_callv hF rfl rfl rfl rfl (callsV_of Try.call101 (impl_areAll_int_1__isFace.calls K (l0.getD (x14 : Int).toNat (0 : Int)) b1 (box_frm q2 hM.frm) t17 h18)) ?_; intro a w v hF ⟨hf, hR⟩
        subst hR; have hM := hM.grow hf
        refine s_nil ?_
        refine then_n ?_
        rcases ite_cases H with ⟨c19, H⟩ | ⟨c19, H⟩
        ·
          refine s_cond_t hF rfl c19 ?_
          refine wp_seq ?_
          refine s_region ?_
          refine s_val hF rfl rfl rfl (e_move hF rfl) ?_; intro a hF
          refine s_val hF rfl rfl rfl (e_assign hF rfl) ?_; intro a hF
          refine s_nil ?_
          refine then_n ?_
          refine wp_ret ?_
          refine blk_r ?_
          refine then_r ?_
          refine then_r ?_
          exact Or.inr (⟨rfl, x14, some_some H, hF.sub _ ⟨rfl, trivial⟩, hM.pick [] rfl rfl⟩)
        ·
          refine s_cond_f hF rfl (bf c19) ?_
          refine wp_skip ?_
          refine blk_n ?_
          refine then_n ?_
          refine s_region ?_
          refine s_val hF rfl rfl rfl (e_add hF rfl rfl) ?_; intro a hF
          refine s_val hF rfl rfl rfl (e_move hF rfl) ?_; intro a hF
          refine s_nil ?_
          refine then_n ?_
          exact ⟨(wrap64 (x14 + 1)), H, hF.sub _ ⟨rfl, rfl, rfl, rfl, trivial⟩, hM.pick [] rfl rfl⟩
      ·
        refine s_cond_f hF rfl (decide_eq_false c15) ?_
        refine wp_exit ?_
        refine then_x ?_
        refine then_x ?_
        exact Or.inl (⟨rfl, some_some H, hF.sub _ trivial, hM.pick [] rfl rfl⟩)
  · rintro e a w (⟨rfl, rfl, hF, hM⟩ | ⟨rfl, r22, rfl, hF, hM⟩)
    ·
      dsimp only at H
      refine blk_x ?_
      refine then_n ?_
      refine wp_seq ?_
      refine s_region ?_
      refine s_val hF rfl rfl rfl (e_assign hF rfl) ?_; intro a hF
      refine s_nil ?_
      refine then_n ?_
      refine wp_ret ?_
      obtain rfl := some_some H
      refine s_ret [Value.int .i64 (-1)] hF Try.results104 ⟨rfl, trivial⟩ ?_
      exact ⟨_, rfl, hM.frm, rfl⟩
    ·
      dsimp only at H
      refine blk_r ?_
      refine then_r ?_
      obtain rfl := some_some H
      refine s_ret [Value.int .i64 r22] hF Try.results104 ⟨rfl, trivial⟩ ?_
      exact ⟨_, rfl, hM.frm, rfl⟩

/-! ### slices.ContainsFunc[[]int,int]: function 100 -/
def slices_ContainsFunc_int_int__areAll_int_1_isFace.f (K : Nat) (l0 : (List Int)) : Option Bool := (slices_IndexFunc_int_int__areAll_int_1_isFace.f K l0).bind fun t3 => some (decide (0 ≤ t3))
set_option maxRecDepth 100000 in
set_option maxHeartbeats 4000000 in
theorem slices_ContainsFunc_int_int__areAll_int_1_isFace.calls {w0 : World} (K : Nat) (l0 : (List Int)) (u0 : Value) (q0 : SlR cd3 w0 u0 l0) (b1 : Nat) (q2 : (boxR b1 [Pt.val (Value.func (.func 87) #[] #[]) rfl] 58).holds w0) (r : Bool) (H : slices_ContainsFunc_int_int__areAll_int_1_isFace.f K l0 = some r) : Calls Try.prog 100 [u0, Value.func (.func 101) #[] #[pt b1 0]].toArray w0 (Post w0 fun w v => v = Value.bool r) := by
  rw [slices_ContainsFunc_int_int__areAll_int_1_isFace.f] at H
  refine s_start Try.func100 rfl Try.ntmps100 rfl ?_
  intro a hF
  have hM := Ms.start w0
  skip
  refine wp_seq ?_
  refine s_region ?_
  refine s_val hF rfl rfl rfl (e_assign hF rfl) ?_; intro a hF
  refine s_nil ?_
  refine then_n ?_
  refine wp_seq ?_
  obtain ⟨t3, h4, H⟩ := bind_some H
  refine s_region ?_
  refine s_val hF rfl rfl rfl (e_move hF rfl) ?_; intro a hF
  refine s_val hF rfl rfl rfl (e_move hF rfl) ?_; intro a hF
  refine s_call hF rfl rfl rfl Try.call104 (slices_IndexFunc_int_int__areAll_int_1_isFace.calls K l0 u0 (q0.frm hM.frm) b1 (box_frm q2 hM.frm) t3 h4) ?_; intro a w v hF hf hR
  subst hR; have hM := hM.grow hf
  refine s_val hF rfl rfl rfl (e_geq hF rfl rfl) ?_; intro a hF
  refine s_val hF rfl rfl rfl (e_assign hF rfl) ?_; intro a hF
  refine s_nil ?_
  refine then_n ?_
  refine wp_ret ?_
  obtain rfl := some_some H
  refine s_ret [Value.bool (decide (0 ≤ t3))] hF Try.results100 ⟨rfl, trivial⟩ ?_
  exact ⟨_, rfl, hM.frm, rfl⟩

/-! ### loop.example/g01210/impl.areAll[int]: function 86 -/
def impl_areAll_int__isFace.f (K : Nat) (l0 : (List Int)) : Option Bool := (slices_ContainsFunc_int_int__areAll_int_1_isFace.f K l0).bind fun t2 => some (!t2)
set_option maxRecDepth 100000 in
set_option maxHeartbeats 4000000 in
theorem impl_areAll_int__isFace.calls {w0 : World} (K : Nat) (l0 : (List Int)) (u0 : Value) (q0 : SlR cd3 w0 u0 l0) (r : Bool) (H : impl_areAll_int__isFace.f K l0 = some r) : Calls Try.prog 86 [u0, Value.func (.func 87) #[] #[]].toArray w0 (Post w0 fun w v => v = Value.bool r) := by
  rw [impl_areAll_int__isFace.f] at H
  refine s_start Try.func86 rfl Try.ntmps86 rfl ?_
  intro a hF
  have hM := Ms.start w0
  skip
  refine wp_seq ?_
  refine s_region ?_
  refine s_box (ps := [Pt.val (Value.func (.func 87) #[] #[]) rfl]) hF hM rfl rfl rfl rfl ?_; intro a w b1 hF hM
  refine s_val hF rfl rfl rfl (e_assign hF rfl) ?_; intro a hF
  refine s_nil ?_
  refine then_n ?_
  refine wp_seq ?_
  obtain ⟨t2, h3, H⟩ := bind_some H
  refine s_region ?_
  refine s_val hF rfl rfl rfl (e_move hF rfl) ?_; intro a hF
  refine s_val hF rfl rfl rfl (e_mkfunc (hF.evs' rfl)) ?_; intro a hF
  refine s_call hF rfl rfl rfl Try.call100 (slices_ContainsFunc_int_int__areAll_int_1_isFace.calls K l0 u0 (q0.frm hM.frm) b1 (hM.get 0 rfl) t2 h3) ?_; intro a w v hF hf hR
  subst hR; have hM := hM.grow hf
  refine s_val hF rfl rfl rfl (e_not hF rfl) ?_; intro a hF
  refine s_val hF rfl rfl rfl (e_assign hF rfl) ?_; intro a hF
  refine s_nil ?_
  refine then_n ?_
  refine wp_ret ?_
  obtain rfl := some_some H
  refine s_ret [Value.bool (!t2)] hF Try.results86 ⟨rfl, trivial⟩ ?_
  exact ⟨_, rfl, hM.frm, rfl⟩

/-! ### cmp.isNaN[int]: function 105 -/
def cmp_isNaN_int.f (K : Nat) (a0 : Int) : Option Bool := some (!(decide (a0 = a0)))
set_option maxRecDepth 100000 in
set_option maxHeartbeats 4000000 in
theorem cmp_isNaN_int.calls {w0 : World} (K : Nat) (a0 : Int) (r : Bool) (H : cmp_isNaN_int.f K a0 = some r) : Calls Try.prog 105 [Value.int .i64 a0].toArray w0 (Post w0 fun w v => v = Value.bool r) := by
  rw [cmp_isNaN_int.f] at H
  refine s_start Try.func105 rfl Try.ntmps105 rfl ?_
  intro a hF
  have hM := Ms.start w0
  skip
  refine wp_seq ?_
  refine s_region ?_
  refine s_val hF rfl rfl rfl (e_assign hF rfl) ?_; intro a hF
  refine s_nil ?_
  refine then_n ?_
  refine wp_seq ?_
  refine s_region ?_
  refine s_val hF rfl rfl rfl (e_move hF rfl) ?_; intro a hF
  refine s_val hF rfl rfl rfl (e_move hF rfl) ?_; intro a hF
  refine s_val hF rfl rfl rfl (e_neq hF rfl rfl) ?_; intro a hF
  refine s_val hF rfl rfl rfl (e_assign hF rfl) ?_; intro a hF
  refine s_nil ?_
  refine then_n ?_
  refine wp_ret ?_
  obtain rfl := some_some H
  refine s_ret [Value.bool (!(decide (a0 = a0)))] hF Try.results105 ⟨rfl, trivial⟩ ?_
  exact ⟨_, rfl, hM.frm, rfl⟩

/-! ### cmp.Less[int]: function 102 -/
def cmp_Less_int.f (K : Nat) (a0 : Int) (a1 : Int) : Option Bool := (cmp_isNaN_int.f K a0).bind fun t1 => if t1 = true then ((cmp_isNaN_int.f K a1).bind fun t4 => if t4 = true then (some (decide (a0 < a1))) else (some true)) else (some (decide (a0 < a1)))
set_option maxRecDepth 100000 in
set_option maxHeartbeats 4000000 in
theorem cmp_Less_int.calls {w0 : World} (K : Nat) (a0 : Int) (a1 : Int) (r : Bool) (H : cmp_Less_int.f K a0 a1 = some r) : Calls Try.prog 102 [Value.int .i64 a0, Value.int .i64 a1].toArray w0 (Post w0 fun w v => v = Value.bool r) := by
  rw [cmp_Less_int.f] at H
  refine s_start Try.func102 rfl Try.ntmps102 rfl ?_
  intro a hF
  have hM := Ms.start w0
  skip
  refine wp_seq ?_
  refine s_region ?_
  refine s_val hF rfl rfl rfl (e_assign hF rfl) ?_; intro a hF
  refine s_nil ?_
  refine then_n ?_
  refine wp_seq ?_
  obtain ⟨t1, h2, H⟩ := bind_some H
  rcases ite_cases H with ⟨c3, H⟩ | ⟨c3, H⟩
  ·
    obtain ⟨t4, h5, H⟩ := bind_some H
    rcases ite_cases H with ⟨c6, H⟩ | ⟨c6, H⟩
    ·
      refine s_region ?_
      refine s_val hF rfl rfl rfl (e_move hF rfl) ?_; intro a hF
      refine s_call hF rfl rfl rfl Try.call105 (cmp_isNaN_int.calls K a0 t1 h2) ?_; intro a w v hF hf hR
      subst hR; have hM := hM.grow hf
      refine s_val hF rfl rfl rfl (e_move hF rfl) ?_; intro a hF
      have hF := hF.topb c3
      refine s_val hF rfl rfl rfl (e_move hF rfl) ?_; intro a hF
      refine s_call hF rfl rfl rfl Try.call105 (cmp_isNaN_int.calls K a1 t4 h5) ?_; intro a w v hF hf hR
      subst hR; have hM := hM.grow hf
      refine s_val hF rfl rfl rfl (e_not hF rfl) ?_; intro a hF
      refine s_val hF rfl rfl rfl (e_pick_t hF rfl rfl) ?_; intro a hF
      refine s_val hF rfl rfl rfl (e_move hF rfl) ?_; intro a hF
      have hF := hF.topb (congrArg Bool.not c6)
      refine s_val hF rfl rfl rfl (e_move hF rfl) ?_; intro a hF
      refine s_val hF rfl rfl rfl (e_move hF rfl) ?_; intro a hF
      refine s_val hF rfl rfl rfl (e_lss hF rfl rfl) ?_; intro a hF
      refine s_val hF rfl rfl rfl (e_pick_f hF rfl rfl) ?_; intro a hF
      refine s_val hF rfl rfl rfl (e_assign hF rfl) ?_; intro a hF
      refine s_nil ?_
      refine then_n ?_
      refine wp_ret ?_
      obtain rfl := some_some H
      refine s_ret [Value.bool (decide (a0 < a1))] hF Try.results102 ⟨rfl, trivial⟩ ?_
      exact ⟨_, rfl, hM.frm, rfl⟩
    ·
      refine s_region ?_
      refine s_val hF rfl rfl rfl (e_move hF rfl) ?_; intro a hF
      refine s_call hF rfl rfl rfl Try.call105 (cmp_isNaN_int.calls K a0 t1 h2) ?_; intro a w v hF hf hR
      subst hR; have hM := hM.grow hf
      refine s_val hF rfl rfl rfl (e_move hF rfl) ?_; intro a hF
      have hF := hF.topb c3
      refine s_val hF rfl rfl rfl (e_move hF rfl) ?_; intro a hF
      refine s_call hF rfl rfl rfl Try.call105 (cmp_isNaN_int.calls K a1 t4 h5) ?_; intro a w v hF hf hR
      subst hR; have hM := hM.grow hf
      refine s_val hF rfl rfl rfl (e_not hF rfl) ?_; intro a hF
      refine s_val hF rfl rfl rfl (e_pick_t hF rfl rfl) ?_; intro a hF
      refine s_val hF rfl rfl rfl (e_move hF rfl) ?_; intro a hF
      have hF := hF.topb (congrArg Bool.not (bf c6))
      refine s_skip hF rfl rfl rfl ?_; intro a hF
      refine s_skip hF rfl rfl rfl ?_; intro a hF
      refine s_skip hF rfl rfl rfl ?_; intro a hF
      refine s_val hF rfl rfl rfl (e_pick_t hF rfl rfl) ?_; intro a hF
      refine s_val hF rfl rfl rfl (e_assign hF rfl) ?_; intro a hF
      refine s_nil ?_
      refine then_n ?_
      refine wp_ret ?_
      obtain rfl := some_some H
      refine s_ret [Value.bool true] hF Try.results102 ⟨rfl, trivial⟩ ?_
      exact ⟨_, rfl, hM.frm, rfl⟩
  ·
    refine s_region ?_
    refine s_val hF rfl rfl rfl (e_move hF rfl) ?_; intro a hF
    refine s_call hF rfl rfl rfl Try.call105 (cmp_isNaN_int.calls K a0 t1 h2) ?_; intro a w v hF hf hR
    subst hR; have hM := hM.grow hf
    refine s_val hF rfl rfl rfl (e_move hF rfl) ?_; intro a hF
    have hF := hF.topb (bf c3)
    refine s_skip hF rfl rfl rfl ?_; intro a hF
    refine s_skip hF rfl rfl rfl ?_; intro a hF
    refine s_skip hF rfl rfl rfl ?_; intro a hF
    refine s_val hF rfl rfl rfl (e_pick_f hF rfl rfl) ?_; intro a hF
    refine s_val hF rfl rfl rfl (e_move hF rfl) ?_; intro a hF
    refine s_val hF rfl rfl rfl (e_move hF rfl) ?_; intro a hF
    refine s_val hF rfl rfl rfl (e_move hF rfl) ?_; intro a hF
    refine s_val hF rfl rfl rfl (e_lss hF rfl rfl) ?_; intro a hF
    refine s_val hF rfl rfl rfl (e_pick_f hF rfl rfl) ?_; intro a hF
    refine s_val hF rfl rfl rfl (e_assign hF rfl) ?_; intro a hF
    refine s_nil ?_
    refine then_n ?_
    refine wp_ret ?_
    obtain rfl := some_some H
    refine s_ret [Value.bool (decide (a0 < a1))] hF Try.results102 ⟨rfl, trivial⟩ ?_
    exact ⟨_, rfl, hM.frm, rfl⟩

/-! ### slices.IsSorted[[]int,int]: function 88 -/
def slices_IsSorted_int_int.l0 (K : Nat) (l0 : (List Int)) : Nat → Int → Option (Sum Unit Bool)
  | 0, _ => none
  | k + 1, x14 => if 0 < x14 then (if (0 : Int) ≤ x14 ∧ x14 < (l0.length : Int) then (if (0 : Int) ≤ (wrap64 (x14 - 1)) ∧ (wrap64 (x14 - 1)) < (l0.length : Int) then ((cmp_Less_int.f K (l0.getD (x14 : Int).toNat (0 : Int)) (l0.getD ((wrap64 (x14 - 1)) : Int).toNat (0 : Int))).bind fun t18 => if t18 = true then (some (Sum.inr false)) else (slices_IsSorted_int_int.l0 K l0 k (wrap64 (x14 - 1)))) else none) else none) else (some (Sum.inl ()))
def slices_IsSorted_int_int.f (K : Nat) (l0 : (List Int)) : Option Bool := (slices_IsSorted_int_int.l0 K l0 K (wrap64 ((l0.length : Int) - 1))).bind fun o23 => (match o23 with | .inl () => some true | .inr r25 => some r25)
set_option maxRecDepth 100000 in
set_option maxHeartbeats 4000000 in
theorem slices_IsSorted_int_int.calls {w0 : World} (K : Nat) (l0 : (List Int)) (u0 : Value) (q0 : SlR cd3 w0 u0 l0) (r : Bool) (H : slices_IsSorted_int_int.f K l0 = some r) : Calls Try.prog 88 [u0].toArray w0 (Post w0 fun w v => v = Value.bool r) := by
  rw [slices_IsSorted_int_int.f] at H
  refine s_start Try.func88 rfl Try.ntmps88 rfl ?_
  intro a hF
  have hM := Ms.start w0
  skip
  refine wp_seq ?_
  refine s_region ?_
  refine s_val hF rfl rfl rfl (e_assign hF rfl) ?_; intro a hF
  refine s_nil ?_
  refine then_n ?_
  refine wp_seq ?_
  refine wp_seq ?_
  refine s_region ?_
  refine s_val hF rfl rfl rfl (e_move hF rfl) ?_; intro a hF
  refine s_val hF rfl rfl rfl (e_len hF rfl (q0.frm hM.frm).toF Try.underlying42) ?_; intro a hF
  refine s_val hF rfl rfl rfl (e_sub hF rfl rfl) ?_; intro a hF
  refine s_val hF rfl rfl rfl (e_assign hF rfl) ?_; intro a hF
  refine s_nil ?_
  refine then_n ?_
  refine wp_block ?_
  obtain ⟨o23, h24, H⟩ := bind_some H
  refine wp_mono (Q := fun e a w => (e = Exit.exit 0 ∧ Sum.inl () = o23 ∧ Fr 21 a [] ∧ Ms [] w0 w []) ∨ (e = Exit.ret ∧ ∃ r25 : Bool, Sum.inr r25 = o23 ∧ Fr 21 a [(2, Value.bool r25)] ∧ Ms [] w0 w [])) ?_ ?_
  · refine s_loop (fun kq a w => ∃ x14 : Int, slices_IsSorted_int_int.l0 K l0 kq x14 = some o23 ∧ Fr 21 a [(0, u0), (3, Value.int .i64 x14)] ∧ Ms [] w0 w []) K ⟨(wrap64 ((l0.length : Int) - 1)), h24, hF.sub _ ⟨rfl, rfl, trivial⟩, hM.pick [] rfl rfl⟩ ?_ ?_
    · rintro a w ⟨_, H, _⟩; exact none_some H
    · rintro k a w ⟨x14, H, hF, hM⟩; rw [slices_IsSorted_int_int.l0] at H
      refine wp_seq ?_
      refine wp_seq ?_
      refine s_region ?_
      refine s_val hF rfl rfl rfl (e_move hF rfl) ?_; intro a hF
      refine s_val hF rfl rfl rfl (e_gtr hF rfl rfl) ?_; intro a hF
      refine s_nil ?_
      refine then_n ?_
      rcases ite_cases H with ⟨c15, H⟩ | ⟨c15, H⟩
      ·
        refine s_cond_t hF rfl (decide_eq_true c15) ?_
        refine wp_skip ?_
        refine then_n ?_
        refine wp_seq ?_
        refine wp_block ?_
        refine wp_seq ?_
        obtain ⟨c16, H⟩ := ite_some H
        obtain ⟨c17, H⟩ := ite_some H
        obtain ⟨t18, h19, H⟩ := bind_some H
        refine s_held (fun w => Ms [] w0 w []) #[false, false, false, false, false, false, false, false, false, false] mixed rfl rfl hM ?_; intro w hf hM; clear hf
        refine h_val 0 #[true, false, false, false, false, false, false, false, false, false] rfl (by kernel_rfl) hF rfl rfl rfl (fun w hS => e_move hF rfl) (hM.pick [] rfl rfl) ?_; intro a hF
        refine h_val 1 #[true, true, false, false, false, false, false, false, false, false] rfl (by kernel_rfl) hF rfl rfl rfl (fun w hS => e_move hF rfl) (hM.pick [] rfl rfl) ?_; intro a hF
        have f20 := (q0.frm hM.frm).toF
        refine h_val 2 #[true, true, true, false, false, false, false, false, false, false] rfl (by kernel_rfl) hF rfl rfl rfl (fun w hS => e_ias cd3 hF rfl rfl f20 Try.underlying42 Try.sizeOf3 c16.1 c16.2) (hM.pick [] rfl rfl) ?_; intro a hF
        refine h_val 3 #[true, true, true, true, false, false, false, false, false, false] rfl (by kernel_rfl) hF rfl rfl rfl (fun w hS => e_lds (m := x14) hF rfl (q0.frm hS.frm) (getD_some (z := (0 : Int)) c16.1 c16.2) rfl rfl Try.isAgg3) (hM.pick [] rfl rfl) ?_; intro a hF
        refine h_val 4 #[true, true, true, true, true, false, false, false, false, false] rfl (by kernel_rfl) hF rfl rfl rfl (fun w hS => e_move hF rfl) (hM.pick [] rfl rfl) ?_; intro a hF
        refine h_val 5 #[true, true, true, true, true, true, false, false, false, false] rfl (by kernel_rfl) hF rfl rfl rfl (fun w hS => e_move hF rfl) (hM.pick [] rfl rfl) ?_; intro a hF
        refine h_val 6 #[true, true, true, true, true, true, true, false, false, false] rfl (by kernel_rfl) hF rfl rfl rfl (fun w hS => e_sub hF rfl rfl) (hM.pick [] rfl rfl) ?_; intro a hF
        have f21 := (q0.frm hM.frm).toF
        refine h_val 7 #[true, true, true, true, true, true, true, true, false, false] rfl (by kernel_rfl) hF rfl rfl rfl (fun w hS => e_ias cd3 hF rfl rfl f21 Try.underlying42 Try.sizeOf3 c17.1 c17.2) (hM.pick [] rfl rfl) ?_; intro a hF
        refine h_val 8 #[true, true, true, true, true, true, true, true, true, false] rfl (by kernel_rfl) hF rfl rfl rfl (fun w hS => e_lds (m := (wrap64 (x14 - 1))) hF rfl (q0.frm hS.frm) (getD_some (z := (0 : Int)) c17.1 c17.2) rfl rfl Try.isAgg3) (hM.pick [] rfl rfl) ?_; intro a hF
        refine h_one 9 #[true, true, true, true, true, true, true, true, true, true] rfl (by kernel_rfl) ?_
        refine s_call hF rfl rfl rfl Try.call102 (cmp_Less_int.calls K (l0.getD (x14 : Int).toNat (0 : Int)) (l0.getD ((wrap64 (x14 - 1)) : Int).toNat (0 : Int)) t18 h19) ?_; intro a w v hF hf hR
        subst hR; have hM := hM.grow hf
        refine s_nil ⟨rfl, (hM.pick [] rfl rfl), ?_⟩
        refine h_done rfl ?_
        refine then_n ?_
        rcases ite_cases H with ⟨c22, H⟩ | ⟨c22, H⟩
        ·
          refine s_cond_t hF rfl c22 ?_
          refine wp_seq ?_
          refine s_region ?_
          refine s_val hF rfl rfl rfl (e_assign hF rfl) ?_; intro a hF
          refine s_nil ?_
          refine then_n ?_
          refine wp_ret ?_
          refine blk_r ?_
          refine then_r ?_
          refine then_r ?_
          exact Or.inr (⟨rfl, false, some_some H, hF.sub _ ⟨rfl, trivial⟩, hM.pick [] rfl rfl⟩)
        ·
          refine s_cond_f hF rfl (bf c22) ?_
          refine wp_skip ?_
          refine blk_n ?_
          refine then_n ?_
          refine s_region ?_
          refine s_val hF rfl rfl rfl (e_move hF rfl) ?_; intro a hF
          refine s_val hF rfl rfl rfl (e_sub hF rfl rfl) ?_; intro a hF
          refine s_val hF rfl rfl rfl (e_assign hF rfl) ?_; intro a hF
          refine s_nil ?_
          refine then_n ?_
          exact ⟨(wrap64 (x14 - 1)), H, hF.sub _ ⟨rfl, rfl, trivial⟩, hM.pick [] rfl rfl⟩
      ·
        refine s_cond_f hF rfl (decide_eq_false c15) ?_
        refine wp_exit ?_
        refine then_x ?_
        refine then_x ?_
        exact Or.inl (⟨rfl, some_some H, hF.sub _ trivial, hM.pick [] rfl rfl⟩)
  · rintro e a w (⟨rfl, rfl, hF, hM⟩ | ⟨rfl, r25, rfl, hF, hM⟩)
    ·
      dsimp only at H
      refine blk_x ?_
      refine then_n ?_
      refine wp_seq ?_
      refine s_region ?_
      refine s_val hF rfl rfl rfl (e_assign hF rfl) ?_; intro a hF
      refine s_nil ?_
      refine then_n ?_
      refine wp_ret ?_
      obtain rfl := some_some H
      refine s_ret [Value.bool true] hF Try.results88 ⟨rfl, trivial⟩ ?_
      exact ⟨_, rfl, hM.frm, rfl⟩
    ·
      dsimp only at H
      refine blk_r ?_
      refine then_r ?_
      obtain rfl := some_some H
      refine s_ret [Value.bool r25] hF Try.results88 ⟨rfl, trivial⟩ ?_
      exact ⟨_, rfl, hM.frm, rfl⟩

/-! ### loop.example/g01210/impl.IsDie: function 50 -/
def impl_IsDie.f (K : Nat) (a0 : (Ar 6)) : Option Bool := (impl_areAll_int__isFace.f K a0.l).bind fun t2 => if t2 = true then ((slices_IsSorted_int_int.f K a0.l).bind fun t5 => some t5) else (some false)
set_option maxRecDepth 100000 in
set_option maxHeartbeats 4000000 in
theorem impl_IsDie.calls {w0 : World} (K : Nat) (a0 : (Ar 6)) (r : Bool) (H : impl_IsDie.f K a0 = some r) : Calls Try.prog 50 [ag [Pt.ar a0]].toArray w0 (Post w0 fun w v => v = Value.bool r) := by
  rw [impl_IsDie.f] at H
  refine s_start Try.func50 rfl Try.ntmps50 rfl ?_
  intro a hF
  have hM := Ms.start w0
  skip
  refine wp_seq ?_
  refine s_region ?_
  refine s_box (ps := [Pt.ar a0]) hF hM rfl rfl rfl rfl ?_; intro a w b1 hF hM
  refine s_val hF rfl rfl rfl (e_assign hF rfl) ?_; intro a hF
  refine s_nil ?_
  refine then_n ?_
  refine wp_seq ?_
  obtain ⟨t2, h3, H⟩ := bind_some H
  rcases ite_cases H with ⟨c4, H⟩ | ⟨c4, H⟩
  ·
    obtain ⟨t5, h6, H⟩ := bind_some H
    refine s_region ?_
    refine s_val hF rfl rfl rfl (e_slA0 hF rfl Try.underlying22 Try.sizeOf3) ?_; intro a hF
    refine s_call hF rfl rfl rfl Try.call86 (impl_areAll_int__isFace.calls K a0.l (Value.slice (some ⟨b1, 0, none⟩) 6 6) (hM.boxSl (k := 0) (m := 6) 0 rfl rfl rfl cd3 (fun _ => rfl) 6 (by decide)) t2 h3) ?_; intro a w v hF hf hR
    subst hR; have hM := hM.grow hf
    refine s_val hF rfl rfl rfl (e_move hF rfl) ?_; intro a hF
    have hF := hF.topb c4
    refine s_val hF rfl rfl rfl (e_slA0 hF rfl Try.underlying22 Try.sizeOf3) ?_; intro a hF
    refine s_call hF rfl rfl rfl Try.call88 (slices_IsSorted_int_int.calls K a0.l (Value.slice (some ⟨b1, 0, none⟩) 6 6) (hM.boxSl (k := 0) (m := 6) 0 rfl rfl rfl cd3 (fun _ => rfl) 6 (by decide)) t5 h6) ?_; intro a w v hF hf hR
    subst hR; have hM := hM.grow hf
    refine s_val hF rfl rfl rfl (e_pick_t hF rfl rfl) ?_; intro a hF
    refine s_val hF rfl rfl rfl (e_assign hF rfl) ?_; intro a hF
    refine s_nil ?_
    refine then_n ?_
    refine wp_ret ?_
    obtain rfl := some_some H
    refine s_ret [Value.bool t5] hF Try.results50 ⟨rfl, trivial⟩ ?_
    exact ⟨_, rfl, hM.frm, rfl⟩
  ·
    refine s_region ?_
    refine s_val hF rfl rfl rfl (e_slA0 hF rfl Try.underlying22 Try.sizeOf3) ?_; intro a hF
    refine s_call hF rfl rfl rfl Try.call86 (impl_areAll_int__isFace.calls K a0.l (Value.slice (some ⟨b1, 0, none⟩) 6 6) (hM.boxSl (k := 0) (m := 6) 0 rfl rfl rfl cd3 (fun _ => rfl) 6 (by decide)) t2 h3) ?_; intro a w v hF hf hR
    subst hR; have hM := hM.grow hf
    refine s_val hF rfl rfl rfl (e_move hF rfl) ?_; intro a hF
    have hF := hF.topb (bf c4)
    refine s_skip hF rfl rfl rfl ?_; intro a hF
    refine s_skip hF rfl rfl rfl ?_; intro a hF
    refine s_val hF rfl rfl rfl (e_pick_f hF rfl rfl) ?_; intro a hF
    refine s_val hF rfl rfl rfl (e_assign hF rfl) ?_; intro a hF
    refine s_nil ?_
    refine then_n ?_
    refine wp_ret ?_
    obtain rfl := some_some H
    refine s_ret [Value.bool false] hF Try.results50 ⟨rfl, trivial⟩ ?_
    exact ⟨_, rfl, hM.frm, rfl⟩

/-! ### loop.example/g01210/impl.isRolls: function 62 -/
def impl_isRolls.f (K : Nat) (a0 : Int) : Option Bool := (impl_within.f K a0 0 12).bind fun t1 => some t1
set_option maxRecDepth 100000 in
set_option maxHeartbeats 4000000 in
theorem impl_isRolls.calls {w0 : World} (K : Nat) (a0 : Int) (r : Bool) (H : impl_isRolls.f K a0 = some r) : Calls Try.prog 62 [Value.int .i64 a0].toArray w0 (Post w0 fun w v => v = Value.bool r) := by
  rw [impl_isRolls.f] at H
  refine s_start Try.func62 rfl Try.ntmps62 rfl ?_
  intro a hF
  have hM := Ms.start w0
  skip
  refine wp_seq ?_
  refine s_region ?_
  refine s_val hF rfl rfl rfl (e_assign hF rfl) ?_; intro a hF
  refine s_nil ?_
  refine then_n ?_
  refine wp_seq ?_
  obtain ⟨t1, h2, H⟩ := bind_some H
  refine s_region ?_
  refine s_val hF rfl rfl rfl (e_move hF rfl) ?_; intro a hF
  refine s_call hF rfl rfl rfl Try.call51 (impl_within.calls K a0 0 12 t1 h2) ?_; intro a w v hF hf hR
  subst hR; have hM := hM.grow hf
  refine s_val hF rfl rfl rfl (e_assign hF rfl) ?_; intro a hF
  refine s_nil ?_
  refine then_n ?_
  refine wp_ret ?_
  obtain rfl := some_some H
  refine s_ret [Value.bool t1] hF Try.results62 ⟨rfl, trivial⟩ ?_
  exact ⟨_, rfl, hM.frm, rfl⟩

/-! ### loop.example/g01210/impl.power: function 53 -/
def impl_power.l0 (K : Nat) (a0 : Int) : Nat → Int → Int → Option Int
  | 0, _, _ => none
  | k + 1, x6, x7 => if x7 < a0 then (impl_power.l0 K a0 k (wrap64 (x6 * 6)) (wrap64 (x7 + 1))) else (some x6)
def impl_power.f (K : Nat) (a0 : Int) : Option Int := (impl_power.l0 K a0 K 1 0).bind fun x5 => some x5
set_option maxRecDepth 100000 in
set_option maxHeartbeats 4000000 in
theorem impl_power.calls {w0 : World} (K : Nat) (a0 : Int) (r : Int) (H : impl_power.f K a0 = some r) : Calls Try.prog 53 [Value.int .i64 a0].toArray w0 (Post w0 fun w v => v = Value.int .i64 r) := by
  rw [impl_power.f] at H
  refine s_start Try.func53 rfl Try.ntmps53 rfl ?_
  intro a hF
  have hM := Ms.start w0
  skip
  refine wp_seq ?_
  refine s_region ?_
  refine s_val hF rfl rfl rfl (e_assign hF rfl) ?_; intro a hF
  refine s_nil ?_
  refine then_n ?_
  refine wp_seq ?_
  refine s_region ?_
  refine s_val hF rfl rfl rfl (e_assign hF rfl) ?_; intro a hF
  refine s_nil ?_
  refine then_n ?_
  refine wp_seq ?_
  refine wp_seq ?_
  refine s_region ?_
  refine s_val hF rfl rfl rfl (e_move hF rfl) ?_; intro a hF
  refine s_val hF rfl rfl rfl (e_move hF rfl) ?_; intro a hF
  refine s_nil ?_
  refine then_n ?_
  refine wp_block ?_
  obtain ⟨o9, h10, H⟩ := bind_some H
  refine wp_mono (Q := fun e a w => (e = Exit.exit 0 ∧ ∃ x5 : Int, x5 = o9 ∧ Fr 11 a [(3, Value.int .i64 x5)] ∧ Ms [] w0 w [])) ?_ ?_
  · refine s_loop (fun kq a w => ∃ x6 : Int, ∃ x7 : Int, impl_power.l0 K a0 kq x6 x7 = some o9 ∧ Fr 11 a [(3, Value.int .i64 x6), (4, Value.int .i64 a0), (5, Value.int .i64 x7)] ∧ Ms [] w0 w []) K ⟨1, 0, h10, hF.sub _ ⟨rfl, rfl, rfl, trivial⟩, hM.pick [] rfl rfl⟩ ?_ ?_
    · rintro a w ⟨_, _, H, _⟩; exact none_some H
    · rintro k a w ⟨x6, x7, H, hF, hM⟩; rw [impl_power.l0] at H
      refine wp_seq ?_
      refine s_region ?_
      refine s_val hF rfl rfl rfl (e_lss hF rfl rfl) ?_; intro a hF
      refine s_nil ?_
      refine then_n ?_
      refine wp_seq ?_
      rcases ite_cases H with ⟨c8, H⟩ | ⟨c8, H⟩
      ·
        refine s_cond_t hF rfl (decide_eq_true c8) ?_
        refine wp_skip ?_
        refine then_n ?_
        refine wp_seq ?_
        refine wp_block ?_
        refine s_region ?_
        refine s_val hF rfl rfl rfl (e_move hF rfl) ?_; intro a hF
        refine s_val hF rfl rfl rfl (e_mul hF rfl rfl) ?_; intro a hF
        refine s_val hF rfl rfl rfl (e_assign hF rfl) ?_; intro a hF
        refine s_nil ?_
        refine blk_n ?_
        refine then_n ?_
        refine s_region ?_
        refine s_val hF rfl rfl rfl (e_add hF rfl rfl) ?_; intro a hF
        refine s_val hF rfl rfl rfl (e_move hF rfl) ?_; intro a hF
        refine s_nil ?_
        refine then_n ?_
        exact ⟨(wrap64 (x6 * 6)), (wrap64 (x7 + 1)), H, hF.sub _ ⟨rfl, rfl, rfl, trivial⟩, hM.pick [] rfl rfl⟩
      ·
        refine s_cond_f hF rfl (decide_eq_false c8) ?_
        refine wp_exit ?_
        refine then_x ?_
        refine then_x ?_
        exact ⟨rfl, x6, some_some H, hF.sub _ ⟨rfl, trivial⟩, hM.pick [] rfl rfl⟩
  · rintro e a w ⟨rfl, x5, rfl, hF, hM⟩
    skip
    refine blk_x ?_
    refine then_n ?_
    refine wp_seq ?_
    refine s_region ?_
    refine s_val hF rfl rfl rfl (e_move hF rfl) ?_; intro a hF
    refine s_val hF rfl rfl rfl (e_assign hF rfl) ?_; intro a hF
    refine s_nil ?_
    refine then_n ?_
    refine wp_ret ?_
    obtain rfl := some_some H
    refine s_ret [Value.int .i64 x5] hF Try.results53 ⟨rfl, trivial⟩ ?_
    exact ⟨_, rfl, hM.frm, rfl⟩

/-! ### loop.example/g01210/impl.fraction: function 56 -/
def impl_fraction.l0 (K : Nat) : Nat → Int → Int → Option Int
  | 0, _, _ => none
  | k + 1, x9, x10 => if x10 = 0 then (some x9) else (if x10 ≠ 0 then (impl_fraction.l0 K k x10 (x9.tmod x10)) else none)
def impl_fraction.f (K : Nat) (a0 : Int) (a1 : Int) : Option (Ar 2) := (impl_fraction.l0 K K a0 a1).bind fun x8 => if x8 ≠ 0 then (some (⟨[(wrap64 (a0.tdiv x8)), (wrap64 (a1.tdiv x8))], rfl⟩ : Ar 2)) else none
set_option maxRecDepth 100000 in
set_option maxHeartbeats 4000000 in
theorem impl_fraction.calls {w0 : World} (K : Nat) (a0 : Int) (a1 : Int) (r : (Ar 2)) (H : impl_fraction.f K a0 a1 = some r) : Calls Try.prog 56 [Value.int .i64 a0, Value.int .i64 a1].toArray w0 (Post w0 fun w v => v = ag [Pt.ar r]) := by
  rw [impl_fraction.f] at H
  refine s_start Try.func56 rfl Try.ntmps56 rfl ?_
  intro a hF
  have hM := Ms.start w0
  skip
  refine wp_seq ?_
  refine s_region ?_
  refine s_alloc (ps := [Pt.ar (Ar.zero 2)]) hF hM rfl rfl zv29 rfl ?_; intro a w b1 hF hM
  refine s_nil ?_
  refine then_n ?_
  refine wp_seq ?_
  refine s_region ?_
  refine s_val hF rfl rfl rfl (e_move hF rfl) ?_; intro a hF
  refine s_val hF rfl rfl rfl (e_move hF rfl) ?_; intro a hF
  refine s_val hF rfl rfl rfl (e_assign hF rfl) ?_; intro a hF
  refine s_val hF rfl rfl rfl (e_assign hF rfl) ?_; intro a hF
  refine s_nil ?_
  refine then_n ?_
  refine wp_seq ?_
  refine wp_block ?_
  obtain ⟨o13, h14, H⟩ := bind_some H
  refine wp_mono (Q := fun e a w => (e = Exit.exit 0 ∧ ∃ x8 : Int, x8 = o13 ∧ Fr 22 a [(0, Value.int .i64 a0), (1, Value.int .i64 a1), (4, pt b1 0), (5, Value.int .i64 x8)] ∧ Ms [] w0 w [boxR b1 [Pt.ar (Ar.zero 2)] 29])) ?_ ?_
  · refine s_loop (fun kq a w => ∃ x9 : Int, ∃ x10 : Int, impl_fraction.l0 K kq x9 x10 = some o13 ∧ Fr 22 a [(0, Value.int .i64 a0), (1, Value.int .i64 a1), (4, pt b1 0), (5, Value.int .i64 x9), (6, Value.int .i64 x10)] ∧ Ms [] w0 w [boxR b1 [Pt.ar (Ar.zero 2)] 29]) K ⟨a0, a1, h14, hF.sub _ ⟨rfl, rfl, rfl, rfl, rfl, trivial⟩, hM.pick [0] rfl rfl⟩ ?_ ?_
    · rintro a w ⟨_, _, H, _⟩; exact none_some H
    · rintro k a w ⟨x9, x10, H, hF, hM⟩; rw [impl_fraction.l0] at H
      refine wp_seq ?_
      refine wp_seq ?_
      refine s_region ?_
      refine s_val hF rfl rfl rfl (e_move hF rfl) ?_; intro a hF
      refine s_val hF rfl rfl rfl (e_neq hF rfl rfl) ?_; intro a hF
      refine s_nil ?_
      refine then_n ?_
      rcases ite_cases H with ⟨c11, H⟩ | ⟨c11, H⟩
      ·
        refine s_cond_f hF rfl (congrArg Bool.not (decide_eq_true c11)) ?_
        refine wp_exit ?_
        refine then_x ?_
        refine then_x ?_
        exact ⟨rfl, x9, some_some H, hF.sub _ ⟨rfl, rfl, rfl, rfl, trivial⟩, hM.pick [0] rfl rfl⟩
      ·
        refine s_cond_t hF rfl (congrArg Bool.not (decide_eq_false c11)) ?_
        refine wp_skip ?_
        refine then_n ?_
        refine wp_block ?_
        obtain ⟨c12, H⟩ := ite_some H
        refine s_held (fun w => Ms [] w0 w [boxR b1 [Pt.ar (Ar.zero 2)] 29]) #[false, false, false, false, false, false] mixed rfl rfl hM ?_; intro w hf hM; clear hf
        refine h_val 0 #[true, false, false, false, false, false] rfl (by kernel_rfl) hF rfl rfl rfl (fun w hS => e_move hF rfl) (hM.pick [0] rfl rfl) ?_; intro a hF
        refine h_val 1 #[true, true, false, false, false, false] rfl (by kernel_rfl) hF rfl rfl rfl (fun w hS => e_move hF rfl) (hM.pick [0] rfl rfl) ?_; intro a hF
        refine h_val 2 #[true, true, true, false, false, false] rfl (by kernel_rfl) hF rfl rfl rfl (fun w hS => e_move hF rfl) (hM.pick [0] rfl rfl) ?_; intro a hF
        refine h_val 3 #[true, true, true, true, false, false] rfl (by kernel_rfl) hF rfl rfl rfl (fun w hS => e_rem hF rfl rfl c12) (hM.pick [0] rfl rfl) ?_; intro a hF
        refine h_val 4 #[true, true, true, true, true, false] rfl (by kernel_rfl) hF rfl rfl rfl (fun w hS => e_assign hF rfl) (hM.pick [0] rfl rfl) ?_; intro a hF
        refine h_val 5 #[true, true, true, true, true, true] rfl (by kernel_rfl) hF rfl rfl rfl (fun w hS => e_assign hF rfl) (hM.pick [0] rfl rfl) ?_; intro a hF
        refine h_done rfl ?_
        refine blk_n ?_
        refine then_n ?_
        exact ⟨x10, (x9.tmod x10), H, hF.sub _ ⟨rfl, rfl, rfl, rfl, rfl, trivial⟩, hM.pick [0] rfl rfl⟩
  · rintro e a w ⟨rfl, x8, rfl, hF, hM⟩
    skip
    refine blk_x ?_
    refine then_n ?_
    refine wp_seq ?_
    obtain ⟨c15, H⟩ := ite_some H
    refine s_held (fun w => Ms [] w0 w []) #[false, false, false, false, false, false, false, false] mixed rfl rfl hM ?_; intro w hf hM; clear hf
    refine h_val 0 #[true, false, false, false, false, false, false, false] rfl (by kernel_rfl) hF rfl rfl rfl (fun w hS => e_move hF rfl) (hM.pick [] rfl rfl) ?_; intro a hF
    refine h_val 1 #[true, true, false, false, false, false, false, false] rfl (by kernel_rfl) hF rfl rfl rfl (fun w hS => e_move hF rfl) (hM.pick [] rfl rfl) ?_; intro a hF
    refine h_val 2 #[true, true, true, false, false, false, false, false] rfl (by kernel_rfl) hF rfl rfl rfl (fun w hS => e_quo hF rfl rfl c15) (hM.pick [] rfl rfl) ?_; intro a hF
    refine h_val 3 #[true, true, true, true, false, false, false, false] rfl (by kernel_rfl) hF rfl rfl rfl (fun w hS => e_move hF rfl) (hM.pick [] rfl rfl) ?_; intro a hF
    refine h_val 4 #[true, true, true, true, true, false, false, false] rfl (by kernel_rfl) hF rfl rfl rfl (fun w hS => e_move hF rfl) (hM.pick [] rfl rfl) ?_; intro a hF
    refine h_val 5 #[true, true, true, true, true, true, false, false] rfl (by kernel_rfl) hF rfl rfl rfl (fun w hS => e_quo hF rfl rfl c15) (hM.pick [] rfl rfl) ?_; intro a hF
    refine h_val 6 #[true, true, true, true, true, true, true, false] rfl (by kernel_rfl) hF rfl rfl rfl (fun w hS => e_build' (cells := cat [Pt.ar (⟨[(wrap64 (a0.tdiv x8)), (wrap64 (a1.tdiv x8))], rfl⟩ : Ar 2)]) hF rfl (by kernel_rfl)) (hM.pick [] rfl rfl) ?_; intro a hF
    refine h_one 7 #[true, true, true, true, true, true, true, true] rfl (by kernel_rfl) ?_
    refine s_stw (i := 0) (ps' := [Pt.ar (⟨[(wrap64 (a0.tdiv x8)), (wrap64 (a1.tdiv x8))], rfl⟩ : Ar 2)]) hF hM rfl rfl rfl rfl rfl rfl Try.sizeOf29 rfl ?_; intro a w hF hM
    refine s_nil ⟨rfl, (hM.pick [] rfl rfl), ?_⟩
    refine h_done rfl ?_
    refine then_n ?_
    refine wp_ret ?_
    obtain rfl := some_some H
    refine s_ret [ag [Pt.ar (⟨[(wrap64 (a0.tdiv x8)), (wrap64 (a1.tdiv x8))], rfl⟩ : Ar 2)]] hF Try.results56 ⟨⟨_, rfl, rv_box hM (i := 0) rfl Try.isAgg29 Try.sizeOf29 rfl⟩, trivial⟩ ?_
    exact ⟨_, rfl, hM.frm, rfl⟩

/-! ### loop.example/g01210/impl.RunWithin: function 27 -/
theorem pk61 : PairKey Try.prog 61 := ⟨fun w x y => run_eqpair Try.underlying61 (by kernel_rfl) (by decide) (by decide) rfl rfl rfl rfl Try.underlying3 Try.isAgg3 w x y, fun w em x => by obtain ⟨x1, x2⟩ := x; kernel_rfl, ⟨_, Try.underlying61⟩⟩
def impl_RunWithin.rn (u : Int × Int) (x : Int) : Int := if x = u.1 then u.2 + 1 else 1
def impl_RunWithin.c (d : Ar 6) (k : Int) (u : Int × Int) : Nat → Int
  | 0 => 0
  | i + 1 => impl_RunWithin.c d k u i + (if k ≤ impl_RunWithin.rn u (d.get (i : Int)) then 1 else 0)
def impl_RunWithin.m (d : Ar 6) (k : Int) (key u : Int × Int) : Nat → Int
  | 0 => 0
  | i + 1 => impl_RunWithin.m d k key u i + (if ¬ k ≤ impl_RunWithin.rn u (d.get (i : Int)) ∧ key = (d.get (i : Int), impl_RunWithin.rn u (d.get (i : Int))) then 1 else 0)
def impl_RunWithin.sm (A c : Int × Int → Int) : List (Int × Int) → Int
  | [] => 0
  | u :: r => A u * c u + impl_RunWithin.sm A c r
def impl_RunWithin.sl (c : Int × Int → Int) : List ((Int × Int) × Int) → Int
  | [] => 0
  | x :: r => x.2 * c x.1 + impl_RunWithin.sl c r
/-- The different numbers of the first j, in their order. -/
def impl_RunWithin.nums (l : List Int) : Nat → List Int
  | 0 => []
  | j + 1 => if 0 < j ∧ l.getD j 0 = l.getD (j - 1) 0 then impl_RunWithin.nums l j else impl_RunWithin.nums l j ++ [l.getD j 0]
def impl_RunWithin.U (d : Ar 6) (k : Int) : List (Int × Int) := (-1, 0) :: (List.range ((impl_RunWithin.nums d.l 6).length * k.toNat)).map fun s => ((impl_RunWithin.nums d.l 6).getD (s / k.toNat) 0, ((s % k.toNat : Nat) : Int))
def impl_RunWithin.A (d : Ar 6) (k : Int) : Nat → (Int × Int) → Int
  | 0 => upd (fun _ => 0) (-1, 0) 1
  | t + 1 => fun key => impl_RunWithin.sm (impl_RunWithin.A d k t) (fun u => impl_RunWithin.m d k key u 6) (impl_RunWithin.U d k)
def impl_RunWithin.D (d : Ar 6) (k : Int) : Nat → Int
  | 0 => 0
  | t + 1 => 6 * impl_RunWithin.D d k t + impl_RunWithin.sm (impl_RunWithin.A d k t) (fun u => impl_RunWithin.c d k u 6) (impl_RunWithin.U d k)
/-- What the walk leans on. -/
abbrev impl_RunWithin.G (d : Ar 6) (k n : Int) : Prop := (1 ≤ k ∧ k ≤ 12 ∧ 0 ≤ n ∧ n ≤ 12) ∧ (impl_RunWithin.U d k).Nodup ∧ (∀ u ∈ impl_RunWithin.U d k, 0 ≤ u.2 ∧ u.2 ≤ 100) ∧ (∀ u ∈ impl_RunWithin.U d k, ∀ i ∈ List.range 6, ¬ k ≤ impl_RunWithin.rn u (d.get (i : Int)) → (d.get (i : Int), impl_RunWithin.rn u (d.get (i : Int))) ∈ impl_RunWithin.U d k) ∧ (∀ t ∈ List.range (n.toNat + 1), (0 ≤ impl_RunWithin.D d k t ∧ impl_RunWithin.D d k t ≤ 100000000000) ∧ ∀ u ∈ impl_RunWithin.U d k, 0 ≤ impl_RunWithin.A d k t u ∧ impl_RunWithin.A d k t u ≤ 10000000000)
def impl_RunWithin.f (K : Nat) (a0 : (Ar 6)) (a1 : Int) (a2 : Int) : Option ((Ar 2) × Bool) := (impl_IsDie.f K a0).bind fun t3 => if t3 = true then ((impl_within.f K a1 1 12).bind fun t6 => if t6 = true then ((impl_isRolls.f K a2).bind fun t9 => if t9 = true then (if impl_RunWithin.G a0 a1 a2 then ((impl_power.f K a2).bind fun t12 => (impl_fraction.f K (impl_RunWithin.D a0 a1 a2.toNat) t12).bind fun t14 => some (t14, true)) else none) else (some ((⟨[0, 0], rfl⟩ : Ar 2), false))) else (some ((⟨[0, 0], rfl⟩ : Ar 2), false))) else (some ((⟨[0, 0], rfl⟩ : Ar 2), false))
theorem impl_RunWithin.c_le (d : Ar 6) (k : Int) (u : Int × Int) : ∀ i : Nat, 0 ≤ impl_RunWithin.c d k u i ∧ impl_RunWithin.c d k u i ≤ i
  | 0 => by simp [impl_RunWithin.c]
  | i + 1 => by
    have := impl_RunWithin.c_le d k u i
    rw [impl_RunWithin.c]
    split <;> omega
theorem impl_RunWithin.m_le (d : Ar 6) (k : Int) (key u : Int × Int) : ∀ i : Nat, 0 ≤ impl_RunWithin.m d k key u i ∧ impl_RunWithin.m d k key u i ≤ i
  | 0 => by simp [impl_RunWithin.m]
  | i + 1 => by
    have := impl_RunWithin.m_le d k key u i
    rw [impl_RunWithin.m]
    split <;> omega
theorem impl_RunWithin.sl_part (c : Int × Int → Int) (e : (Int × Int) × Int) (q : List ((Int × Int) × Int)) : ∀ p, impl_RunWithin.sl c (p ++ e :: q) = impl_RunWithin.sl c (p ++ q) + e.2 * c e.1
  | [] => by simp only [List.nil_append, impl_RunWithin.sl]; omega
  | x :: p => by
    have := impl_RunWithin.sl_part c e q p
    simp only [List.cons_append, impl_RunWithin.sl]
    omega
theorem impl_RunWithin.sl_nn (c : Int × Int → Int) (hc : ∀ u, 0 ≤ c u) : ∀ l : List ((Int × Int) × Int), (∀ x ∈ l, 0 ≤ x.2) → 0 ≤ impl_RunWithin.sl c l
  | [], _ => by simp [impl_RunWithin.sl]
  | x :: l, h => by
    have h1 := impl_RunWithin.sl_nn c hc l (fun y hy => h y (.tail _ hy))
    have h2 := Int.mul_nonneg (h x (.head _)) (hc x.1)
    simp only [impl_RunWithin.sl]
    omega
theorem impl_RunWithin.sm_congr {A B : Int × Int → Int} (c : Int × Int → Int) : ∀ U : List (Int × Int), (∀ u ∈ U, A u = B u) → impl_RunWithin.sm A c U = impl_RunWithin.sm B c U
  | [], _ => rfl
  | u :: r, h => by
    rw [impl_RunWithin.sm, impl_RunWithin.sm, h u (.head _), impl_RunWithin.sm_congr c r (fun v hv => h v (.tail _ hv))]
theorem impl_RunWithin.sm_upd (A c : Int × Int → Int) (k : Int × Int) (v : Int) : ∀ U : List (Int × Int), U.Nodup → k ∈ U → impl_RunWithin.sm (upd A k v) c U = impl_RunWithin.sm A c U + (v - A k) * c k
  | [], _, h => by simp at h
  | u :: r, hn, h => by
    rw [List.nodup_cons] at hn
    rw [impl_RunWithin.sm, impl_RunWithin.sm]
    by_cases hu : u = k
    · subst hu
      rw [impl_RunWithin.sm_congr (A := upd A u v) (B := A) c r (fun w hw => by
        unfold upd
        rw [if_neg (fun (e : w = u) => hn.1 (e ▸ hw))])]
      have : upd A u v u = v := by unfold upd; rw [if_pos rfl]
      rw [this, Int.sub_mul]
      omega
    · have hr : k ∈ r := by
        rcases List.mem_cons.1 h with h | h
        · exact absurd h.symm hu
        · exact h
      rw [impl_RunWithin.sm_upd A c k v r hn.2 hr]
      have : upd A k v u = A u := by unfold upd; rw [if_neg hu]
      rw [this]
      omega
theorem impl_RunWithin.sm_zero (c : Int × Int → Int) : ∀ U : List (Int × Int), impl_RunWithin.sm (fun _ => 0) c U = 0
  | [] => rfl
  | u :: r => by rw [impl_RunWithin.sm, impl_RunWithin.sm_zero c r]; simp
theorem impl_RunWithin.vl_cons (x : (Int × Int) × Int) (l : List ((Int × Int) × Int)) : vl (x :: l) = upd (vl l) x.1 x.2 := by
  funext j
  unfold upd
  rw [vl]
  by_cases h : x.1 = j
  · rw [if_pos h, if_pos h.symm]
  · rw [if_neg h, if_neg (fun e => h e.symm)]
theorem impl_RunWithin.sl_sm (c : Int × Int → Int) (U : List (Int × Int)) (hU : U.Nodup) : ∀ l : List ((Int × Int) × Int), (l.map (·.1)).Nodup → (∀ x ∈ l, x.1 ∈ U) → impl_RunWithin.sl c l = impl_RunWithin.sm (vl l) c U
  | [], _, _ => by rw [show vl [] = fun _ => (0 : Int) from funext fun _ => rfl, impl_RunWithin.sm_zero]; rfl
  | x :: l, hn, h => by
    rw [List.map_cons, List.nodup_cons] at hn
    rw [impl_RunWithin.sl, impl_RunWithin.sl_sm c U hU l hn.2 (fun y hy => h y (.tail _ hy)), impl_RunWithin.vl_cons, impl_RunWithin.sm_upd _ _ _ _ U hU (h x (.head _))]
    rw [vl_none (fun y hy e => hn.1 (List.mem_map.2 ⟨y, hy, e⟩)), Int.sub_zero]
    omega
theorem impl_RunWithin.zv (w : World) : (zeroValue 61).run Try.prog w = .ok (ag [Pt.int 0, Pt.int 0]) w := by kernel_rfl
set_option maxRecDepth 100000 in
set_option maxHeartbeats 4000000 in
theorem impl_RunWithin.calls {w0 : World} (K : Nat) (a0 : (Ar 6)) (a1 : Int) (a2 : Int) (r : ((Ar 2) × Bool)) (H : impl_RunWithin.f K a0 a1 a2 = some r) : Calls Try.prog 27 [ag [Pt.ar a0], Value.int .i64 a1, Value.int .i64 a2].toArray w0 (Post w0 fun w v => v = Value.tuple #[ag [Pt.ar r.1], Value.bool r.2]) := by
  rw [impl_RunWithin.f] at H
  refine s_start Try.func27 rfl Try.ntmps27 rfl ?_
  intro a hF
  have hM := Ms.start w0
  refine wp_seq ?_
  refine s_region ?_
  refine s_box (ps := [Pt.ar a0]) hF hM rfl rfl rfl rfl ?_; intro a w b1 hF hM
  refine s_alloc (ps := [Pt.ar (Ar.zero 2)]) hF hM rfl rfl zv29 rfl ?_; intro a w b2 hF hM
  refine s_val hF rfl rfl rfl (e_assign hF rfl) ?_; intro a hF
  refine s_nil ?_
  refine then_n ?_
  refine wp_seq ?_
  refine wp_seq ?_
  obtain ⟨t3, h4, H⟩ := bind_some H
  rcases ite_cases H with ⟨c5, H⟩ | ⟨c5, H⟩
  ·
    obtain ⟨t6, h7, H⟩ := bind_some H
    refine s_region ?_
    refine s_val hF rfl rfl rfl (e_lda (i := 1) 0 1 hF hM rfl rfl rfl rfl Try.isAgg22 Try.sizeOf22 rfl) ?_; intro a hF
    refine s_call hF rfl rfl rfl Try.call50 (impl_IsDie.calls K a0 t3 h4) ?_; intro a w v hF hf hR
    subst hR; have hM := hM.grow hf
    refine s_val hF rfl rfl rfl (e_not hF rfl) ?_; intro a hF
    refine s_val hF rfl rfl rfl (e_move hF rfl) ?_; intro a hF
    have hF := hF.topb (congrArg Bool.not c5)
    refine s_val hF rfl rfl rfl (e_move hF rfl) ?_; intro a hF
    refine s_call hF rfl rfl rfl Try.call51 (impl_within.calls K a1 1 12 t6 h7) ?_; intro a w v hF hf hR
    subst hR; have hM := hM.grow hf
    refine s_val hF rfl rfl rfl (e_not hF rfl) ?_; intro a hF
    refine s_val hF rfl rfl rfl (e_pick_f hF rfl rfl) ?_; intro a hF
    rcases ite_cases H with ⟨c8, H⟩ | ⟨c8, H⟩
    ·
      obtain ⟨t9, h10, H⟩ := bind_some H
      refine s_val hF rfl rfl rfl (e_move hF rfl) ?_; intro a hF
      have hF := hF.topb (congrArg Bool.not c8)
      refine s_val hF rfl rfl rfl (e_move hF rfl) ?_; intro a hF
      refine s_call hF rfl rfl rfl Try.call62 (impl_isRolls.calls K a2 t9 h10) ?_; intro a w v hF hf hR
      subst hR; have hM := hM.grow hf
      refine s_val hF rfl rfl rfl (e_not hF rfl) ?_; intro a hF
      refine s_val hF rfl rfl rfl (e_pick_f hF rfl rfl) ?_; intro a hF
      refine s_nil ?_
      refine then_n ?_
      rcases ite_cases H with ⟨c11, H⟩ | ⟨c11, H⟩
      ·
        obtain ⟨⟨⟨gk1, gk2, gn0, gn1⟩, gU, gR, gC, gB⟩, H⟩ := ite_some H
        obtain ⟨N, rfl⟩ : ∃ N : Nat, a2 = (N : Int) := ⟨a2.toNat, by omega⟩
        rw [Int.toNat_natCast] at gB H
        refine s_cond_f hF rfl (congrArg Bool.not c11) ?_
        refine wp_skip ?_
        refine then_n ?_
        refine wp_seq ?_
        refine s_region ?_
        refine s_makemap (impl_RunWithin.U a0 a1) hF hM rfl rfl ?_; intro a w bm hF hM
        refine s_val hF rfl rfl rfl (e_build' (cells := cat [Pt.int (-1), Pt.int 0]) hF rfl (by kernel_rfl)) ?_; intro a hF
        refine s_insert pk61 Try.underlying62 (kk := (-1, 0)) (v := 1) (i := 0) hF hM rfl rfl rfl rfl rfl (List.mem_cons_self) ?_; intro a w hF hM
        refine s_val hF rfl rfl rfl (e_move hF rfl) ?_; intro a hF
        refine s_val hF rfl rfl rfl (e_assign hF rfl) ?_; intro a hF
        refine s_nil ?_
        refine then_n ?_
        refine wp_seq ?_
        refine s_region ?_
        refine s_val hF rfl rfl rfl (e_assign hF rfl) ?_; intro a hF
        refine s_nil ?_
        refine then_n ?_
        refine wp_seq ?_
        refine wp_seq ?_
        refine s_region ?_
        refine s_val hF rfl rfl rfl (e_move hF rfl) ?_; intro a hF
        refine s_val hF rfl rfl rfl (e_move hF rfl) ?_; intro a hF
        refine s_nil ?_
        refine then_n ?_
        refine wp_block ?_
        refine wp_mono (Q := fun e a w => (e = Exit.exit 0 ∧ Fr 79 a [(2, Value.int .i64 (N : Int)), (6, pt b2 0), (9, Value.int .i64 (impl_RunWithin.D a0 a1 N))] ∧ Ms [] w0 w [boxR b2 [Pt.ar (Ar.zero 2)] 29, boxR b1 [Pt.ar a0] 22])) ?_ ?_
        · refine s_loop (fun kq a w => ∃ (t bm : Nat), t + kq = N + 1 ∧ t ≤ N ∧ Fr 79 a [(1, Value.int .i64 a1), (2, Value.int .i64 (N : Int)), (3, pt b1 0), (6, pt b2 0), (8, Value.map (some bm)), (9, Value.int .i64 (impl_RunWithin.D a0 a1 t)), (33, Value.int .i64 (N : Int)), (34, Value.int .i64 (t : Int))] ∧ Ms [] w0 w [mapR bm (impl_RunWithin.U a0 a1) (impl_RunWithin.A a0 a1 t) none, boxR b2 [Pt.ar (Ar.zero 2)] 29, boxR b1 [Pt.ar a0] 22]) (N + 1) ⟨0, bm, by omega, by omega, hF.sub _ ⟨rfl, rfl, rfl, rfl, rfl, rfl, rfl, rfl, trivial⟩, hM.pick [0, 1, 2] rfl rfl⟩ ?_ ?_
          · rintro a w ⟨t, _, h, h', _⟩; omega
          · rintro kq a w ⟨t, bm, ht, htN, hF, hM⟩
            refine wp_seq ?_
            refine s_region ?_
            refine s_val hF rfl rfl rfl (e_lss hF rfl rfl) ?_; intro a hF
            refine s_nil ?_
            refine then_n ?_
            refine wp_seq ?_
            by_cases hlt : t < N
            · have gt := gB t (List.mem_range.2 (by omega))
              have gs := gB (t + 1) (List.mem_range.2 (by omega))
              have hDs : impl_RunWithin.D a0 a1 (t + 1) = 6 * impl_RunWithin.D a0 a1 t + impl_RunWithin.sm (impl_RunWithin.A a0 a1 t) (fun u => impl_RunWithin.c a0 a1 u 6) (impl_RunWithin.U a0 a1) := rfl
              have hAs : ∀ key, impl_RunWithin.A a0 a1 (t + 1) key = impl_RunWithin.sm (impl_RunWithin.A a0 a1 t) (fun u => impl_RunWithin.m a0 a1 key u 6) (impl_RunWithin.U a0 a1) := fun _ => rfl
              generalize hDe : impl_RunWithin.D a0 a1 (t + 1) = Ds at *
              generalize impl_RunWithin.D a0 a1 t = Dt at *
              generalize hAe : impl_RunWithin.A a0 a1 (t + 1) = As at *
              generalize impl_RunWithin.A a0 a1 t = At at *
              refine s_cond_t hF rfl (decide_eq_true (by omega)) ?_
              refine wp_skip ?_
              refine then_n ?_
              refine wp_seq ?_
              refine wp_block ?_
              refine wp_seq ?_
              refine s_region ?_
              refine s_val hF rfl rfl rfl (e_move hF rfl) ?_; intro a hF
              refine s_val hF rfl rfl rfl (e_mul hF rfl rfl) ?_; intro a hF
              have hF := hF.top (congrArg (Value.int .i64) (show wrap64 (Dt * 6) = 6 * Dt by rw [w64 (by omega) (by omega)]; omega))
              refine s_val hF rfl rfl rfl (e_assign hF rfl) ?_; intro a hF
              refine s_nil ?_
              refine then_n ?_
              refine wp_seq ?_
              refine s_region ?_
              refine s_makemap (impl_RunWithin.U a0 a1) hF hM rfl rfl ?_; intro a w bn hF hM
              refine s_val hF rfl rfl rfl (e_assign hF rfl) ?_; intro a hF
              refine s_nil ?_
              refine then_n ?_
              refine wp_seq ?_
              refine wp_seq ?_
              refine s_region ?_
              refine s_val hF rfl rfl rfl (e_move hF rfl) ?_; intro a hF
              refine s_maprange (i := 1) Try.underlying62 hF hM rfl rfl rfl rfl ?_; intro a w ri left0 hrb l1 l2 l3 hF hM
              refine s_nil ?_
              refine then_n ?_
              refine wp_block ?_
              have hAt : vl left0 = At := funext l3
              have hle : ∀ x ∈ left0, x.1 ∈ impl_RunWithin.U a0 a1 ∧ 0 ≤ x.2 ∧ x.2 ≤ 10000000000 := by
                intro x hx
                have h1 := vl_mem l1 hx
                rw [l3] at h1
                have h2 := gt.2 x.1 (l2 x hx)
                exact ⟨l2 x hx, by omega, by omega⟩
              have hsc : impl_RunWithin.sl (fun u => impl_RunWithin.c a0 a1 u 6) left0 = impl_RunWithin.sm At (fun u => impl_RunWithin.c a0 a1 u 6) (impl_RunWithin.U a0 a1) := by rw [impl_RunWithin.sl_sm _ _ gU left0 l1 l2, hAt]
              have hsm : ∀ key, impl_RunWithin.sl (fun u => impl_RunWithin.m a0 a1 key u 6) left0 = impl_RunWithin.sm At (fun u => impl_RunWithin.m a0 a1 key u 6) (impl_RunWithin.U a0 a1) := fun key => by rw [impl_RunWithin.sl_sm _ _ gU left0 l1 l2, hAt]
              refine wp_mono (Q := fun e a w => (e = Exit.exit 2 ∧ Fr 79 a [(1, Value.int .i64 a1), (2, Value.int .i64 (N : Int)), (3, pt b1 0), (6, pt b2 0), (9, Value.int .i64 Ds), (10, Value.map (some bn)), (33, Value.int .i64 (N : Int)), (34, Value.int .i64 (t : Int))] ∧ Ms [] w0 w [mapR bn (impl_RunWithin.U a0 a1) As none, boxR b2 [Pt.ar (Ar.zero 2)] 29, boxR b1 [Pt.ar a0] 22])) ?_ ?_
              · refine s_loop (fun kq a w => ∃ (left : List ((Int × Int) × Int)) (cur : Option ((Int × Int) × Int)) (x9 : Int) (B : Int × Int → Int), left.length + 1 = kq ∧ (∀ x ∈ left, x.1 ∈ impl_RunWithin.U a0 a1 ∧ 0 ≤ x.2 ∧ x.2 ≤ 10000000000) ∧ 0 ≤ x9 ∧ x9 + impl_RunWithin.sl (fun u => impl_RunWithin.c a0 a1 u 6) left = Ds ∧ (∀ key, 0 ≤ B key ∧ B key + impl_RunWithin.sl (fun u => impl_RunWithin.m a0 a1 key u 6) left = As key) ∧ Fr 79 a [(1, Value.int .i64 a1), (2, Value.int .i64 (N : Int)), (3, pt b1 0), (6, pt b2 0), (9, Value.int .i64 x9), (10, Value.map (some bn)), (33, Value.int .i64 (N : Int)), (34, Value.int .i64 (t : Int)), (40, pt ri 0)] ∧ Ms [] w0 w [mapR bn (impl_RunWithin.U a0 a1) B none, rangeR bm ri left cur, boxR b2 [Pt.ar (Ar.zero 2)] 29, boxR b1 [Pt.ar a0] 22]) (left0.length + 1) ⟨left0, none, 6 * Dt, fun _ => 0, rfl, hle, by omega, by rw [hsc, hDs], fun key => ⟨Int.le_refl 0, by rw [hsm, hAs, Int.zero_add]⟩, hF.sub _ ⟨rfl, rfl, rfl, rfl, rfl, rfl, rfl, rfl, rfl, trivial⟩, hM.pick [0, 1, 2, 3] rfl rfl⟩ ?_ ?_
                · rintro a w ⟨left, _, _, _, h, _⟩; omega
                · rintro kq a w ⟨left, cur, x9, B, hlen, hle, hx0, hxs, hB, hF, hM⟩
                  refine wp_seq ?_
                  refine s_region ?_
                  refine s_next (i := 1) hrb hF hM rfl rfl rfl rfl ?_ ?_
                  · rintro a rfl hF
                    refine s_val hF rfl rfl rfl (e_extract hF rfl rfl) ?_; intro a hF
                    refine s_nil ?_
                    refine then_n ?_
                    refine wp_seq ?_
                    refine s_cond_f hF rfl rfl ?_
                    refine wp_exit ?_
                    refine then_x ?_
                    refine then_x ?_
                    simp only [impl_RunWithin.sl, Int.add_zero] at hxs hB
                    have hBA : B = As := funext fun key => (hB key).2
                    subst hxs
                    subst hBA
                    exact ⟨rfl, hF.sub _ ⟨rfl, rfl, rfl, rfl, rfl, rfl, rfl, rfl, trivial⟩, hM.pick [0, 2, 3] rfl rfl⟩
                  · intro a w p q e hpq hF hM
                    subst hpq
                    have he := hle e (List.mem_append_right _ (List.mem_cons_self))
                    have hpq : ∀ x ∈ p ++ q, x ∈ p ++ e :: q := by
                      intro x hx
                      rcases List.mem_append.1 hx with hx | hx
                      · exact List.mem_append_left _ hx
                      · exact List.mem_append_right _ (List.mem_cons_of_mem _ hx)
                    have hle' : ∀ x ∈ p ++ q, x.1 ∈ impl_RunWithin.U a0 a1 ∧ 0 ≤ x.2 ∧ x.2 ≤ 10000000000 := fun x hx => hle x (hpq x hx)
                    rw [impl_RunWithin.sl_part] at hxs
                    have hnnc := impl_RunWithin.sl_nn (fun u => impl_RunWithin.c a0 a1 u 6) (fun u => (impl_RunWithin.c_le a0 a1 u 6).1) (p ++ q) (fun x hx => (hle' x hx).2.1)
                    have hnnm := fun key => impl_RunWithin.sl_nn (fun u => impl_RunWithin.m a0 a1 key u 6) (fun u => (impl_RunWithin.m_le a0 a1 key u 6).1) (p ++ q) (fun x hx => (hle' x hx).2.1)
                    have hcm : ∀ c : Int, 0 ≤ c → c ≤ 6 → 0 ≤ e.2 * c ∧ e.2 * c ≤ 60000000000 := by
                      intro c h0 h6
                      have h1 := Int.mul_nonneg he.2.1 h0
                      have h2 := Int.mul_le_mul_of_nonneg_left h6 he.2.1
                      omega
                    have gRe := gR e.1 he.1
                    refine s_val hF rfl rfl rfl (e_extract hF rfl rfl) ?_; intro a hF
                    refine s_nil ?_
                    refine then_n ?_
                    refine wp_seq ?_
                    refine s_cond_t hF rfl rfl ?_
                    refine wp_skip ?_
                    refine then_n ?_
                    refine wp_block ?_
                    refine wp_seq ?_
                    refine s_region ?_
                    refine s_val hF rfl rfl rfl (e_entry (i := 1) hF hM rfl rfl _) ?_; intro a hF
                    refine s_val hF rfl rfl rfl (e_extract hF rfl rfl) ?_; intro a hF
                    refine s_val hF rfl rfl rfl (e_extract hF rfl rfl) ?_; intro a hF
                    refine s_alloc (ps := [Pt.int 0, Pt.int 0]) hF hM rfl rfl impl_RunWithin.zv rfl ?_; intro a w bs hF hM
                    refine s_stw (i := 0) (ps' := [Pt.int e.1.1, Pt.int e.1.2]) hF hM rfl rfl rfl rfl rfl rfl Try.sizeOf61 rfl ?_; intro a w hF hM
                    refine s_val hF rfl rfl rfl (e_assign hF rfl) ?_; intro a hF
                    refine s_nil ?_
                    refine then_n ?_
                    refine wp_seq ?_
                    refine s_region ?_
                    refine s_val hF rfl rfl rfl (e_lda (i := 4) 0 1 hF hM rfl rfl rfl rfl Try.isAgg22 Try.sizeOf22 rfl) ?_; intro a hF
                    refine s_val hF rfl rfl rfl (e_move hF rfl) ?_; intro a hF
                    refine s_nil ?_
                    refine then_n ?_
                    refine wp_block ?_
                    refine wp_mono (Q := fun e' a w => (e' = Exit.exit 4 ∧ ∃ B' : Int × Int → Int, (∀ key, B' key = B key + e.2 * impl_RunWithin.m a0 a1 key e.1 6) ∧ Fr 79 a [(1, Value.int .i64 a1), (2, Value.int .i64 (N : Int)), (3, pt b1 0), (6, pt b2 0), (9, Value.int .i64 (x9 + e.2 * impl_RunWithin.c a0 a1 e.1 6)), (10, Value.map (some bn)), (33, Value.int .i64 (N : Int)), (34, Value.int .i64 (t : Int)), (40, pt ri 0)] ∧ Ms [] w0 w [mapR bn (impl_RunWithin.U a0 a1) B' none, rangeR bm ri (p ++ q) (some e), boxR b2 [Pt.ar (Ar.zero 2)] 29, boxR b1 [Pt.ar a0] 22])) ?_ ?_
                    · refine s_loop (fun kq a w => ∃ (i : Nat) (B' : Int × Int → Int), i + kq = 7 ∧ i ≤ 6 ∧ (∀ key, B' key = B key + e.2 * impl_RunWithin.m a0 a1 key e.1 i) ∧ Fr 79 a [(1, Value.int .i64 a1), (2, Value.int .i64 (N : Int)), (3, pt b1 0), (6, pt b2 0), (9, Value.int .i64 (x9 + e.2 * impl_RunWithin.c a0 a1 e.1 i)), (10, Value.map (some bn)), (11, pt bs 0), (12, Value.int .i64 e.2), (33, Value.int .i64 (N : Int)), (34, Value.int .i64 (t : Int)), (40, pt ri 0), (46, ag [Pt.ar a0]), (47, Value.int .i64 (i : Int))] ∧ Ms [] w0 w [boxR bs [Pt.int e.1.1, Pt.int e.1.2] 61, mapR bn (impl_RunWithin.U a0 a1) B' none, rangeR bm ri (p ++ q) (some e), boxR b2 [Pt.ar (Ar.zero 2)] 29, boxR b1 [Pt.ar a0] 22]) 7 ⟨0, B, rfl, by omega, fun key => by rw [impl_RunWithin.m, Int.mul_zero, Int.add_zero], (hF.sub _ ⟨rfl, rfl, rfl, rfl, by rw [impl_RunWithin.c, Int.mul_zero, Int.add_zero]; rfl, rfl, rfl, rfl, rfl, rfl, rfl, rfl, rfl, trivial⟩), hM.pick [0, 1, 2, 3, 4] rfl rfl⟩ ?_ ?_
                      · rintro a w ⟨i, _, h, h', _⟩; omega
                      · rintro kq a w ⟨i, B', hik, hi6, hB', hF, hM⟩
                        refine wp_seq ?_
                        refine s_region ?_
                        refine s_val hF rfl rfl rfl (e_lss hF rfl rfl) ?_; intro a hF
                        refine s_nil ?_
                        refine then_n ?_
                        refine wp_seq ?_
                        by_cases hi : i < 6
                        · have hc0 := impl_RunWithin.c_le a0 a1 e.1 i
                          have hcs : impl_RunWithin.c a0 a1 e.1 (i + 1) = impl_RunWithin.c a0 a1 e.1 i + (if a1 ≤ impl_RunWithin.rn e.1 (a0.get (i : Int)) then 1 else 0) := rfl
                          have hms : ∀ key, impl_RunWithin.m a0 a1 key e.1 (i + 1) = impl_RunWithin.m a0 a1 key e.1 i + (if ¬ a1 ≤ impl_RunWithin.rn e.1 (a0.get (i : Int)) ∧ key = (a0.get (i : Int), impl_RunWithin.rn e.1 (a0.get (i : Int))) then 1 else 0) := fun _ => rfl
                          have hcb := hcm (impl_RunWithin.c a0 a1 e.1 i) hc0.1 (by omega)
                          refine s_cond_t hF rfl (decide_eq_true (by omega)) ?_
                          refine wp_skip ?_
                          refine then_n ?_
                          refine wp_seq ?_
                          refine wp_block ?_
                          refine wp_seq ?_
                          refine s_region ?_
                          refine s_val hF rfl rfl rfl (e_ix hF rfl rfl Try.underlying22 Try.sizeOf3 Try.isAgg3 (by omega) (by omega)) ?_; intro a hF
                          refine s_val hF rfl rfl rfl (e_assign hF rfl) ?_; intro a hF
                          refine s_nil ?_
                          refine then_n ?_
                          refine wp_seq ?_
                          refine s_region ?_
                          refine s_val hF rfl rfl rfl (e_assign hF rfl) ?_; intro a hF
                          refine s_nil ?_
                          refine then_n ?_
                          refine wp_seq ?_
                          generalize hface : a0.get (i : Int) = face at *
                          refine wp_mono (Q := fun e' a w => (e' = Exit.normal ∧ Fr 79 a [(1, Value.int .i64 a1), (2, Value.int .i64 (N : Int)), (3, pt b1 0), (6, pt b2 0), (9, Value.int .i64 (x9 + e.2 * impl_RunWithin.c a0 a1 e.1 i)), (10, Value.map (some bn)), (11, pt bs 0), (12, Value.int .i64 e.2), (14, Value.int .i64 face), (15, Value.int .i64 (impl_RunWithin.rn e.1 face)), (33, Value.int .i64 (N : Int)), (34, Value.int .i64 (t : Int)), (40, pt ri 0), (46, ag [Pt.ar a0]), (47, Value.int .i64 (i : Int))] ∧ Ms [] w0 w [boxR bs [Pt.int e.1.1, Pt.int e.1.2] 61, mapR bn (impl_RunWithin.U a0 a1) B' none, rangeR bm ri (p ++ q) (some e), boxR b2 [Pt.ar (Ar.zero 2)] 29, boxR b1 [Pt.ar a0] 22])) ?_ ?_
                          · refine wp_seq ?_
                            refine s_region ?_
                            refine s_val hF rfl rfl rfl (e_move hF rfl) ?_; intro a hF
                            refine s_val hF rfl rfl rfl (e_fa hF rfl Try.underlying61 rfl Try.sizeOf3 rfl rfl) ?_; intro a hF
                            refine s_val hF rfl rfl rfl (e_ld (i := 0) (k := 0) hF hM rfl rfl rfl rfl Try.isAgg3 rfl) ?_; intro a hF
                            refine s_val hF rfl rfl rfl (e_eql hF rfl rfl) ?_; intro a hF
                            refine s_nil ?_
                            refine then_n ?_
                            by_cases hx : face = e.1.1
                            · refine s_cond_t hF rfl (decide_eq_true hx) ?_
                              refine s_region ?_
                              refine s_val hF rfl rfl rfl (e_fa hF rfl Try.underlying61 rfl Try.sizeOf3 rfl rfl) ?_; intro a hF
                              refine s_val hF rfl rfl rfl (e_ld (i := 0) (k := 1) hF hM rfl rfl rfl rfl Try.isAgg3 rfl) ?_; intro a hF
                              refine s_val hF rfl rfl rfl (e_add hF rfl rfl) ?_; intro a hF
                              have hF := hF.top (congrArg (Value.int .i64) (show wrap64 (e.1.2 + 1) = impl_RunWithin.rn e.1 face by unfold impl_RunWithin.rn; rw [if_pos hx]; exact w64 (by omega) (by omega)))
                              refine s_val hF rfl rfl rfl (e_assign hF rfl) ?_; intro a hF
                              refine s_nil ?_
                              exact ⟨rfl, hF.sub _ ⟨rfl, rfl, rfl, rfl, rfl, rfl, rfl, rfl, rfl, rfl, rfl, rfl, rfl, rfl, rfl, trivial⟩, hM⟩
                            · refine s_cond_f hF rfl (decide_eq_false hx) ?_
                              refine wp_skip ?_
                              have hr1 : impl_RunWithin.rn e.1 face = 1 := by unfold impl_RunWithin.rn; rw [if_neg hx]
                              exact ⟨rfl, hF.sub _ ⟨rfl, rfl, rfl, rfl, rfl, rfl, rfl, rfl, rfl, by rw [hr1]; rfl, rfl, rfl, rfl, rfl, rfl, trivial⟩, hM⟩
                          · rintro e' a w ⟨rfl, hF, hM⟩
                            refine then_n ?_
                            have hrng : 1 ≤ impl_RunWithin.rn e.1 face ∧ impl_RunWithin.rn e.1 face ≤ 101 := by
                              unfold impl_RunWithin.rn
                              split <;> omega
                            generalize hrn : impl_RunWithin.rn e.1 face = rn at *
                            refine wp_seq ?_
                            refine s_region ?_
                            refine s_val hF rfl rfl rfl (e_move hF rfl) ?_; intro a hF
                            refine s_val hF rfl rfl rfl (e_move hF rfl) ?_; intro a hF
                            refine s_val hF rfl rfl rfl (e_geq hF rfl rfl) ?_; intro a hF
                            refine s_nil ?_
                            refine then_n ?_
                            by_cases hk : a1 ≤ rn
                            · rw [if_pos hk] at hcs
                              refine s_cond_t hF rfl (decide_eq_true hk) ?_
                              refine s_region ?_
                              refine s_val hF rfl rfl rfl (e_move hF rfl) ?_; intro a hF
                              refine s_val hF rfl rfl rfl (e_move hF rfl) ?_; intro a hF
                              refine s_val hF rfl rfl rfl (e_add hF rfl rfl) ?_; intro a hF
                              have hxle : x9 ≤ 100000000000 := by
                                have h6 := hcm (impl_RunWithin.c a0 a1 e.1 6) (impl_RunWithin.c_le a0 a1 e.1 6).1 (impl_RunWithin.c_le a0 a1 e.1 6).2
                                omega
                              have hF := hF.top (congrArg (Value.int .i64) (show wrap64 (x9 + e.2 * impl_RunWithin.c a0 a1 e.1 i + e.2) = x9 + e.2 * impl_RunWithin.c a0 a1 e.1 (i + 1) by rw [w64 (by omega) (by omega), hcs, Int.mul_add, Int.mul_one]; omega))
                              refine s_val hF rfl rfl rfl (e_assign hF rfl) ?_; intro a hF
                              refine s_nil ?_
                              refine blk_n ?_
                              refine then_n ?_
                              refine s_region ?_
                              refine s_val hF rfl rfl rfl (e_add hF rfl rfl) ?_; intro a hF
                              have hF := hF.top (congrArg (Value.int .i64) (show wrap64 ((i : Int) + 1) = ((i + 1 : Nat) : Int) by rw [w64 (by omega) (by omega)]; omega))
                              refine s_val hF rfl rfl rfl (e_move hF rfl) ?_; intro a hF
                              refine s_nil ?_
                              refine then_n ?_
                              refine ⟨i + 1, B', by omega, by omega, fun key => ?_, hF.sub _ ⟨rfl, rfl, rfl, rfl, rfl, rfl, rfl, rfl, rfl, rfl, rfl, rfl, rfl, trivial⟩, hM⟩
                              rw [hms key, if_neg (fun h => h.1 hk), Int.add_zero]
                              exact hB' key
                            · rw [if_neg hk, Int.add_zero] at hcs
                              have hkU : (face, rn) ∈ impl_RunWithin.U a0 a1 := by
                                have := gC e.1 he.1 i (List.mem_range.2 hi)
                                rw [hface, hrn] at this
                                exact this hk
                              have hBb : 0 ≤ B' (face, rn) ∧ B' (face, rn) ≤ 100000000000 := by
                                have h1 := hB (face, rn)
                                rw [impl_RunWithin.sl_part] at h1
                                have h2 := hnnm (face, rn)
                                have h3 := impl_RunWithin.m_le a0 a1 (face, rn) e.1 i
                                have h4 := impl_RunWithin.m_le a0 a1 (face, rn) e.1 6
                                have h5 := hcm _ h3.1 (by omega)
                                have h6 := hcm _ h4.1 (by omega)
                                have h7 := gs.2 (face, rn) hkU
                                rw [hB']
                                omega
                              have hadd : wrap64 (B' (face, rn) + e.2) = B' (face, rn) + e.2 := w64 (by omega) (by omega)
                              refine s_cond_f hF rfl (decide_eq_false hk) ?_
                              have hBn : ∀ key, upd B' (face, rn) (B' (face, rn) + e.2) key = B key + e.2 * impl_RunWithin.m a0 a1 key e.1 (i + 1) := by
                                intro key
                                rw [hms key]
                                unfold upd
                                by_cases hkey : key = (face, rn)
                                · rw [if_pos hkey, if_pos ⟨hk, hkey⟩, ← hkey, hB' key, Int.mul_add, Int.mul_one]
                                  omega
                                · rw [if_neg hkey, if_neg (fun h => hkey h.2), Int.add_zero]
                                  exact hB' key
                              refine s_held (fun _ => True) #[false, false, false, false, false, false, false, false, false, false] mixed rfl rfl hM ?_; intro w hf hM; clear hf
                              refine h_val 0 #[true, false, false, false, false, false, false, false, false, false] rfl (by kernel_rfl) hF rfl rfl rfl (fun w hS => e_move hF rfl) trivial ?_; intro a hF
                              refine h_val 1 #[true, true, false, false, false, false, false, false, false, false] rfl (by kernel_rfl) hF rfl rfl rfl (fun w hS => e_move hF rfl) trivial ?_; intro a hF
                              refine h_val 2 #[true, true, true, false, false, false, false, false, false, false] rfl (by kernel_rfl) hF rfl rfl rfl (fun w hS => e_move hF rfl) trivial ?_; intro a hF
                              refine h_val 3 #[true, true, true, true, false, false, false, false, false, false] rfl (by kernel_rfl) hF rfl rfl rfl (fun w hS => e_build' (cells := cat [Pt.int face, Pt.int rn]) hF rfl (by kernel_rfl)) trivial ?_; intro a hF
                              refine h_val 5 #[true, true, true, true, false, true, false, false, false, false] rfl (by kernel_rfl) hF rfl rfl rfl (fun w hS => e_move hF rfl) trivial ?_; intro a hF
                              refine h_two 4 7 #[true, true, true, true, true, true, false, false, false, false] #[true, true, true, true, false, true, false, true, false, false] rfl rfl rfl rfl (by kernel_rfl) ?_ ?_
                              · refine s_val hF rfl rfl rfl (e_lookup (i := 1) (kk := (face, rn)) pk61 Try.underlying62 zv3 hF hM rfl rfl rfl _) ?_; intro a hF
                                refine s_nil ⟨rfl, trivial, ?_⟩
                                refine h_val 6 #[true, true, true, true, true, true, true, false, false, false] rfl (by kernel_rfl) hF rfl rfl rfl (fun w hS => e_add hF rfl rfl) trivial ?_; intro a hF
                                have hF := hF.top (congrArg (Value.int .i64) hadd)
                                refine h_one 7 #[true, true, true, true, true, true, true, true, false, false] rfl (by kernel_rfl) ?_
                                refine s_mapentry (i := 1) (kk := (face, rn)) pk61 Try.underlying62 zv3 hF hM rfl rfl rfl rfl rfl hkU ?_; intro a w s hF hM
                                refine s_nil ⟨rfl, trivial, ?_⟩
                                refine h_val 8 #[true, true, true, true, true, true, true, true, true, false] rfl (by kernel_rfl) hF rfl rfl rfl (fun w hS => e_extract hF rfl rfl) trivial ?_; intro a hF
                                refine h_one 9 #[true, true, true, true, true, true, true, true, true, true] rfl (by kernel_rfl) ?_
                                refine s_entrystore (i := 1) hF hM rfl rfl rfl rfl rfl ?_; intro a w hF hM
                                refine s_nil ⟨rfl, trivial, ?_⟩
                                refine h_done rfl ?_
                                refine blk_n ?_
                                refine then_n ?_
                                refine s_region ?_
                                refine s_val hF rfl rfl rfl (e_add hF rfl rfl) ?_; intro a hF
                                have hF := hF.top (congrArg (Value.int .i64) (show wrap64 ((i : Int) + 1) = ((i + 1 : Nat) : Int) by rw [w64 (by omega) (by omega)]; omega))
                                refine s_val hF rfl rfl rfl (e_move hF rfl) ?_; intro a hF
                                refine s_nil ?_
                                refine then_n ?_
                                exact ⟨i + 1, _, by omega, by omega, hBn, hF.sub _ ⟨rfl, rfl, rfl, rfl, by rw [hcs]; rfl, rfl, rfl, rfl, rfl, rfl, rfl, rfl, rfl, trivial⟩, hM⟩
                              · refine s_mapentry (i := 1) (kk := (face, rn)) pk61 Try.underlying62 zv3 hF hM rfl rfl rfl rfl rfl hkU ?_; intro a w s hF hM
                                refine s_nil ⟨rfl, trivial, ?_⟩
                                refine h_val 8 #[true, true, true, true, false, true, false, true, true, false] rfl (by kernel_rfl) hF rfl rfl rfl (fun w hS => e_extract hF rfl rfl) trivial ?_; intro a hF
                                refine h_one 4 #[true, true, true, true, true, true, false, true, true, false] rfl (by kernel_rfl) ?_
                                refine s_val hF rfl rfl rfl (e_lookup (i := 1) (kk := (face, rn)) pk61 Try.underlying62 zv3 hF hM rfl rfl rfl _) ?_; intro a hF
                                refine s_nil ⟨rfl, trivial, ?_⟩
                                refine h_val 6 #[true, true, true, true, true, true, true, true, true, false] rfl (by kernel_rfl) hF rfl rfl rfl (fun w hS => e_add hF rfl rfl) trivial ?_; intro a hF
                                have hF := hF.top (congrArg (Value.int .i64) hadd)
                                refine h_one 9 #[true, true, true, true, true, true, true, true, true, true] rfl (by kernel_rfl) ?_
                                refine s_entrystore (i := 1) hF hM rfl rfl rfl rfl rfl ?_; intro a w hF hM
                                refine s_nil ⟨rfl, trivial, ?_⟩
                                refine h_done rfl ?_
                                refine blk_n ?_
                                refine then_n ?_
                                refine s_region ?_
                                refine s_val hF rfl rfl rfl (e_add hF rfl rfl) ?_; intro a hF
                                have hF := hF.top (congrArg (Value.int .i64) (show wrap64 ((i : Int) + 1) = ((i + 1 : Nat) : Int) by rw [w64 (by omega) (by omega)]; omega))
                                refine s_val hF rfl rfl rfl (e_move hF rfl) ?_; intro a hF
                                refine s_nil ?_
                                refine then_n ?_
                                exact ⟨i + 1, _, by omega, by omega, hBn, hF.sub _ ⟨rfl, rfl, rfl, rfl, by rw [hcs]; rfl, rfl, rfl, rfl, rfl, rfl, rfl, rfl, rfl, trivial⟩, hM⟩
                        · have hi' : i = 6 := by omega
                          subst hi'
                          refine s_cond_f hF rfl (decide_eq_false (by omega)) ?_
                          refine wp_exit ?_
                          refine then_x ?_
                          refine then_x ?_
                          exact ⟨rfl, B', hB', hF.sub _ ⟨rfl, rfl, rfl, rfl, rfl, rfl, rfl, rfl, rfl, trivial⟩, hM.pick [1, 2, 3, 4] rfl rfl⟩
                    · rintro e' a w ⟨rfl, B', hB', hF, hM⟩
                      refine blk_x ?_
                      refine blk_n ?_
                      refine then_n ?_
                      have hc6 := hcm (impl_RunWithin.c a0 a1 e.1 6) (impl_RunWithin.c_le a0 a1 e.1 6).1 (impl_RunWithin.c_le a0 a1 e.1 6).2
                      refine ⟨p ++ q, some e, _, B', ?_, hle', by omega, ?_, fun key => ?_, hF, hM⟩
                      · simp only [List.length_append, List.length_cons] at hlen ⊢
                        omega
                      · omega
                      · have h1 := hB key
                        rw [impl_RunWithin.sl_part] at h1
                        have h4 := impl_RunWithin.m_le a0 a1 key e.1 6
                        have h6 := hcm _ h4.1 (by omega)
                        rw [hB']
                        omega
              · rintro e a w ⟨rfl, hF, hM⟩
                refine blk_x ?_
                refine then_n ?_
                refine s_region ?_
                refine s_val hF rfl rfl rfl (e_move hF rfl) ?_; intro a hF
                refine s_val hF rfl rfl rfl (e_assign hF rfl) ?_; intro a hF
                refine s_nil ?_
                refine blk_n ?_
                refine then_n ?_
                refine s_region ?_
                refine s_val hF rfl rfl rfl (e_add hF rfl rfl) ?_; intro a hF
                have hF := hF.top (congrArg (Value.int .i64) (show wrap64 ((t : Int) + 1) = ((t + 1 : Nat) : Int) by rw [w64 (by omega) (by omega)]; omega))
                refine s_val hF rfl rfl rfl (e_move hF rfl) ?_; intro a hF
                refine s_nil ?_
                refine then_n ?_
                exact ⟨t + 1, bn, by omega, by omega, hF.sub _ ⟨rfl, rfl, rfl, rfl, rfl, by rw [hDe]; rfl, rfl, rfl, trivial⟩, by rw [hAe]; exact hM⟩
            · have ht' : t = N := by omega
              subst ht'
              refine s_cond_f hF rfl (decide_eq_false (by omega)) ?_
              refine wp_exit ?_
              refine then_x ?_
              refine then_x ?_
              exact ⟨rfl, hF.sub _ ⟨rfl, rfl, rfl, trivial⟩, hM.pick [1, 2] rfl rfl⟩
        · rintro e a w ⟨rfl, hF, hM⟩
          refine blk_x ?_
          refine then_n ?_
          obtain ⟨t12, h13, H⟩ := bind_some H
          obtain ⟨t14, h15, H⟩ := bind_some H
          refine wp_seq ?_
          refine s_region ?_
          refine s_val hF rfl rfl rfl (e_move hF rfl) ?_; intro a hF
          refine s_val hF rfl rfl rfl (e_move hF rfl) ?_; intro a hF
          refine s_call hF rfl rfl rfl Try.call53 (impl_power.calls K (N : Int) t12 h13) ?_; intro a w v hF hf hR
          subst hR; have hM := hM.grow hf
          refine s_call hF rfl rfl rfl Try.call56 (impl_fraction.calls K (impl_RunWithin.D a0 a1 N) t12 t14 h15) ?_; intro a w v hF hf hR
          subst hR; have hM := hM.grow hf
          refine s_stw (i := 0) (ps' := [Pt.ar t14]) hF hM rfl rfl rfl rfl rfl rfl Try.sizeOf29 rfl ?_; intro a w hF hM
          refine s_val hF rfl rfl rfl (e_assign hF rfl) ?_; intro a hF
          refine s_nil ?_
          refine then_n ?_
          refine wp_ret ?_
          obtain rfl := some_some H
          refine s_ret [ag [Pt.ar t14], Value.bool true] hF Try.results27 ⟨⟨_, rfl, rv_box hM (i := 0) rfl Try.isAgg29 Try.sizeOf29 rfl⟩, rfl, trivial⟩ ?_
          exact ⟨_, rfl, hM.frm, rfl⟩
      ·
        refine s_cond_t hF rfl (congrArg Bool.not (bf c11)) ?_
        refine wp_seq ?_
        refine s_region ?_
        refine s_val hF rfl rfl rfl (e_build' (cells := cat [Pt.ar (⟨[0, 0], rfl⟩ : Ar 2)]) hF rfl (by kernel_rfl)) ?_; intro a hF
        refine s_stw (i := 0) (ps' := [Pt.ar (⟨[0, 0], rfl⟩ : Ar 2)]) hF hM rfl rfl rfl rfl rfl rfl Try.sizeOf29 rfl ?_; intro a w hF hM
        refine s_val hF rfl rfl rfl (e_assign hF rfl) ?_; intro a hF
        refine s_nil ?_
        refine then_n ?_
        refine wp_ret ?_
        refine then_r ?_
        obtain rfl := some_some H
        refine s_ret [ag [Pt.ar (⟨[0, 0], rfl⟩ : Ar 2)], Value.bool false] hF Try.results27 ⟨⟨_, rfl, rv_box hM (i := 0) rfl Try.isAgg29 Try.sizeOf29 rfl⟩, rfl, trivial⟩ ?_
        exact ⟨_, rfl, hM.frm, rfl⟩
    ·
      refine s_val hF rfl rfl rfl (e_move hF rfl) ?_; intro a hF
      have hF := hF.topb (congrArg Bool.not (bf c8))
      refine s_skip hF rfl rfl rfl ?_; intro a hF
      refine s_skip hF rfl rfl rfl ?_; intro a hF
      refine s_skip hF rfl rfl rfl ?_; intro a hF
      refine s_val hF rfl rfl rfl (e_pick_t hF rfl rfl) ?_; intro a hF
      refine s_nil ?_
      refine then_n ?_
      refine s_cond_t hF rfl rfl ?_
      refine wp_seq ?_
      refine s_region ?_
      refine s_val hF rfl rfl rfl (e_build' (cells := cat [Pt.ar (⟨[0, 0], rfl⟩ : Ar 2)]) hF rfl (by kernel_rfl)) ?_; intro a hF
      refine s_stw (i := 0) (ps' := [Pt.ar (⟨[0, 0], rfl⟩ : Ar 2)]) hF hM rfl rfl rfl rfl rfl rfl Try.sizeOf29 rfl ?_; intro a w hF hM
      refine s_val hF rfl rfl rfl (e_assign hF rfl) ?_; intro a hF
      refine s_nil ?_
      refine then_n ?_
      refine wp_ret ?_
      refine then_r ?_
      obtain rfl := some_some H
      refine s_ret [ag [Pt.ar (⟨[0, 0], rfl⟩ : Ar 2)], Value.bool false] hF Try.results27 ⟨⟨_, rfl, rv_box hM (i := 0) rfl Try.isAgg29 Try.sizeOf29 rfl⟩, rfl, trivial⟩ ?_
      exact ⟨_, rfl, hM.frm, rfl⟩
  ·
    refine s_region ?_
    refine s_val hF rfl rfl rfl (e_lda (i := 1) 0 1 hF hM rfl rfl rfl rfl Try.isAgg22 Try.sizeOf22 rfl) ?_; intro a hF
    refine s_call hF rfl rfl rfl Try.call50 (impl_IsDie.calls K a0 t3 h4) ?_; intro a w v hF hf hR
    subst hR; have hM := hM.grow hf
    refine s_val hF rfl rfl rfl (e_not hF rfl) ?_; intro a hF
    refine s_val hF rfl rfl rfl (e_move hF rfl) ?_; intro a hF
    have hF := hF.topb (congrArg Bool.not (bf c5))
    refine s_skip hF rfl rfl rfl ?_; intro a hF
    refine s_skip hF rfl rfl rfl ?_; intro a hF
    refine s_skip hF rfl rfl rfl ?_; intro a hF
    refine s_val hF rfl rfl rfl (e_pick_t hF rfl rfl) ?_; intro a hF
    refine s_val hF rfl rfl rfl (e_move hF rfl) ?_; intro a hF
    refine s_skip hF rfl rfl rfl ?_; intro a hF
    refine s_skip hF rfl rfl rfl ?_; intro a hF
    refine s_skip hF rfl rfl rfl ?_; intro a hF
    refine s_val hF rfl rfl rfl (e_pick_t hF rfl rfl) ?_; intro a hF
    refine s_nil ?_
    refine then_n ?_
    refine s_cond_t hF rfl rfl ?_
    refine wp_seq ?_
    refine s_region ?_
    refine s_val hF rfl rfl rfl (e_build' (cells := cat [Pt.ar (⟨[0, 0], rfl⟩ : Ar 2)]) hF rfl (by kernel_rfl)) ?_; intro a hF
    refine s_stw (i := 0) (ps' := [Pt.ar (⟨[0, 0], rfl⟩ : Ar 2)]) hF hM rfl rfl rfl rfl rfl rfl Try.sizeOf29 rfl ?_; intro a w hF hM
    refine s_val hF rfl rfl rfl (e_assign hF rfl) ?_; intro a hF
    refine s_nil ?_
    refine then_n ?_
    refine wp_ret ?_
    refine then_r ?_
    obtain rfl := some_some H
    refine s_ret [ag [Pt.ar (⟨[0, 0], rfl⟩ : Ar 2)], Value.bool false] hF Try.results27 ⟨⟨_, rfl, rv_box hM (i := 0) rfl Try.isAgg29 Try.sizeOf29 rfl⟩, rfl, trivial⟩ ?_
    exact ⟨_, rfl, hM.frm, rfl⟩

/-! ### loop.example/g01210/laws.eqIntA2: function 21 -/
def laws_eqIntA2.l0 (K : Nat) (a0 : (Ar 2)) (a1 : (Ar 2)) : Nat → Int → Option (Sum Unit Bool)
  | 0, _ => none
  | k + 1, x8 => if x8 < 2 then (if (0 : Int) ≤ x8 ∧ x8 < 2 then (if (a0.get x8) = (a1.get x8) then (laws_eqIntA2.l0 K a0 a1 k (wrap64 (x8 + 1))) else (some (Sum.inr false))) else none) else (some (Sum.inl ()))
def laws_eqIntA2.f (K : Nat) (a0 : (Ar 2)) (a1 : (Ar 2)) : Option Bool := (laws_eqIntA2.l0 K a0 a1 K 0).bind fun o12 => (match o12 with | .inl () => some true | .inr r14 => some r14)
set_option maxRecDepth 100000 in
set_option maxHeartbeats 4000000 in
theorem laws_eqIntA2.calls {w0 : World} (K : Nat) (a0 : (Ar 2)) (a1 : (Ar 2)) (r : Bool) (H : laws_eqIntA2.f K a0 a1 = some r) : Calls Try.prog 21 [ag [Pt.ar a0], ag [Pt.ar a1]].toArray w0 (Post w0 fun w v => v = Value.bool r) := by
  rw [laws_eqIntA2.f] at H
  refine s_start Try.func21 rfl Try.ntmps21 rfl ?_
  intro a hF
  have hM := Ms.start w0
  skip
  refine wp_seq ?_
  refine s_region ?_
  refine s_box (ps := [Pt.ar a0]) hF hM rfl rfl rfl rfl ?_; intro a w b1 hF hM
  refine s_box (ps := [Pt.ar a1]) hF hM rfl rfl rfl rfl ?_; intro a w b2 hF hM
  refine s_val hF rfl rfl rfl (e_assign hF rfl) ?_; intro a hF
  refine s_nil ?_
  refine then_n ?_
  refine wp_seq ?_
  refine wp_seq ?_
  refine s_region ?_
  refine s_val hF rfl rfl rfl (e_assign hF rfl) ?_; intro a hF
  refine s_nil ?_
  refine then_n ?_
  refine wp_block ?_
  obtain ⟨o12, h13, H⟩ := bind_some H
  refine wp_mono (Q := fun e a w => (e = Exit.exit 0 ∧ Sum.inl () = o12 ∧ Fr 17 a [] ∧ Ms [] w0 w []) ∨ (e = Exit.ret ∧ ∃ r14 : Bool, Sum.inr r14 = o12 ∧ Fr 17 a [(4, Value.bool r14)] ∧ Ms [] w0 w [])) ?_ ?_
  · refine s_loop (fun kq a w => ∃ x8 : Int, laws_eqIntA2.l0 K a0 a1 kq x8 = some o12 ∧ Fr 17 a [(2, pt b1 0), (3, pt b2 0), (5, Value.int .i64 x8)] ∧ Ms [] w0 w [boxR b1 [Pt.ar a0] 29, boxR b2 [Pt.ar a1] 29]) K ⟨0, h13, hF.sub _ ⟨rfl, rfl, rfl, trivial⟩, hM.pick [1, 0] rfl rfl⟩ ?_ ?_
    · rintro a w ⟨_, H, _⟩; exact none_some H
    · rintro k a w ⟨x8, H, hF, hM⟩; rw [laws_eqIntA2.l0] at H
      refine wp_seq ?_
      refine wp_seq ?_
      refine s_region ?_
      refine s_val hF rfl rfl rfl (e_move hF rfl) ?_; intro a hF
      refine s_val hF rfl rfl rfl (e_lss hF rfl rfl) ?_; intro a hF
      refine s_nil ?_
      refine then_n ?_
      rcases ite_cases H with ⟨c9, H⟩ | ⟨c9, H⟩
      ·
        refine s_cond_t hF rfl (decide_eq_true c9) ?_
        refine wp_skip ?_
        refine then_n ?_
        refine wp_seq ?_
        refine wp_block ?_
        refine wp_seq ?_
        obtain ⟨c10, H⟩ := ite_some H
        refine s_held (fun w => Ms [] w0 w [boxR b1 [Pt.ar a0] 29, boxR b2 [Pt.ar a1] 29]) #[false, false, false, false, false, false, false] mixed rfl rfl hM ?_; intro w hf hM; clear hf
        refine h_val 0 #[true, false, false, false, false, false, false] rfl (by kernel_rfl) hF rfl rfl rfl (fun w hS => e_move hF rfl) (hM.pick [0, 1] rfl rfl) ?_; intro a hF
        refine h_val 1 #[true, true, false, false, false, false, false] rfl (by kernel_rfl) hF rfl rfl rfl (fun w hS => e_ia hF rfl rfl Try.underlying29 Try.sizeOf3 c10.1 c10.2) (hM.pick [0, 1] rfl rfl) ?_; intro a hF
        refine h_val 2 #[true, true, true, false, false, false, false] rfl (by kernel_rfl) hF rfl rfl rfl (fun w hS => e_ldi (i := 0) (k := 0) hF hS rfl rfl rfl rfl rfl Try.isAgg3 c10.1 c10.2) (hM.pick [0, 1] rfl rfl) ?_; intro a hF
        refine h_val 3 #[true, true, true, true, false, false, false] rfl (by kernel_rfl) hF rfl rfl rfl (fun w hS => e_move hF rfl) (hM.pick [0, 1] rfl rfl) ?_; intro a hF
        refine h_val 4 #[true, true, true, true, true, false, false] rfl (by kernel_rfl) hF rfl rfl rfl (fun w hS => e_ia hF rfl rfl Try.underlying29 Try.sizeOf3 c10.1 c10.2) (hM.pick [0, 1] rfl rfl) ?_; intro a hF
        refine h_val 5 #[true, true, true, true, true, true, false] rfl (by kernel_rfl) hF rfl rfl rfl (fun w hS => e_ldi (i := 1) (k := 0) hF hS rfl rfl rfl rfl rfl Try.isAgg3 c10.1 c10.2) (hM.pick [0, 1] rfl rfl) ?_; intro a hF
        refine h_val 6 #[true, true, true, true, true, true, true] rfl (by kernel_rfl) hF rfl rfl rfl (fun w hS => e_neq hF rfl rfl) (hM.pick [0, 1] rfl rfl) ?_; intro a hF
        refine h_done rfl ?_
        refine then_n ?_
        rcases ite_cases H with ⟨c11, H⟩ | ⟨c11, H⟩
        ·
          refine s_cond_f hF rfl (congrArg Bool.not (decide_eq_true c11)) ?_
          refine wp_skip ?_
          refine blk_n ?_
          refine then_n ?_
          refine s_region ?_
          refine s_val hF rfl rfl rfl (e_move hF rfl) ?_; intro a hF
          refine s_val hF rfl rfl rfl (e_add hF rfl rfl) ?_; intro a hF
          refine s_val hF rfl rfl rfl (e_assign hF rfl) ?_; intro a hF
          refine s_nil ?_
          refine then_n ?_
          exact ⟨(wrap64 (x8 + 1)), H, hF.sub _ ⟨rfl, rfl, rfl, trivial⟩, hM.pick [0, 1] rfl rfl⟩
        ·
          refine s_cond_t hF rfl (congrArg Bool.not (decide_eq_false c11)) ?_
          refine wp_seq ?_
          refine s_region ?_
          refine s_val hF rfl rfl rfl (e_assign hF rfl) ?_; intro a hF
          refine s_nil ?_
          refine then_n ?_
          refine wp_ret ?_
          refine blk_r ?_
          refine then_r ?_
          refine then_r ?_
          exact Or.inr (⟨rfl, false, some_some H, hF.sub _ ⟨rfl, trivial⟩, hM.pick [] rfl rfl⟩)
      ·
        refine s_cond_f hF rfl (decide_eq_false c9) ?_
        refine wp_exit ?_
        refine then_x ?_
        refine then_x ?_
        exact Or.inl (⟨rfl, some_some H, hF.sub _ trivial, hM.pick [] rfl rfl⟩)
  · rintro e a w (⟨rfl, rfl, hF, hM⟩ | ⟨rfl, r14, rfl, hF, hM⟩)
    ·
      dsimp only at H
      refine blk_x ?_
      refine then_n ?_
      refine wp_seq ?_
      refine s_region ?_
      refine s_val hF rfl rfl rfl (e_assign hF rfl) ?_; intro a hF
      refine s_nil ?_
      refine then_n ?_
      refine wp_ret ?_
      obtain rfl := some_some H
      refine s_ret [Value.bool true] hF Try.results21 ⟨rfl, trivial⟩ ?_
      exact ⟨_, rfl, hM.frm, rfl⟩
    ·
      dsimp only at H
      refine blk_r ?_
      refine then_r ?_
      obtain rfl := some_some H
      refine s_ret [Value.bool r14] hF Try.results21 ⟨rfl, trivial⟩ ?_
      exact ⟨_, rfl, hM.frm, rfl⟩

/-! ### loop.example/g01210/laws.FnExactRunWithin: function 7 -/
def laws_FnExactRunWithin.f (K : Nat) (a0 : (Ar 6)) (a1 : Int) (a2 : Int) : Option Bool := (laws_toIntA6.f K a0).bind fun t2 => (spec_RunWithin.f K t2 a1 a2).bind fun t4 => (laws_toIntA6.f K a0).bind fun t7 => (impl_RunWithin.f K t7 a1 a2).bind fun t9 => (laws_eqIntA2.f K t9.1 t4.1).bind fun t12 => if t12 = true then (if (t9.2 == t4.2) = true then (some true) else (some false)) else (some false)
set_option maxRecDepth 100000 in
set_option maxHeartbeats 4000000 in
theorem laws_FnExactRunWithin.calls {w0 : World} (K : Nat) (a0 : (Ar 6)) (a1 : Int) (a2 : Int) (r : Bool) (H : laws_FnExactRunWithin.f K a0 a1 a2 = some r) : Calls Try.prog 7 [ag [Pt.ar a0], Value.int .i64 a1, Value.int .i64 a2].toArray w0 (Post w0 fun w v => v = Value.bool r) := by
  rw [laws_FnExactRunWithin.f] at H
  refine s_start Try.func7 rfl Try.ntmps7 rfl ?_
  intro a hF
  have hM := Ms.start w0
  skip
  refine wp_seq ?_
  refine s_region ?_
  refine s_box (ps := [Pt.ar a0]) hF hM rfl rfl rfl rfl ?_; intro a w b1 hF hM
  refine s_val hF rfl rfl rfl (e_assign hF rfl) ?_; intro a hF
  refine s_nil ?_
  refine then_n ?_
  refine wp_seq ?_
  obtain ⟨t2, h3, H⟩ := bind_some H
  obtain ⟨t4, h5, H⟩ := bind_some H
  refine s_region ?_
  refine s_val hF rfl rfl rfl (e_lda (i := 0) 0 1 hF hM rfl rfl rfl rfl Try.isAgg22 Try.sizeOf22 rfl) ?_; intro a hF
  refine s_call hF rfl rfl rfl Try.call16 (laws_toIntA6.calls K a0 t2 h3) ?_; intro a w v hF hf hR
  subst hR; have hM := hM.grow hf
  refine s_val hF rfl rfl rfl (e_move hF rfl) ?_; intro a hF
  refine s_val hF rfl rfl rfl (e_move hF rfl) ?_; intro a hF
  refine s_call hF rfl rfl rfl Try.call26 (spec_RunWithin.calls K t2 a1 a2 t4 h5) ?_; intro a w v hF hf hR
  subst hR; have hM := hM.grow hf
  refine s_val hF rfl rfl rfl (e_move hF rfl) ?_; intro a hF
  refine s_val hF rfl rfl rfl (e_extract hF rfl rfl) ?_; intro a hF
  refine s_val hF rfl rfl rfl (e_extract hF rfl rfl) ?_; intro a hF
  refine s_alloc (ps := [Pt.ar (Ar.zero 2)]) hF hM rfl rfl zv29 rfl ?_; intro a w b6 hF hM
  refine s_stw (i := 0) (ps' := [Pt.ar t4.1]) hF hM rfl rfl rfl rfl rfl rfl Try.sizeOf29 rfl ?_; intro a w hF hM
  refine s_val hF rfl rfl rfl (e_assign hF rfl) ?_; intro a hF
  refine s_nil ?_
  refine then_n ?_
  refine wp_seq ?_
  obtain ⟨t7, h8, H⟩ := bind_some H
  obtain ⟨t9, h10, H⟩ := bind_some H
  refine s_region ?_
  refine s_val hF rfl rfl rfl (e_lda (i := 1) 0 1 hF hM rfl rfl rfl rfl Try.isAgg22 Try.sizeOf22 rfl) ?_; intro a hF
  refine s_call hF rfl rfl rfl Try.call16 (laws_toIntA6.calls K a0 t7 h8) ?_; intro a w v hF hf hR
  subst hR; have hM := hM.grow hf
  refine s_val hF rfl rfl rfl (e_move hF rfl) ?_; intro a hF
  refine s_val hF rfl rfl rfl (e_move hF rfl) ?_; intro a hF
  refine s_call hF rfl rfl rfl Try.call27 (impl_RunWithin.calls K t7 a1 a2 t9 h10) ?_; intro a w v hF hf hR
  subst hR; have hM := hM.grow hf
  refine s_val hF rfl rfl rfl (e_move hF rfl) ?_; intro a hF
  refine s_val hF rfl rfl rfl (e_extract hF rfl rfl) ?_; intro a hF
  refine s_val hF rfl rfl rfl (e_extract hF rfl rfl) ?_; intro a hF
  refine s_alloc (ps := [Pt.ar (Ar.zero 2)]) hF hM rfl rfl zv29 rfl ?_; intro a w b11 hF hM
  refine s_stw (i := 0) (ps' := [Pt.ar t9.1]) hF hM rfl rfl rfl rfl rfl rfl Try.sizeOf29 rfl ?_; intro a w hF hM
  refine s_val hF rfl rfl rfl (e_assign hF rfl) ?_; intro a hF
  refine s_nil ?_
  refine then_n ?_
  refine wp_seq ?_
  refine wp_seq ?_
  obtain ⟨t12, h13, H⟩ := bind_some H
  rcases ite_cases H with ⟨c14, H⟩ | ⟨c14, H⟩
  ·
    refine s_region ?_
    refine s_val hF rfl rfl rfl (e_lda (i := 0) 0 1 hF hM rfl rfl rfl rfl Try.isAgg29 Try.sizeOf29 rfl) ?_; intro a hF
    refine s_val hF rfl rfl rfl (e_lda (i := 1) 0 1 hF hM rfl rfl rfl rfl Try.isAgg29 Try.sizeOf29 rfl) ?_; intro a hF
    refine s_call hF rfl rfl rfl Try.call21 (laws_eqIntA2.calls K t9.1 t4.1 t12 h13) ?_; intro a w v hF hf hR
    subst hR; have hM := hM.grow hf
    refine s_val hF rfl rfl rfl (e_not hF rfl) ?_; intro a hF
    refine s_val hF rfl rfl rfl (e_move hF rfl) ?_; intro a hF
    have hF := hF.topb (congrArg Bool.not c14)
    refine s_val hF rfl rfl rfl (e_move hF rfl) ?_; intro a hF
    refine s_val hF rfl rfl rfl (e_move hF rfl) ?_; intro a hF
    refine s_val hF rfl rfl rfl (e_bneq hF rfl rfl Try.underlying4) ?_; intro a hF
    refine s_val hF rfl rfl rfl (e_pick_f hF rfl rfl) ?_; intro a hF
    refine s_nil ?_
    refine then_n ?_
    rcases ite_cases H with ⟨c15, H⟩ | ⟨c15, H⟩
    ·
      refine s_cond_f hF rfl (congrArg Bool.not c15) ?_
      refine wp_skip ?_
      refine then_n ?_
      refine wp_seq ?_
      refine s_region ?_
      refine s_val hF rfl rfl rfl (e_assign hF rfl) ?_; intro a hF
      refine s_nil ?_
      refine then_n ?_
      refine wp_ret ?_
      obtain rfl := some_some H
      refine s_ret [Value.bool true] hF Try.results7 ⟨rfl, trivial⟩ ?_
      exact ⟨_, rfl, hM.frm, rfl⟩
    ·
      refine s_cond_t hF rfl (congrArg Bool.not (bf c15)) ?_
      refine wp_seq ?_
      refine s_region ?_
      refine s_val hF rfl rfl rfl (e_assign hF rfl) ?_; intro a hF
      refine s_nil ?_
      refine then_n ?_
      refine wp_ret ?_
      refine then_r ?_
      obtain rfl := some_some H
      refine s_ret [Value.bool false] hF Try.results7 ⟨rfl, trivial⟩ ?_
      exact ⟨_, rfl, hM.frm, rfl⟩
  ·
    refine s_region ?_
    refine s_val hF rfl rfl rfl (e_lda (i := 0) 0 1 hF hM rfl rfl rfl rfl Try.isAgg29 Try.sizeOf29 rfl) ?_; intro a hF
    refine s_val hF rfl rfl rfl (e_lda (i := 1) 0 1 hF hM rfl rfl rfl rfl Try.isAgg29 Try.sizeOf29 rfl) ?_; intro a hF
    refine s_call hF rfl rfl rfl Try.call21 (laws_eqIntA2.calls K t9.1 t4.1 t12 h13) ?_; intro a w v hF hf hR
    subst hR; have hM := hM.grow hf
    refine s_val hF rfl rfl rfl (e_not hF rfl) ?_; intro a hF
    refine s_val hF rfl rfl rfl (e_move hF rfl) ?_; intro a hF
    have hF := hF.topb (congrArg Bool.not (bf c14))
    refine s_skip hF rfl rfl rfl ?_; intro a hF
    refine s_skip hF rfl rfl rfl ?_; intro a hF
    refine s_skip hF rfl rfl rfl ?_; intro a hF
    refine s_val hF rfl rfl rfl (e_pick_t hF rfl rfl) ?_; intro a hF
    refine s_nil ?_
    refine then_n ?_
    refine s_cond_t hF rfl rfl ?_
    refine wp_seq ?_
    refine s_region ?_
    refine s_val hF rfl rfl rfl (e_assign hF rfl) ?_; intro a hF
    refine s_nil ?_
    refine then_n ?_
    refine wp_ret ?_
    refine then_r ?_
    obtain rfl := some_some H
    refine s_ret [Value.bool false] hF Try.results7 ⟨rfl, trivial⟩ ?_
    exact ⟨_, rfl, hM.frm, rfl⟩

/-! ### loop.example/g01210/impl.truth: function 90 -/
def impl_truth.f (K : Nat) (a0 : Bool) : Option Int := if a0 = true then (some 1) else (some 0)
set_option maxRecDepth 100000 in
set_option maxHeartbeats 4000000 in
theorem impl_truth.calls {w0 : World} (K : Nat) (a0 : Bool) (r : Int) (H : impl_truth.f K a0 = some r) : Calls Try.prog 90 [Value.bool a0].toArray w0 (Post w0 fun w v => v = Value.int .i64 r) := by
  rw [impl_truth.f] at H
  refine s_start Try.func90 rfl Try.ntmps90 rfl ?_
  intro a hF
  have hM := Ms.start w0
  skip
  refine wp_seq ?_
  refine s_region ?_
  refine s_val hF rfl rfl rfl (e_assign hF rfl) ?_; intro a hF
  refine s_nil ?_
  refine then_n ?_
  refine wp_seq ?_
  refine wp_seq ?_
  refine s_region ?_
  refine s_val hF rfl rfl rfl (e_move hF rfl) ?_; intro a hF
  refine s_nil ?_
  refine then_n ?_
  rcases ite_cases H with ⟨c1, H⟩ | ⟨c1, H⟩
  ·
    refine s_cond_t hF rfl c1 ?_
    refine wp_seq ?_
    refine s_region ?_
    refine s_val hF rfl rfl rfl (e_assign hF rfl) ?_; intro a hF
    refine s_nil ?_
    refine then_n ?_
    refine wp_ret ?_
    refine then_r ?_
    obtain rfl := some_some H
    refine s_ret [Value.int .i64 1] hF Try.results90 ⟨rfl, trivial⟩ ?_
    exact ⟨_, rfl, hM.frm, rfl⟩
  ·
    refine s_cond_f hF rfl (bf c1) ?_
    refine wp_skip ?_
    refine then_n ?_
    refine wp_seq ?_
    refine s_region ?_
    refine s_val hF rfl rfl rfl (e_assign hF rfl) ?_; intro a hF
    refine s_nil ?_
    refine then_n ?_
    refine wp_ret ?_
    obtain rfl := some_some H
    refine s_ret [Value.int .i64 0] hF Try.results90 ⟨rfl, trivial⟩ ?_
    exact ⟨_, rfl, hM.frm, rfl⟩

/-! ### loop.example/g01210/impl.weight: function 58 -/
def impl_weight.l0 (K : Nat) (a0 : (Ar 6)) (a1 : Int) : Nat → Int → Int → Option Int
  | 0, _, _ => none
  | k + 1, x11, x12 => if x12 < 6 then (if (0 : Int) ≤ x12 ∧ x12 < 6 then ((impl_truth.f K (decide ((a0.get x12) = a1))).bind fun t15 => impl_weight.l0 K a0 a1 k (wrap64 (x11 + t15)) (wrap64 (x12 + 1))) else none) else (some x11)
def impl_weight.f (K : Nat) (a0 : (Ar 6)) (a1 : Int) : Option Int := (impl_weight.l0 K a0 a1 K 0 0).bind fun x10 => some x10
set_option maxRecDepth 100000 in
set_option maxHeartbeats 4000000 in
theorem impl_weight.calls {w0 : World} (K : Nat) (a0 : (Ar 6)) (a1 : Int) (r : Int) (H : impl_weight.f K a0 a1 = some r) : Calls Try.prog 58 [ag [Pt.ar a0], Value.int .i64 a1].toArray w0 (Post w0 fun w v => v = Value.int .i64 r) := by
  rw [impl_weight.f] at H
  refine s_start Try.func58 rfl Try.ntmps58 rfl ?_
  intro a hF
  have hM := Ms.start w0
  skip
  refine wp_seq ?_
  refine s_region ?_
  refine s_box (ps := [Pt.ar a0]) hF hM rfl rfl rfl rfl ?_; intro a w b1 hF hM
  refine s_val hF rfl rfl rfl (e_assign hF rfl) ?_; intro a hF
  refine s_nil ?_
  refine then_n ?_
  refine wp_seq ?_
  refine s_region ?_
  refine s_val hF rfl rfl rfl (e_assign hF rfl) ?_; intro a hF
  refine s_nil ?_
  refine then_n ?_
  refine wp_seq ?_
  refine wp_seq ?_
  refine s_region ?_
  refine s_val hF rfl rfl rfl (e_lda (i := 0) 0 1 hF hM rfl rfl rfl rfl Try.isAgg22 Try.sizeOf22 rfl) ?_; intro a hF
  refine s_val hF rfl rfl rfl (e_move hF rfl) ?_; intro a hF
  refine s_nil ?_
  refine then_n ?_
  refine wp_block ?_
  obtain ⟨o17, h18, H⟩ := bind_some H
  refine wp_mono (Q := fun e a w => (e = Exit.exit 0 ∧ ∃ x10 : Int, x10 = o17 ∧ Fr 20 a [(5, Value.int .i64 x10)] ∧ Ms [] w0 w [])) ?_ ?_
  · refine s_loop (fun kq a w => ∃ x11 : Int, ∃ x12 : Int, impl_weight.l0 K a0 a1 kq x11 x12 = some o17 ∧ Fr 20 a [(1, Value.int .i64 a1), (5, Value.int .i64 x11), (8, ag [Pt.ar a0]), (9, Value.int .i64 x12)] ∧ Ms [] w0 w []) K ⟨0, 0, h18, hF.sub _ ⟨rfl, rfl, rfl, rfl, trivial⟩, hM.pick [] rfl rfl⟩ ?_ ?_
    · rintro a w ⟨_, _, H, _⟩; exact none_some H
    · rintro k a w ⟨x11, x12, H, hF, hM⟩; rw [impl_weight.l0] at H
      refine wp_seq ?_
      refine s_region ?_
      refine s_val hF rfl rfl rfl (e_lss hF rfl rfl) ?_; intro a hF
      refine s_nil ?_
      refine then_n ?_
      refine wp_seq ?_
      rcases ite_cases H with ⟨c13, H⟩ | ⟨c13, H⟩
      ·
        refine s_cond_t hF rfl (decide_eq_true c13) ?_
        refine wp_skip ?_
        refine then_n ?_
        refine wp_seq ?_
        refine wp_block ?_
        refine wp_seq ?_
        obtain ⟨c14, H⟩ := ite_some H
        refine s_region ?_
        refine s_val hF rfl rfl rfl (e_ix hF rfl rfl Try.underlying22 Try.sizeOf3 Try.isAgg3 c14.1 c14.2) ?_; intro a hF
        refine s_val hF rfl rfl rfl (e_assign hF rfl) ?_; intro a hF
        refine s_nil ?_
        refine then_n ?_
        obtain ⟨t15, h16, H⟩ := bind_some H
        refine s_region ?_
        refine s_val hF rfl rfl rfl (e_move hF rfl) ?_; intro a hF
        refine s_val hF rfl rfl rfl (e_move hF rfl) ?_; intro a hF
        refine s_val hF rfl rfl rfl (e_move hF rfl) ?_; intro a hF
        refine s_val hF rfl rfl rfl (e_eql hF rfl rfl) ?_; intro a hF
        refine s_call hF rfl rfl rfl Try.call90 (impl_truth.calls K (decide ((a0.get x12) = a1)) t15 h16) ?_; intro a w v hF hf hR
        subst hR; have hM := hM.grow hf
        refine s_val hF rfl rfl rfl (e_add hF rfl rfl) ?_; intro a hF
        refine s_val hF rfl rfl rfl (e_assign hF rfl) ?_; intro a hF
        refine s_nil ?_
        refine blk_n ?_
        refine then_n ?_
        refine s_region ?_
        refine s_val hF rfl rfl rfl (e_add hF rfl rfl) ?_; intro a hF
        refine s_val hF rfl rfl rfl (e_move hF rfl) ?_; intro a hF
        refine s_nil ?_
        refine then_n ?_
        exact ⟨(wrap64 (x11 + t15)), (wrap64 (x12 + 1)), H, hF.sub _ ⟨rfl, rfl, rfl, rfl, trivial⟩, hM.pick [] rfl rfl⟩
      ·
        refine s_cond_f hF rfl (decide_eq_false c13) ?_
        refine wp_exit ?_
        refine then_x ?_
        refine then_x ?_
        exact ⟨rfl, x11, some_some H, hF.sub _ ⟨rfl, trivial⟩, hM.pick [] rfl rfl⟩
  · rintro e a w ⟨rfl, x10, rfl, hF, hM⟩
    skip
    refine blk_x ?_
    refine then_n ?_
    refine wp_seq ?_
    refine s_region ?_
    refine s_val hF rfl rfl rfl (e_move hF rfl) ?_; intro a hF
    refine s_val hF rfl rfl rfl (e_assign hF rfl) ?_; intro a hF
    refine s_nil ?_
    refine then_n ?_
    refine wp_ret ?_
    obtain rfl := some_some H
    refine s_ret [Value.int .i64 x10] hF Try.results58 ⟨rfl, trivial⟩ ?_
    exact ⟨_, rfl, hM.frm, rfl⟩

end Go.Proofs.Ytnjfmhgmbfemdaa.WRunWithin

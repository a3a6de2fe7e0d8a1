/- The walk through the code that the statement reaches: what each function computes. Conditions: none but those in each line. -/
import Derived.Test.YtnjfmhgmbfemdaaProg
import Derived.Test.YtnjfmhgmbfemdaaK
namespace Go.Proofs.Ytnjfmhgmbfemdaa.WBurstTable
open Go.K Go.RowKit
set_option linter.unusedVariables false
set_option linter.unusedSimpArgs false

def cd3 : Cd Int := ⟨3, 1, 8, fun x => [Pt.int x], fun x => Value.int .i64 x, (0 : Int), fun _ => rfl, fun _ => rfl, by decide⟩
theorem cdok3 : CdOk Try.prog cd3 := by
  obtain ⟨i, h1, h2, h3, h4⟩ := info_parts (by kernel_rfl : (Try.prog.info? 3).map (fun i => (i.zero, i.size, i.bytes)) = some (some (cd3.v cd3.z), 1, 8))
  exact ⟨⟨i, h1, h3, h4, h2⟩, by decide⟩
theorem zv22 (w : World) : (zeroValue 22).run Try.prog w = .ok (ag [Pt.ar (Ar.zero 6)]) w := by kernel_rfl
theorem zv23 (w : World) : (zeroValue 23).run Try.prog w = .ok (ag [Pt.ar (Ar.zero 121)]) w := by kernel_rfl
theorem zv53 (w : World) : (zeroValue 53).run Try.prog w = .ok (Value.nilFunc) w := by kernel_rfl
theorem mixed : Try.prog.follows .mixedOrders = true := by kernel_rfl

/-! ### loop.example/g01210/laws.toIntA6: function 16 -/
def laws_toIntA6.l0 (K : Nat) (a0 : (Ar 6)) : Nat → Int → (Ar 6) → Option (Ar 6)
  | 0, _, _ => none
  | k + 1, x9, x10 => if x9 < 6 then (if (0 : Int) ≤ x9 ∧ x9 < 6 then (laws_toIntA6.l0 K a0 k (wrap64 (x9 + 1)) (x10.set x9 (a0.get x9))) else none) else (some x10)
def laws_toIntA6.f (K : Nat) (a0 : (Ar 6)) : Option (Ar 6) := (laws_toIntA6.l0 K a0 K 0 (Ar.zero 6)).bind fun x8 => some x8
set_option maxRecDepth 100000 in
set_option maxHeartbeats 4000000 in
theorem laws_toIntA6.calls {w0 : World} (K : Nat) (a0 : (Ar 6)) (r : (Ar 6)) (H : laws_toIntA6.f K a0 = some r) : Calls Try.prog 16 [ag [Pt.ar a0]].toArray w0 (Post w0 fun w v => v = ag [Pt.ar r]) := by
  rw [laws_toIntA6.f] at H
  refine s_start Try.func16 rfl Try.ntmps16 rfl ?_
  intro a hF
  have hM := Ms.start w0
  skip
  refine wp_seq ?_
  refine s_region ?_
  refine s_box (ps := [Pt.ar a0]) hF hM rfl rfl rfl rfl ?_; intro a w b1 hF hM
  refine s_alloc (ps := [Pt.ar (Ar.zero 6)]) hF hM rfl rfl zv22 rfl ?_; intro a w b2 hF hM
  refine s_nil ?_
  refine then_n ?_
  refine wp_seq ?_
  refine s_region ?_
  refine s_alloc (ps := [Pt.ar (Ar.zero 6)]) hF hM rfl rfl zv22 rfl ?_; intro a w b3 hF hM
  refine s_nil ?_
  refine then_n ?_
  refine wp_seq ?_
  refine wp_seq ?_
  refine s_region ?_
  refine s_val hF rfl rfl rfl (e_assign hF rfl) ?_; intro a hF
  refine s_nil ?_
  refine then_n ?_
  refine wp_block ?_
  obtain ⟨o13, h14, H⟩ := bind_some H
  refine wp_mono (Q := fun e a w => (e = Exit.exit 0 ∧ ∃ x8 : (Ar 6), x8 = o13 ∧ Fr 15 a [(2, pt b2 0), (3, pt b3 0)] ∧ Ms [] w0 w [boxR b2 [Pt.ar (Ar.zero 6)] 22, boxR b3 [Pt.ar x8] 22])) ?_ ?_
  · refine s_loop (fun kq a w => ∃ x9 : Int, ∃ x10 : (Ar 6), laws_toIntA6.l0 K a0 kq x9 x10 = some o13 ∧ Fr 15 a [(1, pt b1 0), (2, pt b2 0), (3, pt b3 0), (4, Value.int .i64 x9)] ∧ Ms [] w0 w [boxR b1 [Pt.ar a0] 22, boxR b2 [Pt.ar (Ar.zero 6)] 22, boxR b3 [Pt.ar x10] 22]) K ⟨0, (Ar.zero 6), h14, hF.sub _ ⟨rfl, rfl, rfl, rfl, trivial⟩, hM.pick [2, 1, 0] rfl rfl⟩ ?_ ?_
    · rintro a w ⟨_, _, H, _⟩; exact none_some H
    · rintro k a w ⟨x9, x10, H, hF, hM⟩; rw [laws_toIntA6.l0] at H
      refine wp_seq ?_
      refine wp_seq ?_
      refine s_region ?_
      refine s_val hF rfl rfl rfl (e_move hF rfl) ?_; intro a hF
      refine s_val hF rfl rfl rfl (e_lss hF rfl rfl) ?_; intro a hF
      refine s_nil ?_
      refine then_n ?_
      rcases ite_cases H with ⟨c11, H⟩ | ⟨c11, H⟩
      ·
        refine s_cond_t hF rfl (decide_eq_true c11) ?_
        refine wp_skip ?_
        refine then_n ?_
        refine wp_seq ?_
        refine wp_block ?_
        obtain ⟨c12, H⟩ := ite_some H
        refine s_region ?_
        refine s_val hF rfl rfl rfl (e_move hF rfl) ?_; intro a hF
        refine s_val hF rfl rfl rfl (e_move hF rfl) ?_; intro a hF
        refine s_val hF rfl rfl rfl (e_ia hF rfl rfl Try.underlying22 Try.sizeOf3 c12.1 c12.2) ?_; intro a hF
        refine s_val hF rfl rfl rfl (e_ldi (i := 0) (k := 0) hF hM rfl rfl rfl rfl rfl Try.isAgg3 c12.1 c12.2) ?_; intro a hF
        refine s_val hF rfl rfl rfl (e_ia hF rfl rfl Try.underlying22 Try.sizeOf3 c12.1 c12.2) ?_; intro a hF
        refine s_sti (i := 2) (k := 0) hF hM rfl rfl rfl rfl rfl rfl rfl Try.sizeOf3 c12.1 c12.2 ?_; intro a w hF hM
        refine s_nil ?_
        refine blk_n ?_
        refine then_n ?_
        refine s_region ?_
        refine s_val hF rfl rfl rfl (e_move hF rfl) ?_; intro a hF
        refine s_val hF rfl rfl rfl (e_add hF rfl rfl) ?_; intro a hF
        refine s_val hF rfl rfl rfl (e_assign hF rfl) ?_; intro a hF
        refine s_nil ?_
        refine then_n ?_
        exact ⟨(wrap64 (x9 + 1)), (x10.set x9 (a0.get x9)), H, hF.sub _ ⟨rfl, rfl, rfl, rfl, trivial⟩, hM.pick [0, 1, 2] rfl rfl⟩
      ·
        refine s_cond_f hF rfl (decide_eq_false c11) ?_
        refine wp_exit ?_
        refine then_x ?_
        refine then_x ?_
        exact ⟨rfl, x10, some_some H, hF.sub _ ⟨rfl, rfl, trivial⟩, hM.pick [1, 2] rfl rfl⟩
  · rintro e a w ⟨rfl, x8, rfl, hF, hM⟩
    skip
    refine blk_x ?_
    refine then_n ?_
    refine wp_seq ?_
    refine s_region ?_
    refine s_val hF rfl rfl rfl (e_lda (i := 1) 0 1 hF hM rfl rfl rfl rfl Try.isAgg22 Try.sizeOf22 rfl) ?_; intro a hF
    refine s_stw (i := 0) (ps' := [Pt.ar x8]) hF hM rfl rfl rfl rfl rfl rfl Try.sizeOf22 rfl ?_; intro a w hF hM
    refine s_nil ?_
    refine then_n ?_
    refine wp_ret ?_
    obtain rfl := some_some H
    refine s_ret [ag [Pt.ar x8]] hF Try.results16 ⟨⟨_, rfl, rv_box hM (i := 0) rfl Try.isAgg22 Try.sizeOf22 rfl⟩, trivial⟩ ?_
    exact ⟨_, rfl, hM.frm, rfl⟩

/-! ### loop.example/g01210/spec.l1In: function 48 -/
def spec_l1In.f (K : Nat) (a0 : Int) (a1 : Int) (a2 : Int) : Option Bool := if a1 ≤ a0 then (some (decide (a0 ≤ a2))) else (some false)
set_option maxRecDepth 100000 in
set_option maxHeartbeats 4000000 in
theorem spec_l1In.calls {w0 : World} (K : Nat) (a0 : Int) (a1 : Int) (a2 : Int) (r : Bool) (H : spec_l1In.f K a0 a1 a2 = some r) : Calls Try.prog 48 [Value.int .i64 a0, Value.int .i64 a1, Value.int .i64 a2].toArray w0 (Post w0 fun w v => v = Value.bool r) := by
  rw [spec_l1In.f] at H
  refine s_start Try.func48 rfl Try.ntmps48 rfl ?_
  intro a hF
  have hM := Ms.start w0
  skip
  refine wp_seq ?_
  refine s_region ?_
  refine s_val hF rfl rfl rfl (e_assign hF rfl) ?_; intro a hF
  refine s_nil ?_
  refine then_n ?_
  refine wp_seq ?_
  rcases ite_cases H with ⟨c1, H⟩ | ⟨c1, H⟩
  ·
    refine s_region ?_
    refine s_val hF rfl rfl rfl (e_move hF rfl) ?_; intro a hF
    refine s_val hF rfl rfl rfl (e_move hF rfl) ?_; intro a hF
    refine s_val hF rfl rfl rfl (e_geq hF rfl rfl) ?_; intro a hF
    refine s_val hF rfl rfl rfl (e_move hF rfl) ?_; intro a hF
    have hF := hF.topb (decide_eq_true c1)
    refine s_val hF rfl rfl rfl (e_move hF rfl) ?_; intro a hF
    refine s_val hF rfl rfl rfl (e_move hF rfl) ?_; intro a hF
    refine s_val hF rfl rfl rfl (e_leq hF rfl rfl) ?_; intro a hF
    refine s_val hF rfl rfl rfl (e_pick_t hF rfl rfl) ?_; intro a hF
    refine s_val hF rfl rfl rfl (e_assign hF rfl) ?_; intro a hF
    refine s_nil ?_
    refine then_n ?_
    refine wp_ret ?_
    obtain rfl := some_some H
    refine s_ret [Value.bool (decide (a0 ≤ a2))] hF Try.results48 ⟨rfl, trivial⟩ ?_
    exact ⟨_, rfl, hM.frm, rfl⟩
  ·
    refine s_region ?_
    refine s_val hF rfl rfl rfl (e_move hF rfl) ?_; intro a hF
    refine s_val hF rfl rfl rfl (e_move hF rfl) ?_; intro a hF
    refine s_val hF rfl rfl rfl (e_geq hF rfl rfl) ?_; intro a hF
    refine s_val hF rfl rfl rfl (e_move hF rfl) ?_; intro a hF
    have hF := hF.topb (decide_eq_false c1)
    refine s_skip hF rfl rfl rfl ?_; intro a hF
    refine s_skip hF rfl rfl rfl ?_; intro a hF
    refine s_skip hF rfl rfl rfl ?_; intro a hF
    refine s_val hF rfl rfl rfl (e_pick_f hF rfl rfl) ?_; intro a hF
    refine s_val hF rfl rfl rfl (e_assign hF rfl) ?_; intro a hF
    refine s_nil ?_
    refine then_n ?_
    refine wp_ret ?_
    obtain rfl := some_some H
    refine s_ret [Value.bool false] hF Try.results48 ⟨rfl, trivial⟩ ?_
    exact ⟨_, rfl, hM.frm, rfl⟩

/-! ### loop.example/g01210/spec.l2Die: function 47 -/
def spec_l2Die.l0 (K : Nat) (a0 : (Ar 6)) : Nat → Int → Option (Sum Unit Bool)
  | 0, _ => none
  | k + 1, x14 => if x14 < 6 then (if (0 : Int) ≤ x14 ∧ x14 < 6 then ((spec_l1In.f K (a0.get x14) 0 30).bind fun t17 => if t17 = true then (if 0 < x14 then (if (0 : Int) ≤ (wrap64 (x14 - 1)) ∧ (wrap64 (x14 - 1)) < 6 then (if (a0.get x14) < (a0.get (wrap64 (x14 - 1))) then (some (Sum.inr false)) else (spec_l2Die.l0 K a0 k (wrap64 (x14 + 1)))) else none) else (spec_l2Die.l0 K a0 k (wrap64 (x14 + 1)))) else (some (Sum.inr false))) else none) else (some (Sum.inl ()))
def spec_l2Die.f (K : Nat) (a0 : (Ar 6)) : Option Bool := (spec_l2Die.l0 K a0 K 0).bind fun o23 => (match o23 with | .inl () => some true | .inr r25 => some r25)
set_option maxRecDepth 100000 in
set_option maxHeartbeats 4000000 in
theorem spec_l2Die.calls {w0 : World} (K : Nat) (a0 : (Ar 6)) (r : Bool) (H : spec_l2Die.f K a0 = some r) : Calls Try.prog 47 [ag [Pt.ar a0]].toArray w0 (Post w0 fun w v => v = Value.bool r) := by
  rw [spec_l2Die.f] at H
  refine s_start Try.func47 rfl Try.ntmps47 rfl ?_
  intro a hF
  have hM := Ms.start w0
  skip
  refine wp_seq ?_
  refine s_region ?_
  refine s_box (ps := [Pt.ar a0]) hF hM rfl rfl rfl rfl ?_; intro a w b1 hF hM
  refine s_val hF rfl rfl rfl (e_assign hF rfl) ?_; intro a hF
  refine s_nil ?_
  refine then_n ?_
  refine wp_seq ?_
  refine wp_seq ?_
  refine s_region ?_
  refine s_val hF rfl rfl rfl (e_assign hF rfl) ?_; intro a hF
  refine s_nil ?_
  refine then_n ?_
  refine wp_block ?_
  obtain ⟨o23, h24, H⟩ := bind_some H
  refine wp_mono (Q := fun e a w => (e = Exit.exit 0 ∧ Sum.inl () = o23 ∧ Fr 27 a [] ∧ Ms [] w0 w []) ∨ (e = Exit.ret ∧ ∃ r25 : Bool, Sum.inr r25 = o23 ∧ Fr 27 a [(2, Value.bool r25)] ∧ Ms [] w0 w [])) ?_ ?_
  · refine s_loop (fun kq a w => ∃ x14 : Int, spec_l2Die.l0 K a0 kq x14 = some o23 ∧ Fr 27 a [(1, pt b1 0), (3, Value.int .i64 x14)] ∧ Ms [] w0 w [boxR b1 [Pt.ar a0] 22]) K ⟨0, h24, hF.sub _ ⟨rfl, rfl, trivial⟩, hM.pick [0] rfl rfl⟩ ?_ ?_
    · rintro a w ⟨_, H, _⟩; exact none_some H
    · rintro k a w ⟨x14, H, hF, hM⟩; rw [spec_l2Die.l0] at H
      refine wp_seq ?_
      refine wp_seq ?_
      refine s_region ?_
      refine s_val hF rfl rfl rfl (e_move hF rfl) ?_; intro a hF
      refine s_val hF rfl rfl rfl (e_lss hF rfl rfl) ?_; intro a hF
      refine s_nil ?_
      refine then_n ?_
      rcases ite_cases H with ⟨c15, H⟩ | ⟨c15, H⟩
      ·
        refine s_cond_t hF rfl (decide_eq_true c15) ?_
        refine wp_skip ?_
        refine then_n ?_
        refine wp_seq ?_
        refine wp_block ?_
        refine wp_seq ?_
        obtain ⟨c16, H⟩ := ite_some H
        obtain ⟨t17, h18, H⟩ := bind_some H
        rcases ite_cases H with ⟨c19, H⟩ | ⟨c19, H⟩
        ·
          rcases ite_cases H with ⟨c20, H⟩ | ⟨c20, H⟩
          ·
            obtain ⟨c21, H⟩ := ite_some H
            refine s_held (fun w => Ms [] w0 w [boxR b1 [Pt.ar a0] 22]) #[false, false, false, false, false, false, false, false, false, false, false, false, false, false, false, false, false, false, false] mixed rfl rfl hM ?_; intro w hf hM; clear hf
            refine h_val 0 #[true, false, false, false, false, false, false, false, false, false, false, false, false, false, false, false, false, false, false] rfl (by kernel_rfl) hF rfl rfl rfl (fun w hS => e_move hF rfl) (hM.pick [0] rfl rfl) ?_; intro a hF
            refine h_val 1 #[true, true, false, false, false, false, false, false, false, false, false, false, false, false, false, false, false, false, false] rfl (by kernel_rfl) hF rfl rfl rfl (fun w hS => e_ia hF rfl rfl Try.underlying22 Try.sizeOf3 c16.1 c16.2) (hM.pick [0] rfl rfl) ?_; intro a hF
            refine h_val 2 #[true, true, true, false, false, false, false, false, false, false, false, false, false, false, false, false, false, false, false] rfl (by kernel_rfl) hF rfl rfl rfl (fun w hS => e_ldi (i := 0) (k := 0) hF hS rfl rfl rfl rfl rfl Try.isAgg3 c16.1 c16.2) (hM.pick [0] rfl rfl) ?_; intro a hF
            refine h_one 3 #[true, true, true, true, false, false, false, false, false, false, false, false, false, false, false, false, false, false, false] rfl (by kernel_rfl) ?_
            refine s_call hF rfl rfl rfl Try.call48 (spec_l1In.calls K (a0.get x14) 0 30 t17 h18) ?_; intro a w v hF hf hR
            subst hR; have hM := hM.grow hf
            refine s_nil ⟨rfl, (hM.pick [0] rfl rfl), ?_⟩
            refine h_val 4 #[true, true, true, true, true, false, false, false, false, false, false, false, false, false, false, false, false, false, false] rfl (by kernel_rfl) hF rfl rfl rfl (fun w hS => e_not hF rfl) (hM.pick [0] rfl rfl) ?_; intro a hF
            refine h_val 5 #[true, true, true, true, true, true, false, false, false, false, false, false, false, false, false, false, false, false, false] rfl (by kernel_rfl) hF rfl rfl rfl (fun w hS => e_move hF rfl) (hM.pick [0] rfl rfl) ?_; intro a hF
            have hF := hF.topb (congrArg Bool.not c19)
            refine h_val 6 #[true, true, true, true, true, true, true, false, false, false, false, false, false, false, false, false, false, false, false] rfl (by kernel_rfl) hF rfl rfl rfl (fun w hS => e_move hF rfl) (hM.pick [0] rfl rfl) ?_; intro a hF
            refine h_val 7 #[true, true, true, true, true, true, true, true, false, false, false, false, false, false, false, false, false, false, false] rfl (by kernel_rfl) hF rfl rfl rfl (fun w hS => e_gtr hF rfl rfl) (hM.pick [0] rfl rfl) ?_; intro a hF
            refine h_val 8 #[true, true, true, true, true, true, true, true, true, false, false, false, false, false, false, false, false, false, false] rfl (by kernel_rfl) hF rfl rfl rfl (fun w hS => e_move hF rfl) (hM.pick [0] rfl rfl) ?_; intro a hF
            have hF := hF.topb (decide_eq_true c20)
            refine h_val 9 #[true, true, true, true, true, true, true, true, true, true, false, false, false, false, false, false, false, false, false] rfl (by kernel_rfl) hF rfl rfl rfl (fun w hS => e_move hF rfl) (hM.pick [0] rfl rfl) ?_; intro a hF
            refine h_val 10 #[true, true, true, true, true, true, true, true, true, true, true, false, false, false, false, false, false, false, false] rfl (by kernel_rfl) hF rfl rfl rfl (fun w hS => e_ia hF rfl rfl Try.underlying22 Try.sizeOf3 c16.1 c16.2) (hM.pick [0] rfl rfl) ?_; intro a hF
            refine h_val 11 #[true, true, true, true, true, true, true, true, true, true, true, true, false, false, false, false, false, false, false] rfl (by kernel_rfl) hF rfl rfl rfl (fun w hS => e_ldi (i := 0) (k := 0) hF hS rfl rfl rfl rfl rfl Try.isAgg3 c16.1 c16.2) (hM.pick [0] rfl rfl) ?_; intro a hF
            refine h_val 12 #[true, true, true, true, true, true, true, true, true, true, true, true, true, false, false, false, false, false, false] rfl (by kernel_rfl) hF rfl rfl rfl (fun w hS => e_move hF rfl) (hM.pick [0] rfl rfl) ?_; intro a hF
            refine h_val 13 #[true, true, true, true, true, true, true, true, true, true, true, true, true, true, false, false, false, false, false] rfl (by kernel_rfl) hF rfl rfl rfl (fun w hS => e_sub hF rfl rfl) (hM.pick [0] rfl rfl) ?_; intro a hF
            refine h_val 14 #[true, true, true, true, true, true, true, true, true, true, true, true, true, true, true, false, false, false, false] rfl (by kernel_rfl) hF rfl rfl rfl (fun w hS => e_ia hF rfl rfl Try.underlying22 Try.sizeOf3 c21.1 c21.2) (hM.pick [0] rfl rfl) ?_; intro a hF
            refine h_val 15 #[true, true, true, true, true, true, true, true, true, true, true, true, true, true, true, true, false, false, false] rfl (by kernel_rfl) hF rfl rfl rfl (fun w hS => e_ldi (i := 0) (k := 0) hF hS rfl rfl rfl rfl rfl Try.isAgg3 c21.1 c21.2) (hM.pick [0] rfl rfl) ?_; intro a hF
            refine h_val 16 #[true, true, true, true, true, true, true, true, true, true, true, true, true, true, true, true, true, false, false] rfl (by kernel_rfl) hF rfl rfl rfl (fun w hS => e_lss hF rfl rfl) (hM.pick [0] rfl rfl) ?_; intro a hF
            refine h_val 17 #[true, true, true, true, true, true, true, true, true, true, true, true, true, true, true, true, true, true, false] rfl (by kernel_rfl) hF rfl rfl rfl (fun w hS => e_pick_t hF rfl rfl) (hM.pick [0] rfl rfl) ?_; intro a hF
            refine h_val 18 #[true, true, true, true, true, true, true, true, true, true, true, true, true, true, true, true, true, true, true] rfl (by kernel_rfl) hF rfl rfl rfl (fun w hS => e_pick_f hF rfl rfl) (hM.pick [0] rfl rfl) ?_; intro a hF
            refine h_done rfl ?_
            refine then_n ?_
            rcases ite_cases H with ⟨c22, H⟩ | ⟨c22, H⟩
            ·
              refine s_cond_t hF rfl (decide_eq_true c22) ?_
              refine wp_seq ?_
              refine s_region ?_
              refine s_val hF rfl rfl rfl (e_assign hF rfl) ?_; intro a hF
              refine s_nil ?_
              refine then_n ?_
              refine wp_ret ?_
              refine blk_r ?_
              refine then_r ?_
              refine then_r ?_
              exact Or.inr (⟨rfl, false, some_some H, hF.sub _ ⟨rfl, trivial⟩, hM.pick [] rfl rfl⟩)
            ·
              refine s_cond_f hF rfl (decide_eq_false c22) ?_
              refine wp_skip ?_
              refine blk_n ?_
              refine then_n ?_
              refine s_region ?_
              refine s_val hF rfl rfl rfl (e_move hF rfl) ?_; intro a hF
              refine s_val hF rfl rfl rfl (e_add hF rfl rfl) ?_; intro a hF
              refine s_val hF rfl rfl rfl (e_assign hF rfl) ?_; intro a hF
              refine s_nil ?_
              refine then_n ?_
              exact ⟨(wrap64 (x14 + 1)), H, hF.sub _ ⟨rfl, rfl, trivial⟩, hM.pick [0] rfl rfl⟩
          ·
            refine s_held (fun w => Ms [] w0 w [boxR b1 [Pt.ar a0] 22]) #[false, false, false, false, false, false, false, false, false, false, false, false, false, false, false, false, false, false, false] mixed rfl rfl hM ?_; intro w hf hM; clear hf
            refine h_val 0 #[true, false, false, false, false, false, false, false, false, false, false, false, false, false, false, false, false, false, false] rfl (by kernel_rfl) hF rfl rfl rfl (fun w hS => e_move hF rfl) (hM.pick [0] rfl rfl) ?_; intro a hF
            refine h_val 1 #[true, true, false, false, false, false, false, false, false, false, false, false, false, false, false, false, false, false, false] rfl (by kernel_rfl) hF rfl rfl rfl (fun w hS => e_ia hF rfl rfl Try.underlying22 Try.sizeOf3 c16.1 c16.2) (hM.pick [0] rfl rfl) ?_; intro a hF
            refine h_val 2 #[true, true, true, false, false, false, false, false, false, false, false, false, false, false, false, false, false, false, false] rfl (by kernel_rfl) hF rfl rfl rfl (fun w hS => e_ldi (i := 0) (k := 0) hF hS rfl rfl rfl rfl rfl Try.isAgg3 c16.1 c16.2) (hM.pick [0] rfl rfl) ?_; intro a hF
            refine h_one 3 #[true, true, true, true, false, false, false, false, false, false, false, false, false, false, false, false, false, false, false] rfl (by kernel_rfl) ?_
            refine s_call hF rfl rfl rfl Try.call48 (spec_l1In.calls K (a0.get x14) 0 30 t17 h18) ?_; intro a w v hF hf hR
            subst hR; have hM := hM.grow hf
            refine s_nil ⟨rfl, (hM.pick [0] rfl rfl), ?_⟩
            refine h_val 4 #[true, true, true, true, true, false, false, false, false, false, false, false, false, false, false, false, false, false, false] rfl (by kernel_rfl) hF rfl rfl rfl (fun w hS => e_not hF rfl) (hM.pick [0] rfl rfl) ?_; intro a hF
            refine h_val 5 #[true, true, true, true, true, true, false, false, false, false, false, false, false, false, false, false, false, false, false] rfl (by kernel_rfl) hF rfl rfl rfl (fun w hS => e_move hF rfl) (hM.pick [0] rfl rfl) ?_; intro a hF
            have hF := hF.topb (congrArg Bool.not c19)
            refine h_val 6 #[true, true, true, true, true, true, true, false, false, false, false, false, false, false, false, false, false, false, false] rfl (by kernel_rfl) hF rfl rfl rfl (fun w hS => e_move hF rfl) (hM.pick [0] rfl rfl) ?_; intro a hF
            refine h_val 7 #[true, true, true, true, true, true, true, true, false, false, false, false, false, false, false, false, false, false, false] rfl (by kernel_rfl) hF rfl rfl rfl (fun w hS => e_gtr hF rfl rfl) (hM.pick [0] rfl rfl) ?_; intro a hF
            refine h_val 8 #[true, true, true, true, true, true, true, true, true, false, false, false, false, false, false, false, false, false, false] rfl (by kernel_rfl) hF rfl rfl rfl (fun w hS => e_move hF rfl) (hM.pick [0] rfl rfl) ?_; intro a hF
            have hF := hF.topb (decide_eq_false c20)
            refine h_skip 9 #[true, true, true, true, true, true, true, true, true, true, false, false, false, false, false, false, false, false, false] rfl (by kernel_rfl) hF rfl rfl rfl (hM.pick [0] rfl rfl) ?_; intro a hF
            refine h_skip 10 #[true, true, true, true, true, true, true, true, true, true, true, false, false, false, false, false, false, false, false] rfl (by kernel_rfl) hF rfl rfl rfl (hM.pick [0] rfl rfl) ?_; intro a hF
            refine h_skip 11 #[true, true, true, true, true, true, true, true, true, true, true, true, false, false, false, false, false, false, false] rfl (by kernel_rfl) hF rfl rfl rfl (hM.pick [0] rfl rfl) ?_; intro a hF
            refine h_skip 12 #[true, true, true, true, true, true, true, true, true, true, true, true, true, false, false, false, false, false, false] rfl (by kernel_rfl) hF rfl rfl rfl (hM.pick [0] rfl rfl) ?_; intro a hF
            refine h_skip 13 #[true, true, true, true, true, true, true, true, true, true, true, true, true, true, false, false, false, false, false] rfl (by kernel_rfl) hF rfl rfl rfl (hM.pick [0] rfl rfl) ?_; intro a hF
            refine h_skip 14 #[true, true, true, true, true, true, true, true, true, true, true, true, true, true, true, false, false, false, false] rfl (by kernel_rfl) hF rfl rfl rfl (hM.pick [0] rfl rfl) ?_; intro a hF
            refine h_skip 15 #[true, true, true, true, true, true, true, true, true, true, true, true, true, true, true, true, false, false, false] rfl (by kernel_rfl) hF rfl rfl rfl (hM.pick [0] rfl rfl) ?_; intro a hF
            refine h_skip 16 #[true, true, true, true, true, true, true, true, true, true, true, true, true, true, true, true, true, false, false] rfl (by kernel_rfl) hF rfl rfl rfl (hM.pick [0] rfl rfl) ?_; intro a hF
            refine h_val 17 #[true, true, true, true, true, true, true, true, true, true, true, true, true, true, true, true, true, true, false] rfl (by kernel_rfl) hF rfl rfl rfl (fun w hS => e_pick_f hF rfl rfl) (hM.pick [0] rfl rfl) ?_; intro a hF
            refine h_val 18 #[true, true, true, true, true, true, true, true, true, true, true, true, true, true, true, true, true, true, true] rfl (by kernel_rfl) hF rfl rfl rfl (fun w hS => e_pick_f hF rfl rfl) (hM.pick [0] rfl rfl) ?_; intro a hF
            refine h_done rfl ?_
            refine then_n ?_
            refine s_cond_f hF rfl rfl ?_
            refine wp_skip ?_
            refine blk_n ?_
            refine then_n ?_
            refine s_region ?_
            refine s_val hF rfl rfl rfl (e_move hF rfl) ?_; intro a hF
            refine s_val hF rfl rfl rfl (e_add hF rfl rfl) ?_; intro a hF
            refine s_val hF rfl rfl rfl (e_assign hF rfl) ?_; intro a hF
            refine s_nil ?_
            refine then_n ?_
            exact ⟨(wrap64 (x14 + 1)), H, hF.sub _ ⟨rfl, rfl, trivial⟩, hM.pick [0] rfl rfl⟩
        ·
          refine s_held (fun w => Ms [] w0 w [boxR b1 [Pt.ar a0] 22]) #[false, false, false, false, false, false, false, false, false, false, false, false, false, false, false, false, false, false, false] mixed rfl rfl hM ?_; intro w hf hM; clear hf
          refine h_val 0 #[true, false, false, false, false, false, false, false, false, false, false, false, false, false, false, false, false, false, false] rfl (by kernel_rfl) hF rfl rfl rfl (fun w hS => e_move hF rfl) (hM.pick [0] rfl rfl) ?_; intro a hF
          refine h_val 1 #[true, true, false, false, false, false, false, false, false, false, false, false, false, false, false, false, false, false, false] rfl (by kernel_rfl) hF rfl rfl rfl (fun w hS => e_ia hF rfl rfl Try.underlying22 Try.sizeOf3 c16.1 c16.2) (hM.pick [0] rfl rfl) ?_; intro a hF
          refine h_val 2 #[true, true, true, false, false, false, false, false, false, false, false, false, false, false, false, false, false, false, false] rfl (by kernel_rfl) hF rfl rfl rfl (fun w hS => e_ldi (i := 0) (k := 0) hF hS rfl rfl rfl rfl rfl Try.isAgg3 c16.1 c16.2) (hM.pick [0] rfl rfl) ?_; intro a hF
          refine h_one 3 #[true, true, true, true, false, false, false, false, false, false, false, false, false, false, false, false, false, false, false] rfl (by kernel_rfl) ?_
          refine s_call hF rfl rfl rfl Try.call48 (spec_l1In.calls K (a0.get x14) 0 30 t17 h18) ?_; intro a w v hF hf hR
          subst hR; have hM := hM.grow hf
          refine s_nil ⟨rfl, (hM.pick [0] rfl rfl), ?_⟩
          refine h_val 4 #[true, true, true, true, true, false, false, false, false, false, false, false, false, false, false, false, false, false, false] rfl (by kernel_rfl) hF rfl rfl rfl (fun w hS => e_not hF rfl) (hM.pick [0] rfl rfl) ?_; intro a hF
          refine h_val 5 #[true, true, true, true, true, true, false, false, false, false, false, false, false, false, false, false, false, false, false] rfl (by kernel_rfl) hF rfl rfl rfl (fun w hS => e_move hF rfl) (hM.pick [0] rfl rfl) ?_; intro a hF
          have hF := hF.topb (congrArg Bool.not (bf c19))
          refine h_skip 6 #[true, true, true, true, true, true, true, false, false, false, false, false, false, false, false, false, false, false, false] rfl (by kernel_rfl) hF rfl rfl rfl (hM.pick [0] rfl rfl) ?_; intro a hF
          refine h_skip 7 #[true, true, true, true, true, true, true, true, false, false, false, false, false, false, false, false, false, false, false] rfl (by kernel_rfl) hF rfl rfl rfl (hM.pick [0] rfl rfl) ?_; intro a hF
          refine h_skip 8 #[true, true, true, true, true, true, true, true, true, false, false, false, false, false, false, false, false, false, false] rfl (by kernel_rfl) hF rfl rfl rfl (hM.pick [0] rfl rfl) ?_; intro a hF
          refine h_skip 9 #[true, true, true, true, true, true, true, true, true, true, false, false, false, false, false, false, false, false, false] rfl (by kernel_rfl) hF rfl rfl rfl (hM.pick [0] rfl rfl) ?_; intro a hF
          refine h_skip 10 #[true, true, true, true, true, true, true, true, true, true, true, false, false, false, false, false, false, false, false] rfl (by kernel_rfl) hF rfl rfl rfl (hM.pick [0] rfl rfl) ?_; intro a hF
          refine h_skip 11 #[true, true, true, true, true, true, true, true, true, true, true, true, false, false, false, false, false, false, false] rfl (by kernel_rfl) hF rfl rfl rfl (hM.pick [0] rfl rfl) ?_; intro a hF
          refine h_skip 12 #[true, true, true, true, true, true, true, true, true, true, true, true, true, false, false, false, false, false, false] rfl (by kernel_rfl) hF rfl rfl rfl (hM.pick [0] rfl rfl) ?_; intro a hF
          refine h_skip 13 #[true, true, true, true, true, true, true, true, true, true, true, true, true, true, false, false, false, false, false] rfl (by kernel_rfl) hF rfl rfl rfl (hM.pick [0] rfl rfl) ?_; intro a hF
          refine h_skip 14 #[true, true, true, true, true, true, true, true, true, true, true, true, true, true, true, false, false, false, false] rfl (by kernel_rfl) hF rfl rfl rfl (hM.pick [0] rfl rfl) ?_; intro a hF
          refine h_skip 15 #[true, true, true, true, true, true, true, true, true, true, true, true, true, true, true, true, false, false, false] rfl (by kernel_rfl) hF rfl rfl rfl (hM.pick [0] rfl rfl) ?_; intro a hF
          refine h_skip 16 #[true, true, true, true, true, true, true, true, true, true, true, true, true, true, true, true, true, false, false] rfl (by kernel_rfl) hF rfl rfl rfl (hM.pick [0] rfl rfl) ?_; intro a hF
          refine h_skip 17 #[true, true, true, true, true, true, true, true, true, true, true, true, true, true, true, true, true, true, false] rfl (by kernel_rfl) hF rfl rfl rfl (hM.pick [0] rfl rfl) ?_; intro a hF
          refine h_val 18 #[true, true, true, true, true, true, true, true, true, true, true, true, true, true, true, true, true, true, true] rfl (by kernel_rfl) hF rfl rfl rfl (fun w hS => e_pick_t hF rfl rfl) (hM.pick [0] rfl rfl) ?_; intro a hF
          refine h_done rfl ?_
          refine then_n ?_
          refine s_cond_t hF rfl rfl ?_
          refine wp_seq ?_
          refine s_region ?_
          refine s_val hF rfl rfl rfl (e_assign hF rfl) ?_; intro a hF
          refine s_nil ?_
          refine then_n ?_
          refine wp_ret ?_
          refine blk_r ?_
          refine then_r ?_
          refine then_r ?_
          exact Or.inr (⟨rfl, false, some_some H, hF.sub _ ⟨rfl, trivial⟩, hM.pick [] rfl rfl⟩)
      ·
        refine s_cond_f hF rfl (decide_eq_false c15) ?_
        refine wp_exit ?_
        refine then_x ?_
        refine then_x ?_
        exact Or.inl (⟨rfl, some_some H, hF.sub _ trivial, hM.pick [] rfl rfl⟩)
  · rintro e a w (⟨rfl, rfl, hF, hM⟩ | ⟨rfl, r25, rfl, hF, hM⟩)
    ·
      dsimp only at H
      refine blk_x ?_
      refine then_n ?_
      refine wp_seq ?_
      refine s_region ?_
      refine s_val hF rfl rfl rfl (e_assign hF rfl) ?_; intro a hF
      refine s_nil ?_
      refine then_n ?_
      refine wp_ret ?_
      obtain rfl := some_some H
      refine s_ret [Value.bool true] hF Try.results47 ⟨rfl, trivial⟩ ?_
      exact ⟨_, rfl, hM.frm, rfl⟩
    ·
      dsimp only at H
      refine blk_r ?_
      refine then_r ?_
      obtain rfl := some_some H
      refine s_ret [Value.bool r25] hF Try.results47 ⟨rfl, trivial⟩ ?_
      exact ⟨_, rfl, hM.frm, rfl⟩

/-! ### loop.example/g01210/spec.l2All: function 49 -/
def spec_l2All.l0 (K : Nat) (a0 : Int) : Nat → Int → Int → Option Int
  | 0, _, _ => none
  | k + 1, x6, x7 => if x7 < a0 then (spec_l2All.l0 K a0 k (wrap64 (x6 * 6)) (wrap64 (x7 + 1))) else (some x6)
def spec_l2All.f (K : Nat) (a0 : Int) : Option Int := (spec_l2All.l0 K a0 K 1 0).bind fun x5 => some x5
set_option maxRecDepth 100000 in
set_option maxHeartbeats 4000000 in
theorem spec_l2All.calls {w0 : World} (K : Nat) (a0 : Int) (r : Int) (H : spec_l2All.f K a0 = some r) : Calls Try.prog 49 [Value.int .i64 a0].toArray w0 (Post w0 fun w v => v = Value.int .i64 r) := by
  rw [spec_l2All.f] at H
  refine s_start Try.func49 rfl Try.ntmps49 rfl ?_
  intro a hF
  have hM := Ms.start w0
  skip
  refine wp_seq ?_
  refine s_region ?_
  refine s_val hF rfl rfl rfl (e_assign hF rfl) ?_; intro a hF
  refine s_nil ?_
  refine then_n ?_
  refine wp_seq ?_
  refine s_region ?_
  refine s_val hF rfl rfl rfl (e_assign hF rfl) ?_; intro a hF
  refine s_nil ?_
  refine then_n ?_
  refine wp_seq ?_
  refine wp_seq ?_
  refine s_region ?_
  refine s_val hF rfl rfl rfl (e_assign hF rfl) ?_; intro a hF
  refine s_nil ?_
  refine then_n ?_
  refine wp_block ?_
  obtain ⟨o9, h10, H⟩ := bind_some H
  refine wp_mono (Q := fun e a w => (e = Exit.exit 0 ∧ ∃ x5 : Int, x5 = o9 ∧ Fr 13 a [(3, Value.int .i64 x5)] ∧ Ms [] w0 w [])) ?_ ?_
  · refine s_loop (fun kq a w => ∃ x6 : Int, ∃ x7 : Int, spec_l2All.l0 K a0 kq x6 x7 = some o9 ∧ Fr 13 a [(0, Value.int .i64 a0), (3, Value.int .i64 x6), (4, Value.int .i64 x7)] ∧ Ms [] w0 w []) K ⟨1, 0, h10, hF.sub _ ⟨rfl, rfl, rfl, trivial⟩, hM.pick [] rfl rfl⟩ ?_ ?_
    · rintro a w ⟨_, _, H, _⟩; exact none_some H
    · rintro k a w ⟨x6, x7, H, hF, hM⟩; rw [spec_l2All.l0] at H
      refine wp_seq ?_
      refine wp_seq ?_
      refine s_region ?_
      refine s_val hF rfl rfl rfl (e_move hF rfl) ?_; intro a hF
      refine s_val hF rfl rfl rfl (e_move hF rfl) ?_; intro a hF
      refine s_val hF rfl rfl rfl (e_lss hF rfl rfl) ?_; intro a hF
      refine s_nil ?_
      refine then_n ?_
      rcases ite_cases H with ⟨c8, H⟩ | ⟨c8, H⟩
      ·
        refine s_cond_t hF rfl (decide_eq_true c8) ?_
        refine wp_skip ?_
        refine then_n ?_
        refine wp_seq ?_
        refine wp_block ?_
        refine s_region ?_
        refine s_val hF rfl rfl rfl (e_move hF rfl) ?_; intro a hF
        refine s_val hF rfl rfl rfl (e_mul hF rfl rfl) ?_; intro a hF
        refine s_val hF rfl rfl rfl (e_assign hF rfl) ?_; intro a hF
        refine s_nil ?_
        refine blk_n ?_
        refine then_n ?_
        refine s_region ?_
        refine s_val hF rfl rfl rfl (e_move hF rfl) ?_; intro a hF
        refine s_val hF rfl rfl rfl (e_add hF rfl rfl) ?_; intro a hF
        refine s_val hF rfl rfl rfl (e_assign hF rfl) ?_; intro a hF
        refine s_nil ?_
        refine then_n ?_
        exact ⟨(wrap64 (x6 * 6)), (wrap64 (x7 + 1)), H, hF.sub _ ⟨rfl, rfl, rfl, trivial⟩, hM.pick [] rfl rfl⟩
      ·
        refine s_cond_f hF rfl (decide_eq_false c8) ?_
        refine wp_exit ?_
        refine then_x ?_
        refine then_x ?_
        exact ⟨rfl, x6, some_some H, hF.sub _ ⟨rfl, trivial⟩, hM.pick [] rfl rfl⟩
  · rintro e a w ⟨rfl, x5, rfl, hF, hM⟩
    skip
    refine blk_x ?_
    refine then_n ?_
    refine wp_seq ?_
    refine s_region ?_
    refine s_val hF rfl rfl rfl (e_move hF rfl) ?_; intro a hF
    refine s_val hF rfl rfl rfl (e_assign hF rfl) ?_; intro a hF
    refine s_nil ?_
    refine then_n ?_
    refine wp_ret ?_
    obtain rfl := some_some H
    refine s_ret [Value.int .i64 x5] hF Try.results49 ⟨rfl, trivial⟩ ?_
    exact ⟨_, rfl, hM.frm, rfl⟩

/-! ### loop.example/g01210/spec.BurstTable: function 15 -/
def spec_BurstTable.l12 (K : Nat) (a0 : (Ar 6)) (a1 : Int) (x319 : Int) (x320 : (Ar 121)) (x421 : Int) : Nat → Int → (Ar 121) → (Ar 121) → Option ((Ar 121) × (Ar 121))
  | 0, _, _, _ => none
  | k + 1, x454, x455, x456 => if x454 < 6 then (if (0 : Int) ≤ x421 ∧ x421 < 121 then (if (x320.get x421) = 0 then (spec_BurstTable.l12 K a0 a1 x319 x320 x421 k (wrap64 (x454 + 1)) x455 x456) else (if (0 : Int) ≤ x454 ∧ x454 < 6 then (if (a0.get x454) = (a0.get 5) then (if x319 < a1 then (if (0 : Int) ≤ (wrap64 (x421 + (a0.get x454))) ∧ (wrap64 (x421 + (a0.get x454))) < 121 then (spec_BurstTable.l12 K a0 a1 x319 x320 x421 k (wrap64 (x454 + 1)) x455 (x456.set (wrap64 (x421 + (a0.get x454))) (wrap64 ((x456.get (wrap64 (x421 + (a0.get x454)))) + (x320.get x421))))) else none) else (if (0 : Int) ≤ (wrap64 (x421 + (a0.get x454))) ∧ (wrap64 (x421 + (a0.get x454))) < 121 then ((spec_l2All.f K (wrap64 (a1 - x319))).bind fun t465 => spec_BurstTable.l12 K a0 a1 x319 x320 x421 k (wrap64 (x454 + 1)) (x455.set (wrap64 (x421 + (a0.get x454))) (wrap64 ((x455.get (wrap64 (x421 + (a0.get x454)))) + (wrap64 ((x320.get x421) * t465))))) x456) else none)) else (if (0 : Int) ≤ (wrap64 (x421 + (a0.get x454))) ∧ (wrap64 (x421 + (a0.get x454))) < 121 then ((spec_l2All.f K (wrap64 (a1 - x319))).bind fun t468 => spec_BurstTable.l12 K a0 a1 x319 x320 x421 k (wrap64 (x454 + 1)) (x455.set (wrap64 (x421 + (a0.get x454))) (wrap64 ((x455.get (wrap64 (x421 + (a0.get x454)))) + (wrap64 ((x320.get x421) * t468))))) x456) else none)) else none)) else none) else (some (x455, x456))
def spec_BurstTable.l11 (K : Nat) (a0 : (Ar 6)) (a1 : Int) (x319 : Int) (x320 : (Ar 121)) : Nat → Int → (Ar 121) → (Ar 121) → Option ((Ar 121) × (Ar 121))
  | 0, _, _, _ => none
  | k + 1, x421, x422, x423 => if x421 < 121 then ((spec_BurstTable.l12 K a0 a1 x319 x320 x421 K 0 x422 x423).bind fun (x452, x453) => spec_BurstTable.l11 K a0 a1 x319 x320 k (wrap64 (x421 + 1)) x452 x453) else (some (x422, x423))
def spec_BurstTable.l8 (K : Nat) (a0 : (Ar 6)) (a1 : Int) : Nat → Int → (Ar 121) → (Ar 121) → Option (Ar 121)
  | 0, _, _, _ => none
  | k + 1, x319, x320, x321 => if x319 ≤ a1 then ((spec_BurstTable.l11 K a0 a1 x319 x320 K 0 x321 (Ar.zero 121)).bind fun (x419, x420) => spec_BurstTable.l8 K a0 a1 k (wrap64 (x319 + 1)) x420 x419) else (some x321)
def spec_BurstTable.f (K : Nat) (a0 : (Ar 6)) (a1 : Int) : Option ((Ar 121) × Bool) := (spec_l2Die.f K a0).bind fun t3 => if t3 = true then ((spec_l1In.f K a1 0 3).bind fun t6 => if t6 = true then ((spec_BurstTable.l8 K a0 a1 K 0 ((Ar.zero 121).set 0 1) (Ar.zero 121)).bind fun x318 => some (x318, true)) else (some ((Ar.zero 121), false))) else (some ((Ar.zero 121), false))
set_option maxRecDepth 100000 in
set_option maxHeartbeats 4000000 in
theorem spec_BurstTable.calls {w0 : World} (K : Nat) (a0 : (Ar 6)) (a1 : Int) (r : ((Ar 121) × Bool)) (H : spec_BurstTable.f K a0 a1 = some r) : Calls Try.prog 15 [ag [Pt.ar a0], Value.int .i64 a1].toArray w0 (Post w0 fun w v => v = Value.tuple #[ag [Pt.ar r.1], Value.bool r.2]) := by
  rw [spec_BurstTable.f] at H
  refine s_start Try.func15 rfl Try.ntmps15 rfl ?_
  intro a hF
  have hM := Ms.start w0
  skip
  refine wp_seq ?_
  refine s_region ?_
  refine s_box (ps := [Pt.ar a0]) hF hM rfl rfl rfl rfl ?_; intro a w b1 hF hM
  refine s_alloc (ps := [Pt.ar (Ar.zero 121)]) hF hM rfl rfl zv23 rfl ?_; intro a w b2 hF hM
  refine s_val hF rfl rfl rfl (e_assign hF rfl) ?_; intro a hF
  refine s_nil ?_
  refine then_n ?_
  refine wp_seq ?_
  refine wp_seq ?_
  obtain ⟨t3, h4, H⟩ := bind_some H
  rcases ite_cases H with ⟨c5, H⟩ | ⟨c5, H⟩
  ·
    obtain ⟨t6, h7, H⟩ := bind_some H
    refine s_region ?_
    refine s_val hF rfl rfl rfl (e_lda (i := 1) 0 1 hF hM rfl rfl rfl rfl Try.isAgg22 Try.sizeOf22 rfl) ?_; intro a hF
    refine s_call hF rfl rfl rfl Try.call47 (spec_l2Die.calls K a0 t3 h4) ?_; intro a w v hF hf hR
    subst hR; have hM := hM.grow hf
    refine s_val hF rfl rfl rfl (e_not hF rfl) ?_; intro a hF
    refine s_val hF rfl rfl rfl (e_move hF rfl) ?_; intro a hF
    have hF := hF.topb (congrArg Bool.not c5)
    refine s_val hF rfl rfl rfl (e_move hF rfl) ?_; intro a hF
    refine s_call hF rfl rfl rfl Try.call48 (spec_l1In.calls K a1 0 3 t6 h7) ?_; intro a w v hF hf hR
    subst hR; have hM := hM.grow hf
    refine s_val hF rfl rfl rfl (e_not hF rfl) ?_; intro a hF
    refine s_val hF rfl rfl rfl (e_pick_f hF rfl rfl) ?_; intro a hF
    refine s_nil ?_
    refine then_n ?_
    rcases ite_cases H with ⟨c8, H⟩ | ⟨c8, H⟩
    ·
      refine s_cond_f hF rfl (congrArg Bool.not c8) ?_
      refine wp_skip ?_
      refine then_n ?_
      refine wp_seq ?_
      refine s_region ?_
      refine s_val hF rfl rfl rfl (e_build' (cells := cat [Pt.ar ((Ar.zero 121).set 0 1)]) hF rfl (by kernel_rfl)) ?_; intro a hF
      refine s_val hF rfl rfl rfl (e_build' (cells := cat [Pt.ar (Ar.zero 121)]) hF rfl (by kernel_rfl)) ?_; intro a hF
      refine s_alloc (ps := [Pt.ar (Ar.zero 121)]) hF hM rfl rfl zv23 rfl ?_; intro a w b9 hF hM
      refine s_alloc (ps := [Pt.ar (Ar.zero 121)]) hF hM rfl rfl zv23 rfl ?_; intro a w b10 hF hM
      refine s_stw (i := 1) (ps' := [Pt.ar ((Ar.zero 121).set 0 1)]) hF hM rfl rfl rfl rfl rfl rfl Try.sizeOf23 rfl ?_; intro a w hF hM
      refine s_stw (i := 0) (ps' := [Pt.ar (Ar.zero 121)]) hF hM rfl rfl rfl rfl rfl rfl Try.sizeOf23 rfl ?_; intro a w hF hM
      refine s_nil ?_
      refine then_n ?_
      refine wp_seq ?_
      refine wp_seq ?_
      refine s_region ?_
      refine s_val hF rfl rfl rfl (e_assign hF rfl) ?_; intro a hF
      refine s_nil ?_
      refine then_n ?_
      refine wp_block ?_
      obtain ⟨o474, h475, H⟩ := bind_some H
      refine wp_mono (Q := fun e a w => (e = Exit.exit 0 ∧ ∃ x318 : (Ar 121), x318 = o474 ∧ Fr 93 a [(4, pt b2 0), (7, pt b10 0)] ∧ Ms [] w0 w [boxR b2 [Pt.ar (Ar.zero 121)] 23, boxR b10 [Pt.ar x318] 23])) ?_ ?_
      · refine s_loop (fun kq a w => ∃ x319 : Int, ∃ x320 : (Ar 121), ∃ x321 : (Ar 121), spec_BurstTable.l8 K a0 a1 kq x319 x320 x321 = some o474 ∧ Fr 93 a [(1, Value.int .i64 a1), (2, pt b1 0), (4, pt b2 0), (6, pt b9 0), (7, pt b10 0), (8, Value.int .i64 x319)] ∧ Ms [] w0 w [boxR b1 [Pt.ar a0] 22, boxR b2 [Pt.ar (Ar.zero 121)] 23, boxR b9 [Pt.ar x320] 23, boxR b10 [Pt.ar x321] 23]) K ⟨0, ((Ar.zero 121).set 0 1), (Ar.zero 121), h475, hF.sub _ ⟨rfl, rfl, rfl, rfl, rfl, rfl, trivial⟩, hM.pick [3, 2, 1, 0] rfl rfl⟩ ?_ ?_
        · rintro a w ⟨_, _, _, H, _⟩; exact none_some H
        · rintro k a w ⟨x319, x320, x321, H, hF, hM⟩; rw [spec_BurstTable.l8] at H
          refine wp_seq ?_
          refine wp_seq ?_
          refine s_region ?_
          refine s_val hF rfl rfl rfl (e_move hF rfl) ?_; intro a hF
          refine s_val hF rfl rfl rfl (e_move hF rfl) ?_; intro a hF
          refine s_val hF rfl rfl rfl (e_leq hF rfl rfl) ?_; intro a hF
          refine s_nil ?_
          refine then_n ?_
          rcases ite_cases H with ⟨c322, H⟩ | ⟨c322, H⟩
          ·
            refine s_cond_t hF rfl (decide_eq_true c322) ?_
            refine wp_skip ?_
            refine then_n ?_
            refine wp_seq ?_
            refine wp_block ?_
            refine wp_seq ?_
            refine s_region ?_
            refine s_val hF rfl rfl rfl (e_build' (cells := cat [Pt.ar (Ar.zero 121)]) hF rfl (by kernel_rfl)) ?_; intro a hF
            refine s_alloc (ps := [Pt.ar (Ar.zero 121)]) hF hM rfl rfl zv23 rfl ?_; intro a w b323 hF hM
            refine s_stw (i := 0) (ps' := [Pt.ar (Ar.zero 121)]) hF hM rfl rfl rfl rfl rfl rfl Try.sizeOf23 rfl ?_; intro a w hF hM
            refine s_nil ?_
            refine then_n ?_
            refine wp_seq ?_
            refine wp_seq ?_
            refine s_region ?_
            refine s_val hF rfl rfl rfl (e_assign hF rfl) ?_; intro a hF
            refine s_nil ?_
            refine then_n ?_
            refine wp_block ?_
            obtain ⟨o472, h473, H⟩ := bind_some H
            refine wp_mono (Q := fun e a w => (e = Exit.exit 2 ∧ ∃ x419 : (Ar 121), ∃ x420 : (Ar 121), (x419, x420) = o472 ∧ Fr 93 a [(1, Value.int .i64 a1), (2, pt b1 0), (4, pt b2 0), (6, pt b9 0), (7, pt b10 0), (8, Value.int .i64 x319), (9, pt b323 0)] ∧ Ms [] w0 w [boxR b1 [Pt.ar a0] 22, boxR b2 [Pt.ar (Ar.zero 121)] 23, boxR b9 [Pt.ar x320] 23, boxR b10 [Pt.ar x419] 23, boxR b323 [Pt.ar x420] 23])) ?_ ?_
            · refine s_loop (fun kq a w => ∃ x421 : Int, ∃ x422 : (Ar 121), ∃ x423 : (Ar 121), spec_BurstTable.l11 K a0 a1 x319 x320 kq x421 x422 x423 = some o472 ∧ Fr 93 a [(1, Value.int .i64 a1), (2, pt b1 0), (4, pt b2 0), (6, pt b9 0), (7, pt b10 0), (8, Value.int .i64 x319), (9, pt b323 0), (10, Value.int .i64 x421)] ∧ Ms [] w0 w [boxR b1 [Pt.ar a0] 22, boxR b2 [Pt.ar (Ar.zero 121)] 23, boxR b9 [Pt.ar x320] 23, boxR b10 [Pt.ar x422] 23, boxR b323 [Pt.ar x423] 23]) K ⟨0, x321, (Ar.zero 121), h473, hF.sub _ ⟨rfl, rfl, rfl, rfl, rfl, rfl, rfl, rfl, trivial⟩, hM.pick [1, 2, 3, 4, 0] rfl rfl⟩ ?_ ?_
              · rintro a w ⟨_, _, _, H, _⟩; exact none_some H
              · rintro k a w ⟨x421, x422, x423, H, hF, hM⟩; rw [spec_BurstTable.l11] at H
                refine wp_seq ?_
                refine wp_seq ?_
                refine s_region ?_
                refine s_val hF rfl rfl rfl (e_move hF rfl) ?_; intro a hF
                refine s_val hF rfl rfl rfl (e_lss hF rfl rfl) ?_; intro a hF
                refine s_nil ?_
                refine then_n ?_
                rcases ite_cases H with ⟨c424, H⟩ | ⟨c424, H⟩
                ·
                  refine s_cond_t hF rfl (decide_eq_true c424) ?_
                  refine wp_skip ?_
                  refine then_n ?_
                  refine wp_seq ?_
                  refine wp_block ?_
                  refine wp_seq ?_
                  refine s_region ?_
                  refine s_val hF rfl rfl rfl (e_assign hF rfl) ?_; intro a hF
                  refine s_nil ?_
                  refine then_n ?_
                  refine wp_block ?_
                  obtain ⟨o470, h471, H⟩ := bind_some H
                  refine wp_mono (Q := fun e a w => (e = Exit.exit 4 ∧ ∃ x452 : (Ar 121), ∃ x453 : (Ar 121), (x452, x453) = o470 ∧ Fr 93 a [(1, Value.int .i64 a1), (2, pt b1 0), (4, pt b2 0), (6, pt b9 0), (7, pt b10 0), (8, Value.int .i64 x319), (9, pt b323 0), (10, Value.int .i64 x421)] ∧ Ms [] w0 w [boxR b1 [Pt.ar a0] 22, boxR b2 [Pt.ar (Ar.zero 121)] 23, boxR b9 [Pt.ar x320] 23, boxR b10 [Pt.ar x452] 23, boxR b323 [Pt.ar x453] 23])) ?_ ?_
                  · refine s_loop (fun kq a w => ∃ x454 : Int, ∃ x455 : (Ar 121), ∃ x456 : (Ar 121), spec_BurstTable.l12 K a0 a1 x319 x320 x421 kq x454 x455 x456 = some o470 ∧ Fr 93 a [(1, Value.int .i64 a1), (2, pt b1 0), (4, pt b2 0), (6, pt b9 0), (7, pt b10 0), (8, Value.int .i64 x319), (9, pt b323 0), (10, Value.int .i64 x421), (11, Value.int .i64 x454)] ∧ Ms [] w0 w [boxR b1 [Pt.ar a0] 22, boxR b2 [Pt.ar (Ar.zero 121)] 23, boxR b9 [Pt.ar x320] 23, boxR b10 [Pt.ar x455] 23, boxR b323 [Pt.ar x456] 23]) K ⟨0, x422, x423, h471, hF.sub _ ⟨rfl, rfl, rfl, rfl, rfl, rfl, rfl, rfl, rfl, trivial⟩, hM.pick [0, 1, 2, 3, 4] rfl rfl⟩ ?_ ?_
                    · rintro a w ⟨_, _, _, H, _⟩; exact none_some H
                    · rintro k a w ⟨x454, x455, x456, H, hF, hM⟩; rw [spec_BurstTable.l12] at H
                      refine wp_seq ?_
                      refine wp_seq ?_
                      refine s_region ?_
                      refine s_val hF rfl rfl rfl (e_move hF rfl) ?_; intro a hF
                      refine s_val hF rfl rfl rfl (e_lss hF rfl rfl) ?_; intro a hF
                      refine s_nil ?_
                      refine then_n ?_
                      rcases ite_cases H with ⟨c457, H⟩ | ⟨c457, H⟩
                      ·
                        refine s_cond_t hF rfl (decide_eq_true c457) ?_
                        refine wp_skip ?_
                        refine then_n ?_
                        refine wp_seq ?_
                        refine wp_block ?_
                        refine wp_seq ?_
                        refine wp_seq ?_
                        obtain ⟨c458, H⟩ := ite_some H
                        refine s_region ?_
                        refine s_val hF rfl rfl rfl (e_move hF rfl) ?_; intro a hF
                        refine s_val hF rfl rfl rfl (e_ia hF rfl rfl Try.underlying23 Try.sizeOf3 c458.1 c458.2) ?_; intro a hF
                        refine s_val hF rfl rfl rfl (e_ldi (i := 2) (k := 0) hF hM rfl rfl rfl rfl rfl Try.isAgg3 c458.1 c458.2) ?_; intro a hF
                        refine s_val hF rfl rfl rfl (e_eql hF rfl rfl) ?_; intro a hF
                        refine s_nil ?_
                        refine then_n ?_
                        rcases ite_cases H with ⟨c459, H⟩ | ⟨c459, H⟩
                        ·
                          refine s_cond_t hF rfl (decide_eq_true c459) ?_
                          refine wp_exit ?_
                          refine then_x ?_
                          refine blk_x ?_
                          refine then_n ?_
                          refine s_region ?_
                          refine s_val hF rfl rfl rfl (e_move hF rfl) ?_; intro a hF
                          refine s_val hF rfl rfl rfl (e_add hF rfl rfl) ?_; intro a hF
                          refine s_val hF rfl rfl rfl (e_assign hF rfl) ?_; intro a hF
                          refine s_nil ?_
                          refine then_n ?_
                          exact ⟨(wrap64 (x454 + 1)), x455, x456, H, hF.sub _ ⟨rfl, rfl, rfl, rfl, rfl, rfl, rfl, rfl, rfl, trivial⟩, hM.pick [0, 1, 2, 3, 4] rfl rfl⟩
                        ·
                          refine s_cond_f hF rfl (decide_eq_false c459) ?_
                          refine wp_skip ?_
                          refine then_n ?_
                          refine wp_seq ?_
                          obtain ⟨c460, H⟩ := ite_some H
                          rcases ite_cases H with ⟨c461, H⟩ | ⟨c461, H⟩
                          ·
                            refine s_held (fun w => Ms [] w0 w [boxR b1 [Pt.ar a0] 22, boxR b2 [Pt.ar (Ar.zero 121)] 23, boxR b9 [Pt.ar x320] 23, boxR b10 [Pt.ar x455] 23, boxR b323 [Pt.ar x456] 23]) #[false, false, false, false, false, false, false, false, false, false, false] mixed rfl rfl hM ?_; intro w hf hM; clear hf
                            refine h_val 0 #[true, false, false, false, false, false, false, false, false, false, false] rfl (by kernel_rfl) hF rfl rfl rfl (fun w hS => e_move hF rfl) (hM.pick [0, 1, 2, 3, 4] rfl rfl) ?_; intro a hF
                            refine h_val 1 #[true, true, false, false, false, false, false, false, false, false, false] rfl (by kernel_rfl) hF rfl rfl rfl (fun w hS => e_ia hF rfl rfl Try.underlying22 Try.sizeOf3 c460.1 c460.2) (hM.pick [0, 1, 2, 3, 4] rfl rfl) ?_; intro a hF
                            refine h_val 2 #[true, true, true, false, false, false, false, false, false, false, false] rfl (by kernel_rfl) hF rfl rfl rfl (fun w hS => e_ldi (i := 0) (k := 0) hF hS rfl rfl rfl rfl rfl Try.isAgg3 c460.1 c460.2) (hM.pick [0, 1, 2, 3, 4] rfl rfl) ?_; intro a hF
                            refine h_val 3 #[true, true, true, true, false, false, false, false, false, false, false] rfl (by kernel_rfl) hF rfl rfl rfl (fun w hS => e_ia hF rfl rfl Try.underlying22 Try.sizeOf3 (by decide) (by decide)) (hM.pick [0, 1, 2, 3, 4] rfl rfl) ?_; intro a hF
                            refine h_val 4 #[true, true, true, true, true, false, false, false, false, false, false] rfl (by kernel_rfl) hF rfl rfl rfl (fun w hS => e_ldi (i := 0) (k := 0) hF hS rfl rfl rfl rfl rfl Try.isAgg3 (by decide) (by decide)) (hM.pick [0, 1, 2, 3, 4] rfl rfl) ?_; intro a hF
                            refine h_val 5 #[true, true, true, true, true, true, false, false, false, false, false] rfl (by kernel_rfl) hF rfl rfl rfl (fun w hS => e_eql hF rfl rfl) (hM.pick [0, 1, 2, 3, 4] rfl rfl) ?_; intro a hF
                            refine h_val 6 #[true, true, true, true, true, true, true, false, false, false, false] rfl (by kernel_rfl) hF rfl rfl rfl (fun w hS => e_move hF rfl) (hM.pick [0, 1, 2, 3, 4] rfl rfl) ?_; intro a hF
                            have hF := hF.topb (decide_eq_true c461)
                            refine h_val 7 #[true, true, true, true, true, true, true, true, false, false, false] rfl (by kernel_rfl) hF rfl rfl rfl (fun w hS => e_move hF rfl) (hM.pick [0, 1, 2, 3, 4] rfl rfl) ?_; intro a hF
                            refine h_val 8 #[true, true, true, true, true, true, true, true, true, false, false] rfl (by kernel_rfl) hF rfl rfl rfl (fun w hS => e_move hF rfl) (hM.pick [0, 1, 2, 3, 4] rfl rfl) ?_; intro a hF
                            refine h_val 9 #[true, true, true, true, true, true, true, true, true, true, false] rfl (by kernel_rfl) hF rfl rfl rfl (fun w hS => e_lss hF rfl rfl) (hM.pick [0, 1, 2, 3, 4] rfl rfl) ?_; intro a hF
                            refine h_val 10 #[true, true, true, true, true, true, true, true, true, true, true] rfl (by kernel_rfl) hF rfl rfl rfl (fun w hS => e_pick_t hF rfl rfl) (hM.pick [0, 1, 2, 3, 4] rfl rfl) ?_; intro a hF
                            refine h_done rfl ?_
                            refine then_n ?_
                            rcases ite_cases H with ⟨c462, H⟩ | ⟨c462, H⟩
                            ·
                              refine s_cond_t hF rfl (decide_eq_true c462) ?_
                              obtain ⟨c463, H⟩ := ite_some H
                              refine s_held (fun w => Ms [] w0 w [boxR b1 [Pt.ar a0] 22, boxR b2 [Pt.ar (Ar.zero 121)] 23, boxR b9 [Pt.ar x320] 23, boxR b10 [Pt.ar x455] 23]) #[false, false, false, false, false, false, false, false, false, false, false, false, false, false, false, false, false, false] mixed rfl rfl hM ?_; intro w hf hM; clear hf
                              refine h_val 0 #[true, false, false, false, false, false, false, false, false, false, false, false, false, false, false, false, false, false] rfl (by kernel_rfl) hF rfl rfl rfl (fun w hS => e_move hF rfl) (hM.pick [0, 1, 2, 3] rfl rfl) ?_; intro a hF
                              refine h_val 1 #[true, true, false, false, false, false, false, false, false, false, false, false, false, false, false, false, false, false] rfl (by kernel_rfl) hF rfl rfl rfl (fun w hS => e_move hF rfl) (hM.pick [0, 1, 2, 3] rfl rfl) ?_; intro a hF
                              refine h_val 2 #[true, true, true, false, false, false, false, false, false, false, false, false, false, false, false, false, false, false] rfl (by kernel_rfl) hF rfl rfl rfl (fun w hS => e_ia hF rfl rfl Try.underlying22 Try.sizeOf3 c460.1 c460.2) (hM.pick [0, 1, 2, 3] rfl rfl) ?_; intro a hF
                              refine h_val 3 #[true, true, true, true, false, false, false, false, false, false, false, false, false, false, false, false, false, false] rfl (by kernel_rfl) hF rfl rfl rfl (fun w hS => e_ldi (i := 0) (k := 0) hF hS rfl rfl rfl rfl rfl Try.isAgg3 c460.1 c460.2) (hM.pick [0, 1, 2, 3] rfl rfl) ?_; intro a hF
                              refine h_val 4 #[true, true, true, true, true, false, false, false, false, false, false, false, false, false, false, false, false, false] rfl (by kernel_rfl) hF rfl rfl rfl (fun w hS => e_add hF rfl rfl) (hM.pick [0, 1, 2, 3] rfl rfl) ?_; intro a hF
                              refine h_val 5 #[true, true, true, true, true, true, false, false, false, false, false, false, false, false, false, false, false, false] rfl (by kernel_rfl) hF rfl rfl rfl (fun w hS => e_move hF rfl) (hM.pick [0, 1, 2, 3] rfl rfl) ?_; intro a hF
                              refine h_val 6 #[true, true, true, true, true, true, true, false, false, false, false, false, false, false, false, false, false, false] rfl (by kernel_rfl) hF rfl rfl rfl (fun w hS => e_move hF rfl) (hM.pick [0, 1, 2, 3] rfl rfl) ?_; intro a hF
                              refine h_val 7 #[true, true, true, true, true, true, true, true, false, false, false, false, false, false, false, false, false, false] rfl (by kernel_rfl) hF rfl rfl rfl (fun w hS => e_ia hF rfl rfl Try.underlying22 Try.sizeOf3 c460.1 c460.2) (hM.pick [0, 1, 2, 3] rfl rfl) ?_; intro a hF
                              refine h_val 8 #[true, true, true, true, true, true, true, true, true, false, false, false, false, false, false, false, false, false] rfl (by kernel_rfl) hF rfl rfl rfl (fun w hS => e_ldi (i := 0) (k := 0) hF hS rfl rfl rfl rfl rfl Try.isAgg3 c460.1 c460.2) (hM.pick [0, 1, 2, 3] rfl rfl) ?_; intro a hF
                              refine h_val 9 #[true, true, true, true, true, true, true, true, true, true, false, false, false, false, false, false, false, false] rfl (by kernel_rfl) hF rfl rfl rfl (fun w hS => e_add hF rfl rfl) (hM.pick [0, 1, 2, 3] rfl rfl) ?_; intro a hF
                              refine h_val 10 #[true, true, true, true, true, true, true, true, true, true, true, false, false, false, false, false, false, false] rfl (by kernel_rfl) hF rfl rfl rfl (fun w hS => e_ia hF rfl rfl Try.underlying23 Try.sizeOf3 c463.1 c463.2) (hM.pick [0, 1, 2, 3] rfl rfl) ?_; intro a hF
                              refine h_val 12 #[true, true, true, true, true, true, true, true, true, true, true, false, true, false, false, false, false, false] rfl (by kernel_rfl) hF rfl rfl rfl (fun w hS => e_move hF rfl) (hM.pick [0, 1, 2, 3] rfl rfl) ?_; intro a hF
                              refine h_val 13 #[true, true, true, true, true, true, true, true, true, true, true, false, true, true, false, false, false, false] rfl (by kernel_rfl) hF rfl rfl rfl (fun w hS => e_ia hF rfl rfl Try.underlying23 Try.sizeOf3 c458.1 c458.2) (hM.pick [0, 1, 2, 3] rfl rfl) ?_; intro a hF
                              refine h_val 14 #[true, true, true, true, true, true, true, true, true, true, true, false, true, true, true, false, false, false] rfl (by kernel_rfl) hF rfl rfl rfl (fun w hS => e_ldi (i := 2) (k := 0) hF hS rfl rfl rfl rfl rfl Try.isAgg3 c458.1 c458.2) (hM.pick [0, 1, 2, 3] rfl rfl) ?_; intro a hF
                              refine h_one 11 #[true, true, true, true, true, true, true, true, true, true, true, true, true, true, true, false, false, false] rfl (by kernel_rfl) ?_
                              refine s_val hF rfl rfl rfl (e_ldi (i := 4) (k := 0) hF hM rfl rfl rfl rfl rfl Try.isAgg3 c463.1 c463.2) ?_; intro a hF
                              refine s_nil ⟨rfl, (hM.pick [0, 1, 2, 3] rfl rfl), ?_⟩
                              refine h_val 15 #[true, true, true, true, true, true, true, true, true, true, true, true, true, true, true, true, false, false] rfl (by kernel_rfl) hF rfl rfl rfl (fun w hS => e_add hF rfl rfl) (hM.pick [0, 1, 2, 3] rfl rfl) ?_; intro a hF
                              refine h_val 16 #[true, true, true, true, true, true, true, true, true, true, true, true, true, true, true, true, true, false] rfl (by kernel_rfl) hF rfl rfl rfl (fun w hS => e_ia hF rfl rfl Try.underlying23 Try.sizeOf3 c463.1 c463.2) (hM.pick [0, 1, 2, 3] rfl rfl) ?_; intro a hF
                              refine h_one 17 #[true, true, true, true, true, true, true, true, true, true, true, true, true, true, true, true, true, true] rfl (by kernel_rfl) ?_
                              refine s_sti (i := 4) (k := 0) hF hM rfl rfl rfl rfl rfl rfl rfl Try.sizeOf3 c463.1 c463.2 ?_; intro a w hF hM
                              refine s_nil ⟨rfl, (hM.pick [0, 1, 2, 3] rfl rfl), ?_⟩
                              refine h_done rfl ?_
                              refine blk_n ?_
                              refine then_n ?_
                              refine s_region ?_
                              refine s_val hF rfl rfl rfl (e_move hF rfl) ?_; intro a hF
                              refine s_val hF rfl rfl rfl (e_add hF rfl rfl) ?_; intro a hF
                              refine s_val hF rfl rfl rfl (e_assign hF rfl) ?_; intro a hF
                              refine s_nil ?_
                              refine then_n ?_
                              exact ⟨(wrap64 (x454 + 1)), x455, (x456.set (wrap64 (x421 + (a0.get x454))) (wrap64 ((x456.get (wrap64 (x421 + (a0.get x454)))) + (x320.get x421)))), H, hF.sub _ ⟨rfl, rfl, rfl, rfl, rfl, rfl, rfl, rfl, rfl, trivial⟩, hM.pick [0, 1, 2, 3, 4] rfl rfl⟩
                            ·
                              refine s_cond_f hF rfl (decide_eq_false c462) ?_
                              obtain ⟨c464, H⟩ := ite_some H
                              obtain ⟨t465, h466, H⟩ := bind_some H
                              refine wp_mono (Q := fun e a w => e = Exit.normal ∧ Fr 93 a [(1, Value.int .i64 a1), (2, pt b1 0), (4, pt b2 0), (6, pt b9 0), (7, pt b10 0), (8, Value.int .i64 x319), (9, pt b323 0), (10, Value.int .i64 x421), (11, Value.int .i64 x454)] ∧ Ms [] w0 w [boxR b1 [Pt.ar a0] 22, boxR b2 [Pt.ar (Ar.zero 121)] 23, boxR b9 [Pt.ar x320] 23, boxR b10 [Pt.ar (x455.set (wrap64 (x421 + (a0.get x454))) (wrap64 ((x455.get (wrap64 (x421 + (a0.get x454)))) + (wrap64 ((x320.get x421) * t465)))))] 23, boxR b323 [Pt.ar x456] 23]) ?_ ?_
                              · skip
                                refine s_held (fun w => Ms [] w0 w [boxR b1 [Pt.ar a0] 22, boxR b2 [Pt.ar (Ar.zero 121)] 23, boxR b9 [Pt.ar x320] 23, boxR b323 [Pt.ar x456] 23]) #[false, false, false, false, false, false, false, false, false, false, false, false, false, false, false, false, false, false, false, false, false, false, false] mixed rfl rfl hM ?_; intro w hf hM; clear hf
                                refine h_val 0 #[true, false, false, false, false, false, false, false, false, false, false, false, false, false, false, false, false, false, false, false, false, false, false] rfl (by kernel_rfl) hF rfl rfl rfl (fun w hS => e_move hF rfl) (hM.pick [0, 1, 2, 4] rfl rfl) ?_; intro a hF
                                refine h_val 1 #[true, true, false, false, false, false, false, false, false, false, false, false, false, false, false, false, false, false, false, false, false, false, false] rfl (by kernel_rfl) hF rfl rfl rfl (fun w hS => e_move hF rfl) (hM.pick [0, 1, 2, 4] rfl rfl) ?_; intro a hF
                                refine h_val 2 #[true, true, true, false, false, false, false, false, false, false, false, false, false, false, false, false, false, false, false, false, false, false, false] rfl (by kernel_rfl) hF rfl rfl rfl (fun w hS => e_ia hF rfl rfl Try.underlying22 Try.sizeOf3 c460.1 c460.2) (hM.pick [0, 1, 2, 4] rfl rfl) ?_; intro a hF
                                refine h_val 3 #[true, true, true, true, false, false, false, false, false, false, false, false, false, false, false, false, false, false, false, false, false, false, false] rfl (by kernel_rfl) hF rfl rfl rfl (fun w hS => e_ldi (i := 0) (k := 0) hF hS rfl rfl rfl rfl rfl Try.isAgg3 c460.1 c460.2) (hM.pick [0, 1, 2, 4] rfl rfl) ?_; intro a hF
                                refine h_val 4 #[true, true, true, true, true, false, false, false, false, false, false, false, false, false, false, false, false, false, false, false, false, false, false] rfl (by kernel_rfl) hF rfl rfl rfl (fun w hS => e_add hF rfl rfl) (hM.pick [0, 1, 2, 4] rfl rfl) ?_; intro a hF
                                refine h_val 5 #[true, true, true, true, true, true, false, false, false, false, false, false, false, false, false, false, false, false, false, false, false, false, false] rfl (by kernel_rfl) hF rfl rfl rfl (fun w hS => e_move hF rfl) (hM.pick [0, 1, 2, 4] rfl rfl) ?_; intro a hF
                                refine h_val 6 #[true, true, true, true, true, true, true, false, false, false, false, false, false, false, false, false, false, false, false, false, false, false, false] rfl (by kernel_rfl) hF rfl rfl rfl (fun w hS => e_move hF rfl) (hM.pick [0, 1, 2, 4] rfl rfl) ?_; intro a hF
                                refine h_val 7 #[true, true, true, true, true, true, true, true, false, false, false, false, false, false, false, false, false, false, false, false, false, false, false] rfl (by kernel_rfl) hF rfl rfl rfl (fun w hS => e_ia hF rfl rfl Try.underlying22 Try.sizeOf3 c460.1 c460.2) (hM.pick [0, 1, 2, 4] rfl rfl) ?_; intro a hF
                                refine h_val 8 #[true, true, true, true, true, true, true, true, true, false, false, false, false, false, false, false, false, false, false, false, false, false, false] rfl (by kernel_rfl) hF rfl rfl rfl (fun w hS => e_ldi (i := 0) (k := 0) hF hS rfl rfl rfl rfl rfl Try.isAgg3 c460.1 c460.2) (hM.pick [0, 1, 2, 4] rfl rfl) ?_; intro a hF
                                refine h_val 9 #[true, true, true, true, true, true, true, true, true, true, false, false, false, false, false, false, false, false, false, false, false, false, false] rfl (by kernel_rfl) hF rfl rfl rfl (fun w hS => e_add hF rfl rfl) (hM.pick [0, 1, 2, 4] rfl rfl) ?_; intro a hF
                                refine h_val 10 #[true, true, true, true, true, true, true, true, true, true, true, false, false, false, false, false, false, false, false, false, false, false, false] rfl (by kernel_rfl) hF rfl rfl rfl (fun w hS => e_ia hF rfl rfl Try.underlying23 Try.sizeOf3 c464.1 c464.2) (hM.pick [0, 1, 2, 4] rfl rfl) ?_; intro a hF
                                refine h_val 12 #[true, true, true, true, true, true, true, true, true, true, true, false, true, false, false, false, false, false, false, false, false, false, false] rfl (by kernel_rfl) hF rfl rfl rfl (fun w hS => e_move hF rfl) (hM.pick [0, 1, 2, 4] rfl rfl) ?_; intro a hF
                                refine h_val 13 #[true, true, true, true, true, true, true, true, true, true, true, false, true, true, false, false, false, false, false, false, false, false, false] rfl (by kernel_rfl) hF rfl rfl rfl (fun w hS => e_ia hF rfl rfl Try.underlying23 Try.sizeOf3 c458.1 c458.2) (hM.pick [0, 1, 2, 4] rfl rfl) ?_; intro a hF
                                refine h_val 14 #[true, true, true, true, true, true, true, true, true, true, true, false, true, true, true, false, false, false, false, false, false, false, false] rfl (by kernel_rfl) hF rfl rfl rfl (fun w hS => e_ldi (i := 2) (k := 0) hF hS rfl rfl rfl rfl rfl Try.isAgg3 c458.1 c458.2) (hM.pick [0, 1, 2, 4] rfl rfl) ?_; intro a hF
                                refine h_val 15 #[true, true, true, true, true, true, true, true, true, true, true, false, true, true, true, true, false, false, false, false, false, false, false] rfl (by kernel_rfl) hF rfl rfl rfl (fun w hS => e_move hF rfl) (hM.pick [0, 1, 2, 4] rfl rfl) ?_; intro a hF
                                refine h_val 16 #[true, true, true, true, true, true, true, true, true, true, true, false, true, true, true, true, true, false, false, false, false, false, false] rfl (by kernel_rfl) hF rfl rfl rfl (fun w hS => e_move hF rfl) (hM.pick [0, 1, 2, 4] rfl rfl) ?_; intro a hF
                                refine h_val 17 #[true, true, true, true, true, true, true, true, true, true, true, false, true, true, true, true, true, true, false, false, false, false, false] rfl (by kernel_rfl) hF rfl rfl rfl (fun w hS => e_sub hF rfl rfl) (hM.pick [0, 1, 2, 4] rfl rfl) ?_; intro a hF
                                refine h_two 11 18 #[true, true, true, true, true, true, true, true, true, true, true, true, true, true, true, true, true, true, false, false, false, false, false] #[true, true, true, true, true, true, true, true, true, true, true, false, true, true, true, true, true, true, true, false, false, false, false] rfl rfl rfl rfl (by kernel_rfl) ?_ ?_
                                · skip
                                  refine s_val hF rfl rfl rfl (e_ldi (i := 3) (k := 0) hF hM rfl rfl rfl rfl rfl Try.isAgg3 c464.1 c464.2) ?_; intro a hF
                                  refine s_nil ⟨rfl, (hM.pick [0, 1, 2, 4] rfl rfl), ?_⟩
                                  refine h_one 18 #[true, true, true, true, true, true, true, true, true, true, true, true, true, true, true, true, true, true, true, false, false, false, false] rfl (by kernel_rfl) ?_
                                  refine s_call hF rfl rfl rfl Try.call49 (spec_l2All.calls K (wrap64 (a1 - x319)) t465 h466) ?_; intro a w v hF hf hR
                                  subst hR; have hM := hM.grow hf
                                  refine s_nil ⟨rfl, (hM.pick [0, 1, 2, 4] rfl rfl), ?_⟩
                                  refine h_val 19 #[true, true, true, true, true, true, true, true, true, true, true, true, true, true, true, true, true, true, true, true, false, false, false] rfl (by kernel_rfl) hF rfl rfl rfl (fun w hS => e_mul hF rfl rfl) (hM.pick [0, 1, 2, 4] rfl rfl) ?_; intro a hF
                                  refine h_val 20 #[true, true, true, true, true, true, true, true, true, true, true, true, true, true, true, true, true, true, true, true, true, false, false] rfl (by kernel_rfl) hF rfl rfl rfl (fun w hS => e_add hF rfl rfl) (hM.pick [0, 1, 2, 4] rfl rfl) ?_; intro a hF
                                  refine h_val 21 #[true, true, true, true, true, true, true, true, true, true, true, true, true, true, true, true, true, true, true, true, true, true, false] rfl (by kernel_rfl) hF rfl rfl rfl (fun w hS => e_ia hF rfl rfl Try.underlying23 Try.sizeOf3 c464.1 c464.2) (hM.pick [0, 1, 2, 4] rfl rfl) ?_; intro a hF
                                  refine h_one 22 #[true, true, true, true, true, true, true, true, true, true, true, true, true, true, true, true, true, true, true, true, true, true, true] rfl (by kernel_rfl) ?_
                                  refine s_sti (i := 3) (k := 0) hF hM rfl rfl rfl rfl rfl rfl rfl Try.sizeOf3 c464.1 c464.2 ?_; intro a w hF hM
                                  refine s_nil ⟨rfl, (hM.pick [0, 1, 2, 4] rfl rfl), ?_⟩
                                  exact h_done rfl ⟨rfl, hF.sub _ ⟨rfl, rfl, rfl, rfl, rfl, rfl, rfl, rfl, rfl, trivial⟩, hM.pick [0, 1, 2, 3, 4] rfl rfl⟩
                                · skip
                                  refine s_call hF rfl rfl rfl Try.call49 (spec_l2All.calls K (wrap64 (a1 - x319)) t465 h466) ?_; intro a w v hF hf hR
                                  subst hR; have hM := hM.grow hf
                                  refine s_nil ⟨rfl, (hM.pick [0, 1, 2, 4] rfl rfl), ?_⟩
                                  refine h_val 19 #[true, true, true, true, true, true, true, true, true, true, true, false, true, true, true, true, true, true, true, true, false, false, false] rfl (by kernel_rfl) hF rfl rfl rfl (fun w hS => e_mul hF rfl rfl) (hM.pick [0, 1, 2, 4] rfl rfl) ?_; intro a hF
                                  refine h_one 11 #[true, true, true, true, true, true, true, true, true, true, true, true, true, true, true, true, true, true, true, true, false, false, false] rfl (by kernel_rfl) ?_
                                  refine s_val hF rfl rfl rfl (e_ldi (i := 3) (k := 0) hF hM rfl rfl rfl rfl rfl Try.isAgg3 c464.1 c464.2) ?_; intro a hF
                                  refine s_nil ⟨rfl, (hM.pick [0, 1, 2, 4] rfl rfl), ?_⟩
                                  refine h_val 20 #[true, true, true, true, true, true, true, true, true, true, true, true, true, true, true, true, true, true, true, true, true, false, false] rfl (by kernel_rfl) hF rfl rfl rfl (fun w hS => e_add hF rfl rfl) (hM.pick [0, 1, 2, 4] rfl rfl) ?_; intro a hF
                                  refine h_val 21 #[true, true, true, true, true, true, true, true, true, true, true, true, true, true, true, true, true, true, true, true, true, true, false] rfl (by kernel_rfl) hF rfl rfl rfl (fun w hS => e_ia hF rfl rfl Try.underlying23 Try.sizeOf3 c464.1 c464.2) (hM.pick [0, 1, 2, 4] rfl rfl) ?_; intro a hF
                                  refine h_one 22 #[true, true, true, true, true, true, true, true, true, true, true, true, true, true, true, true, true, true, true, true, true, true, true] rfl (by kernel_rfl) ?_
                                  refine s_sti (i := 3) (k := 0) hF hM rfl rfl rfl rfl rfl rfl rfl Try.sizeOf3 c464.1 c464.2 ?_; intro a w hF hM
                                  refine s_nil ⟨rfl, (hM.pick [0, 1, 2, 4] rfl rfl), ?_⟩
                                  exact h_done rfl ⟨rfl, hF.sub _ ⟨rfl, rfl, rfl, rfl, rfl, rfl, rfl, rfl, rfl, trivial⟩, hM.pick [0, 1, 2, 3, 4] rfl rfl⟩
                              rintro e a w ⟨rfl, hF, hM⟩
                              refine blk_n ?_
                              refine then_n ?_
                              refine s_region ?_
                              refine s_val hF rfl rfl rfl (e_move hF rfl) ?_; intro a hF
                              refine s_val hF rfl rfl rfl (e_add hF rfl rfl) ?_; intro a hF
                              refine s_val hF rfl rfl rfl (e_assign hF rfl) ?_; intro a hF
                              refine s_nil ?_
                              refine then_n ?_
                              exact ⟨(wrap64 (x454 + 1)), (x455.set (wrap64 (x421 + (a0.get x454))) (wrap64 ((x455.get (wrap64 (x421 + (a0.get x454)))) + (wrap64 ((x320.get x421) * t465))))), x456, H, hF.sub _ ⟨rfl, rfl, rfl, rfl, rfl, rfl, rfl, rfl, rfl, trivial⟩, hM.pick [0, 1, 2, 3, 4] rfl rfl⟩
                          ·
                            refine s_held (fun w => Ms [] w0 w [boxR b1 [Pt.ar a0] 22, boxR b2 [Pt.ar (Ar.zero 121)] 23, boxR b9 [Pt.ar x320] 23, boxR b10 [Pt.ar x455] 23, boxR b323 [Pt.ar x456] 23]) #[false, false, false, false, false, false, false, false, false, false, false] mixed rfl rfl hM ?_; intro w hf hM; clear hf
                            refine h_val 0 #[true, false, false, false, false, false, false, false, false, false, false] rfl (by kernel_rfl) hF rfl rfl rfl (fun w hS => e_move hF rfl) (hM.pick [0, 1, 2, 3, 4] rfl rfl) ?_; intro a hF
                            refine h_val 1 #[true, true, false, false, false, false, false, false, false, false, false] rfl (by kernel_rfl) hF rfl rfl rfl (fun w hS => e_ia hF rfl rfl Try.underlying22 Try.sizeOf3 c460.1 c460.2) (hM.pick [0, 1, 2, 3, 4] rfl rfl) ?_; intro a hF
                            refine h_val 2 #[true, true, true, false, false, false, false, false, false, false, false] rfl (by kernel_rfl) hF rfl rfl rfl (fun w hS => e_ldi (i := 0) (k := 0) hF hS rfl rfl rfl rfl rfl Try.isAgg3 c460.1 c460.2) (hM.pick [0, 1, 2, 3, 4] rfl rfl) ?_; intro a hF
                            refine h_val 3 #[true, true, true, true, false, false, false, false, false, false, false] rfl (by kernel_rfl) hF rfl rfl rfl (fun w hS => e_ia hF rfl rfl Try.underlying22 Try.sizeOf3 (by decide) (by decide)) (hM.pick [0, 1, 2, 3, 4] rfl rfl) ?_; intro a hF
                            refine h_val 4 #[true, true, true, true, true, false, false, false, false, false, false] rfl (by kernel_rfl) hF rfl rfl rfl (fun w hS => e_ldi (i := 0) (k := 0) hF hS rfl rfl rfl rfl rfl Try.isAgg3 (by decide) (by decide)) (hM.pick [0, 1, 2, 3, 4] rfl rfl) ?_; intro a hF
                            refine h_val 5 #[true, true, true, true, true, true, false, false, false, false, false] rfl (by kernel_rfl) hF rfl rfl rfl (fun w hS => e_eql hF rfl rfl) (hM.pick [0, 1, 2, 3, 4] rfl rfl) ?_; intro a hF
                            refine h_val 6 #[true, true, true, true, true, true, true, false, false, false, false] rfl (by kernel_rfl) hF rfl rfl rfl (fun w hS => e_move hF rfl) (hM.pick [0, 1, 2, 3, 4] rfl rfl) ?_; intro a hF
                            have hF := hF.topb (decide_eq_false c461)
                            refine h_skip 7 #[true, true, true, true, true, true, true, true, false, false, false] rfl (by kernel_rfl) hF rfl rfl rfl (hM.pick [0, 1, 2, 3, 4] rfl rfl) ?_; intro a hF
                            refine h_skip 8 #[true, true, true, true, true, true, true, true, true, false, false] rfl (by kernel_rfl) hF rfl rfl rfl (hM.pick [0, 1, 2, 3, 4] rfl rfl) ?_; intro a hF
                            refine h_skip 9 #[true, true, true, true, true, true, true, true, true, true, false] rfl (by kernel_rfl) hF rfl rfl rfl (hM.pick [0, 1, 2, 3, 4] rfl rfl) ?_; intro a hF
                            refine h_val 10 #[true, true, true, true, true, true, true, true, true, true, true] rfl (by kernel_rfl) hF rfl rfl rfl (fun w hS => e_pick_f hF rfl rfl) (hM.pick [0, 1, 2, 3, 4] rfl rfl) ?_; intro a hF
                            refine h_done rfl ?_
                            refine then_n ?_
                            refine s_cond_f hF rfl rfl ?_
                            obtain ⟨c467, H⟩ := ite_some H
                            obtain ⟨t468, h469, H⟩ := bind_some H
                            refine wp_mono (Q := fun e a w => e = Exit.normal ∧ Fr 93 a [(1, Value.int .i64 a1), (2, pt b1 0), (4, pt b2 0), (6, pt b9 0), (7, pt b10 0), (8, Value.int .i64 x319), (9, pt b323 0), (10, Value.int .i64 x421), (11, Value.int .i64 x454)] ∧ Ms [] w0 w [boxR b1 [Pt.ar a0] 22, boxR b2 [Pt.ar (Ar.zero 121)] 23, boxR b9 [Pt.ar x320] 23, boxR b10 [Pt.ar (x455.set (wrap64 (x421 + (a0.get x454))) (wrap64 ((x455.get (wrap64 (x421 + (a0.get x454)))) + (wrap64 ((x320.get x421) * t468)))))] 23, boxR b323 [Pt.ar x456] 23]) ?_ ?_
                            · skip
                              refine s_held (fun w => Ms [] w0 w [boxR b1 [Pt.ar a0] 22, boxR b2 [Pt.ar (Ar.zero 121)] 23, boxR b9 [Pt.ar x320] 23, boxR b323 [Pt.ar x456] 23]) #[false, false, false, false, false, false, false, false, false, false, false, false, false, false, false, false, false, false, false, false, false, false, false] mixed rfl rfl hM ?_; intro w hf hM; clear hf
                              refine h_val 0 #[true, false, false, false, false, false, false, false, false, false, false, false, false, false, false, false, false, false, false, false, false, false, false] rfl (by kernel_rfl) hF rfl rfl rfl (fun w hS => e_move hF rfl) (hM.pick [0, 1, 2, 4] rfl rfl) ?_; intro a hF
                              refine h_val 1 #[true, true, false, false, false, false, false, false, false, false, false, false, false, false, false, false, false, false, false, false, false, false, false] rfl (by kernel_rfl) hF rfl rfl rfl (fun w hS => e_move hF rfl) (hM.pick [0, 1, 2, 4] rfl rfl) ?_; intro a hF
                              refine h_val 2 #[true, true, true, false, false, false, false, false, false, false, false, false, false, false, false, false, false, false, false, false, false, false, false] rfl (by kernel_rfl) hF rfl rfl rfl (fun w hS => e_ia hF rfl rfl Try.underlying22 Try.sizeOf3 c460.1 c460.2) (hM.pick [0, 1, 2, 4] rfl rfl) ?_; intro a hF
                              refine h_val 3 #[true, true, true, true, false, false, false, false, false, false, false, false, false, false, false, false, false, false, false, false, false, false, false] rfl (by kernel_rfl) hF rfl rfl rfl (fun w hS => e_ldi (i := 0) (k := 0) hF hS rfl rfl rfl rfl rfl Try.isAgg3 c460.1 c460.2) (hM.pick [0, 1, 2, 4] rfl rfl) ?_; intro a hF
                              refine h_val 4 #[true, true, true, true, true, false, false, false, false, false, false, false, false, false, false, false, false, false, false, false, false, false, false] rfl (by kernel_rfl) hF rfl rfl rfl (fun w hS => e_add hF rfl rfl) (hM.pick [0, 1, 2, 4] rfl rfl) ?_; intro a hF
                              refine h_val 5 #[true, true, true, true, true, true, false, false, false, false, false, false, false, false, false, false, false, false, false, false, false, false, false] rfl (by kernel_rfl) hF rfl rfl rfl (fun w hS => e_move hF rfl) (hM.pick [0, 1, 2, 4] rfl rfl) ?_; intro a hF
                              refine h_val 6 #[true, true, true, true, true, true, true, false, false, false, false, false, false, false, false, false, false, false, false, false, false, false, false] rfl (by kernel_rfl) hF rfl rfl rfl (fun w hS => e_move hF rfl) (hM.pick [0, 1, 2, 4] rfl rfl) ?_; intro a hF
                              refine h_val 7 #[true, true, true, true, true, true, true, true, false, false, false, false, false, false, false, false, false, false, false, false, false, false, false] rfl (by kernel_rfl) hF rfl rfl rfl (fun w hS => e_ia hF rfl rfl Try.underlying22 Try.sizeOf3 c460.1 c460.2) (hM.pick [0, 1, 2, 4] rfl rfl) ?_; intro a hF
                              refine h_val 8 #[true, true, true, true, true, true, true, true, true, false, false, false, false, false, false, false, false, false, false, false, false, false, false] rfl (by kernel_rfl) hF rfl rfl rfl (fun w hS => e_ldi (i := 0) (k := 0) hF hS rfl rfl rfl rfl rfl Try.isAgg3 c460.1 c460.2) (hM.pick [0, 1, 2, 4] rfl rfl) ?_; intro a hF
                              refine h_val 9 #[true, true, true, true, true, true, true, true, true, true, false, false, false, false, false, false, false, false, false, false, false, false, false] rfl (by kernel_rfl) hF rfl rfl rfl (fun w hS => e_add hF rfl rfl) (hM.pick [0, 1, 2, 4] rfl rfl) ?_; intro a hF
                              refine h_val 10 #[true, true, true, true, true, true, true, true, true, true, true, false, false, false, false, false, false, false, false, false, false, false, false] rfl (by kernel_rfl) hF rfl rfl rfl (fun w hS => e_ia hF rfl rfl Try.underlying23 Try.sizeOf3 c467.1 c467.2) (hM.pick [0, 1, 2, 4] rfl rfl) ?_; intro a hF
                              refine h_val 12 #[true, true, true, true, true, true, true, true, true, true, true, false, true, false, false, false, false, false, false, false, false, false, false] rfl (by kernel_rfl) hF rfl rfl rfl (fun w hS => e_move hF rfl) (hM.pick [0, 1, 2, 4] rfl rfl) ?_; intro a hF
                              refine h_val 13 #[true, true, true, true, true, true, true, true, true, true, true, false, true, true, false, false, false, false, false, false, false, false, false] rfl (by kernel_rfl) hF rfl rfl rfl (fun w hS => e_ia hF rfl rfl Try.underlying23 Try.sizeOf3 c458.1 c458.2) (hM.pick [0, 1, 2, 4] rfl rfl) ?_; intro a hF
                              refine h_val 14 #[true, true, true, true, true, true, true, true, true, true, true, false, true, true, true, false, false, false, false, false, false, false, false] rfl (by kernel_rfl) hF rfl rfl rfl (fun w hS => e_ldi (i := 2) (k := 0) hF hS rfl rfl rfl rfl rfl Try.isAgg3 c458.1 c458.2) (hM.pick [0, 1, 2, 4] rfl rfl) ?_; intro a hF
                              refine h_val 15 #[true, true, true, true, true, true, true, true, true, true, true, false, true, true, true, true, false, false, false, false, false, false, false] rfl (by kernel_rfl) hF rfl rfl rfl (fun w hS => e_move hF rfl) (hM.pick [0, 1, 2, 4] rfl rfl) ?_; intro a hF
                              refine h_val 16 #[true, true, true, true, true, true, true, true, true, true, true, false, true, true, true, true, true, false, false, false, false, false, false] rfl (by kernel_rfl) hF rfl rfl rfl (fun w hS => e_move hF rfl) (hM.pick [0, 1, 2, 4] rfl rfl) ?_; intro a hF
                              refine h_val 17 #[true, true, true, true, true, true, true, true, true, true, true, false, true, true, true, true, true, true, false, false, false, false, false] rfl (by kernel_rfl) hF rfl rfl rfl (fun w hS => e_sub hF rfl rfl) (hM.pick [0, 1, 2, 4] rfl rfl) ?_; intro a hF
                              refine h_two 11 18 #[true, true, true, true, true, true, true, true, true, true, true, true, true, true, true, true, true, true, false, false, false, false, false] #[true, true, true, true, true, true, true, true, true, true, true, false, true, true, true, true, true, true, true, false, false, false, false] rfl rfl rfl rfl (by kernel_rfl) ?_ ?_
                              · skip
                                refine s_val hF rfl rfl rfl (e_ldi (i := 3) (k := 0) hF hM rfl rfl rfl rfl rfl Try.isAgg3 c467.1 c467.2) ?_; intro a hF
                                refine s_nil ⟨rfl, (hM.pick [0, 1, 2, 4] rfl rfl), ?_⟩
                                refine h_one 18 #[true, true, true, true, true, true, true, true, true, true, true, true, true, true, true, true, true, true, true, false, false, false, false] rfl (by kernel_rfl) ?_
                                refine s_call hF rfl rfl rfl Try.call49 (spec_l2All.calls K (wrap64 (a1 - x319)) t468 h469) ?_; intro a w v hF hf hR
                                subst hR; have hM := hM.grow hf
                                refine s_nil ⟨rfl, (hM.pick [0, 1, 2, 4] rfl rfl), ?_⟩
                                refine h_val 19 #[true, true, true, true, true, true, true, true, true, true, true, true, true, true, true, true, true, true, true, true, false, false, false] rfl (by kernel_rfl) hF rfl rfl rfl (fun w hS => e_mul hF rfl rfl) (hM.pick [0, 1, 2, 4] rfl rfl) ?_; intro a hF
                                refine h_val 20 #[true, true, true, true, true, true, true, true, true, true, true, true, true, true, true, true, true, true, true, true, true, false, false] rfl (by kernel_rfl) hF rfl rfl rfl (fun w hS => e_add hF rfl rfl) (hM.pick [0, 1, 2, 4] rfl rfl) ?_; intro a hF
                                refine h_val 21 #[true, true, true, true, true, true, true, true, true, true, true, true, true, true, true, true, true, true, true, true, true, true, false] rfl (by kernel_rfl) hF rfl rfl rfl (fun w hS => e_ia hF rfl rfl Try.underlying23 Try.sizeOf3 c467.1 c467.2) (hM.pick [0, 1, 2, 4] rfl rfl) ?_; intro a hF
                                refine h_one 22 #[true, true, true, true, true, true, true, true, true, true, true, true, true, true, true, true, true, true, true, true, true, true, true] rfl (by kernel_rfl) ?_
                                refine s_sti (i := 3) (k := 0) hF hM rfl rfl rfl rfl rfl rfl rfl Try.sizeOf3 c467.1 c467.2 ?_; intro a w hF hM
                                refine s_nil ⟨rfl, (hM.pick [0, 1, 2, 4] rfl rfl), ?_⟩
                                exact h_done rfl ⟨rfl, hF.sub _ ⟨rfl, rfl, rfl, rfl, rfl, rfl, rfl, rfl, rfl, trivial⟩, hM.pick [0, 1, 2, 3, 4] rfl rfl⟩
                              · skip
                                refine s_call hF rfl rfl rfl Try.call49 (spec_l2All.calls K (wrap64 (a1 - x319)) t468 h469) ?_; intro a w v hF hf hR
                                subst hR; have hM := hM.grow hf
                                refine s_nil ⟨rfl, (hM.pick [0, 1, 2, 4] rfl rfl), ?_⟩
                                refine h_val 19 #[true, true, true, true, true, true, true, true, true, true, true, false, true, true, true, true, true, true, true, true, false, false, false] rfl (by kernel_rfl) hF rfl rfl rfl (fun w hS => e_mul hF rfl rfl) (hM.pick [0, 1, 2, 4] rfl rfl) ?_; intro a hF
                                refine h_one 11 #[true, true, true, true, true, true, true, true, true, true, true, true, true, true, true, true, true, true, true, true, false, false, false] rfl (by kernel_rfl) ?_
                                refine s_val hF rfl rfl rfl (e_ldi (i := 3) (k := 0) hF hM rfl rfl rfl rfl rfl Try.isAgg3 c467.1 c467.2) ?_; intro a hF
                                refine s_nil ⟨rfl, (hM.pick [0, 1, 2, 4] rfl rfl), ?_⟩
                                refine h_val 20 #[true, true, true, true, true, true, true, true, true, true, true, true, true, true, true, true, true, true, true, true, true, false, false] rfl (by kernel_rfl) hF rfl rfl rfl (fun w hS => e_add hF rfl rfl) (hM.pick [0, 1, 2, 4] rfl rfl) ?_; intro a hF
                                refine h_val 21 #[true, true, true, true, true, true, true, true, true, true, true, true, true, true, true, true, true, true, true, true, true, true, false] rfl (by kernel_rfl) hF rfl rfl rfl (fun w hS => e_ia hF rfl rfl Try.underlying23 Try.sizeOf3 c467.1 c467.2) (hM.pick [0, 1, 2, 4] rfl rfl) ?_; intro a hF
                                refine h_one 22 #[true, true, true, true, true, true, true, true, true, true, true, true, true, true, true, true, true, true, true, true, true, true, true] rfl (by kernel_rfl) ?_
                                refine s_sti (i := 3) (k := 0) hF hM rfl rfl rfl rfl rfl rfl rfl Try.sizeOf3 c467.1 c467.2 ?_; intro a w hF hM
                                refine s_nil ⟨rfl, (hM.pick [0, 1, 2, 4] rfl rfl), ?_⟩
                                exact h_done rfl ⟨rfl, hF.sub _ ⟨rfl, rfl, rfl, rfl, rfl, rfl, rfl, rfl, rfl, trivial⟩, hM.pick [0, 1, 2, 3, 4] rfl rfl⟩
                            rintro e a w ⟨rfl, hF, hM⟩
                            refine blk_n ?_
                            refine then_n ?_
                            refine s_region ?_
                            refine s_val hF rfl rfl rfl (e_move hF rfl) ?_; intro a hF
                            refine s_val hF rfl rfl rfl (e_add hF rfl rfl) ?_; intro a hF
                            refine s_val hF rfl rfl rfl (e_assign hF rfl) ?_; intro a hF
                            refine s_nil ?_
                            refine then_n ?_
                            exact ⟨(wrap64 (x454 + 1)), (x455.set (wrap64 (x421 + (a0.get x454))) (wrap64 ((x455.get (wrap64 (x421 + (a0.get x454)))) + (wrap64 ((x320.get x421) * t468))))), x456, H, hF.sub _ ⟨rfl, rfl, rfl, rfl, rfl, rfl, rfl, rfl, rfl, trivial⟩, hM.pick [0, 1, 2, 3, 4] rfl rfl⟩
                      ·
                        refine s_cond_f hF rfl (decide_eq_false c457) ?_
                        refine wp_exit ?_
                        refine then_x ?_
                        refine then_x ?_
                        exact ⟨rfl, x455, x456, some_some H, hF.sub _ ⟨rfl, rfl, rfl, rfl, rfl, rfl, rfl, rfl, trivial⟩, hM.pick [0, 1, 2, 3, 4] rfl rfl⟩
                  · rintro e a w ⟨rfl, x452, x453, rfl, hF, hM⟩
                    skip
                    refine blk_x ?_
                    refine blk_n ?_
                    refine then_n ?_
                    refine s_region ?_
                    refine s_val hF rfl rfl rfl (e_move hF rfl) ?_; intro a hF
                    refine s_val hF rfl rfl rfl (e_add hF rfl rfl) ?_; intro a hF
                    refine s_val hF rfl rfl rfl (e_assign hF rfl) ?_; intro a hF
                    refine s_nil ?_
                    refine then_n ?_
                    exact ⟨(wrap64 (x421 + 1)), x452, x453, H, hF.sub _ ⟨rfl, rfl, rfl, rfl, rfl, rfl, rfl, rfl, trivial⟩, hM.pick [0, 1, 2, 3, 4] rfl rfl⟩
                ·
                  refine s_cond_f hF rfl (decide_eq_false c424) ?_
                  refine wp_exit ?_
                  refine then_x ?_
                  refine then_x ?_
                  exact ⟨rfl, x422, x423, some_some H, hF.sub _ ⟨rfl, rfl, rfl, rfl, rfl, rfl, rfl, trivial⟩, hM.pick [0, 1, 2, 3, 4] rfl rfl⟩
            · rintro e a w ⟨rfl, x419, x420, rfl, hF, hM⟩
              skip
              refine blk_x ?_
              refine then_n ?_
              refine s_region ?_
              refine s_val hF rfl rfl rfl (e_lda (i := 4) 0 1 hF hM rfl rfl rfl rfl Try.isAgg23 Try.sizeOf23 rfl) ?_; intro a hF
              refine s_stw (i := 2) (ps' := [Pt.ar x420]) hF hM rfl rfl rfl rfl rfl rfl Try.sizeOf23 rfl ?_; intro a w hF hM
              refine s_nil ?_
              refine blk_n ?_
              refine then_n ?_
              refine s_region ?_
              refine s_val hF rfl rfl rfl (e_move hF rfl) ?_; intro a hF
              refine s_val hF rfl rfl rfl (e_add hF rfl rfl) ?_; intro a hF
              refine s_val hF rfl rfl rfl (e_assign hF rfl) ?_; intro a hF
              refine s_nil ?_
              refine then_n ?_
              exact ⟨(wrap64 (x319 + 1)), x420, x419, H, hF.sub _ ⟨rfl, rfl, rfl, rfl, rfl, rfl, trivial⟩, hM.pick [0, 1, 2, 3] rfl rfl⟩
          ·
            refine s_cond_f hF rfl (decide_eq_false c322) ?_
            refine wp_exit ?_
            refine then_x ?_
            refine then_x ?_
            exact ⟨rfl, x321, some_some H, hF.sub _ ⟨rfl, rfl, trivial⟩, hM.pick [1, 3] rfl rfl⟩
      · rintro e a w ⟨rfl, x318, rfl, hF, hM⟩
        skip
        refine blk_x ?_
        refine then_n ?_
        refine wp_seq ?_
        refine s_region ?_
        refine s_val hF rfl rfl rfl (e_lda (i := 1) 0 1 hF hM rfl rfl rfl rfl Try.isAgg23 Try.sizeOf23 rfl) ?_; intro a hF
        refine s_stw (i := 0) (ps' := [Pt.ar x318]) hF hM rfl rfl rfl rfl rfl rfl Try.sizeOf23 rfl ?_; intro a w hF hM
        refine s_val hF rfl rfl rfl (e_assign hF rfl) ?_; intro a hF
        refine s_nil ?_
        refine then_n ?_
        refine wp_ret ?_
        obtain rfl := some_some H
        refine s_ret [ag [Pt.ar x318], Value.bool true] hF Try.results15 ⟨⟨_, rfl, rv_box hM (i := 0) rfl Try.isAgg23 Try.sizeOf23 rfl⟩, rfl, trivial⟩ ?_
        exact ⟨_, rfl, hM.frm, rfl⟩
    ·
      refine s_cond_t hF rfl (congrArg Bool.not (bf c8)) ?_
      refine wp_seq ?_
      refine s_region ?_
      refine s_val hF rfl rfl rfl (e_build' (cells := cat [Pt.ar (Ar.zero 121)]) hF rfl (by kernel_rfl)) ?_; intro a hF
      refine s_stw (i := 0) (ps' := [Pt.ar (Ar.zero 121)]) hF hM rfl rfl rfl rfl rfl rfl Try.sizeOf23 rfl ?_; intro a w hF hM
      refine s_val hF rfl rfl rfl (e_assign hF rfl) ?_; intro a hF
      refine s_nil ?_
      refine then_n ?_
      refine wp_ret ?_
      refine then_r ?_
      obtain rfl := some_some H
      refine s_ret [ag [Pt.ar (Ar.zero 121)], Value.bool false] hF Try.results15 ⟨⟨_, rfl, rv_box hM (i := 0) rfl Try.isAgg23 Try.sizeOf23 rfl⟩, rfl, trivial⟩ ?_
      exact ⟨_, rfl, hM.frm, rfl⟩
  ·
    refine s_region ?_
    refine s_val hF rfl rfl rfl (e_lda (i := 1) 0 1 hF hM rfl rfl rfl rfl Try.isAgg22 Try.sizeOf22 rfl) ?_; intro a hF
    refine s_call hF rfl rfl rfl Try.call47 (spec_l2Die.calls K a0 t3 h4) ?_; intro a w v hF hf hR
    subst hR; have hM := hM.grow hf
    refine s_val hF rfl rfl rfl (e_not hF rfl) ?_; intro a hF
    refine s_val hF rfl rfl rfl (e_move hF rfl) ?_; intro a hF
    have hF := hF.topb (congrArg Bool.not (bf c5))
    refine s_skip hF rfl rfl rfl ?_; intro a hF
    refine s_skip hF rfl rfl rfl ?_; intro a hF
    refine s_skip hF rfl rfl rfl ?_; intro a hF
    refine s_val hF rfl rfl rfl (e_pick_t hF rfl rfl) ?_; intro a hF
    refine s_nil ?_
    refine then_n ?_
    refine s_cond_t hF rfl rfl ?_
    refine wp_seq ?_
    refine s_region ?_
    refine s_val hF rfl rfl rfl (e_build' (cells := cat [Pt.ar (Ar.zero 121)]) hF rfl (by kernel_rfl)) ?_; intro a hF
    refine s_stw (i := 0) (ps' := [Pt.ar (Ar.zero 121)]) hF hM rfl rfl rfl rfl rfl rfl Try.sizeOf23 rfl ?_; intro a w hF hM
    refine s_val hF rfl rfl rfl (e_assign hF rfl) ?_; intro a hF
    refine s_nil ?_
    refine then_n ?_
    refine wp_ret ?_
    refine then_r ?_
    obtain rfl := some_some H
    refine s_ret [ag [Pt.ar (Ar.zero 121)], Value.bool false] hF Try.results15 ⟨⟨_, rfl, rv_box hM (i := 0) rfl Try.isAgg23 Try.sizeOf23 rfl⟩, rfl, trivial⟩ ?_
    exact ⟨_, rfl, hM.frm, rfl⟩

/-! ### loop.example/g01210/impl.within: function 51 -/
def impl_within.f (K : Nat) (a0 : Int) (a1 : Int) (a2 : Int) : Option Bool := if a1 ≤ a0 then (some (decide (a0 ≤ a2))) else (some false)
set_option maxRecDepth 100000 in
set_option maxHeartbeats 4000000 in
theorem impl_within.calls {w0 : World} (K : Nat) (a0 : Int) (a1 : Int) (a2 : Int) (r : Bool) (H : impl_within.f K a0 a1 a2 = some r) : Calls Try.prog 51 [Value.int .i64 a0, Value.int .i64 a1, Value.int .i64 a2].toArray w0 (Post w0 fun w v => v = Value.bool r) := by
  rw [impl_within.f] at H
  refine s_start Try.func51 rfl Try.ntmps51 rfl ?_
  intro a hF
  have hM := Ms.start w0
  skip
  refine wp_seq ?_
  refine s_region ?_
  refine s_val hF rfl rfl rfl (e_assign hF rfl) ?_; intro a hF
  refine s_nil ?_
  refine then_n ?_
  refine wp_seq ?_
  rcases ite_cases H with ⟨c1, H⟩ | ⟨c1, H⟩
  ·
    refine s_region ?_
    refine s_val hF rfl rfl rfl (e_move hF rfl) ?_; intro a hF
    refine s_val hF rfl rfl rfl (e_move hF rfl) ?_; intro a hF
    refine s_val hF rfl rfl rfl (e_leq hF rfl rfl) ?_; intro a hF
    refine s_val hF rfl rfl rfl (e_move hF rfl) ?_; intro a hF
    have hF := hF.topb (decide_eq_true c1)
    refine s_val hF rfl rfl rfl (e_move hF rfl) ?_; intro a hF
    refine s_val hF rfl rfl rfl (e_move hF rfl) ?_; intro a hF
    refine s_val hF rfl rfl rfl (e_leq hF rfl rfl) ?_; intro a hF
    refine s_val hF rfl rfl rfl (e_pick_t hF rfl rfl) ?_; intro a hF
    refine s_val hF rfl rfl rfl (e_assign hF rfl) ?_; intro a hF
    refine s_nil ?_
    refine then_n ?_
    refine wp_ret ?_
    obtain rfl := some_some H
    refine s_ret [Value.bool (decide (a0 ≤ a2))] hF Try.results51 ⟨rfl, trivial⟩ ?_
    exact ⟨_, rfl, hM.frm, rfl⟩
  ·
    refine s_region ?_
    refine s_val hF rfl rfl rfl (e_move hF rfl) ?_; intro a hF
    refine s_val hF rfl rfl rfl (e_move hF rfl) ?_; intro a hF
    refine s_val hF rfl rfl rfl (e_leq hF rfl rfl) ?_; intro a hF
    refine s_val hF rfl rfl rfl (e_move hF rfl) ?_; intro a hF
    have hF := hF.topb (decide_eq_false c1)
    refine s_skip hF rfl rfl rfl ?_; intro a hF
    refine s_skip hF rfl rfl rfl ?_; intro a hF
    refine s_skip hF rfl rfl rfl ?_; intro a hF
    refine s_val hF rfl rfl rfl (e_pick_f hF rfl rfl) ?_; intro a hF
    refine s_val hF rfl rfl rfl (e_assign hF rfl) ?_; intro a hF
    refine s_nil ?_
    refine then_n ?_
    refine wp_ret ?_
    obtain rfl := some_some H
    refine s_ret [Value.bool false] hF Try.results51 ⟨rfl, trivial⟩ ?_
    exact ⟨_, rfl, hM.frm, rfl⟩

/-! ### loop.example/g01210/impl.isFace: function 87 -/
def impl_isFace.f (K : Nat) (a0 : Int) : Option Bool := (impl_within.f K a0 0 30).bind fun t1 => some t1
set_option maxRecDepth 100000 in
set_option maxHeartbeats 4000000 in
theorem impl_isFace.calls {w0 : World} (K : Nat) (a0 : Int) (r : Bool) (H : impl_isFace.f K a0 = some r) : Calls Try.prog 87 [Value.int .i64 a0].toArray w0 (Post w0 fun w v => v = Value.bool r) := by
  rw [impl_isFace.f] at H
  refine s_start Try.func87 rfl Try.ntmps87 rfl ?_
  intro a hF
  have hM := Ms.start w0
  skip
  refine wp_seq ?_
  refine s_region ?_
  refine s_val hF rfl rfl rfl (e_assign hF rfl) ?_; intro a hF
  refine s_nil ?_
  refine then_n ?_
  refine wp_seq ?_
  obtain ⟨t1, h2, H⟩ := bind_some H
  refine s_region ?_
  refine s_val hF rfl rfl rfl (e_move hF rfl) ?_; intro a hF
  refine s_call hF rfl rfl rfl Try.call51 (impl_within.calls K a0 0 30 t1 h2) ?_; intro a w v hF hf hR
  subst hR; have hM := hM.grow hf
  refine s_val hF rfl rfl rfl (e_assign hF rfl) ?_; intro a hF
  refine s_nil ?_
  refine then_n ?_
  refine wp_ret ?_
  obtain rfl := some_some H
  refine s_ret [Value.bool t1] hF Try.results87 ⟨rfl, trivial⟩ ?_
  exact ⟨_, rfl, hM.frm, rfl⟩

/-! ### loop.example/g01210/impl.areAll[int]$1: function 101 -/
def impl_areAll_int_1__isFace.f (K : Nat) (a0 : Int) : Option Bool := (impl_isFace.f K a0).bind fun t3 => some (!t3)
set_option maxRecDepth 100000 in
set_option maxHeartbeats 4000000 in
theorem impl_areAll_int_1__isFace.calls {w0 : World} (K : Nat) (a0 : Int) (b1 : Nat) (q2 : (boxR b1 [Pt.val (Value.func (.func 87) #[] #[]) rfl] 58).holds w0) (r : Bool) (H : impl_areAll_int_1__isFace.f K a0 = some r) : Calls Try.prog 101 [Value.int .i64 a0, pt b1 0].toArray w0 (Post w0 fun w v => v = Value.bool r) := by
  rw [impl_areAll_int_1__isFace.f] at H
  refine s_start Try.func101 rfl Try.ntmps101 rfl ?_
  intro a hF
  have hM := Ms.start w0
  skip
  refine wp_seq ?_
  refine s_region ?_
  refine s_val hF rfl rfl rfl (e_assign hF rfl) ?_; intro a hF
  refine s_nil ?_
  refine then_n ?_
  refine wp_seq ?_
  obtain ⟨t3, h4, H⟩ := bind_some H
  refine s_region ?_
  refine s_val hF rfl rfl rfl (e_ld (i := 0) (k := 0) hF (lent_ms (box_frm q2 hM.frm)) rfl rfl rfl rfl Try.isAgg58 rfl) ?_; intro a hF
  refine s_val hF rfl rfl rfl (e_move hF rfl) ?_; intro a hF
  refine s_callv hF rfl rfl rfl rfl (callsV_of Try.call87 (impl_isFace.calls K a0 t3 h4)) ?_; intro a w v hF ⟨hf, hR⟩
  subst hR; have hM := hM.grow hf
  refine s_val hF rfl rfl rfl (e_not hF rfl) ?_; intro a hF
  refine s_val hF rfl rfl rfl (e_assign hF rfl) ?_; intro a hF
  refine s_nil ?_
  refine then_n ?_
  refine wp_ret ?_
  obtain rfl := some_some H
  refine s_ret [Value.bool (!t3)] hF Try.results101 ⟨rfl, trivial⟩ ?_
  exact ⟨_, rfl, hM.frm, rfl⟩

/-! ### slices.IndexFunc[[]int,int]: function 104 -/
def slices_IndexFunc_int_int__areAll_int_1_isFace.l0 (K : Nat) (l0 : (List Int)) : Nat → Int → Option (Sum Unit Int)
  | 0, _ => none
  | k + 1, x14 => if x14 < (l0.length : Int) then (if (0 : Int) ≤ x14 ∧ x14 < (l0.length : Int) then ((impl_areAll_int_1__isFace.f K (l0.getD (x14 : Int).toNat (0 : Int))).bind fun t17 => if t17 = true then (some (Sum.inr x14)) else (slices_IndexFunc_int_int__areAll_int_1_isFace.l0 K l0 k (wrap64 (x14 + 1)))) else none) else (some (Sum.inl ()))
def slices_IndexFunc_int_int__areAll_int_1_isFace.f (K : Nat) (l0 : (List Int)) : Option Int := (slices_IndexFunc_int_int__areAll_int_1_isFace.l0 K l0 K 0).bind fun o20 => (match o20 with | .inl () => some (-1) | .inr r22 => some r22)
set_option maxRecDepth 100000 in
set_option maxHeartbeats 4000000 in
theorem slices_IndexFunc_int_int__areAll_int_1_isFace.calls {w0 : World} (K : Nat) (l0 : (List Int)) (u0 : Value) (q0 : SlR cd3 w0 u0 l0) (b1 : Nat) (q2 : (boxR b1 [Pt.val (Value.func (.func 87) #[] #[]) rfl] 58).holds w0) (r : Int) (H : slices_IndexFunc_int_int__areAll_int_1_isFace.f K l0 = some r) : Calls Try.prog 104 [u0, Value.func (.func 101) #[] #[pt b1 0]].toArray w0 (Post w0 fun w v => v = Value.int .i64 r) := by
  rw [slices_IndexFunc_int_int__areAll_int_1_isFace.f] at H
  refine s_start Try.func104 rfl Try.ntmps104 rfl ?_
  intro a hF
  have hM := Ms.start w0
  skip
  refine wp_seq ?_
  refine s_region ?_
  refine s_val hF rfl rfl rfl (e_assign hF rfl) ?_; intro a hF
  refine s_nil ?_
  refine then_n ?_
  refine wp_seq ?_
  refine wp_seq ?_
  refine s_region ?_
  refine s_val hF rfl rfl rfl (e_move hF rfl) ?_; intro a hF
  refine s_val hF rfl rfl rfl (e_len hF rfl (q0.frm hM.frm).toF Try.underlying42) ?_; intro a hF
  refine s_val hF rfl rfl rfl (e_move hF rfl) ?_; intro a hF
  refine s_nil ?_
  refine then_n ?_
  refine wp_block ?_
  obtain ⟨o20, h21, H⟩ := bind_some H
  refine wp_mono (Q := fun e a w => (e = Exit.exit 0 ∧ Sum.inl () = o20 ∧ Fr 19 a [] ∧ Ms [] w0 w []) ∨ (e = Exit.ret ∧ ∃ r22 : Int, Sum.inr r22 = o20 ∧ Fr 19 a [(4, Value.int .i64 r22)] ∧ Ms [] w0 w [])) ?_ ?_
  · refine s_loop (fun kq a w => ∃ x14 : Int, slices_IndexFunc_int_int__areAll_int_1_isFace.l0 K l0 kq x14 = some o20 ∧ Fr 19 a [(0, u0), (1, Value.func (.func 101) #[] #[pt b1 0]), (7, Value.int .i64 (l0.length : Int)), (8, Value.int .i64 x14)] ∧ Ms [] w0 w []) K ⟨0, h21, hF.sub _ ⟨rfl, rfl, rfl, rfl, trivial⟩, hM.pick [] rfl rfl⟩ ?_ ?_
    · rintro a w ⟨_, H, _⟩; exact none_some H
    · rintro k a w ⟨x14, H, hF, hM⟩; rw [slices_IndexFunc_int_int__areAll_int_1_isFace.l0] at H
      refine wp_seq ?_
      refine s_region ?_
      refine s_val hF rfl rfl rfl (e_lss hF rfl rfl) ?_; intro a hF
      refine s_nil ?_
      refine then_n ?_
      refine wp_seq ?_
      rcases ite_cases H with ⟨c15, H⟩ | ⟨c15, H⟩
      ·
        refine s_cond_t hF rfl (decide_eq_true c15) ?_
        refine wp_skip ?_
        refine then_n ?_
        refine wp_seq ?_
        refine wp_block ?_
        refine wp_seq ?_
        refine s_region ?_
        refine s_val hF rfl rfl rfl (e_move hF rfl) ?_; intro a hF
        refine s_val hF rfl rfl rfl (e_assign hF rfl) ?_; intro a hF
        refine s_nil ?_
        refine then_n ?_
        refine wp_seq ?_
        obtain ⟨c16, H⟩ := ite_some H
        obtain ⟨t17, h18, H⟩ := bind_some H
        refine s_region ?_
        refine s_val hF rfl rfl rfl (e_move hF rfl) ?_; intro a hF
        refine s_val hF rfl rfl rfl (e_move hF rfl) ?_; intro a hF
        refine s_val hF rfl rfl rfl (e_move hF rfl) ?_; intro a hF
        refine s_val hF rfl rfl rfl (e_ias cd3 hF rfl rfl (q0.frm hM.frm).toF Try.underlying42 Try.sizeOf3 c16.1 c16.2) ?_; intro a hF
        refine s_val hF rfl rfl rfl (e_lds (m := x14) hF rfl (q0.frm hM.frm) (getD_some (z := (0 : Int)) c16.1 c16.2) rfl rfl Try.isAgg3) ?_; intro a hF
        refine s_callv hF rfl rfl rfl rfl (callsV_of Try.call101 (impl_areAll_int_1__isFace.calls K (l0.getD (x14 : Int).toNat (0 : Int)) b1 (box_frm q2 hM.frm) t17 h18)) ?_; intro a w v hF ⟨hf, hR⟩
        subst hR; have hM := hM.grow hf
        refine s_nil ?_
        refine then_n ?_
        rcases ite_cases H with ⟨c19, H⟩ | ⟨c19, H⟩
        ·
          refine s_cond_t hF rfl c19 ?_
          refine wp_seq ?_
          refine s_region ?_
          refine s_val hF rfl rfl rfl (e_move hF rfl) ?_; intro a hF
          refine s_val hF rfl rfl rfl (e_assign hF rfl) ?_; intro a hF
          refine s_nil ?_
          refine then_n ?_
          refine wp_ret ?_
          refine blk_r ?_
          refine then_r ?_
          refine then_r ?_
          exact Or.inr (⟨rfl, x14, some_some H, hF.sub _ ⟨rfl, trivial⟩, hM.pick [] rfl rfl⟩)
        ·
          refine s_cond_f hF rfl (bf c19) ?_
          refine wp_skip ?_
          refine blk_n ?_
          refine then_n ?_
          refine s_region ?_
          refine s_val hF rfl rfl rfl (e_add hF rfl rfl) ?_; intro a hF
          refine s_val hF rfl rfl rfl (e_move hF rfl) ?_; intro a hF
          refine s_nil ?_
          refine then_n ?_
          exact ⟨(wrap64 (x14 + 1)), H, hF.sub _ ⟨rfl, rfl, rfl, rfl, trivial⟩, hM.pick [] rfl rfl⟩
      ·
        refine s_cond_f hF rfl (decide_eq_false c15) ?_
        refine wp_exit ?_
        refine then_x ?_
        refine then_x ?_
        exact Or.inl (⟨rfl, some_some H, hF.sub _ trivial, hM.pick [] rfl rfl⟩)
  · rintro e a w (⟨rfl, rfl, hF, hM⟩ | ⟨rfl, r22, rfl, hF, hM⟩)
    ·
      dsimp only at H
      refine blk_x ?_
      refine then_n ?_
      refine wp_seq ?_
      refine s_region ?_
      refine s_val hF rfl rfl rfl (e_assign hF rfl) ?_; intro a hF
      refine s_nil ?_
      refine then_n ?_
      refine wp_ret ?_
      obtain rfl := some_some H
      refine s_ret [Value.int .i64 (-1)] hF Try.results104 ⟨rfl, trivial⟩ ?_
      exact ⟨_, rfl, hM.frm, rfl⟩
    ·
      dsimp only at H
      refine blk_r ?_
      refine then_r ?_
      obtain rfl := some_some H
      refine s_ret [Value.int .i64 r22] hF Try.results104 ⟨rfl, trivial⟩ ?_
      exact ⟨_, rfl, hM.frm, rfl⟩

/-! ### slices.ContainsFunc[[]int,int]: function 100 -/
def slices_ContainsFunc_int_int__areAll_int_1_isFace.f (K : Nat) (l0 : (List Int)) : Option Bool := (slices_IndexFunc_int_int__areAll_int_1_isFace.f K l0).bind fun t3 => some (decide (0 ≤ t3))
set_option maxRecDepth 100000 in
set_option maxHeartbeats 4000000 in
theorem slices_ContainsFunc_int_int__areAll_int_1_isFace.calls {w0 : World} (K : Nat) (l0 : (List Int)) (u0 : Value) (q0 : SlR cd3 w0 u0 l0) (b1 : Nat) (q2 : (boxR b1 [Pt.val (Value.func (.func 87) #[] #[]) rfl] 58).holds w0) (r : Bool) (H : slices_ContainsFunc_int_int__areAll_int_1_isFace.f K l0 = some r) : Calls Try.prog 100 [u0, Value.func (.func 101) #[] #[pt b1 0]].toArray w0 (Post w0 fun w v => v = Value.bool r) := by
  rw [slices_ContainsFunc_int_int__areAll_int_1_isFace.f] at H
  refine s_start Try.func100 rfl Try.ntmps100 rfl ?_
  intro a hF
  have hM := Ms.start w0
  skip
  refine wp_seq ?_
  refine s_region ?_
  refine s_val hF rfl rfl rfl (e_assign hF rfl) ?_; intro a hF
  refine s_nil ?_
  refine then_n ?_
  refine wp_seq ?_
  obtain ⟨t3, h4, H⟩ := bind_some H
  refine s_region ?_
  refine s_val hF rfl rfl rfl (e_move hF rfl) ?_; intro a hF
  refine s_val hF rfl rfl rfl (e_move hF rfl) ?_; intro a hF
  refine s_call hF rfl rfl rfl Try.call104 (slices_IndexFunc_int_int__areAll_int_1_isFace.calls K l0 u0 (q0.frm hM.frm) b1 (box_frm q2 hM.frm) t3 h4) ?_; intro a w v hF hf hR
  subst hR; have hM := hM.grow hf
  refine s_val hF rfl rfl rfl (e_geq hF rfl rfl) ?_; intro a hF
  refine s_val hF rfl rfl rfl (e_assign hF rfl) ?_; intro a hF
  refine s_nil ?_
  refine then_n ?_
  refine wp_ret ?_
  obtain rfl := some_some H
  refine s_ret [Value.bool (decide (0 ≤ t3))] hF Try.results100 ⟨rfl, trivial⟩ ?_
  exact ⟨_, rfl, hM.frm, rfl⟩

/-! ### loop.example/g01210/impl.areAll[int]: function 86 -/
def impl_areAll_int__isFace.f (K : Nat) (l0 : (List Int)) : Option Bool := (slices_ContainsFunc_int_int__areAll_int_1_isFace.f K l0).bind fun t2 => some (!t2)
set_option maxRecDepth 100000 in
set_option maxHeartbeats 4000000 in
theorem impl_areAll_int__isFace.calls {w0 : World} (K : Nat) (l0 : (List Int)) (u0 : Value) (q0 : SlR cd3 w0 u0 l0) (r : Bool) (H : impl_areAll_int__isFace.f K l0 = some r) : Calls Try.prog 86 [u0, Value.func (.func 87) #[] #[]].toArray w0 (Post w0 fun w v => v = Value.bool r) := by
  rw [impl_areAll_int__isFace.f] at H
  refine s_start Try.func86 rfl Try.ntmps86 rfl ?_
  intro a hF
  have hM := Ms.start w0
  skip
  refine wp_seq ?_
  refine s_region ?_
  refine s_box (ps := [Pt.val (Value.func (.func 87) #[] #[]) rfl]) hF hM rfl rfl rfl rfl ?_; intro a w b1 hF hM
  refine s_val hF rfl rfl rfl (e_assign hF rfl) ?_; intro a hF
  refine s_nil ?_
  refine then_n ?_
  refine wp_seq ?_
  obtain ⟨t2, h3, H⟩ := bind_some H
  refine s_region ?_
  refine s_val hF rfl rfl rfl (e_move hF rfl) ?_; intro a hF
  refine s_val hF rfl rfl rfl (e_mkfunc (hF.evs' rfl)) ?_; intro a hF
  refine s_call hF rfl rfl rfl Try.call100 (slices_ContainsFunc_int_int__areAll_int_1_isFace.calls K l0 u0 (q0.frm hM.frm) b1 (hM.get 0 rfl) t2 h3) ?_; intro a w v hF hf hR
  subst hR; have hM := hM.grow hf
  refine s_val hF rfl rfl rfl (e_not hF rfl) ?_; intro a hF
  refine s_val hF rfl rfl rfl (e_assign hF rfl) ?_; intro a hF
  refine s_nil ?_
  refine then_n ?_
  refine wp_ret ?_
  obtain rfl := some_some H
  refine s_ret [Value.bool (!t2)] hF Try.results86 ⟨rfl, trivial⟩ ?_
  exact ⟨_, rfl, hM.frm, rfl⟩

/-! ### cmp.isNaN[int]: function 105 -/
def cmp_isNaN_int.f (K : Nat) (a0 : Int) : Option Bool := some (!(decide (a0 = a0)))
set_option maxRecDepth 100000 in
set_option maxHeartbeats 4000000 in
theorem cmp_isNaN_int.calls {w0 : World} (K : Nat) (a0 : Int) (r : Bool) (H : cmp_isNaN_int.f K a0 = some r) : Calls Try.prog 105 [Value.int .i64 a0].toArray w0 (Post w0 fun w v => v = Value.bool r) := by
  rw [cmp_isNaN_int.f] at H
  refine s_start Try.func105 rfl Try.ntmps105 rfl ?_
  intro a hF
  have hM := Ms.start w0
  skip
  refine wp_seq ?_
  refine s_region ?_
  refine s_val hF rfl rfl rfl (e_assign hF rfl) ?_; intro a hF
  refine s_nil ?_
  refine then_n ?_
  refine wp_seq ?_
  refine s_region ?_
  refine s_val hF rfl rfl rfl (e_move hF rfl) ?_; intro a hF
  refine s_val hF rfl rfl rfl (e_move hF rfl) ?_; intro a hF
  refine s_val hF rfl rfl rfl (e_neq hF rfl rfl) ?_; intro a hF
  refine s_val hF rfl rfl rfl (e_assign hF rfl) ?_; intro a hF
  refine s_nil ?_
  refine then_n ?_
  refine wp_ret ?_
  obtain rfl := some_some H
  refine s_ret [Value.bool (!(decide (a0 = a0)))] hF Try.results105 ⟨rfl, trivial⟩ ?_
  exact ⟨_, rfl, hM.frm, rfl⟩

/-! ### cmp.Less[int]: function 102 -/
def cmp_Less_int.f (K : Nat) (a0 : Int) (a1 : Int) : Option Bool := (cmp_isNaN_int.f K a0).bind fun t1 => if t1 = true then ((cmp_isNaN_int.f K a1).bind fun t4 => if t4 = true then (some (decide (a0 < a1))) else (some true)) else (some (decide (a0 < a1)))
set_option maxRecDepth 100000 in
set_option maxHeartbeats 4000000 in
theorem cmp_Less_int.calls {w0 : World} (K : Nat) (a0 : Int) (a1 : Int) (r : Bool) (H : cmp_Less_int.f K a0 a1 = some r) : Calls Try.prog 102 [Value.int .i64 a0, Value.int .i64 a1].toArray w0 (Post w0 fun w v => v = Value.bool r) := by
  rw [cmp_Less_int.f] at H
  refine s_start Try.func102 rfl Try.ntmps102 rfl ?_
  intro a hF
  have hM := Ms.start w0
  skip
  refine wp_seq ?_
  refine s_region ?_
  refine s_val hF rfl rfl rfl (e_assign hF rfl) ?_; intro a hF
  refine s_nil ?_
  refine then_n ?_
  refine wp_seq ?_
  obtain ⟨t1, h2, H⟩ := bind_some H
  rcases ite_cases H with ⟨c3, H⟩ | ⟨c3, H⟩
  ·
    obtain ⟨t4, h5, H⟩ := bind_some H
    rcases ite_cases H with ⟨c6, H⟩ | ⟨c6, H⟩
    ·
      refine s_region ?_
      refine s_val hF rfl rfl rfl (e_move hF rfl) ?_; intro a hF
      refine s_call hF rfl rfl rfl Try.call105 (cmp_isNaN_int.calls K a0 t1 h2) ?_; intro a w v hF hf hR
      subst hR; have hM := hM.grow hf
      refine s_val hF rfl rfl rfl (e_move hF rfl) ?_; intro a hF
      have hF := hF.topb c3
      refine s_val hF rfl rfl rfl (e_move hF rfl) ?_; intro a hF
      refine s_call hF rfl rfl rfl Try.call105 (cmp_isNaN_int.calls K a1 t4 h5) ?_; intro a w v hF hf hR
      subst hR; have hM := hM.grow hf
      refine s_val hF rfl rfl rfl (e_not hF rfl) ?_; intro a hF
      refine s_val hF rfl rfl rfl (e_pick_t hF rfl rfl) ?_; intro a hF
      refine s_val hF rfl rfl rfl (e_move hF rfl) ?_; intro a hF
      have hF := hF.topb (congrArg Bool.not c6)
      refine s_val hF rfl rfl rfl (e_move hF rfl) ?_; intro a hF
      refine s_val hF rfl rfl rfl (e_move hF rfl) ?_; intro a hF
      refine s_val hF rfl rfl rfl (e_lss hF rfl rfl) ?_; intro a hF
      refine s_val hF rfl rfl rfl (e_pick_f hF rfl rfl) ?_; intro a hF
      refine s_val hF rfl rfl rfl (e_assign hF rfl) ?_; intro a hF
      refine s_nil ?_
      refine then_n ?_
      refine wp_ret ?_
      obtain rfl := some_some H
      refine s_ret [Value.bool (decide (a0 < a1))] hF Try.results102 ⟨rfl, trivial⟩ ?_
      exact ⟨_, rfl, hM.frm, rfl⟩
    ·
      refine s_region ?_
      refine s_val hF rfl rfl rfl (e_move hF rfl) ?_; intro a hF
      refine s_call hF rfl rfl rfl Try.call105 (cmp_isNaN_int.calls K a0 t1 h2) ?_; intro a w v hF hf hR
      subst hR; have hM := hM.grow hf
      refine s_val hF rfl rfl rfl (e_move hF rfl) ?_; intro a hF
      have hF := hF.topb c3
      refine s_val hF rfl rfl rfl (e_move hF rfl) ?_; intro a hF
      refine s_call hF rfl rfl rfl Try.call105 (cmp_isNaN_int.calls K a1 t4 h5) ?_; intro a w v hF hf hR
      subst hR; have hM := hM.grow hf
      refine s_val hF rfl rfl rfl (e_not hF rfl) ?_; intro a hF
      refine s_val hF rfl rfl rfl (e_pick_t hF rfl rfl) ?_; intro a hF
      refine s_val hF rfl rfl rfl (e_move hF rfl) ?_; intro a hF
      have hF := hF.topb (congrArg Bool.not (bf c6))
      refine s_skip hF rfl rfl rfl ?_; intro a hF
      refine s_skip hF rfl rfl rfl ?_; intro a hF
      refine s_skip hF rfl rfl rfl ?_; intro a hF
      refine s_val hF rfl rfl rfl (e_pick_t hF rfl rfl) ?_; intro a hF
      refine s_val hF rfl rfl rfl (e_assign hF rfl) ?_; intro a hF
      refine s_nil ?_
      refine then_n ?_
      refine wp_ret ?_
      obtain rfl := some_some H
      refine s_ret [Value.bool true] hF Try.results102 ⟨rfl, trivial⟩ ?_
      exact ⟨_, rfl, hM.frm, rfl⟩
  ·
    refine s_region ?_
    refine s_val hF rfl rfl rfl (e_move hF rfl) ?_; intro a hF
    refine s_call hF rfl rfl rfl Try.call105 (cmp_isNaN_int.calls K a0 t1 h2) ?_; intro a w v hF hf hR
    subst hR; have hM := hM.grow hf
    refine s_val hF rfl rfl rfl (e_move hF rfl) ?_; intro a hF
    have hF := hF.topb (bf c3)
    refine s_skip hF rfl rfl rfl ?_; intro a hF
    refine s_skip hF rfl rfl rfl ?_; intro a hF
    refine s_skip hF rfl rfl rfl ?_; intro a hF
    refine s_val hF rfl rfl rfl (e_pick_f hF rfl rfl) ?_; intro a hF
    refine s_val hF rfl rfl rfl (e_move hF rfl) ?_; intro a hF
    refine s_val hF rfl rfl rfl (e_move hF rfl) ?_; intro a hF
    refine s_val hF rfl rfl rfl (e_move hF rfl) ?_; intro a hF
    refine s_val hF rfl rfl rfl (e_lss hF rfl rfl) ?_; intro a hF
    refine s_val hF rfl rfl rfl (e_pick_f hF rfl rfl) ?_; intro a hF
    refine s_val hF rfl rfl rfl (e_assign hF rfl) ?_; intro a hF
    refine s_nil ?_
    refine then_n ?_
    refine wp_ret ?_
    obtain rfl := some_some H
    refine s_ret [Value.bool (decide (a0 < a1))] hF Try.results102 ⟨rfl, trivial⟩ ?_
    exact ⟨_, rfl, hM.frm, rfl⟩

/-! ### slices.IsSorted[[]int,int]: function 88 -/
def slices_IsSorted_int_int.l0 (K : Nat) (l0 : (List Int)) : Nat → Int → Option (Sum Unit Bool)
  | 0, _ => none
  | k + 1, x14 => if 0 < x14 then (if (0 : Int) ≤ x14 ∧ x14 < (l0.length : Int) then (if (0 : Int) ≤ (wrap64 (x14 - 1)) ∧ (wrap64 (x14 - 1)) < (l0.length : Int) then ((cmp_Less_int.f K (l0.getD (x14 : Int).toNat (0 : Int)) (l0.getD ((wrap64 (x14 - 1)) : Int).toNat (0 : Int))).bind fun t18 => if t18 = true then (some (Sum.inr false)) else (slices_IsSorted_int_int.l0 K l0 k (wrap64 (x14 - 1)))) else none) else none) else (some (Sum.inl ()))
def slices_IsSorted_int_int.f (K : Nat) (l0 : (List Int)) : Option Bool := (slices_IsSorted_int_int.l0 K l0 K (wrap64 ((l0.length : Int) - 1))).bind fun o23 => (match o23 with | .inl () => some true | .inr r25 => some r25)
set_option maxRecDepth 100000 in
set_option maxHeartbeats 4000000 in
theorem slices_IsSorted_int_int.calls {w0 : World} (K : Nat) (l0 : (List Int)) (u0 : Value) (q0 : SlR cd3 w0 u0 l0) (r : Bool) (H : slices_IsSorted_int_int.f K l0 = some r) : Calls Try.prog 88 [u0].toArray w0 (Post w0 fun w v => v = Value.bool r) := by
  rw [slices_IsSorted_int_int.f] at H
  refine s_start Try.func88 rfl Try.ntmps88 rfl ?_
  intro a hF
  have hM := Ms.start w0
  skip
  refine wp_seq ?_
  refine s_region ?_
  refine s_val hF rfl rfl rfl (e_assign hF rfl) ?_; intro a hF
  refine s_nil ?_
  refine then_n ?_
  refine wp_seq ?_
  refine wp_seq ?_
  refine s_region ?_
  refine s_val hF rfl rfl rfl (e_move hF rfl) ?_; intro a hF
  refine s_val hF rfl rfl rfl (e_len hF rfl (q0.frm hM.frm).toF Try.underlying42) ?_; intro a hF
  refine s_val hF rfl rfl rfl (e_sub hF rfl rfl) ?_; intro a hF
  refine s_val hF rfl rfl rfl (e_assign hF rfl) ?_; intro a hF
  refine s_nil ?_
  refine then_n ?_
  refine wp_block ?_
  obtain ⟨o23, h24, H⟩ := bind_some H
  refine wp_mono (Q := fun e a w => (e = Exit.exit 0 ∧ Sum.inl () = o23 ∧ Fr 21 a [] ∧ Ms [] w0 w []) ∨ (e = Exit.ret ∧ ∃ r25 : Bool, Sum.inr r25 = o23 ∧ Fr 21 a [(2, Value.bool r25)] ∧ Ms [] w0 w [])) ?_ ?_
  · refine s_loop (fun kq a w => ∃ x14 : Int, slices_IsSorted_int_int.l0 K l0 kq x14 = some o23 ∧ Fr 21 a [(0, u0), (3, Value.int .i64 x14)] ∧ Ms [] w0 w []) K ⟨(wrap64 ((l0.length : Int) - 1)), h24, hF.sub _ ⟨rfl, rfl, trivial⟩, hM.pick [] rfl rfl⟩ ?_ ?_
    · rintro a w ⟨_, H, _⟩; exact none_some H
    · rintro k a w ⟨x14, H, hF, hM⟩; rw [slices_IsSorted_int_int.l0] at H
      refine wp_seq ?_
      refine wp_seq ?_
      refine s_region ?_
      refine s_val hF rfl rfl rfl (e_move hF rfl) ?_; intro a hF
      refine s_val hF rfl rfl rfl (e_gtr hF rfl rfl) ?_; intro a hF
      refine s_nil ?_
      refine then_n ?_
      rcases ite_cases H with ⟨c15, H⟩ | ⟨c15, H⟩
      ·
        refine s_cond_t hF rfl (decide_eq_true c15) ?_
        refine wp_skip ?_
        refine then_n ?_
        refine wp_seq ?_
        refine wp_block ?_
        refine wp_seq ?_
        obtain ⟨c16, H⟩ := ite_some H
        obtain ⟨c17, H⟩ := ite_some H
        obtain ⟨t18, h19, H⟩ := bind_some H
        refine s_held (fun w => Ms [] w0 w []) #[false, false, false, false, false, false, false, false, false, false] mixed rfl rfl hM ?_; intro w hf hM; clear hf
        refine h_val 0 #[true, false, false, false, false, false, false, false, false, false] rfl (by kernel_rfl) hF rfl rfl rfl (fun w hS => e_move hF rfl) (hM.pick [] rfl rfl) ?_; intro a hF
        refine h_val 1 #[true, true, false, false, false, false, false, false, false, false] rfl (by kernel_rfl) hF rfl rfl rfl (fun w hS => e_move hF rfl) (hM.pick [] rfl rfl) ?_; intro a hF
        have f20 := (q0.frm hM.frm).toF
        refine h_val 2 #[true, true, true, false, false, false, false, false, false, false] rfl (by kernel_rfl) hF rfl rfl rfl (fun w hS => e_ias cd3 hF rfl rfl f20 Try.underlying42 Try.sizeOf3 c16.1 c16.2) (hM.pick [] rfl rfl) ?_; intro a hF
        refine h_val 3 #[true, true, true, true, false, false, false, false, false, false] rfl (by kernel_rfl) hF rfl rfl rfl (fun w hS => e_lds (m := x14) hF rfl (q0.frm hS.frm) (getD_some (z := (0 : Int)) c16.1 c16.2) rfl rfl Try.isAgg3) (hM.pick [] rfl rfl) ?_; intro a hF
        refine h_val 4 #[true, true, true, true, true, false, false, false, false, false] rfl (by kernel_rfl) hF rfl rfl rfl (fun w hS => e_move hF rfl) (hM.pick [] rfl rfl) ?_; intro a hF
        refine h_val 5 #[true, true, true, true, true, true, false, false, false, false] rfl (by kernel_rfl) hF rfl rfl rfl (fun w hS => e_move hF rfl) (hM.pick [] rfl rfl) ?_; intro a hF
        refine h_val 6 #[true, true, true, true, true, true, true, false, false, false] rfl (by kernel_rfl) hF rfl rfl rfl (fun w hS => e_sub hF rfl rfl) (hM.pick [] rfl rfl) ?_; intro a hF
        have f21 := (q0.frm hM.frm).toF
        refine h_val 7 #[true, true, true, true, true, true, true, true, false, false] rfl (by kernel_rfl) hF rfl rfl rfl (fun w hS => e_ias cd3 hF rfl rfl f21 Try.underlying42 Try.sizeOf3 c17.1 c17.2) (hM.pick [] rfl rfl) ?_; intro a hF
        refine h_val 8 #[true, true, true, true, true, true, true, true, true, false] rfl (by kernel_rfl) hF rfl rfl rfl (fun w hS => e_lds (m := (wrap64 (x14 - 1))) hF rfl (q0.frm hS.frm) (getD_some (z := (0 : Int)) c17.1 c17.2) rfl rfl Try.isAgg3) (hM.pick [] rfl rfl) ?_; intro a hF
        refine h_one 9 #[true, true, true, true, true, true, true, true, true, true] rfl (by kernel_rfl) ?_
        refine s_call hF rfl rfl rfl Try.call102 (cmp_Less_int.calls K (l0.getD (x14 : Int).toNat (0 : Int)) (l0.getD ((wrap64 (x14 - 1)) : Int).toNat (0 : Int)) t18 h19) ?_; intro a w v hF hf hR
        subst hR; have hM := hM.grow hf
        refine s_nil ⟨rfl, (hM.pick [] rfl rfl), ?_⟩
        refine h_done rfl ?_
        refine then_n ?_
        rcases ite_cases H with ⟨c22, H⟩ | ⟨c22, H⟩
        ·
          refine s_cond_t hF rfl c22 ?_
          refine wp_seq ?_
          refine s_region ?_
          refine s_val hF rfl rfl rfl (e_assign hF rfl) ?_; intro a hF
          refine s_nil ?_
          refine then_n ?_
          refine wp_ret ?_
          refine blk_r ?_
          refine then_r ?_
          refine then_r ?_
          exact Or.inr (⟨rfl, false, some_some H, hF.sub _ ⟨rfl, trivial⟩, hM.pick [] rfl rfl⟩)
        ·
          refine s_cond_f hF rfl (bf c22) ?_
          refine wp_skip ?_
          refine blk_n ?_
          refine then_n ?_
          refine s_region ?_
          refine s_val hF rfl rfl rfl (e_move hF rfl) ?_; intro a hF
          refine s_val hF rfl rfl rfl (e_sub hF rfl rfl) ?_; intro a hF
          refine s_val hF rfl rfl rfl (e_assign hF rfl) ?_; intro a hF
          refine s_nil ?_
          refine then_n ?_
          exact ⟨(wrap64 (x14 - 1)), H, hF.sub _ ⟨rfl, rfl, trivial⟩, hM.pick [] rfl rfl⟩
      ·
        refine s_cond_f hF rfl (decide_eq_false c15) ?_
        refine wp_exit ?_
        refine then_x ?_
        refine then_x ?_
        exact Or.inl (⟨rfl, some_some H, hF.sub _ trivial, hM.pick [] rfl rfl⟩)
  · rintro e a w (⟨rfl, rfl, hF, hM⟩ | ⟨rfl, r25, rfl, hF, hM⟩)
    ·
      dsimp only at H
      refine blk_x ?_
      refine then_n ?_
      refine wp_seq ?_
      refine s_region ?_
      refine s_val hF rfl rfl rfl (e_assign hF rfl) ?_; intro a hF
      refine s_nil ?_
      refine then_n ?_
      refine wp_ret ?_
      obtain rfl := some_some H
      refine s_ret [Value.bool true] hF Try.results88 ⟨rfl, trivial⟩ ?_
      exact ⟨_, rfl, hM.frm, rfl⟩
    ·
      dsimp only at H
      refine blk_r ?_
      refine then_r ?_
      obtain rfl := some_some H
      refine s_ret [Value.bool r25] hF Try.results88 ⟨rfl, trivial⟩ ?_
      exact ⟨_, rfl, hM.frm, rfl⟩

/-! ### loop.example/g01210/impl.IsDie: function 50 -/
def impl_IsDie.f (K : Nat) (a0 : (Ar 6)) : Option Bool := (impl_areAll_int__isFace.f K a0.l).bind fun t2 => if t2 = true then ((slices_IsSorted_int_int.f K a0.l).bind fun t5 => some t5) else (some false)
set_option maxRecDepth 100000 in
set_option maxHeartbeats 4000000 in
theorem impl_IsDie.calls {w0 : World} (K : Nat) (a0 : (Ar 6)) (r : Bool) (H : impl_IsDie.f K a0 = some r) : Calls Try.prog 50 [ag [Pt.ar a0]].toArray w0 (Post w0 fun w v => v = Value.bool r) := by
  rw [impl_IsDie.f] at H
  refine s_start Try.func50 rfl Try.ntmps50 rfl ?_
  intro a hF
  have hM := Ms.start w0
  skip
  refine wp_seq ?_
  refine s_region ?_
  refine s_box (ps := [Pt.ar a0]) hF hM rfl rfl rfl rfl ?_; intro a w b1 hF hM
  refine s_val hF rfl rfl rfl (e_assign hF rfl) ?_; intro a hF
  refine s_nil ?_
  refine then_n ?_
  refine wp_seq ?_
  obtain ⟨t2, h3, H⟩ := bind_some H
  rcases ite_cases H with ⟨c4, H⟩ | ⟨c4, H⟩
  ·
    obtain ⟨t5, h6, H⟩ := bind_some H
    refine s_region ?_
    refine s_val hF rfl rfl rfl (e_slA0 hF rfl Try.underlying22 Try.sizeOf3) ?_; intro a hF
    refine s_call hF rfl rfl rfl Try.call86 (impl_areAll_int__isFace.calls K a0.l (Value.slice (some ⟨b1, 0, none⟩) 6 6) (hM.boxSl (k := 0) (m := 6) 0 rfl rfl rfl cd3 (fun _ => rfl) 6 (by decide)) t2 h3) ?_; intro a w v hF hf hR
    subst hR; have hM := hM.grow hf
    refine s_val hF rfl rfl rfl (e_move hF rfl) ?_; intro a hF
    have hF := hF.topb c4
    refine s_val hF rfl rfl rfl (e_slA0 hF rfl Try.underlying22 Try.sizeOf3) ?_; intro a hF
    refine s_call hF rfl rfl rfl Try.call88 (slices_IsSorted_int_int.calls K a0.l (Value.slice (some ⟨b1, 0, none⟩) 6 6) (hM.boxSl (k := 0) (m := 6) 0 rfl rfl rfl cd3 (fun _ => rfl) 6 (by decide)) t5 h6) ?_; intro a w v hF hf hR
    subst hR; have hM := hM.grow hf
    refine s_val hF rfl rfl rfl (e_pick_t hF rfl rfl) ?_; intro a hF
    refine s_val hF rfl rfl rfl (e_assign hF rfl) ?_; intro a hF
    refine s_nil ?_
    refine then_n ?_
    refine wp_ret ?_
    obtain rfl := some_some H
    refine s_ret [Value.bool t5] hF Try.results50 ⟨rfl, trivial⟩ ?_
    exact ⟨_, rfl, hM.frm, rfl⟩
  ·
    refine s_region ?_
    refine s_val hF rfl rfl rfl (e_slA0 hF rfl Try.underlying22 Try.sizeOf3) ?_; intro a hF
    refine s_call hF rfl rfl rfl Try.call86 (impl_areAll_int__isFace.calls K a0.l (Value.slice (some ⟨b1, 0, none⟩) 6 6) (hM.boxSl (k := 0) (m := 6) 0 rfl rfl rfl cd3 (fun _ => rfl) 6 (by decide)) t2 h3) ?_; intro a w v hF hf hR
    subst hR; have hM := hM.grow hf
    refine s_val hF rfl rfl rfl (e_move hF rfl) ?_; intro a hF
    have hF := hF.topb (bf c4)
    refine s_skip hF rfl rfl rfl ?_; intro a hF
    refine s_skip hF rfl rfl rfl ?_; intro a hF
    refine s_val hF rfl rfl rfl (e_pick_f hF rfl rfl) ?_; intro a hF
    refine s_val hF rfl rfl rfl (e_assign hF rfl) ?_; intro a hF
    refine s_nil ?_
    refine then_n ?_
    refine wp_ret ?_
    obtain rfl := some_some H
    refine s_ret [Value.bool false] hF Try.results50 ⟨rfl, trivial⟩ ?_
    exact ⟨_, rfl, hM.frm, rfl⟩

/-! ### loop.example/g01210/impl.power: function 53 -/
def impl_power.l0 (K : Nat) (a0 : Int) : Nat → Int → Int → Option Int
  | 0, _, _ => none
  | k + 1, x6, x7 => if x7 < a0 then (impl_power.l0 K a0 k (wrap64 (x6 * 6)) (wrap64 (x7 + 1))) else (some x6)
def impl_power.f (K : Nat) (a0 : Int) : Option Int := (impl_power.l0 K a0 K 1 0).bind fun x5 => some x5
set_option maxRecDepth 100000 in
set_option maxHeartbeats 4000000 in
theorem impl_power.calls {w0 : World} (K : Nat) (a0 : Int) (r : Int) (H : impl_power.f K a0 = some r) : Calls Try.prog 53 [Value.int .i64 a0].toArray w0 (Post w0 fun w v => v = Value.int .i64 r) := by
  rw [impl_power.f] at H
  refine s_start Try.func53 rfl Try.ntmps53 rfl ?_
  intro a hF
  have hM := Ms.start w0
  skip
  refine wp_seq ?_
  refine s_region ?_
  refine s_val hF rfl rfl rfl (e_assign hF rfl) ?_; intro a hF
  refine s_nil ?_
  refine then_n ?_
  refine wp_seq ?_
  refine s_region ?_
  refine s_val hF rfl rfl rfl (e_assign hF rfl) ?_; intro a hF
  refine s_nil ?_
  refine then_n ?_
  refine wp_seq ?_
  refine wp_seq ?_
  refine s_region ?_
  refine s_val hF rfl rfl rfl (e_move hF rfl) ?_; intro a hF
  refine s_val hF rfl rfl rfl (e_move hF rfl) ?_; intro a hF
  refine s_nil ?_
  refine then_n ?_
  refine wp_block ?_
  obtain ⟨o9, h10, H⟩ := bind_some H
  refine wp_mono (Q := fun e a w => (e = Exit.exit 0 ∧ ∃ x5 : Int, x5 = o9 ∧ Fr 11 a [(3, Value.int .i64 x5)] ∧ Ms [] w0 w [])) ?_ ?_
  · refine s_loop (fun kq a w => ∃ x6 : Int, ∃ x7 : Int, impl_power.l0 K a0 kq x6 x7 = some o9 ∧ Fr 11 a [(3, Value.int .i64 x6), (4, Value.int .i64 a0), (5, Value.int .i64 x7)] ∧ Ms [] w0 w []) K ⟨1, 0, h10, hF.sub _ ⟨rfl, rfl, rfl, trivial⟩, hM.pick [] rfl rfl⟩ ?_ ?_
    · rintro a w ⟨_, _, H, _⟩; exact none_some H
    · rintro k a w ⟨x6, x7, H, hF, hM⟩; rw [impl_power.l0] at H
      refine wp_seq ?_
      refine s_region ?_
      refine s_val hF rfl rfl rfl (e_lss hF rfl rfl) ?_; intro a hF
      refine s_nil ?_
      refine then_n ?_
      refine wp_seq ?_
      rcases ite_cases H with ⟨c8, H⟩ | ⟨c8, H⟩
      ·
        refine s_cond_t hF rfl (decide_eq_true c8) ?_
        refine wp_skip ?_
        refine then_n ?_
        refine wp_seq ?_
        refine wp_block ?_
        refine s_region ?_
        refine s_val hF rfl rfl rfl (e_move hF rfl) ?_; intro a hF
        refine s_val hF rfl rfl rfl (e_mul hF rfl rfl) ?_; intro a hF
        refine s_val hF rfl rfl rfl (e_assign hF rfl) ?_; intro a hF
        refine s_nil ?_
        refine blk_n ?_
        refine then_n ?_
        refine s_region ?_
        refine s_val hF rfl rfl rfl (e_add hF rfl rfl) ?_; intro a hF
        refine s_val hF rfl rfl rfl (e_move hF rfl) ?_; intro a hF
        refine s_nil ?_
        refine then_n ?_
        exact ⟨(wrap64 (x6 * 6)), (wrap64 (x7 + 1)), H, hF.sub _ ⟨rfl, rfl, rfl, trivial⟩, hM.pick [] rfl rfl⟩
      ·
        refine s_cond_f hF rfl (decide_eq_false c8) ?_
        refine wp_exit ?_
        refine then_x ?_
        refine then_x ?_
        exact ⟨rfl, x6, some_some H, hF.sub _ ⟨rfl, trivial⟩, hM.pick [] rfl rfl⟩
  · rintro e a w ⟨rfl, x5, rfl, hF, hM⟩
    skip
    refine blk_x ?_
    refine then_n ?_
    refine wp_seq ?_
    refine s_region ?_
    refine s_val hF rfl rfl rfl (e_move hF rfl) ?_; intro a hF
    refine s_val hF rfl rfl rfl (e_assign hF rfl) ?_; intro a hF
    refine s_nil ?_
    refine then_n ?_
    refine wp_ret ?_
    obtain rfl := some_some H
    refine s_ret [Value.int .i64 x5] hF Try.results53 ⟨rfl, trivial⟩ ?_
    exact ⟨_, rfl, hM.frm, rfl⟩

/-! ### loop.example/g01210/impl.BurstTable$1: function 52 -/
def impl_BurstTable_1__BurstTable_1.l0 (K : Nat) (a0 : Int) (a1 : Int) (y2 : (Ar 6)) (rec : (Int → Int → (Ar 6) → (Ar 121) → Option (Unit × (Ar 121)))) : Nat → Int → (Ar 121) → Option (Ar 121)
  | 0, _, _ => none
  | k + 1, x31, x32 => if x31 < 6 then (if (0 : Int) ≤ x31 ∧ x31 < 6 then (if (y2.get x31) = (y2.get 5) then (if 0 < a1 then ((rec (wrap64 (a0 + (y2.get x31))) (wrap64 (a1 - 1)) y2 x32).bind fun t37 => impl_BurstTable_1__BurstTable_1.l0 K a0 a1 y2 rec k (wrap64 (x31 + 1)) t37.2) else (if (0 : Int) ≤ (wrap64 (a0 + (y2.get x31))) ∧ (wrap64 (a0 + (y2.get x31))) < 121 then ((impl_power.f K a1).bind fun t40 => impl_BurstTable_1__BurstTable_1.l0 K a0 a1 y2 rec k (wrap64 (x31 + 1)) (x32.set (wrap64 (a0 + (y2.get x31))) (wrap64 ((x32.get (wrap64 (a0 + (y2.get x31)))) + t40)))) else none)) else (if (0 : Int) ≤ (wrap64 (a0 + (y2.get x31))) ∧ (wrap64 (a0 + (y2.get x31))) < 121 then ((impl_power.f K a1).bind fun t43 => impl_BurstTable_1__BurstTable_1.l0 K a0 a1 y2 rec k (wrap64 (x31 + 1)) (x32.set (wrap64 (a0 + (y2.get x31))) (wrap64 ((x32.get (wrap64 (a0 + (y2.get x31)))) + t43)))) else none)) else none) else (some x32)
def impl_BurstTable_1__BurstTable_1.g (K : Nat) (rec : (Int → Int → (Ar 6) → (Ar 121) → Option (Unit × (Ar 121)))) (a0 : Int) (a1 : Int) (y2 : (Ar 6)) (y5 : (Ar 121)) : Option (Unit × (Ar 121)) := (impl_BurstTable_1__BurstTable_1.l0 K a0 a1 y2 rec K 0 y5).bind fun x30 => some ((), x30)
def impl_BurstTable_1__BurstTable_1.r (K : Nat) : Nat → Int → Int → (Ar 6) → (Ar 121) → Option (Unit × (Ar 121))
  | 0 => fun _ _ _ _ => none
  | k + 1 => fun a0 a1 y2 y5 => impl_BurstTable_1__BurstTable_1.g K (impl_BurstTable_1__BurstTable_1.r K k) a0 a1 y2 y5
def impl_BurstTable_1__BurstTable_1.f (K : Nat) (a0 : Int) (a1 : Int) (y2 : (Ar 6)) (y5 : (Ar 121)) : Option (Unit × (Ar 121)) := impl_BurstTable_1__BurstTable_1.r K K a0 a1 y2 y5
set_option maxRecDepth 100000 in
set_option maxHeartbeats 4000000 in
theorem impl_BurstTable_1__BurstTable_1.step (K : Nat) (rec : (Int → Int → (Ar 6) → (Ar 121) → Option (Unit × (Ar 121)))) (hrec : ∀ {w0 : World} {X : List Nat} (a0 : Int) (a1 : Int) (b1 : Nat) (y2 : (Ar 6))  (b3 : Nat)  (b4 : Nat) (y5 : (Ar 121))  (qM : Ms X w0 w0 [boxR b1 [Pt.ar y2] 22, boxR b3 [Pt.val (Value.func (.func 52) #[] #[pt b1 0, pt b3 0, pt b4 0]) rfl] 53, boxR b4 [Pt.ar y5] 23]) (r : (Unit × (Ar 121))) (H : rec a0 a1 y2 y5 = some r), Calls Try.prog 52 [Value.int .i64 a0, Value.int .i64 a1, pt b1 0, pt b3 0, pt b4 0].toArray w0 (fun e w => ∃ v, e = .returned v ∧ Ms X w0 w [boxR b1 [Pt.ar y2] 22, boxR b3 [Pt.val (Value.func (.func 52) #[] #[pt b1 0, pt b3 0, pt b4 0]) rfl] 53, boxR b4 [Pt.ar r.2] 23] ∧ Value.tuple #[] = v)) {w0 : World} {X : List Nat} (a0 : Int) (a1 : Int) (b1 : Nat) (y2 : (Ar 6))  (b3 : Nat)  (b4 : Nat) (y5 : (Ar 121))  (qM : Ms X w0 w0 [boxR b1 [Pt.ar y2] 22, boxR b3 [Pt.val (Value.func (.func 52) #[] #[pt b1 0, pt b3 0, pt b4 0]) rfl] 53, boxR b4 [Pt.ar y5] 23]) (r : (Unit × (Ar 121))) (H : impl_BurstTable_1__BurstTable_1.g K rec a0 a1 y2 y5 = some r) : Calls Try.prog 52 [Value.int .i64 a0, Value.int .i64 a1, pt b1 0, pt b3 0, pt b4 0].toArray w0 (fun e w => ∃ v, e = .returned v ∧ Ms X w0 w [boxR b1 [Pt.ar y2] 22, boxR b3 [Pt.val (Value.func (.func 52) #[] #[pt b1 0, pt b3 0, pt b4 0]) rfl] 53, boxR b4 [Pt.ar r.2] 23] ∧ Value.tuple #[] = v) := by
  rw [impl_BurstTable_1__BurstTable_1.g] at H
  refine s_start Try.func52 rfl Try.ntmps52 rfl ?_
  intro a hF
  have hM := qM
  refine wp_seq ?_
  refine s_region ?_
  refine s_val hF rfl rfl rfl (e_lda (i := 0) 0 1 hF hM rfl rfl rfl rfl Try.isAgg22 Try.sizeOf22 rfl) ?_; intro a hF
  refine s_val hF rfl rfl rfl (e_move hF rfl) ?_; intro a hF
  refine s_nil ?_
  refine then_n ?_
  refine wp_block ?_
  obtain ⟨o45, h46, H⟩ := bind_some H
  refine wp_mono (Q := fun e a w => (e = Exit.exit 0 ∧ ∃ x30 : (Ar 121), x30 = o45 ∧ Fr 38 a [] ∧ Ms X w0 w [boxR b1 [Pt.ar y2] 22, boxR b3 [Pt.val (Value.func (.func 52) #[] #[pt b1 0, pt b3 0, pt b4 0]) rfl] 53, boxR b4 [Pt.ar x30] 23])) ?_ ?_
  · refine s_loop (fun kq a w => ∃ x31 : Int, ∃ x32 : (Ar 121), impl_BurstTable_1__BurstTable_1.l0 K a0 a1 y2 rec kq x31 x32 = some o45 ∧ Fr 38 a [(0, Value.int .i64 a0), (1, Value.int .i64 a1), (2, pt b1 0), (3, pt b3 0), (4, pt b4 0), (9, ag [Pt.ar y2]), (10, Value.int .i64 x31)] ∧ Ms X w0 w [boxR b1 [Pt.ar y2] 22, boxR b3 [Pt.val (Value.func (.func 52) #[] #[pt b1 0, pt b3 0, pt b4 0]) rfl] 53, boxR b4 [Pt.ar x32] 23]) K ⟨0, y5, h46, hF.sub _ ⟨rfl, rfl, rfl, rfl, rfl, rfl, rfl, trivial⟩, hM.pick [0, 1, 2] rfl rfl⟩ ?_ ?_
    · rintro a w ⟨_, _, H, _⟩; exact none_some H
    · rintro k a w ⟨x31, x32, H, hF, hM⟩; rw [impl_BurstTable_1__BurstTable_1.l0] at H
      refine wp_seq ?_
      refine s_region ?_
      refine s_val hF rfl rfl rfl (e_lss hF rfl rfl) ?_; intro a hF
      refine s_nil ?_
      refine then_n ?_
      refine wp_seq ?_
      rcases ite_cases H with ⟨c33, H⟩ | ⟨c33, H⟩
      ·
        refine s_cond_t hF rfl (decide_eq_true c33) ?_
        refine wp_skip ?_
        refine then_n ?_
        refine wp_seq ?_
        refine wp_block ?_
        refine wp_seq ?_
        obtain ⟨c34, H⟩ := ite_some H
        refine s_region ?_
        refine s_val hF rfl rfl rfl (e_ix hF rfl rfl Try.underlying22 Try.sizeOf3 Try.isAgg3 c34.1 c34.2) ?_; intro a hF
        refine s_val hF rfl rfl rfl (e_assign hF rfl) ?_; intro a hF
        refine s_nil ?_
        refine then_n ?_
        refine wp_seq ?_
        rcases ite_cases H with ⟨c35, H⟩ | ⟨c35, H⟩
        ·
          refine s_region ?_
          refine s_val hF rfl rfl rfl (e_move hF rfl) ?_; intro a hF
          refine s_val hF rfl rfl rfl (e_ia hF rfl rfl Try.underlying22 Try.sizeOf3 (by decide) (by decide)) ?_; intro a hF
          refine s_val hF rfl rfl rfl (e_ldi (i := 0) (k := 0) hF hM rfl rfl rfl rfl rfl Try.isAgg3 (by decide) (by decide)) ?_; intro a hF
          refine s_val hF rfl rfl rfl (e_eql hF rfl rfl) ?_; intro a hF
          refine s_val hF rfl rfl rfl (e_move hF rfl) ?_; intro a hF
          have hF := hF.topb (decide_eq_true c35)
          refine s_val hF rfl rfl rfl (e_move hF rfl) ?_; intro a hF
          refine s_val hF rfl rfl rfl (e_gtr hF rfl rfl) ?_; intro a hF
          refine s_val hF rfl rfl rfl (e_pick_t hF rfl rfl) ?_; intro a hF
          refine s_nil ?_
          refine then_n ?_
          rcases ite_cases H with ⟨c36, H⟩ | ⟨c36, H⟩
          ·
            refine s_cond_t hF rfl (decide_eq_true c36) ?_
            obtain ⟨t37, h38, H⟩ := bind_some H
            refine s_region ?_
            refine s_val hF rfl rfl rfl (e_ld (i := 1) (k := 0) hF hM rfl rfl rfl rfl Try.isAgg53 rfl) ?_; intro a hF
            refine s_val hF rfl rfl rfl (e_move hF rfl) ?_; intro a hF
            refine s_val hF rfl rfl rfl (e_move hF rfl) ?_; intro a hF
            refine s_val hF rfl rfl rfl (e_add hF rfl rfl) ?_; intro a hF
            refine s_val hF rfl rfl rfl (e_move hF rfl) ?_; intro a hF
            refine s_val hF rfl rfl rfl (e_sub hF rfl rfl) ?_; intro a hF
            refine s_callv hF rfl rfl rfl rfl (callsV_of Try.call52 (hrec (wrap64 (a0 + (y2.get x31))) (wrap64 (a1 - 1)) b1 y2 b3 b4 x32 (hM.lend [0, 1, 2] rfl rfl) t37 h38)) ?_; intro a w v hF hR
            obtain ⟨hR, rfl⟩ := hR; have hM := hM.back [0, 1, 2] [] (by decide) rfl rfl hR
            refine s_nil ?_
            refine blk_n ?_
            refine then_n ?_
            refine s_region ?_
            refine s_val hF rfl rfl rfl (e_add hF rfl rfl) ?_; intro a hF
            refine s_val hF rfl rfl rfl (e_move hF rfl) ?_; intro a hF
            refine s_nil ?_
            refine then_n ?_
            exact ⟨(wrap64 (x31 + 1)), t37.2, H, hF.sub _ ⟨rfl, rfl, rfl, rfl, rfl, rfl, rfl, trivial⟩, hM.pick [0, 1, 2] rfl rfl⟩
          ·
            refine s_cond_f hF rfl (decide_eq_false c36) ?_
            obtain ⟨c39, H⟩ := ite_some H
            obtain ⟨t40, h41, H⟩ := bind_some H
            refine wp_mono (Q := fun e a w => e = Exit.normal ∧ Fr 38 a [(0, Value.int .i64 a0), (1, Value.int .i64 a1), (2, pt b1 0), (3, pt b3 0), (4, pt b4 0), (9, ag [Pt.ar y2]), (10, Value.int .i64 x31)] ∧ Ms X w0 w [boxR b1 [Pt.ar y2] 22, boxR b3 [Pt.val (Value.func (.func 52) #[] #[pt b1 0, pt b3 0, pt b4 0]) rfl] 53, boxR b4 [Pt.ar (x32.set (wrap64 (a0 + (y2.get x31))) (wrap64 ((x32.get (wrap64 (a0 + (y2.get x31)))) + t40)))] 23]) ?_ ?_
            · skip
              refine s_held (fun w => Ms X w0 w [boxR b1 [Pt.ar y2] 22, boxR b3 [Pt.val (Value.func (.func 52) #[] #[pt b1 0, pt b3 0, pt b4 0]) rfl] 53]) #[false, false, false, false, false, false, false, false, false, false] mixed rfl rfl hM ?_; intro w hf hM; clear hf
              refine h_val 0 #[true, false, false, false, false, false, false, false, false, false] rfl (by kernel_rfl) hF rfl rfl rfl (fun w hS => e_move hF rfl) (hM.pick [0, 1] rfl rfl) ?_; intro a hF
              refine h_val 1 #[true, true, false, false, false, false, false, false, false, false] rfl (by kernel_rfl) hF rfl rfl rfl (fun w hS => e_move hF rfl) (hM.pick [0, 1] rfl rfl) ?_; intro a hF
              refine h_val 2 #[true, true, true, false, false, false, false, false, false, false] rfl (by kernel_rfl) hF rfl rfl rfl (fun w hS => e_add hF rfl rfl) (hM.pick [0, 1] rfl rfl) ?_; intro a hF
              refine h_val 3 #[true, true, true, true, false, false, false, false, false, false] rfl (by kernel_rfl) hF rfl rfl rfl (fun w hS => e_ia hF rfl rfl Try.underlying23 Try.sizeOf3 c39.1 c39.2) (hM.pick [0, 1] rfl rfl) ?_; intro a hF
              refine h_val 5 #[true, true, true, true, false, true, false, false, false, false] rfl (by kernel_rfl) hF rfl rfl rfl (fun w hS => e_move hF rfl) (hM.pick [0, 1] rfl rfl) ?_; intro a hF
              refine h_two 4 6 #[true, true, true, true, true, true, false, false, false, false] #[true, true, true, true, false, true, true, false, false, false] rfl rfl rfl rfl (by kernel_rfl) ?_ ?_
              · skip
                refine s_val hF rfl rfl rfl (e_ldi (i := 2) (k := 0) hF hM rfl rfl rfl rfl rfl Try.isAgg3 c39.1 c39.2) ?_; intro a hF
                refine s_nil ⟨rfl, (hM.pick [0, 1] rfl rfl), ?_⟩
                refine h_one 6 #[true, true, true, true, true, true, true, false, false, false] rfl (by kernel_rfl) ?_
                refine s_call hF rfl rfl rfl Try.call53 (impl_power.calls K a1 t40 h41) ?_; intro a w v hF hf hR
                subst hR; have hM := hM.grow hf
                refine s_nil ⟨rfl, (hM.pick [0, 1] rfl rfl), ?_⟩
                refine h_val 7 #[true, true, true, true, true, true, true, true, false, false] rfl (by kernel_rfl) hF rfl rfl rfl (fun w hS => e_add hF rfl rfl) (hM.pick [0, 1] rfl rfl) ?_; intro a hF
                refine h_val 8 #[true, true, true, true, true, true, true, true, true, false] rfl (by kernel_rfl) hF rfl rfl rfl (fun w hS => e_ia hF rfl rfl Try.underlying23 Try.sizeOf3 c39.1 c39.2) (hM.pick [0, 1] rfl rfl) ?_; intro a hF
                refine h_one 9 #[true, true, true, true, true, true, true, true, true, true] rfl (by kernel_rfl) ?_
                refine s_sti (i := 2) (k := 0) hF hM rfl rfl rfl rfl rfl rfl rfl Try.sizeOf3 c39.1 c39.2 ?_; intro a w hF hM
                refine s_nil ⟨rfl, (hM.pick [0, 1] rfl rfl), ?_⟩
                exact h_done rfl ⟨rfl, hF.sub _ ⟨rfl, rfl, rfl, rfl, rfl, rfl, rfl, trivial⟩, hM.pick [0, 1, 2] rfl rfl⟩
              · skip
                refine s_call hF rfl rfl rfl Try.call53 (impl_power.calls K a1 t40 h41) ?_; intro a w v hF hf hR
                subst hR; have hM := hM.grow hf
                refine s_nil ⟨rfl, (hM.pick [0, 1] rfl rfl), ?_⟩
                refine h_one 4 #[true, true, true, true, true, true, true, false, false, false] rfl (by kernel_rfl) ?_
                refine s_val hF rfl rfl rfl (e_ldi (i := 2) (k := 0) hF hM rfl rfl rfl rfl rfl Try.isAgg3 c39.1 c39.2) ?_; intro a hF
                refine s_nil ⟨rfl, (hM.pick [0, 1] rfl rfl), ?_⟩
                refine h_val 7 #[true, true, true, true, true, true, true, true, false, false] rfl (by kernel_rfl) hF rfl rfl rfl (fun w hS => e_add hF rfl rfl) (hM.pick [0, 1] rfl rfl) ?_; intro a hF
                refine h_val 8 #[true, true, true, true, true, true, true, true, true, false] rfl (by kernel_rfl) hF rfl rfl rfl (fun w hS => e_ia hF rfl rfl Try.underlying23 Try.sizeOf3 c39.1 c39.2) (hM.pick [0, 1] rfl rfl) ?_; intro a hF
                refine h_one 9 #[true, true, true, true, true, true, true, true, true, true] rfl (by kernel_rfl) ?_
                refine s_sti (i := 2) (k := 0) hF hM rfl rfl rfl rfl rfl rfl rfl Try.sizeOf3 c39.1 c39.2 ?_; intro a w hF hM
                refine s_nil ⟨rfl, (hM.pick [0, 1] rfl rfl), ?_⟩
                exact h_done rfl ⟨rfl, hF.sub _ ⟨rfl, rfl, rfl, rfl, rfl, rfl, rfl, trivial⟩, hM.pick [0, 1, 2] rfl rfl⟩
            rintro e a w ⟨rfl, hF, hM⟩
            refine blk_n ?_
            refine then_n ?_
            refine s_region ?_
            refine s_val hF rfl rfl rfl (e_add hF rfl rfl) ?_; intro a hF
            refine s_val hF rfl rfl rfl (e_move hF rfl) ?_; intro a hF
            refine s_nil ?_
            refine then_n ?_
            exact ⟨(wrap64 (x31 + 1)), (x32.set (wrap64 (a0 + (y2.get x31))) (wrap64 ((x32.get (wrap64 (a0 + (y2.get x31)))) + t40))), H, hF.sub _ ⟨rfl, rfl, rfl, rfl, rfl, rfl, rfl, trivial⟩, hM.pick [0, 1, 2] rfl rfl⟩
        ·
          refine s_region ?_
          refine s_val hF rfl rfl rfl (e_move hF rfl) ?_; intro a hF
          refine s_val hF rfl rfl rfl (e_ia hF rfl rfl Try.underlying22 Try.sizeOf3 (by decide) (by decide)) ?_; intro a hF
          refine s_val hF rfl rfl rfl (e_ldi (i := 0) (k := 0) hF hM rfl rfl rfl rfl rfl Try.isAgg3 (by decide) (by decide)) ?_; intro a hF
          refine s_val hF rfl rfl rfl (e_eql hF rfl rfl) ?_; intro a hF
          refine s_val hF rfl rfl rfl (e_move hF rfl) ?_; intro a hF
          have hF := hF.topb (decide_eq_false c35)
          refine s_skip hF rfl rfl rfl ?_; intro a hF
          refine s_skip hF rfl rfl rfl ?_; intro a hF
          refine s_val hF rfl rfl rfl (e_pick_f hF rfl rfl) ?_; intro a hF
          refine s_nil ?_
          refine then_n ?_
          refine s_cond_f hF rfl rfl ?_
          obtain ⟨c42, H⟩ := ite_some H
          obtain ⟨t43, h44, H⟩ := bind_some H
          refine wp_mono (Q := fun e a w => e = Exit.normal ∧ Fr 38 a [(0, Value.int .i64 a0), (1, Value.int .i64 a1), (2, pt b1 0), (3, pt b3 0), (4, pt b4 0), (9, ag [Pt.ar y2]), (10, Value.int .i64 x31)] ∧ Ms X w0 w [boxR b1 [Pt.ar y2] 22, boxR b3 [Pt.val (Value.func (.func 52) #[] #[pt b1 0, pt b3 0, pt b4 0]) rfl] 53, boxR b4 [Pt.ar (x32.set (wrap64 (a0 + (y2.get x31))) (wrap64 ((x32.get (wrap64 (a0 + (y2.get x31)))) + t43)))] 23]) ?_ ?_
          · skip
            refine s_held (fun w => Ms X w0 w [boxR b1 [Pt.ar y2] 22, boxR b3 [Pt.val (Value.func (.func 52) #[] #[pt b1 0, pt b3 0, pt b4 0]) rfl] 53]) #[false, false, false, false, false, false, false, false, false, false] mixed rfl rfl hM ?_; intro w hf hM; clear hf
            refine h_val 0 #[true, false, false, false, false, false, false, false, false, false] rfl (by kernel_rfl) hF rfl rfl rfl (fun w hS => e_move hF rfl) (hM.pick [0, 1] rfl rfl) ?_; intro a hF
            refine h_val 1 #[true, true, false, false, false, false, false, false, false, false] rfl (by kernel_rfl) hF rfl rfl rfl (fun w hS => e_move hF rfl) (hM.pick [0, 1] rfl rfl) ?_; intro a hF
            refine h_val 2 #[true, true, true, false, false, false, false, false, false, false] rfl (by kernel_rfl) hF rfl rfl rfl (fun w hS => e_add hF rfl rfl) (hM.pick [0, 1] rfl rfl) ?_; intro a hF
            refine h_val 3 #[true, true, true, true, false, false, false, false, false, false] rfl (by kernel_rfl) hF rfl rfl rfl (fun w hS => e_ia hF rfl rfl Try.underlying23 Try.sizeOf3 c42.1 c42.2) (hM.pick [0, 1] rfl rfl) ?_; intro a hF
            refine h_val 5 #[true, true, true, true, false, true, false, false, false, false] rfl (by kernel_rfl) hF rfl rfl rfl (fun w hS => e_move hF rfl) (hM.pick [0, 1] rfl rfl) ?_; intro a hF
            refine h_two 4 6 #[true, true, true, true, true, true, false, false, false, false] #[true, true, true, true, false, true, true, false, false, false] rfl rfl rfl rfl (by kernel_rfl) ?_ ?_
            · skip
              refine s_val hF rfl rfl rfl (e_ldi (i := 2) (k := 0) hF hM rfl rfl rfl rfl rfl Try.isAgg3 c42.1 c42.2) ?_; intro a hF
              refine s_nil ⟨rfl, (hM.pick [0, 1] rfl rfl), ?_⟩
              refine h_one 6 #[true, true, true, true, true, true, true, false, false, false] rfl (by kernel_rfl) ?_
              refine s_call hF rfl rfl rfl Try.call53 (impl_power.calls K a1 t43 h44) ?_; intro a w v hF hf hR
              subst hR; have hM := hM.grow hf
              refine s_nil ⟨rfl, (hM.pick [0, 1] rfl rfl), ?_⟩
              refine h_val 7 #[true, true, true, true, true, true, true, true, false, false] rfl (by kernel_rfl) hF rfl rfl rfl (fun w hS => e_add hF rfl rfl) (hM.pick [0, 1] rfl rfl) ?_; intro a hF
              refine h_val 8 #[true, true, true, true, true, true, true, true, true, false] rfl (by kernel_rfl) hF rfl rfl rfl (fun w hS => e_ia hF rfl rfl Try.underlying23 Try.sizeOf3 c42.1 c42.2) (hM.pick [0, 1] rfl rfl) ?_; intro a hF
              refine h_one 9 #[true, true, true, true, true, true, true, true, true, true] rfl (by kernel_rfl) ?_
              refine s_sti (i := 2) (k := 0) hF hM rfl rfl rfl rfl rfl rfl rfl Try.sizeOf3 c42.1 c42.2 ?_; intro a w hF hM
              refine s_nil ⟨rfl, (hM.pick [0, 1] rfl rfl), ?_⟩
              exact h_done rfl ⟨rfl, hF.sub _ ⟨rfl, rfl, rfl, rfl, rfl, rfl, rfl, trivial⟩, hM.pick [0, 1, 2] rfl rfl⟩
            · skip
              refine s_call hF rfl rfl rfl Try.call53 (impl_power.calls K a1 t43 h44) ?_; intro a w v hF hf hR
              subst hR; have hM := hM.grow hf
              refine s_nil ⟨rfl, (hM.pick [0, 1] rfl rfl), ?_⟩
              refine h_one 4 #[true, true, true, true, true, true, true, false, false, false] rfl (by kernel_rfl) ?_
              refine s_val hF rfl rfl rfl (e_ldi (i := 2) (k := 0) hF hM rfl rfl rfl rfl rfl Try.isAgg3 c42.1 c42.2) ?_; intro a hF
              refine s_nil ⟨rfl, (hM.pick [0, 1] rfl rfl), ?_⟩
              refine h_val 7 #[true, true, true, true, true, true, true, true, false, false] rfl (by kernel_rfl) hF rfl rfl rfl (fun w hS => e_add hF rfl rfl) (hM.pick [0, 1] rfl rfl) ?_; intro a hF
              refine h_val 8 #[true, true, true, true, true, true, true, true, true, false] rfl (by kernel_rfl) hF rfl rfl rfl (fun w hS => e_ia hF rfl rfl Try.underlying23 Try.sizeOf3 c42.1 c42.2) (hM.pick [0, 1] rfl rfl) ?_; intro a hF
              refine h_one 9 #[true, true, true, true, true, true, true, true, true, true] rfl (by kernel_rfl) ?_
              refine s_sti (i := 2) (k := 0) hF hM rfl rfl rfl rfl rfl rfl rfl Try.sizeOf3 c42.1 c42.2 ?_; intro a w hF hM
              refine s_nil ⟨rfl, (hM.pick [0, 1] rfl rfl), ?_⟩
              exact h_done rfl ⟨rfl, hF.sub _ ⟨rfl, rfl, rfl, rfl, rfl, rfl, rfl, trivial⟩, hM.pick [0, 1, 2] rfl rfl⟩
          rintro e a w ⟨rfl, hF, hM⟩
          refine blk_n ?_
          refine then_n ?_
          refine s_region ?_
          refine s_val hF rfl rfl rfl (e_add hF rfl rfl) ?_; intro a hF
          refine s_val hF rfl rfl rfl (e_move hF rfl) ?_; intro a hF
          refine s_nil ?_
          refine then_n ?_
          exact ⟨(wrap64 (x31 + 1)), (x32.set (wrap64 (a0 + (y2.get x31))) (wrap64 ((x32.get (wrap64 (a0 + (y2.get x31)))) + t43))), H, hF.sub _ ⟨rfl, rfl, rfl, rfl, rfl, rfl, rfl, trivial⟩, hM.pick [0, 1, 2] rfl rfl⟩
      ·
        refine s_cond_f hF rfl (decide_eq_false c33) ?_
        refine wp_exit ?_
        refine then_x ?_
        refine then_x ?_
        exact ⟨rfl, x32, some_some H, hF.sub _ trivial, hM.pick [0, 1, 2] rfl rfl⟩
  · rintro e a w ⟨rfl, x30, rfl, hF, hM⟩
    skip
    refine blk_x ?_
    obtain rfl := some_some H
    refine s_retn [] hF Try.results52 trivial ?_
    exact ⟨_, rfl, hM.pick [0, 1, 2] rfl rfl, rfl⟩
theorem impl_BurstTable_1__BurstTable_1.rcalls (K : Nat) : ∀ (k : Nat) {w0 : World} {X : List Nat} (a0 : Int) (a1 : Int) (b1 : Nat) (y2 : (Ar 6))  (b3 : Nat)  (b4 : Nat) (y5 : (Ar 121))  (qM : Ms X w0 w0 [boxR b1 [Pt.ar y2] 22, boxR b3 [Pt.val (Value.func (.func 52) #[] #[pt b1 0, pt b3 0, pt b4 0]) rfl] 53, boxR b4 [Pt.ar y5] 23]) (r : (Unit × (Ar 121))) (H : impl_BurstTable_1__BurstTable_1.r K k a0 a1 y2 y5 = some r), Calls Try.prog 52 [Value.int .i64 a0, Value.int .i64 a1, pt b1 0, pt b3 0, pt b4 0].toArray w0 (fun e w => ∃ v, e = .returned v ∧ Ms X w0 w [boxR b1 [Pt.ar y2] 22, boxR b3 [Pt.val (Value.func (.func 52) #[] #[pt b1 0, pt b3 0, pt b4 0]) rfl] 53, boxR b4 [Pt.ar r.2] 23] ∧ Value.tuple #[] = v)
  | 0, _, _, _, _, _, _, _, _, _, _, r, H => none_some H
  | k + 1, _, _, a0, a1, b1, y2, b3, b4, y5, qM, r, H => impl_BurstTable_1__BurstTable_1.step K (impl_BurstTable_1__BurstTable_1.r K k) (impl_BurstTable_1__BurstTable_1.rcalls K k) a0 a1 b1 y2 b3 b4 y5 qM r H
theorem impl_BurstTable_1__BurstTable_1.calls {w0 : World} {X : List Nat} (K : Nat) (a0 : Int) (a1 : Int) (b1 : Nat) (y2 : (Ar 6))  (b3 : Nat)  (b4 : Nat) (y5 : (Ar 121))  (qM : Ms X w0 w0 [boxR b1 [Pt.ar y2] 22, boxR b3 [Pt.val (Value.func (.func 52) #[] #[pt b1 0, pt b3 0, pt b4 0]) rfl] 53, boxR b4 [Pt.ar y5] 23]) (r : (Unit × (Ar 121))) (H : impl_BurstTable_1__BurstTable_1.f K a0 a1 y2 y5 = some r) : Calls Try.prog 52 [Value.int .i64 a0, Value.int .i64 a1, pt b1 0, pt b3 0, pt b4 0].toArray w0 (fun e w => ∃ v, e = .returned v ∧ Ms X w0 w [boxR b1 [Pt.ar y2] 22, boxR b3 [Pt.val (Value.func (.func 52) #[] #[pt b1 0, pt b3 0, pt b4 0]) rfl] 53, boxR b4 [Pt.ar r.2] 23] ∧ Value.tuple #[] = v) := impl_BurstTable_1__BurstTable_1.rcalls K K a0 a1 b1 y2 b3 b4 y5 qM r H

/-! ### loop.example/g01210/impl.BurstTable: function 17 -/
def impl_BurstTable.f (K : Nat) (a0 : (Ar 6)) (a1 : Int) : Option ((Ar 121) × Bool) := (impl_IsDie.f K a0).bind fun t4 => if t4 = true then ((impl_within.f K a1 0 3).bind fun t7 => if t7 = true then ((impl_BurstTable_1__BurstTable_1.f K 0 a1 a0 (Ar.zero 121)).bind fun t11 => some (t11.2, true)) else (some ((Ar.zero 121), false))) else (some ((Ar.zero 121), false))
set_option maxRecDepth 100000 in
set_option maxHeartbeats 4000000 in
theorem impl_BurstTable.calls {w0 : World} (K : Nat) (a0 : (Ar 6)) (a1 : Int) (r : ((Ar 121) × Bool)) (H : impl_BurstTable.f K a0 a1 = some r) : Calls Try.prog 17 [ag [Pt.ar a0], Value.int .i64 a1].toArray w0 (Post w0 fun w v => v = Value.tuple #[ag [Pt.ar r.1], Value.bool r.2]) := by
  rw [impl_BurstTable.f] at H
  refine s_start Try.func17 rfl Try.ntmps17 rfl ?_
  intro a hF
  have hM := Ms.start w0
  skip
  refine wp_seq ?_
  refine s_region ?_
  refine s_box (ps := [Pt.ar a0]) hF hM rfl rfl rfl rfl ?_; intro a w b1 hF hM
  refine s_alloc (ps := [Pt.ar (Ar.zero 121)]) hF hM rfl rfl zv23 rfl ?_; intro a w b2 hF hM
  refine s_val hF rfl rfl rfl (e_assign hF rfl) ?_; intro a hF
  refine s_nil ?_
  refine then_n ?_
  refine wp_seq ?_
  refine s_region ?_
  refine s_alloc (ps := [Pt.ar (Ar.zero 121)]) hF hM rfl rfl zv23 rfl ?_; intro a w b3 hF hM
  refine s_nil ?_
  refine then_n ?_
  refine wp_seq ?_
  refine wp_seq ?_
  obtain ⟨t4, h5, H⟩ := bind_some H
  rcases ite_cases H with ⟨c6, H⟩ | ⟨c6, H⟩
  ·
    obtain ⟨t7, h8, H⟩ := bind_some H
    refine s_region ?_
    refine s_val hF rfl rfl rfl (e_lda (i := 2) 0 1 hF hM rfl rfl rfl rfl Try.isAgg22 Try.sizeOf22 rfl) ?_; intro a hF
    refine s_call hF rfl rfl rfl Try.call50 (impl_IsDie.calls K a0 t4 h5) ?_; intro a w v hF hf hR
    subst hR; have hM := hM.grow hf
    refine s_val hF rfl rfl rfl (e_not hF rfl) ?_; intro a hF
    refine s_val hF rfl rfl rfl (e_move hF rfl) ?_; intro a hF
    have hF := hF.topb (congrArg Bool.not c6)
    refine s_val hF rfl rfl rfl (e_move hF rfl) ?_; intro a hF
    refine s_call hF rfl rfl rfl Try.call51 (impl_within.calls K a1 0 3 t7 h8) ?_; intro a w v hF hf hR
    subst hR; have hM := hM.grow hf
    refine s_val hF rfl rfl rfl (e_not hF rfl) ?_; intro a hF
    refine s_val hF rfl rfl rfl (e_pick_f hF rfl rfl) ?_; intro a hF
    refine s_nil ?_
    refine then_n ?_
    rcases ite_cases H with ⟨c9, H⟩ | ⟨c9, H⟩
    ·
      refine s_cond_f hF rfl (congrArg Bool.not c9) ?_
      refine wp_skip ?_
      refine then_n ?_
      refine wp_seq ?_
      refine s_region ?_
      refine s_alloc (ps := [Pt.val Value.nilFunc rfl]) hF hM rfl rfl zv53 rfl ?_; intro a w b10 hF hM
      refine s_nil ?_
      refine then_n ?_
      refine wp_seq ?_
      refine s_region ?_
      refine s_val hF rfl rfl rfl (e_mkfunc (hF.evs' rfl)) ?_; intro a hF
      refine s_st (i := 0) (k := 0) (Pt.val (Value.func (.func 52) #[] #[pt b1 0, pt b10 0, pt b3 0]) rfl) hF hM rfl rfl rfl rfl rfl rfl rfl rfl Try.sizeOf53 rfl ?_; intro a w hF hM
      refine s_nil ?_
      refine then_n ?_
      refine wp_seq ?_
      obtain ⟨t11, h12, H⟩ := bind_some H
      refine s_region ?_
      refine s_val hF rfl rfl rfl (e_ld (i := 0) (k := 0) hF hM rfl rfl rfl rfl Try.isAgg53 rfl) ?_; intro a hF
      refine s_val hF rfl rfl rfl (e_move hF rfl) ?_; intro a hF
      refine s_callv hF rfl rfl rfl rfl (callsV_of Try.call52 (impl_BurstTable_1__BurstTable_1.calls K 0 a1 b1 a0 b10 b3 (Ar.zero 121) (hM.lend [3, 0, 1] rfl rfl) t11 h12)) ?_; intro a w v hF hR
      obtain ⟨hR, rfl⟩ := hR; have hM := hM.back [3, 0, 1] [2] (by decide) rfl rfl hR
      refine s_nil ?_
      refine then_n ?_
      refine wp_seq ?_
      refine s_region ?_
      refine s_val hF rfl rfl rfl (e_lda (i := 2) 0 1 hF hM rfl rfl rfl rfl Try.isAgg23 Try.sizeOf23 rfl) ?_; intro a hF
      refine s_stw (i := 3) (ps' := [Pt.ar t11.2]) hF hM rfl rfl rfl rfl rfl rfl Try.sizeOf23 rfl ?_; intro a w hF hM
      refine s_val hF rfl rfl rfl (e_assign hF rfl) ?_; intro a hF
      refine s_nil ?_
      refine then_n ?_
      refine wp_ret ?_
      obtain rfl := some_some H
      refine s_ret [ag [Pt.ar t11.2], Value.bool true] hF Try.results17 ⟨⟨_, rfl, rv_box hM (i := 3) rfl Try.isAgg23 Try.sizeOf23 rfl⟩, rfl, trivial⟩ ?_
      exact ⟨_, rfl, hM.frm, rfl⟩
    ·
      refine s_cond_t hF rfl (congrArg Bool.not (bf c9)) ?_
      refine wp_seq ?_
      refine s_region ?_
      refine s_val hF rfl rfl rfl (e_lda (i := 0) 0 1 hF hM rfl rfl rfl rfl Try.isAgg23 Try.sizeOf23 rfl) ?_; intro a hF
      refine s_stw (i := 1) (ps' := [Pt.ar (Ar.zero 121)]) hF hM rfl rfl rfl rfl rfl rfl Try.sizeOf23 rfl ?_; intro a w hF hM
      refine s_val hF rfl rfl rfl (e_assign hF rfl) ?_; intro a hF
      refine s_nil ?_
      refine then_n ?_
      refine wp_ret ?_
      refine then_r ?_
      obtain rfl := some_some H
      refine s_ret [ag [Pt.ar (Ar.zero 121)], Value.bool false] hF Try.results17 ⟨⟨_, rfl, rv_box hM (i := 1) rfl Try.isAgg23 Try.sizeOf23 rfl⟩, rfl, trivial⟩ ?_
      exact ⟨_, rfl, hM.frm, rfl⟩
  ·
    refine s_region ?_
    refine s_val hF rfl rfl rfl (e_lda (i := 2) 0 1 hF hM rfl rfl rfl rfl Try.isAgg22 Try.sizeOf22 rfl) ?_; intro a hF
    refine s_call hF rfl rfl rfl Try.call50 (impl_IsDie.calls K a0 t4 h5) ?_; intro a w v hF hf hR
    subst hR; have hM := hM.grow hf
    refine s_val hF rfl rfl rfl (e_not hF rfl) ?_; intro a hF
    refine s_val hF rfl rfl rfl (e_move hF rfl) ?_; intro a hF
    have hF := hF.topb (congrArg Bool.not (bf c6))
    refine s_skip hF rfl rfl rfl ?_; intro a hF
    refine s_skip hF rfl rfl rfl ?_; intro a hF
    refine s_skip hF rfl rfl rfl ?_; intro a hF
    refine s_val hF rfl rfl rfl (e_pick_t hF rfl rfl) ?_; intro a hF
    refine s_nil ?_
    refine then_n ?_
    refine s_cond_t hF rfl rfl ?_
    refine wp_seq ?_
    refine s_region ?_
    refine s_val hF rfl rfl rfl (e_lda (i := 0) 0 1 hF hM rfl rfl rfl rfl Try.isAgg23 Try.sizeOf23 rfl) ?_; intro a hF
    refine s_stw (i := 1) (ps' := [Pt.ar (Ar.zero 121)]) hF hM rfl rfl rfl rfl rfl rfl Try.sizeOf23 rfl ?_; intro a w hF hM
    refine s_val hF rfl rfl rfl (e_assign hF rfl) ?_; intro a hF
    refine s_nil ?_
    refine then_n ?_
    refine wp_ret ?_
    refine then_r ?_
    obtain rfl := some_some H
    refine s_ret [ag [Pt.ar (Ar.zero 121)], Value.bool false] hF Try.results17 ⟨⟨_, rfl, rv_box hM (i := 1) rfl Try.isAgg23 Try.sizeOf23 rfl⟩, rfl, trivial⟩ ?_
    exact ⟨_, rfl, hM.frm, rfl⟩

/-! ### loop.example/g01210/laws.eqIntA121: function 18 -/
def laws_eqIntA121.l0 (K : Nat) (a0 : (Ar 121)) (a1 : (Ar 121)) : Nat → Int → Option (Sum Unit Bool)
  | 0, _ => none
  | k + 1, x8 => if x8 < 121 then (if (0 : Int) ≤ x8 ∧ x8 < 121 then (if (a0.get x8) = (a1.get x8) then (laws_eqIntA121.l0 K a0 a1 k (wrap64 (x8 + 1))) else (some (Sum.inr false))) else none) else (some (Sum.inl ()))
def laws_eqIntA121.f (K : Nat) (a0 : (Ar 121)) (a1 : (Ar 121)) : Option Bool := (laws_eqIntA121.l0 K a0 a1 K 0).bind fun o12 => (match o12 with | .inl () => some true | .inr r14 => some r14)
set_option maxRecDepth 100000 in
set_option maxHeartbeats 4000000 in
theorem laws_eqIntA121.calls {w0 : World} (K : Nat) (a0 : (Ar 121)) (a1 : (Ar 121)) (r : Bool) (H : laws_eqIntA121.f K a0 a1 = some r) : Calls Try.prog 18 [ag [Pt.ar a0], ag [Pt.ar a1]].toArray w0 (Post w0 fun w v => v = Value.bool r) := by
  rw [laws_eqIntA121.f] at H
  refine s_start Try.func18 rfl Try.ntmps18 rfl ?_
  intro a hF
  have hM := Ms.start w0
  skip
  refine wp_seq ?_
  refine s_region ?_
  refine s_box (ps := [Pt.ar a0]) hF hM rfl rfl rfl rfl ?_; intro a w b1 hF hM
  refine s_box (ps := [Pt.ar a1]) hF hM rfl rfl rfl rfl ?_; intro a w b2 hF hM
  refine s_val hF rfl rfl rfl (e_assign hF rfl) ?_; intro a hF
  refine s_nil ?_
  refine then_n ?_
  refine wp_seq ?_
  refine wp_seq ?_
  refine s_region ?_
  refine s_val hF rfl rfl rfl (e_assign hF rfl) ?_; intro a hF
  refine s_nil ?_
  refine then_n ?_
  refine wp_block ?_
  obtain ⟨o12, h13, H⟩ := bind_some H
  refine wp_mono (Q := fun e a w => (e = Exit.exit 0 ∧ Sum.inl () = o12 ∧ Fr 17 a [] ∧ Ms [] w0 w []) ∨ (e = Exit.ret ∧ ∃ r14 : Bool, Sum.inr r14 = o12 ∧ Fr 17 a [(4, Value.bool r14)] ∧ Ms [] w0 w [])) ?_ ?_
  · refine s_loop (fun kq a w => ∃ x8 : Int, laws_eqIntA121.l0 K a0 a1 kq x8 = some o12 ∧ Fr 17 a [(2, pt b1 0), (3, pt b2 0), (5, Value.int .i64 x8)] ∧ Ms [] w0 w [boxR b1 [Pt.ar a0] 23, boxR b2 [Pt.ar a1] 23]) K ⟨0, h13, hF.sub _ ⟨rfl, rfl, rfl, trivial⟩, hM.pick [1, 0] rfl rfl⟩ ?_ ?_
    · rintro a w ⟨_, H, _⟩; exact none_some H
    · rintro k a w ⟨x8, H, hF, hM⟩; rw [laws_eqIntA121.l0] at H
      refine wp_seq ?_
      refine wp_seq ?_
      refine s_region ?_
      refine s_val hF rfl rfl rfl (e_move hF rfl) ?_; intro a hF
      refine s_val hF rfl rfl rfl (e_lss hF rfl rfl) ?_; intro a hF
      refine s_nil ?_
      refine then_n ?_
      rcases ite_cases H with ⟨c9, H⟩ | ⟨c9, H⟩
      ·
        refine s_cond_t hF rfl (decide_eq_true c9) ?_
        refine wp_skip ?_
        refine then_n ?_
        refine wp_seq ?_
        refine wp_block ?_
        refine wp_seq ?_
        obtain ⟨c10, H⟩ := ite_some H
        refine s_held (fun w => Ms [] w0 w [boxR b1 [Pt.ar a0] 23, boxR b2 [Pt.ar a1] 23]) #[false, false, false, false, false, false, false] mixed rfl rfl hM ?_; intro w hf hM; clear hf
        refine h_val 0 #[true, false, false, false, false, false, false] rfl (by kernel_rfl) hF rfl rfl rfl (fun w hS => e_move hF rfl) (hM.pick [0, 1] rfl rfl) ?_; intro a hF
        refine h_val 1 #[true, true, false, false, false, false, false] rfl (by kernel_rfl) hF rfl rfl rfl (fun w hS => e_ia hF rfl rfl Try.underlying23 Try.sizeOf3 c10.1 c10.2) (hM.pick [0, 1] rfl rfl) ?_; intro a hF
        refine h_val 2 #[true, true, true, false, false, false, false] rfl (by kernel_rfl) hF rfl rfl rfl (fun w hS => e_ldi (i := 0) (k := 0) hF hS rfl rfl rfl rfl rfl Try.isAgg3 c10.1 c10.2) (hM.pick [0, 1] rfl rfl) ?_; intro a hF
        refine h_val 3 #[true, true, true, true, false, false, false] rfl (by kernel_rfl) hF rfl rfl rfl (fun w hS => e_move hF rfl) (hM.pick [0, 1] rfl rfl) ?_; intro a hF
        refine h_val 4 #[true, true, true, true, true, false, false] rfl (by kernel_rfl) hF rfl rfl rfl (fun w hS => e_ia hF rfl rfl Try.underlying23 Try.sizeOf3 c10.1 c10.2) (hM.pick [0, 1] rfl rfl) ?_; intro a hF
        refine h_val 5 #[true, true, true, true, true, true, false] rfl (by kernel_rfl) hF rfl rfl rfl (fun w hS => e_ldi (i := 1) (k := 0) hF hS rfl rfl rfl rfl rfl Try.isAgg3 c10.1 c10.2) (hM.pick [0, 1] rfl rfl) ?_; intro a hF
        refine h_val 6 #[true, true, true, true, true, true, true] rfl (by kernel_rfl) hF rfl rfl rfl (fun w hS => e_neq hF rfl rfl) (hM.pick [0, 1] rfl rfl) ?_; intro a hF
        refine h_done rfl ?_
        refine then_n ?_
        rcases ite_cases H with ⟨c11, H⟩ | ⟨c11, H⟩
        ·
          refine s_cond_f hF rfl (congrArg Bool.not (decide_eq_true c11)) ?_
          refine wp_skip ?_
          refine blk_n ?_
          refine then_n ?_
          refine s_region ?_
          refine s_val hF rfl rfl rfl (e_move hF rfl) ?_; intro a hF
          refine s_val hF rfl rfl rfl (e_add hF rfl rfl) ?_; intro a hF
          refine s_val hF rfl rfl rfl (e_assign hF rfl) ?_; intro a hF
          refine s_nil ?_
          refine then_n ?_
          exact ⟨(wrap64 (x8 + 1)), H, hF.sub _ ⟨rfl, rfl, rfl, trivial⟩, hM.pick [0, 1] rfl rfl⟩
        ·
          refine s_cond_t hF rfl (congrArg Bool.not (decide_eq_false c11)) ?_
          refine wp_seq ?_
          refine s_region ?_
          refine s_val hF rfl rfl rfl (e_assign hF rfl) ?_; intro a hF
          refine s_nil ?_
          refine then_n ?_
          refine wp_ret ?_
          refine blk_r ?_
          refine then_r ?_
          refine then_r ?_
          exact Or.inr (⟨rfl, false, some_some H, hF.sub _ ⟨rfl, trivial⟩, hM.pick [] rfl rfl⟩)
      ·
        refine s_cond_f hF rfl (decide_eq_false c9) ?_
        refine wp_exit ?_
        refine then_x ?_
        refine then_x ?_
        exact Or.inl (⟨rfl, some_some H, hF.sub _ trivial, hM.pick [] rfl rfl⟩)
  · rintro e a w (⟨rfl, rfl, hF, hM⟩ | ⟨rfl, r14, rfl, hF, hM⟩)
    ·
      dsimp only at H
      refine blk_x ?_
      refine then_n ?_
      refine wp_seq ?_
      refine s_region ?_
      refine s_val hF rfl rfl rfl (e_assign hF rfl) ?_; intro a hF
      refine s_nil ?_
      refine then_n ?_
      refine wp_ret ?_
      obtain rfl := some_some H
      refine s_ret [Value.bool true] hF Try.results18 ⟨rfl, trivial⟩ ?_
      exact ⟨_, rfl, hM.frm, rfl⟩
    ·
      dsimp only at H
      refine blk_r ?_
      refine then_r ?_
      obtain rfl := some_some H
      refine s_ret [Value.bool r14] hF Try.results18 ⟨rfl, trivial⟩ ?_
      exact ⟨_, rfl, hM.frm, rfl⟩

/-! ### loop.example/g01210/laws.FnExactBurstTable: function 3 -/
def laws_FnExactBurstTable.f (K : Nat) (a0 : (Ar 6)) (a1 : Int) : Option Bool := (laws_toIntA6.f K a0).bind fun t2 => (spec_BurstTable.f K t2 a1).bind fun t4 => (laws_toIntA6.f K a0).bind fun t7 => (impl_BurstTable.f K t7 a1).bind fun t9 => (laws_eqIntA121.f K t9.1 t4.1).bind fun t12 => if t12 = true then (if (t9.2 == t4.2) = true then (some true) else (some false)) else (some false)
set_option maxRecDepth 100000 in
set_option maxHeartbeats 4000000 in
theorem laws_FnExactBurstTable.calls {w0 : World} (K : Nat) (a0 : (Ar 6)) (a1 : Int) (r : Bool) (H : laws_FnExactBurstTable.f K a0 a1 = some r) : Calls Try.prog 3 [ag [Pt.ar a0], Value.int .i64 a1].toArray w0 (Post w0 fun w v => v = Value.bool r) := by
  rw [laws_FnExactBurstTable.f] at H
  refine s_start Try.func3 rfl Try.ntmps3 rfl ?_
  intro a hF
  have hM := Ms.start w0
  skip
  refine wp_seq ?_
  refine s_region ?_
  refine s_box (ps := [Pt.ar a0]) hF hM rfl rfl rfl rfl ?_; intro a w b1 hF hM
  refine s_val hF rfl rfl rfl (e_assign hF rfl) ?_; intro a hF
  refine s_nil ?_
  refine then_n ?_
  refine wp_seq ?_
  obtain ⟨t2, h3, H⟩ := bind_some H
  obtain ⟨t4, h5, H⟩ := bind_some H
  refine s_region ?_
  refine s_val hF rfl rfl rfl (e_lda (i := 0) 0 1 hF hM rfl rfl rfl rfl Try.isAgg22 Try.sizeOf22 rfl) ?_; intro a hF
  refine s_call hF rfl rfl rfl Try.call16 (laws_toIntA6.calls K a0 t2 h3) ?_; intro a w v hF hf hR
  subst hR; have hM := hM.grow hf
  refine s_val hF rfl rfl rfl (e_move hF rfl) ?_; intro a hF
  refine s_call hF rfl rfl rfl Try.call15 (spec_BurstTable.calls K t2 a1 t4 h5) ?_; intro a w v hF hf hR
  subst hR; have hM := hM.grow hf
  refine s_val hF rfl rfl rfl (e_move hF rfl) ?_; intro a hF
  refine s_val hF rfl rfl rfl (e_extract hF rfl rfl) ?_; intro a hF
  refine s_val hF rfl rfl rfl (e_extract hF rfl rfl) ?_; intro a hF
  refine s_alloc (ps := [Pt.ar (Ar.zero 121)]) hF hM rfl rfl zv23 rfl ?_; intro a w b6 hF hM
  refine s_stw (i := 0) (ps' := [Pt.ar t4.1]) hF hM rfl rfl rfl rfl rfl rfl Try.sizeOf23 rfl ?_; intro a w hF hM
  refine s_val hF rfl rfl rfl (e_assign hF rfl) ?_; intro a hF
  refine s_nil ?_
  refine then_n ?_
  refine wp_seq ?_
  obtain ⟨t7, h8, H⟩ := bind_some H
  obtain ⟨t9, h10, H⟩ := bind_some H
  refine s_region ?_
  refine s_val hF rfl rfl rfl (e_lda (i := 1) 0 1 hF hM rfl rfl rfl rfl Try.isAgg22 Try.sizeOf22 rfl) ?_; intro a hF
  refine s_call hF rfl rfl rfl Try.call16 (laws_toIntA6.calls K a0 t7 h8) ?_; intro a w v hF hf hR
  subst hR; have hM := hM.grow hf
  refine s_val hF rfl rfl rfl (e_move hF rfl) ?_; intro a hF
  refine s_call hF rfl rfl rfl Try.call17 (impl_BurstTable.calls K t7 a1 t9 h10) ?_; intro a w v hF hf hR
  subst hR; have hM := hM.grow hf
  refine s_val hF rfl rfl rfl (e_move hF rfl) ?_; intro a hF
  refine s_val hF rfl rfl rfl (e_extract hF rfl rfl) ?_; intro a hF
  refine s_val hF rfl rfl rfl (e_extract hF rfl rfl) ?_; intro a hF
  refine s_alloc (ps := [Pt.ar (Ar.zero 121)]) hF hM rfl rfl zv23 rfl ?_; intro a w b11 hF hM
  refine s_stw (i := 0) (ps' := [Pt.ar t9.1]) hF hM rfl rfl rfl rfl rfl rfl Try.sizeOf23 rfl ?_; intro a w hF hM
  refine s_val hF rfl rfl rfl (e_assign hF rfl) ?_; intro a hF
  refine s_nil ?_
  refine then_n ?_
  refine wp_seq ?_
  refine wp_seq ?_
  obtain ⟨t12, h13, H⟩ := bind_some H
  rcases ite_cases H with ⟨c14, H⟩ | ⟨c14, H⟩
  ·
    refine s_region ?_
    refine s_val hF rfl rfl rfl (e_lda (i := 0) 0 1 hF hM rfl rfl rfl rfl Try.isAgg23 Try.sizeOf23 rfl) ?_; intro a hF
    refine s_val hF rfl rfl rfl (e_lda (i := 1) 0 1 hF hM rfl rfl rfl rfl Try.isAgg23 Try.sizeOf23 rfl) ?_; intro a hF
    refine s_call hF rfl rfl rfl Try.call18 (laws_eqIntA121.calls K t9.1 t4.1 t12 h13) ?_; intro a w v hF hf hR
    subst hR; have hM := hM.grow hf
    refine s_val hF rfl rfl rfl (e_not hF rfl) ?_; intro a hF
    refine s_val hF rfl rfl rfl (e_move hF rfl) ?_; intro a hF
    have hF := hF.topb (congrArg Bool.not c14)
    refine s_val hF rfl rfl rfl (e_move hF rfl) ?_; intro a hF
    refine s_val hF rfl rfl rfl (e_move hF rfl) ?_; intro a hF
    refine s_val hF rfl rfl rfl (e_bneq hF rfl rfl Try.underlying4) ?_; intro a hF
    refine s_val hF rfl rfl rfl (e_pick_f hF rfl rfl) ?_; intro a hF
    refine s_nil ?_
    refine then_n ?_
    rcases ite_cases H with ⟨c15, H⟩ | ⟨c15, H⟩
    ·
      refine s_cond_f hF rfl (congrArg Bool.not c15) ?_
      refine wp_skip ?_
      refine then_n ?_
      refine wp_seq ?_
      refine s_region ?_
      refine s_val hF rfl rfl rfl (e_assign hF rfl) ?_; intro a hF
      refine s_nil ?_
      refine then_n ?_
      refine wp_ret ?_
      obtain rfl := some_some H
      refine s_ret [Value.bool true] hF Try.results3 ⟨rfl, trivial⟩ ?_
      exact ⟨_, rfl, hM.frm, rfl⟩
    ·
      refine s_cond_t hF rfl (congrArg Bool.not (bf c15)) ?_
      refine wp_seq ?_
      refine s_region ?_
      refine s_val hF rfl rfl rfl (e_assign hF rfl) ?_; intro a hF
      refine s_nil ?_
      refine then_n ?_
      refine wp_ret ?_
      refine then_r ?_
      obtain rfl := some_some H
      refine s_ret [Value.bool false] hF Try.results3 ⟨rfl, trivial⟩ ?_
      exact ⟨_, rfl, hM.frm, rfl⟩
  ·
    refine s_region ?_
    refine s_val hF rfl rfl rfl (e_lda (i := 0) 0 1 hF hM rfl rfl rfl rfl Try.isAgg23 Try.sizeOf23 rfl) ?_; intro a hF
    refine s_val hF rfl rfl rfl (e_lda (i := 1) 0 1 hF hM rfl rfl rfl rfl Try.isAgg23 Try.sizeOf23 rfl) ?_; intro a hF
    refine s_call hF rfl rfl rfl Try.call18 (laws_eqIntA121.calls K t9.1 t4.1 t12 h13) ?_; intro a w v hF hf hR
    subst hR; have hM := hM.grow hf
    refine s_val hF rfl rfl rfl (e_not hF rfl) ?_; intro a hF
    refine s_val hF rfl rfl rfl (e_move hF rfl) ?_; intro a hF
    have hF := hF.topb (congrArg Bool.not (bf c14))
    refine s_skip hF rfl rfl rfl ?_; intro a hF
    refine s_skip hF rfl rfl rfl ?_; intro a hF
    refine s_skip hF rfl rfl rfl ?_; intro a hF
    refine s_val hF rfl rfl rfl (e_pick_t hF rfl rfl) ?_; intro a hF
    refine s_nil ?_
    refine then_n ?_
    refine s_cond_t hF rfl rfl ?_
    refine wp_seq ?_
    refine s_region ?_
    refine s_val hF rfl rfl rfl (e_assign hF rfl) ?_; intro a hF
    refine s_nil ?_
    refine then_n ?_
    refine wp_ret ?_
    refine then_r ?_
    obtain rfl := some_some H
    refine s_ret [Value.bool false] hF Try.results3 ⟨rfl, trivial⟩ ?_
    exact ⟨_, rfl, hM.frm, rfl⟩

end Go.Proofs.Ytnjfmhgmbfemdaa.WBurstTable

/- The walk through the code that the statement reaches: what each function computes. Conditions: none but those in each line. -/
import Derived.Test.YtnjfmhgmbfemdaaProg
import Derived.Test.YtnjfmhgmbfemdaaK
namespace Go.Proofs.Ytnjfmhgmbfemdaa.WPhrasesOf
open Go.K Go.RowKit
set_option linter.unusedVariables false
set_option linter.unusedSimpArgs false

def cd3 : Cd Int := ⟨3, 1, 8, fun x => [Pt.int x], fun x => Value.int .i64 x, (0 : Int), fun _ => rfl, fun _ => rfl, by decide⟩
theorem cdok3 : CdOk Try.prog cd3 := by
  obtain ⟨i, h1, h2, h3, h4⟩ := info_parts (by kernel_rfl : (Try.prog.info? 3).map (fun i => (i.zero, i.size, i.bytes)) = some (some (cd3.v cd3.z), 1, 8))
  exact ⟨⟨i, h1, h3, h4, h2⟩, by decide⟩
theorem cdokV42 : CdOk Try.prog (cdV 42) := by
  obtain ⟨i, h1, h2, h3, h4⟩ := info_parts (by kernel_rfl : (Try.prog.info? 42).map (fun i => (i.zero, i.size, i.bytes)) = some (some ((cdV 42).v (cdV 42).z), 1, 24))
  exact ⟨⟨i, h1, h3, h4, h2⟩, by decide⟩
theorem zv22 (w : World) : (zeroValue 22).run Try.prog w = .ok (ag [Pt.ar (Ar.zero 6)]) w := by kernel_rfl
theorem mixed : Try.prog.follows .mixedOrders = true := by kernel_rfl

/-! ### loop.example/g01210/laws.toIntA6: function 16 -/
def laws_toIntA6.l0 (K : Nat) (a0 : (Ar 6)) : Nat → Int → (Ar 6) → Option (Ar 6)
  | 0, _, _ => none
  | k + 1, x9, x10 => if x9 < 6 then (if (0 : Int) ≤ x9 ∧ x9 < 6 then (laws_toIntA6.l0 K a0 k (wrap64 (x9 + 1)) (x10.set x9 (a0.get x9))) else none) else (some x10)
def laws_toIntA6.f (K : Nat) (a0 : (Ar 6)) : Option (Ar 6) := (laws_toIntA6.l0 K a0 K 0 (Ar.zero 6)).bind fun x8 => some x8
set_option maxRecDepth 100000 in
set_option maxHeartbeats 4000000 in
theorem laws_toIntA6.calls {w0 : World} (K : Nat) (a0 : (Ar 6)) (r : (Ar 6)) (H : laws_toIntA6.f K a0 = some r) : Calls Try.prog 16 [ag [Pt.ar a0]].toArray w0 (Post w0 fun w v => v = ag [Pt.ar r]) := by
  rw [laws_toIntA6.f] at H
  refine s_start Try.func16 rfl Try.ntmps16 rfl ?_
  intro a hF
  have hM := Ms.start w0
  skip
  refine wp_seq ?_
  refine s_region ?_
  refine s_box (ps := [Pt.ar a0]) hF hM rfl rfl rfl rfl ?_; intro a w b1 hF hM
  refine s_alloc (ps := [Pt.ar (Ar.zero 6)]) hF hM rfl rfl zv22 rfl ?_; intro a w b2 hF hM
  refine s_nil ?_
  refine then_n ?_
  refine wp_seq ?_
  refine s_region ?_
  refine s_alloc (ps := [Pt.ar (Ar.zero 6)]) hF hM rfl rfl zv22 rfl ?_; intro a w b3 hF hM
  refine s_nil ?_
  refine then_n ?_
  refine wp_seq ?_
  refine wp_seq ?_
  refine s_region ?_
  refine s_val hF rfl rfl rfl (e_assign hF rfl) ?_; intro a hF
  refine s_nil ?_
  refine then_n ?_
  refine wp_block ?_
  obtain ⟨o13, h14, H⟩ := bind_some H
  refine wp_mono (Q := fun e a w => (e = Exit.exit 0 ∧ ∃ x8 : (Ar 6), x8 = o13 ∧ Fr 15 a [(2, pt b2 0), (3, pt b3 0)] ∧ Ms [] w0 w [boxR b2 [Pt.ar (Ar.zero 6)] 22, boxR b3 [Pt.ar x8] 22])) ?_ ?_
  · refine s_loop (fun kq a w => ∃ x9 : Int, ∃ x10 : (Ar 6), laws_toIntA6.l0 K a0 kq x9 x10 = some o13 ∧ Fr 15 a [(1, pt b1 0), (2, pt b2 0), (3, pt b3 0), (4, Value.int .i64 x9)] ∧ Ms [] w0 w [boxR b1 [Pt.ar a0] 22, boxR b2 [Pt.ar (Ar.zero 6)] 22, boxR b3 [Pt.ar x10] 22]) K ⟨0, (Ar.zero 6), h14, hF.sub _ ⟨rfl, rfl, rfl, rfl, trivial⟩, hM.pick [2, 1, 0] rfl rfl⟩ ?_ ?_
    · rintro a w ⟨_, _, H, _⟩; exact none_some H
    · rintro k a w ⟨x9, x10, H, hF, hM⟩; rw [laws_toIntA6.l0] at H
      refine wp_seq ?_
      refine wp_seq ?_
      refine s_region ?_
      refine s_val hF rfl rfl rfl (e_move hF rfl) ?_; intro a hF
      refine s_val hF rfl rfl rfl (e_lss hF rfl rfl) ?_; intro a hF
      refine s_nil ?_
      refine then_n ?_
      rcases ite_cases H with ⟨c11, H⟩ | ⟨c11, H⟩
      ·
        refine s_cond_t hF rfl (decide_eq_true c11) ?_
        refine wp_skip ?_
        refine then_n ?_
        refine wp_seq ?_
        refine wp_block ?_
        obtain ⟨c12, H⟩ := ite_some H
        refine s_region ?_
        refine s_val hF rfl rfl rfl (e_move hF rfl) ?_; intro a hF
        refine s_val hF rfl rfl rfl (e_move hF rfl) ?_; intro a hF
        refine s_val hF rfl rfl rfl (e_ia hF rfl rfl Try.underlying22 Try.sizeOf3 c12.1 c12.2) ?_; intro a hF
        refine s_val hF rfl rfl rfl (e_ldi (i := 0) (k := 0) hF hM rfl rfl rfl rfl rfl Try.isAgg3 c12.1 c12.2) ?_; intro a hF
        refine s_val hF rfl rfl rfl (e_ia hF rfl rfl Try.underlying22 Try.sizeOf3 c12.1 c12.2) ?_; intro a hF
        refine s_sti (i := 2) (k := 0) hF hM rfl rfl rfl rfl rfl rfl rfl Try.sizeOf3 c12.1 c12.2 ?_; intro a w hF hM
        refine s_nil ?_
        refine blk_n ?_
        refine then_n ?_
        refine s_region ?_
        refine s_val hF rfl rfl rfl (e_move hF rfl) ?_; intro a hF
        refine s_val hF rfl rfl rfl (e_add hF rfl rfl) ?_; intro a hF
        refine s_val hF rfl rfl rfl (e_assign hF rfl) ?_; intro a hF
        refine s_nil ?_
        refine then_n ?_
        exact ⟨(wrap64 (x9 + 1)), (x10.set x9 (a0.get x9)), H, hF.sub _ ⟨rfl, rfl, rfl, rfl, trivial⟩, hM.pick [0, 1, 2] rfl rfl⟩
      ·
        refine s_cond_f hF rfl (decide_eq_false c11) ?_
        refine wp_exit ?_
        refine then_x ?_
        refine then_x ?_
        exact ⟨rfl, x10, some_some H, hF.sub _ ⟨rfl, rfl, trivial⟩, hM.pick [1, 2] rfl rfl⟩
  · rintro e a w ⟨rfl, x8, rfl, hF, hM⟩
    skip
    refine blk_x ?_
    refine then_n ?_
    refine wp_seq ?_
    refine s_region ?_
    refine s_val hF rfl rfl rfl (e_lda (i := 1) 0 1 hF hM rfl rfl rfl rfl Try.isAgg22 Try.sizeOf22 rfl) ?_; intro a hF
    refine s_stw (i := 0) (ps' := [Pt.ar x8]) hF hM rfl rfl rfl rfl rfl rfl Try.sizeOf22 rfl ?_; intro a w hF hM
    refine s_nil ?_
    refine then_n ?_
    refine wp_ret ?_
    obtain rfl := some_some H
    refine s_ret [ag [Pt.ar x8]] hF Try.results16 ⟨⟨_, rfl, rv_box hM (i := 0) rfl Try.isAgg22 Try.sizeOf22 rfl⟩, trivial⟩ ?_
    exact ⟨_, rfl, hM.frm, rfl⟩

/-! ### loop.example/g01210/spec.l1In: function 48 -/
def spec_l1In.f (K : Nat) (a0 : Int) (a1 : Int) (a2 : Int) : Option Bool := if a1 ≤ a0 then (some (decide (a0 ≤ a2))) else (some false)
set_option maxRecDepth 100000 in
set_option maxHeartbeats 4000000 in
theorem spec_l1In.calls {w0 : World} (K : Nat) (a0 : Int) (a1 : Int) (a2 : Int) (r : Bool) (H : spec_l1In.f K a0 a1 a2 = some r) : Calls Try.prog 48 [Value.int .i64 a0, Value.int .i64 a1, Value.int .i64 a2].toArray w0 (Post w0 fun w v => v = Value.bool r) := by
  rw [spec_l1In.f] at H
  refine s_start Try.func48 rfl Try.ntmps48 rfl ?_
  intro a hF
  have hM := Ms.start w0
  skip
  refine wp_seq ?_
  refine s_region ?_
  refine s_val hF rfl rfl rfl (e_assign hF rfl) ?_; intro a hF
  refine s_nil ?_
  refine then_n ?_
  refine wp_seq ?_
  rcases ite_cases H with ⟨c1, H⟩ | ⟨c1, H⟩
  ·
    refine s_region ?_
    refine s_val hF rfl rfl rfl (e_move hF rfl) ?_; intro a hF
    refine s_val hF rfl rfl rfl (e_move hF rfl) ?_; intro a hF
    refine s_val hF rfl rfl rfl (e_geq hF rfl rfl) ?_; intro a hF
    refine s_val hF rfl rfl rfl (e_move hF rfl) ?_; intro a hF
    have hF := hF.topb (decide_eq_true c1)
    refine s_val hF rfl rfl rfl (e_move hF rfl) ?_; intro a hF
    refine s_val hF rfl rfl rfl (e_move hF rfl) ?_; intro a hF
    refine s_val hF rfl rfl rfl (e_leq hF rfl rfl) ?_; intro a hF
    refine s_val hF rfl rfl rfl (e_pick_t hF rfl rfl) ?_; intro a hF
    refine s_val hF rfl rfl rfl (e_assign hF rfl) ?_; intro a hF
    refine s_nil ?_
    refine then_n ?_
    refine wp_ret ?_
    obtain rfl := some_some H
    refine s_ret [Value.bool (decide (a0 ≤ a2))] hF Try.results48 ⟨rfl, trivial⟩ ?_
    exact ⟨_, rfl, hM.frm, rfl⟩
  ·
    refine s_region ?_
    refine s_val hF rfl rfl rfl (e_move hF rfl) ?_; intro a hF
    refine s_val hF rfl rfl rfl (e_move hF rfl) ?_; intro a hF
    refine s_val hF rfl rfl rfl (e_geq hF rfl rfl) ?_; intro a hF
    refine s_val hF rfl rfl rfl (e_move hF rfl) ?_; intro a hF
    have hF := hF.topb (decide_eq_false c1)
    refine s_skip hF rfl rfl rfl ?_; intro a hF
    refine s_skip hF rfl rfl rfl ?_; intro a hF
    refine s_skip hF rfl rfl rfl ?_; intro a hF
    refine s_val hF rfl rfl rfl (e_pick_f hF rfl rfl) ?_; intro a hF
    refine s_val hF rfl rfl rfl (e_assign hF rfl) ?_; intro a hF
    refine s_nil ?_
    refine then_n ?_
    refine wp_ret ?_
    obtain rfl := some_some H
    refine s_ret [Value.bool false] hF Try.results48 ⟨rfl, trivial⟩ ?_
    exact ⟨_, rfl, hM.frm, rfl⟩

/-! ### loop.example/g01210/spec.l2Die: function 47 -/
def spec_l2Die.l0 (K : Nat) (a0 : (Ar 6)) : Nat → Int → Option (Sum Unit Bool)
  | 0, _ => none
  | k + 1, x14 => if x14 < 6 then (if (0 : Int) ≤ x14 ∧ x14 < 6 then ((spec_l1In.f K (a0.get x14) 0 30).bind fun t17 => if t17 = true then (if 0 < x14 then (if (0 : Int) ≤ (wrap64 (x14 - 1)) ∧ (wrap64 (x14 - 1)) < 6 then (if (a0.get x14) < (a0.get (wrap64 (x14 - 1))) then (some (Sum.inr false)) else (spec_l2Die.l0 K a0 k (wrap64 (x14 + 1)))) else none) else (spec_l2Die.l0 K a0 k (wrap64 (x14 + 1)))) else (some (Sum.inr false))) else none) else (some (Sum.inl ()))
def spec_l2Die.f (K : Nat) (a0 : (Ar 6)) : Option Bool := (spec_l2Die.l0 K a0 K 0).bind fun o23 => (match o23 with | .inl () => some true | .inr r25 => some r25)
set_option maxRecDepth 100000 in
set_option maxHeartbeats 4000000 in
theorem spec_l2Die.calls {w0 : World} (K : Nat) (a0 : (Ar 6)) (r : Bool) (H : spec_l2Die.f K a0 = some r) : Calls Try.prog 47 [ag [Pt.ar a0]].toArray w0 (Post w0 fun w v => v = Value.bool r) := by
  rw [spec_l2Die.f] at H
  refine s_start Try.func47 rfl Try.ntmps47 rfl ?_
  intro a hF
  have hM := Ms.start w0
  skip
  refine wp_seq ?_
  refine s_region ?_
  refine s_box (ps := [Pt.ar a0]) hF hM rfl rfl rfl rfl ?_; intro a w b1 hF hM
  refine s_val hF rfl rfl rfl (e_assign hF rfl) ?_; intro a hF
  refine s_nil ?_
  refine then_n ?_
  refine wp_seq ?_
  refine wp_seq ?_
  refine s_region ?_
  refine s_val hF rfl rfl rfl (e_assign hF rfl) ?_; intro a hF
  refine s_nil ?_
  refine then_n ?_
  refine wp_block ?_
  obtain ⟨o23, h24, H⟩ := bind_some H
  refine wp_mono (Q := fun e a w => (e = Exit.exit 0 ∧ Sum.inl () = o23 ∧ Fr 27 a [] ∧ Ms [] w0 w []) ∨ (e = Exit.ret ∧ ∃ r25 : Bool, Sum.inr r25 = o23 ∧ Fr 27 a [(2, Value.bool r25)] ∧ Ms [] w0 w [])) ?_ ?_
  · refine s_loop (fun kq a w => ∃ x14 : Int, spec_l2Die.l0 K a0 kq x14 = some o23 ∧ Fr 27 a [(1, pt b1 0), (3, Value.int .i64 x14)] ∧ Ms [] w0 w [boxR b1 [Pt.ar a0] 22]) K ⟨0, h24, hF.sub _ ⟨rfl, rfl, trivial⟩, hM.pick [0] rfl rfl⟩ ?_ ?_
    · rintro a w ⟨_, H, _⟩; exact none_some H
    · rintro k a w ⟨x14, H, hF, hM⟩; rw [spec_l2Die.l0] at H
      refine wp_seq ?_
      refine wp_seq ?_
      refine s_region ?_
      refine s_val hF rfl rfl rfl (e_move hF rfl) ?_; intro a hF
      refine s_val hF rfl rfl rfl (e_lss hF rfl rfl) ?_; intro a hF
      refine s_nil ?_
      refine then_n ?_
      rcases ite_cases H with ⟨c15, H⟩ | ⟨c15, H⟩
      ·
        refine s_cond_t hF rfl (decide_eq_true c15) ?_
        refine wp_skip ?_
        refine then_n ?_
        refine wp_seq ?_
        refine wp_block ?_
        refine wp_seq ?_
        obtain ⟨c16, H⟩ := ite_some H
        obtain ⟨t17, h18, H⟩ := bind_some H
        rcases ite_cases H with ⟨c19, H⟩ | ⟨c19, H⟩
        ·
          rcases ite_cases H with ⟨c20, H⟩ | ⟨c20, H⟩
          ·
            obtain ⟨c21, H⟩ := ite_some H
            refine s_held (fun w => Ms [] w0 w [boxR b1 [Pt.ar a0] 22]) #[false, false, false, false, false, false, false, false, false, false, false, false, false, false, false, false, false, false, false] mixed rfl rfl hM ?_; intro w hf hM; clear hf
            refine h_val 0 #[true, false, false, false, false, false, false, false, false, false, false, false, false, false, false, false, false, false, false] rfl (by kernel_rfl) hF rfl rfl rfl (fun w hS => e_move hF rfl) (hM.pick [0] rfl rfl) ?_; intro a hF
            refine h_val 1 #[true, true, false, false, false, false, false, false, false, false, false, false, false, false, false, false, false, false, false] rfl (by kernel_rfl) hF rfl rfl rfl (fun w hS => e_ia hF rfl rfl Try.underlying22 Try.sizeOf3 c16.1 c16.2) (hM.pick [0] rfl rfl) ?_; intro a hF
            refine h_val 2 #[true, true, true, false, false, false, false, false, false, false, false, false, false, false, false, false, false, false, false] rfl (by kernel_rfl) hF rfl rfl rfl (fun w hS => e_ldi (i := 0) (k := 0) hF hS rfl rfl rfl rfl rfl Try.isAgg3 c16.1 c16.2) (hM.pick [0] rfl rfl) ?_; intro a hF
            refine h_one 3 #[true, true, true, true, false, false, false, false, false, false, false, false, false, false, false, false, false, false, false] rfl (by kernel_rfl) ?_
            refine s_call hF rfl rfl rfl Try.call48 (spec_l1In.calls K (a0.get x14) 0 30 t17 h18) ?_; intro a w v hF hf hR
            subst hR; have hM := hM.grow hf
            refine s_nil ⟨rfl, (hM.pick [0] rfl rfl), ?_⟩
            refine h_val 4 #[true, true, true, true, true, false, false, false, false, false, false, false, false, false, false, false, false, false, false] rfl (by kernel_rfl) hF rfl rfl rfl (fun w hS => e_not hF rfl) (hM.pick [0] rfl rfl) ?_; intro a hF
            refine h_val 5 #[true, true, true, true, true, true, false, false, false, false, false, false, false, false, false, false, false, false, false] rfl (by kernel_rfl) hF rfl rfl rfl (fun w hS => e_move hF rfl) (hM.pick [0] rfl rfl) ?_; intro a hF
            have hF := hF.topb (congrArg Bool.not c19)
            refine h_val 6 #[true, true, true, true, true, true, true, false, false, false, false, false, false, false, false, false, false, false, false] rfl (by kernel_rfl) hF rfl rfl rfl (fun w hS => e_move hF rfl) (hM.pick [0] rfl rfl) ?_; intro a hF
            refine h_val 7 #[true, true, true, true, true, true, true, true, false, false, false, false, false, false, false, false, false, false, false] rfl (by kernel_rfl) hF rfl rfl rfl (fun w hS => e_gtr hF rfl rfl) (hM.pick [0] rfl rfl) ?_; intro a hF
            refine h_val 8 #[true, true, true, true, true, true, true, true, true, false, false, false, false, false, false, false, false, false, false] rfl (by kernel_rfl) hF rfl rfl rfl (fun w hS => e_move hF rfl) (hM.pick [0] rfl rfl) ?_; intro a hF
            have hF := hF.topb (decide_eq_true c20)
            refine h_val 9 #[true, true, true, true, true, true, true, true, true, true, false, false, false, false, false, false, false, false, false] rfl (by kernel_rfl) hF rfl rfl rfl (fun w hS => e_move hF rfl) (hM.pick [0] rfl rfl) ?_; intro a hF
            refine h_val 10 #[true, true, true, true, true, true, true, true, true, true, true, false, false, false, false, false, false, false, false] rfl (by kernel_rfl) hF rfl rfl rfl (fun w hS => e_ia hF rfl rfl Try.underlying22 Try.sizeOf3 c16.1 c16.2) (hM.pick [0] rfl rfl) ?_; intro a hF
            refine h_val 11 #[true, true, true, true, true, true, true, true, true, true, true, true, false, false, false, false, false, false, false] rfl (by kernel_rfl) hF rfl rfl rfl (fun w hS => e_ldi (i := 0) (k := 0) hF hS rfl rfl rfl rfl rfl Try.isAgg3 c16.1 c16.2) (hM.pick [0] rfl rfl) ?_; intro a hF
            refine h_val 12 #[true, true, true, true, true, true, true, true, true, true, true, true, true, false, false, false, false, false, false] rfl (by kernel_rfl) hF rfl rfl rfl (fun w hS => e_move hF rfl) (hM.pick [0] rfl rfl) ?_; intro a hF
            refine h_val 13 #[true, true, true, true, true, true, true, true, true, true, true, true, true, true, false, false, false, false, false] rfl (by kernel_rfl) hF rfl rfl rfl (fun w hS => e_sub hF rfl rfl) (hM.pick [0] rfl rfl) ?_; intro a hF
            refine h_val 14 #[true, true, true, true, true, true, true, true, true, true, true, true, true, true, true, false, false, false, false] rfl (by kernel_rfl) hF rfl rfl rfl (fun w hS => e_ia hF rfl rfl Try.underlying22 Try.sizeOf3 c21.1 c21.2) (hM.pick [0] rfl rfl) ?_; intro a hF
            refine h_val 15 #[true, true, true, true, true, true, true, true, true, true, true, true, true, true, true, true, false, false, false] rfl (by kernel_rfl) hF rfl rfl rfl (fun w hS => e_ldi (i := 0) (k := 0) hF hS rfl rfl rfl rfl rfl Try.isAgg3 c21.1 c21.2) (hM.pick [0] rfl rfl) ?_; intro a hF
            refine h_val 16 #[true, true, true, true, true, true, true, true, true, true, true, true, true, true, true, true, true, false, false] rfl (by kernel_rfl) hF rfl rfl rfl (fun w hS => e_lss hF rfl rfl) (hM.pick [0] rfl rfl) ?_; intro a hF
            refine h_val 17 #[true, true, true, true, true, true, true, true, true, true, true, true, true, true, true, true, true, true, false] rfl (by kernel_rfl) hF rfl rfl rfl (fun w hS => e_pick_t hF rfl rfl) (hM.pick [0] rfl rfl) ?_; intro a hF
            refine h_val 18 #[true, true, true, true, true, true, true, true, true, true, true, true, true, true, true, true, true, true, true] rfl (by kernel_rfl) hF rfl rfl rfl (fun w hS => e_pick_f hF rfl rfl) (hM.pick [0] rfl rfl) ?_; intro a hF
            refine h_done rfl ?_
            refine then_n ?_
            rcases ite_cases H with ⟨c22, H⟩ | ⟨c22, H⟩
            ·
              refine s_cond_t hF rfl (decide_eq_true c22) ?_
              refine wp_seq ?_
              refine s_region ?_
              refine s_val hF rfl rfl rfl (e_assign hF rfl) ?_; intro a hF
              refine s_nil ?_
              refine then_n ?_
              refine wp_ret ?_
              refine blk_r ?_
              refine then_r ?_
              refine then_r ?_
              exact Or.inr (⟨rfl, false, some_some H, hF.sub _ ⟨rfl, trivial⟩, hM.pick [] rfl rfl⟩)
            ·
              refine s_cond_f hF rfl (decide_eq_false c22) ?_
              refine wp_skip ?_
              refine blk_n ?_
              refine then_n ?_
              refine s_region ?_
              refine s_val hF rfl rfl rfl (e_move hF rfl) ?_; intro a hF
              refine s_val hF rfl rfl rfl (e_add hF rfl rfl) ?_; intro a hF
              refine s_val hF rfl rfl rfl (e_assign hF rfl) ?_; intro a hF
              refine s_nil ?_
              refine then_n ?_
              exact ⟨(wrap64 (x14 + 1)), H, hF.sub _ ⟨rfl, rfl, trivial⟩, hM.pick [0] rfl rfl⟩
          ·
            refine s_held (fun w => Ms [] w0 w [boxR b1 [Pt.ar a0] 22]) #[false, false, false, false, false, false, false, false, false, false, false, false, false, false, false, false, false, false, false] mixed rfl rfl hM ?_; intro w hf hM; clear hf
            refine h_val 0 #[true, false, false, false, false, false, false, false, false, false, false, false, false, false, false, false, false, false, false] rfl (by kernel_rfl) hF rfl rfl rfl (fun w hS => e_move hF rfl) (hM.pick [0] rfl rfl) ?_; intro a hF
            refine h_val 1 #[true, true, false, false, false, false, false, false, false, false, false, false, false, false, false, false, false, false, false] rfl (by kernel_rfl) hF rfl rfl rfl (fun w hS => e_ia hF rfl rfl Try.underlying22 Try.sizeOf3 c16.1 c16.2) (hM.pick [0] rfl rfl) ?_; intro a hF
            refine h_val 2 #[true, true, true, false, false, false, false, false, false, false, false, false, false, false, false, false, false, false, false] rfl (by kernel_rfl) hF rfl rfl rfl (fun w hS => e_ldi (i := 0) (k := 0) hF hS rfl rfl rfl rfl rfl Try.isAgg3 c16.1 c16.2) (hM.pick [0] rfl rfl) ?_; intro a hF
            refine h_one 3 #[true, true, true, true, false, false, false, false, false, false, false, false, false, false, false, false, false, false, false] rfl (by kernel_rfl) ?_
            refine s_call hF rfl rfl rfl Try.call48 (spec_l1In.calls K (a0.get x14) 0 30 t17 h18) ?_; intro a w v hF hf hR
            subst hR; have hM := hM.grow hf
            refine s_nil ⟨rfl, (hM.pick [0] rfl rfl), ?_⟩
            refine h_val 4 #[true, true, true, true, true, false, false, false, false, false, false, false, false, false, false, false, false, false, false] rfl (by kernel_rfl) hF rfl rfl rfl (fun w hS => e_not hF rfl) (hM.pick [0] rfl rfl) ?_; intro a hF
            refine h_val 5 #[true, true, true, true, true, true, false, false, false, false, false, false, false, false, false, false, false, false, false] rfl (by kernel_rfl) hF rfl rfl rfl (fun w hS => e_move hF rfl) (hM.pick [0] rfl rfl) ?_; intro a hF
            have hF := hF.topb (congrArg Bool.not c19)
            refine h_val 6 #[true, true, true, true, true, true, true, false, false, false, false, false, false, false, false, false, false, false, false] rfl (by kernel_rfl) hF rfl rfl rfl (fun w hS => e_move hF rfl) (hM.pick [0] rfl rfl) ?_; intro a hF
            refine h_val 7 #[true, true, true, true, true, true, true, true, false, false, false, false, false, false, false, false, false, false, false] rfl (by kernel_rfl) hF rfl rfl rfl (fun w hS => e_gtr hF rfl rfl) (hM.pick [0] rfl rfl) ?_; intro a hF
            refine h_val 8 #[true, true, true, true, true, true, true, true, true, false, false, false, false, false, false, false, false, false, false] rfl (by kernel_rfl) hF rfl rfl rfl (fun w hS => e_move hF rfl) (hM.pick [0] rfl rfl) ?_; intro a hF
            have hF := hF.topb (decide_eq_false c20)
            refine h_skip 9 #[true, true, true, true, true, true, true, true, true, true, false, false, false, false, false, false, false, false, false] rfl (by kernel_rfl) hF rfl rfl rfl (hM.pick [0] rfl rfl) ?_; intro a hF
            refine h_skip 10 #[true, true, true, true, true, true, true, true, true, true, true, false, false, false, false, false, false, false, false] rfl (by kernel_rfl) hF rfl rfl rfl (hM.pick [0] rfl rfl) ?_; intro a hF
            refine h_skip 11 #[true, true, true, true, true, true, true, true, true, true, true, true, false, false, false, false, false, false, false] rfl (by kernel_rfl) hF rfl rfl rfl (hM.pick [0] rfl rfl) ?_; intro a hF
            refine h_skip 12 #[true, true, true, true, true, true, true, true, true, true, true, true, true, false, false, false, false, false, false] rfl (by kernel_rfl) hF rfl rfl rfl (hM.pick [0] rfl rfl) ?_; intro a hF
            refine h_skip 13 #[true, true, true, true, true, true, true, true, true, true, true, true, true, true, false, false, false, false, false] rfl (by kernel_rfl) hF rfl rfl rfl (hM.pick [0] rfl rfl) ?_; intro a hF
            refine h_skip 14 #[true, true, true, true, true, true, true, true, true, true, true, true, true, true, true, false, false, false, false] rfl (by kernel_rfl) hF rfl rfl rfl (hM.pick [0] rfl rfl) ?_; intro a hF
            refine h_skip 15 #[true, true, true, true, true, true, true, true, true, true, true, true, true, true, true, true, false, false, false] rfl (by kernel_rfl) hF rfl rfl rfl (hM.pick [0] rfl rfl) ?_; intro a hF
            refine h_skip 16 #[true, true, true, true, true, true, true, true, true, true, true, true, true, true, true, true, true, false, false] rfl (by kernel_rfl) hF rfl rfl rfl (hM.pick [0] rfl rfl) ?_; intro a hF
            refine h_val 17 #[true, true, true, true, true, true, true, true, true, true, true, true, true, true, true, true, true, true, false] rfl (by kernel_rfl) hF rfl rfl rfl (fun w hS => e_pick_f hF rfl rfl) (hM.pick [0] rfl rfl) ?_; intro a hF
            refine h_val 18 #[true, true, true, true, true, true, true, true, true, true, true, true, true, true, true, true, true, true, true] rfl (by kernel_rfl) hF rfl rfl rfl (fun w hS => e_pick_f hF rfl rfl) (hM.pick [0] rfl rfl) ?_; intro a hF
            refine h_done rfl ?_
            refine then_n ?_
            refine s_cond_f hF rfl rfl ?_
            refine wp_skip ?_
            refine blk_n ?_
            refine then_n ?_
            refine s_region ?_
            refine s_val hF rfl rfl rfl (e_move hF rfl) ?_; intro a hF
            refine s_val hF rfl rfl rfl (e_add hF rfl rfl) ?_; intro a hF
            refine s_val hF rfl rfl rfl (e_assign hF rfl) ?_; intro a hF
            refine s_nil ?_
            refine then_n ?_
            exact ⟨(wrap64 (x14 + 1)), H, hF.sub _ ⟨rfl, rfl, trivial⟩, hM.pick [0] rfl rfl⟩
        ·
          refine s_held (fun w => Ms [] w0 w [boxR b1 [Pt.ar a0] 22]) #[false, false, false, false, false, false, false, false, false, false, false, false, false, false, false, false, false, false, false] mixed rfl rfl hM ?_; intro w hf hM; clear hf
          refine h_val 0 #[true, false, false, false, false, false, false, false, false, false, false, false, false, false, false, false, false, false, false] rfl (by kernel_rfl) hF rfl rfl rfl (fun w hS => e_move hF rfl) (hM.pick [0] rfl rfl) ?_; intro a hF
          refine h_val 1 #[true, true, false, false, false, false, false, false, false, false, false, false, false, false, false, false, false, false, false] rfl (by kernel_rfl) hF rfl rfl rfl (fun w hS => e_ia hF rfl rfl Try.underlying22 Try.sizeOf3 c16.1 c16.2) (hM.pick [0] rfl rfl) ?_; intro a hF
          refine h_val 2 #[true, true, true, false, false, false, false, false, false, false, false, false, false, false, false, false, false, false, false] rfl (by kernel_rfl) hF rfl rfl rfl (fun w hS => e_ldi (i := 0) (k := 0) hF hS rfl rfl rfl rfl rfl Try.isAgg3 c16.1 c16.2) (hM.pick [0] rfl rfl) ?_; intro a hF
          refine h_one 3 #[true, true, true, true, false, false, false, false, false, false, false, false, false, false, false, false, false, false, false] rfl (by kernel_rfl) ?_
          refine s_call hF rfl rfl rfl Try.call48 (spec_l1In.calls K (a0.get x14) 0 30 t17 h18) ?_; intro a w v hF hf hR
          subst hR; have hM := hM.grow hf
          refine s_nil ⟨rfl, (hM.pick [0] rfl rfl), ?_⟩
          refine h_val 4 #[true, true, true, true, true, false, false, false, false, false, false, false, false, false, false, false, false, false, false] rfl (by kernel_rfl) hF rfl rfl rfl (fun w hS => e_not hF rfl) (hM.pick [0] rfl rfl) ?_; intro a hF
          refine h_val 5 #[true, true, true, true, true, true, false, false, false, false, false, false, false, false, false, false, false, false, false] rfl (by kernel_rfl) hF rfl rfl rfl (fun w hS => e_move hF rfl) (hM.pick [0] rfl rfl) ?_; intro a hF
          have hF := hF.topb (congrArg Bool.not (bf c19))
          refine h_skip 6 #[true, true, true, true, true, true, true, false, false, false, false, false, false, false, false, false, false, false, false] rfl (by kernel_rfl) hF rfl rfl rfl (hM.pick [0] rfl rfl) ?_; intro a hF
          refine h_skip 7 #[true, true, true, true, true, true, true, true, false, false, false, false, false, false, false, false, false, false, false] rfl (by kernel_rfl) hF rfl rfl rfl (hM.pick [0] rfl rfl) ?_; intro a hF
          refine h_skip 8 #[true, true, true, true, true, true, true, true, true, false, false, false, false, false, false, false, false, false, false] rfl (by kernel_rfl) hF rfl rfl rfl (hM.pick [0] rfl rfl) ?_; intro a hF
          refine h_skip 9 #[true, true, true, true, true, true, true, true, true, true, false, false, false, false, false, false, false, false, false] rfl (by kernel_rfl) hF rfl rfl rfl (hM.pick [0] rfl rfl) ?_; intro a hF
          refine h_skip 10 #[true, true, true, true, true, true, true, true, true, true, true, false, false, false, false, false, false, false, false] rfl (by kernel_rfl) hF rfl rfl rfl (hM.pick [0] rfl rfl) ?_; intro a hF
          refine h_skip 11 #[true, true, true, true, true, true, true, true, true, true, true, true, false, false, false, false, false, false, false] rfl (by kernel_rfl) hF rfl rfl rfl (hM.pick [0] rfl rfl) ?_; intro a hF
          refine h_skip 12 #[true, true, true, true, true, true, true, true, true, true, true, true, true, false, false, false, false, false, false] rfl (by kernel_rfl) hF rfl rfl rfl (hM.pick [0] rfl rfl) ?_; intro a hF
          refine h_skip 13 #[true, true, true, true, true, true, true, true, true, true, true, true, true, true, false, false, false, false, false] rfl (by kernel_rfl) hF rfl rfl rfl (hM.pick [0] rfl rfl) ?_; intro a hF
          refine h_skip 14 #[true, true, true, true, true, true, true, true, true, true, true, true, true, true, true, false, false, false, false] rfl (by kernel_rfl) hF rfl rfl rfl (hM.pick [0] rfl rfl) ?_; intro a hF
          refine h_skip 15 #[true, true, true, true, true, true, true, true, true, true, true, true, true, true, true, true, false, false, false] rfl (by kernel_rfl) hF rfl rfl rfl (hM.pick [0] rfl rfl) ?_; intro a hF
          refine h_skip 16 #[true, true, true, true, true, true, true, true, true, true, true, true, true, true, true, true, true, false, false] rfl (by kernel_rfl) hF rfl rfl rfl (hM.pick [0] rfl rfl) ?_; intro a hF
          refine h_skip 17 #[true, true, true, true, true, true, true, true, true, true, true, true, true, true, true, true, true, true, false] rfl (by kernel_rfl) hF rfl rfl rfl (hM.pick [0] rfl rfl) ?_; intro a hF
          refine h_val 18 #[true, true, true, true, true, true, true, true, true, true, true, true, true, true, true, true, true, true, true] rfl (by kernel_rfl) hF rfl rfl rfl (fun w hS => e_pick_t hF rfl rfl) (hM.pick [0] rfl rfl) ?_; intro a hF
          refine h_done rfl ?_
          refine then_n ?_
          refine s_cond_t hF rfl rfl ?_
          refine wp_seq ?_
          refine s_region ?_
          refine s_val hF rfl rfl rfl (e_assign hF rfl) ?_; intro a hF
          refine s_nil ?_
          refine then_n ?_
          refine wp_ret ?_
          refine blk_r ?_
          refine then_r ?_
          refine then_r ?_
          exact Or.inr (⟨rfl, false, some_some H, hF.sub _ ⟨rfl, trivial⟩, hM.pick [] rfl rfl⟩)
      ·
        refine s_cond_f hF rfl (decide_eq_false c15) ?_
        refine wp_exit ?_
        refine then_x ?_
        refine then_x ?_
        exact Or.inl (⟨rfl, some_some H, hF.sub _ trivial, hM.pick [] rfl rfl⟩)
  · rintro e a w (⟨rfl, rfl, hF, hM⟩ | ⟨rfl, r25, rfl, hF, hM⟩)
    ·
      dsimp only at H
      refine blk_x ?_
      refine then_n ?_
      refine wp_seq ?_
      refine s_region ?_
      refine s_val hF rfl rfl rfl (e_assign hF rfl) ?_; intro a hF
      refine s_nil ?_
      refine then_n ?_
      refine wp_ret ?_
      obtain rfl := some_some H
      refine s_ret [Value.bool true] hF Try.results47 ⟨rfl, trivial⟩ ?_
      exact ⟨_, rfl, hM.frm, rfl⟩
    ·
      dsimp only at H
      refine blk_r ?_
      refine then_r ?_
      obtain rfl := some_some H
      refine s_ret [Value.bool r25] hF Try.results47 ⟨rfl, trivial⟩ ?_
      exact ⟨_, rfl, hM.frm, rfl⟩

/-! ### loop.example/g01210/spec.l1Put: function 92 -/
def spec_l1Put.l0 (K : Nat) (l0 : (List Int)) (a1 : Int) : Nat → Int → Option Int
  | 0, _ => none
  | k + 1, x9 => if x9 < (l0.length : Int) then (if (0 : Int) ≤ x9 ∧ x9 < (l0.length : Int) then (if (l0.getD (x9 : Int).toNat (0 : Int)) < a1 then (spec_l1Put.l0 K l0 a1 k (wrap64 (x9 + 1))) else (some x9)) else none) else (some x9)
def spec_l1Put.f (K : Nat) (l0 : (List Int)) (a1 : Int) : Option (List Int) := (spec_l1Put.l0 K l0 a1 K 0).bind fun x8 => if x8 < (l0.length : Int) then (if (0 : Int) ≤ x8 ∧ x8 < (l0.length : Int) then (if (l0.getD (x8 : Int).toNat (0 : Int)) = a1 then (some l0) else (if (0 : Int) ≤ 0 ∧ (0 : Int) ≤ x8 ∧ x8 ≤ (l0.length : Int) then (if ([] : List Int).length + ((l0.take (x8 : Int).toNat).drop 0).length ≤ 1073741824 then (if (([] : List Int) ++ ((l0.take (x8 : Int).toNat).drop 0)).length + [a1].length ≤ 1073741824 then (if (0 : Int) ≤ x8 ∧ x8 ≤ (l0.length : Int) ∧ (l0.length : Int) ≤ (l0.length : Int) then (if ((([] : List Int) ++ ((l0.take (x8 : Int).toNat).drop 0)) ++ [a1]).length + ((l0.take l0.length).drop (x8 : Int).toNat).length ≤ 1073741824 then (some (((([] : List Int) ++ ((l0.take (x8 : Int).toNat).drop 0)) ++ [a1]) ++ ((l0.take l0.length).drop (x8 : Int).toNat))) else none) else none) else none) else none) else none)) else none) else (if (0 : Int) ≤ 0 ∧ (0 : Int) ≤ x8 ∧ x8 ≤ (l0.length : Int) then (if ([] : List Int).length + ((l0.take (x8 : Int).toNat).drop 0).length ≤ 1073741824 then (if (([] : List Int) ++ ((l0.take (x8 : Int).toNat).drop 0)).length + [a1].length ≤ 1073741824 then (if (0 : Int) ≤ x8 ∧ x8 ≤ (l0.length : Int) ∧ (l0.length : Int) ≤ (l0.length : Int) then (if ((([] : List Int) ++ ((l0.take (x8 : Int).toNat).drop 0)) ++ [a1]).length + ((l0.take l0.length).drop (x8 : Int).toNat).length ≤ 1073741824 then (some (((([] : List Int) ++ ((l0.take (x8 : Int).toNat).drop 0)) ++ [a1]) ++ ((l0.take l0.length).drop (x8 : Int).toNat))) else none) else none) else none) else none) else none)
set_option maxRecDepth 100000 in
set_option maxHeartbeats 4000000 in
theorem spec_l1Put.calls {w0 : World} {X : List Nat} (K : Nat) (l0 : (List Int)) (u0 : Value) (a1 : Int) (qM : Ms X w0 w0 [rowR cd3 u0 l0]) (r : (List Int)) (H : spec_l1Put.f K l0 a1 = some r) : Calls Try.prog 92 [u0, Value.int .i64 a1].toArray w0 (fun e w => ∃ v, e = .returned v ∧ ∃ v42 : Value, Ms X w0 w [rowR cd3 v42 r] ∧ v42 = v) := by
  rw [spec_l1Put.f] at H
  refine s_start Try.func92 rfl Try.ntmps92 rfl ?_
  intro a hF
  have hM := qM
  refine wp_seq ?_
  refine s_region ?_
  refine s_val hF rfl rfl rfl (e_assign hF rfl) ?_; intro a hF
  refine s_nil ?_
  refine then_n ?_
  refine wp_seq ?_
  refine s_region ?_
  refine s_val hF rfl rfl rfl (e_assign hF rfl) ?_; intro a hF
  refine s_nil ?_
  refine then_n ?_
  refine wp_seq ?_
  refine wp_block ?_
  obtain ⟨o13, h14, H⟩ := bind_some H
  refine wp_mono (Q := fun e a w => (e = Exit.exit 0 ∧ ∃ x8 : Int, x8 = o13 ∧ Fr 45 a [(0, u0), (1, Value.int .i64 a1), (5, Value.int .i64 x8)] ∧ Ms X w0 w [rowR cd3 u0 l0])) ?_ ?_
  · refine s_loop (fun kq a w => ∃ x9 : Int, spec_l1Put.l0 K l0 a1 kq x9 = some o13 ∧ Fr 45 a [(0, u0), (1, Value.int .i64 a1), (5, Value.int .i64 x9)] ∧ Ms X w0 w [rowR cd3 u0 l0]) K ⟨0, h14, hF.sub _ ⟨rfl, rfl, rfl, trivial⟩, hM.pick [0] rfl rfl⟩ ?_ ?_
    · rintro a w ⟨_, H, _⟩; exact none_some H
    · rintro k a w ⟨x9, H, hF, hM⟩; rw [spec_l1Put.l0] at H
      refine wp_seq ?_
      refine wp_seq ?_
      rcases ite_cases H with ⟨c10, H⟩ | ⟨c10, H⟩
      ·
        obtain ⟨c11, H⟩ := ite_some H
        refine s_region ?_
        refine s_val hF rfl rfl rfl (e_move hF rfl) ?_; intro a hF
        refine s_val hF rfl rfl rfl (e_move hF rfl) ?_; intro a hF
        refine s_val hF rfl rfl rfl (e_len hF rfl (hM.sl 0 rfl).toF Try.underlying42) ?_; intro a hF
        refine s_val hF rfl rfl rfl (e_lss hF rfl rfl) ?_; intro a hF
        refine s_val hF rfl rfl rfl (e_move hF rfl) ?_; intro a hF
        have hF := hF.topb (decide_eq_true c10)
        refine s_val hF rfl rfl rfl (e_move hF rfl) ?_; intro a hF
        refine s_val hF rfl rfl rfl (e_move hF rfl) ?_; intro a hF
        refine s_val hF rfl rfl rfl (e_ias cd3 hF rfl rfl (hM.sl 0 rfl).toF Try.underlying42 Try.sizeOf3 c11.1 c11.2) ?_; intro a hF
        refine s_val hF rfl rfl rfl (e_lds (m := x9) hF rfl (hM.sl 0 rfl) (getD_some (z := (0 : Int)) c11.1 c11.2) rfl rfl Try.isAgg3) ?_; intro a hF
        refine s_val hF rfl rfl rfl (e_move hF rfl) ?_; intro a hF
        refine s_val hF rfl rfl rfl (e_lss hF rfl rfl) ?_; intro a hF
        refine s_val hF rfl rfl rfl (e_pick_t hF rfl rfl) ?_; intro a hF
        refine s_nil ?_
        refine then_n ?_
        rcases ite_cases H with ⟨c12, H⟩ | ⟨c12, H⟩
        ·
          refine s_cond_t hF rfl (decide_eq_true c12) ?_
          refine wp_skip ?_
          refine then_n ?_
          refine wp_block ?_
          refine s_region ?_
          refine s_val hF rfl rfl rfl (e_move hF rfl) ?_; intro a hF
          refine s_val hF rfl rfl rfl (e_add hF rfl rfl) ?_; intro a hF
          refine s_val hF rfl rfl rfl (e_assign hF rfl) ?_; intro a hF
          refine s_nil ?_
          refine blk_n ?_
          refine then_n ?_
          exact ⟨(wrap64 (x9 + 1)), H, hF.sub _ ⟨rfl, rfl, rfl, trivial⟩, hM.pick [0] rfl rfl⟩
        ·
          refine s_cond_f hF rfl (decide_eq_false c12) ?_
          refine wp_exit ?_
          refine then_x ?_
          refine then_x ?_
          exact ⟨rfl, x9, some_some H, hF.sub _ ⟨rfl, rfl, rfl, trivial⟩, hM.pick [0] rfl rfl⟩
      ·
        refine s_region ?_
        refine s_val hF rfl rfl rfl (e_move hF rfl) ?_; intro a hF
        refine s_val hF rfl rfl rfl (e_move hF rfl) ?_; intro a hF
        refine s_val hF rfl rfl rfl (e_len hF rfl (hM.sl 0 rfl).toF Try.underlying42) ?_; intro a hF
        refine s_val hF rfl rfl rfl (e_lss hF rfl rfl) ?_; intro a hF
        refine s_val hF rfl rfl rfl (e_move hF rfl) ?_; intro a hF
        have hF := hF.topb (decide_eq_false c10)
        refine s_skip hF rfl rfl rfl ?_; intro a hF
        refine s_skip hF rfl rfl rfl ?_; intro a hF
        refine s_skip hF rfl rfl rfl ?_; intro a hF
        refine s_skip hF rfl rfl rfl ?_; intro a hF
        refine s_skip hF rfl rfl rfl ?_; intro a hF
        refine s_skip hF rfl rfl rfl ?_; intro a hF
        refine s_val hF rfl rfl rfl (e_pick_f hF rfl rfl) ?_; intro a hF
        refine s_nil ?_
        refine then_n ?_
        refine s_cond_f hF rfl rfl ?_
        refine wp_exit ?_
        refine then_x ?_
        refine then_x ?_
        exact ⟨rfl, x9, some_some H, hF.sub _ ⟨rfl, rfl, rfl, trivial⟩, hM.pick [0] rfl rfl⟩
  · rintro e a w ⟨rfl, x8, rfl, hF, hM⟩
    skip
    refine blk_x ?_
    refine then_n ?_
    refine wp_seq ?_
    refine wp_seq ?_
    rcases ite_cases H with ⟨c15, H⟩ | ⟨c15, H⟩
    ·
      obtain ⟨c16, H⟩ := ite_some H
      refine s_region ?_
      refine s_val hF rfl rfl rfl (e_move hF rfl) ?_; intro a hF
      refine s_val hF rfl rfl rfl (e_move hF rfl) ?_; intro a hF
      refine s_val hF rfl rfl rfl (e_len hF rfl (hM.sl 0 rfl).toF Try.underlying42) ?_; intro a hF
      refine s_val hF rfl rfl rfl (e_lss hF rfl rfl) ?_; intro a hF
      refine s_val hF rfl rfl rfl (e_move hF rfl) ?_; intro a hF
      have hF := hF.topb (decide_eq_true c15)
      refine s_val hF rfl rfl rfl (e_move hF rfl) ?_; intro a hF
      refine s_val hF rfl rfl rfl (e_move hF rfl) ?_; intro a hF
      refine s_val hF rfl rfl rfl (e_ias cd3 hF rfl rfl (hM.sl 0 rfl).toF Try.underlying42 Try.sizeOf3 c16.1 c16.2) ?_; intro a hF
      refine s_val hF rfl rfl rfl (e_lds (m := x8) hF rfl (hM.sl 0 rfl) (getD_some (z := (0 : Int)) c16.1 c16.2) rfl rfl Try.isAgg3) ?_; intro a hF
      refine s_val hF rfl rfl rfl (e_move hF rfl) ?_; intro a hF
      refine s_val hF rfl rfl rfl (e_eql hF rfl rfl) ?_; intro a hF
      refine s_val hF rfl rfl rfl (e_pick_t hF rfl rfl) ?_; intro a hF
      refine s_nil ?_
      refine then_n ?_
      rcases ite_cases H with ⟨c17, H⟩ | ⟨c17, H⟩
      ·
        refine s_cond_t hF rfl (decide_eq_true c17) ?_
        refine wp_seq ?_
        refine s_region ?_
        refine s_val hF rfl rfl rfl (e_move hF rfl) ?_; intro a hF
        refine s_val hF rfl rfl rfl (e_assign hF rfl) ?_; intro a hF
        refine s_nil ?_
        refine then_n ?_
        refine wp_ret ?_
        refine then_r ?_
        obtain rfl := some_some H
        refine s_ret [u0] hF Try.results92 ⟨rfl, trivial⟩ ?_
        exact ⟨_, rfl, u0, hM.pick [0] rfl rfl, rfl⟩
      ·
        refine s_cond_f hF rfl (decide_eq_false c17) ?_
        refine wp_skip ?_
        refine then_n ?_
        refine wp_seq ?_
        obtain ⟨c19, H⟩ := ite_some H
        obtain ⟨c21, H⟩ := ite_some H
        obtain ⟨c24, H⟩ := ite_some H
        obtain ⟨c25, H⟩ := ite_some H
        obtain ⟨c27, H⟩ := ite_some H
        refine wp_mono (Q := fun e a w => e = Exit.normal ∧ ∃ v26 : Value, ∃ v22 : Value, Fr 45 a [(4, v26)] ∧ Ms X w0 w [rowR cd3 v26 (((([] : List Int) ++ ((l0.take (x8 : Int).toNat).drop 0)) ++ [a1]) ++ ((l0.take l0.length).drop (x8 : Int).toNat)), rowR cd3 v22 [a1], rowR cd3 u0 l0]) ?_ ?_
        · skip
          refine s_held (fun w => Ms X w0 w [rowR cd3 u0 l0]) #[false, false, false, false, false, false, false, false, false, false, false, false, false] mixed rfl rfl hM ?_; intro w hf hM; clear hf
          refine h_val 1 #[false, true, false, false, false, false, false, false, false, false, false, false, false] rfl (by kernel_rfl) hF rfl rfl rfl (fun w hS => e_move hF rfl) (hM.pick [0] rfl rfl) ?_; intro a hF
          refine h_val 2 #[false, true, true, false, false, false, false, false, false, false, false, false, false] rfl (by kernel_rfl) hF rfl rfl rfl (fun w hS => e_move hF rfl) (hM.pick [0] rfl rfl) ?_; intro a hF
          have f28 := (hM.sl 0 rfl).toF
          refine h_val 3 #[false, true, true, true, false, false, false, false, false, false, false, false, false] rfl (by kernel_rfl) hF rfl rfl rfl (fun w hS => e_sl_h hF rfl rfl f28 Try.underlying42 Try.sizeOf3 c19) (hM.pick [0] rfl rfl) ?_; intro a hF
          refine h_val 5 #[false, true, true, true, false, true, false, false, false, false, false, false, false] rfl (by kernel_rfl) hF rfl rfl rfl (fun w hS => e_move hF rfl) (hM.pick [0] rfl rfl) ?_; intro a hF
          refine h_val 8 #[false, true, true, true, false, true, false, false, true, false, false, false, false] rfl (by kernel_rfl) hF rfl rfl rfl (fun w hS => e_move hF rfl) (hM.pick [0] rfl rfl) ?_; intro a hF
          refine h_val 9 #[false, true, true, true, false, true, false, false, true, true, false, false, false] rfl (by kernel_rfl) hF rfl rfl rfl (fun w hS => e_move hF rfl) (hM.pick [0] rfl rfl) ?_; intro a hF
          have f29 := (hM.sl 0 rfl).toF
          refine h_val 10 #[false, true, true, true, false, true, false, false, true, true, true, false, false] rfl (by kernel_rfl) hF rfl rfl rfl (fun w hS => e_sl_l hF rfl rfl f29 Try.underlying42 Try.sizeOf3 c25) (hM.pick [0] rfl rfl) ?_; intro a hF
          refine h_two 0 6 #[true, true, true, true, false, true, false, false, true, true, true, false, false] #[false, true, true, true, false, true, true, false, true, true, true, false, false] rfl rfl rfl rfl (by kernel_rfl) ?_ ?_
          · skip
            refine s_bsl (C := cd3) ([] : List Int) cdok3 hF hM rfl rfl rfl rfl Try.underlying42 rfl ?_; intro a w v18 hF hM
            refine s_nil ⟨rfl, (hM.pick [1] rfl rfl), ?_⟩
            refine h_two 4 6 #[true, true, true, true, true, true, false, false, true, true, true, false, false] #[true, true, true, true, false, true, true, false, true, true, true, false, false] rfl rfl rfl rfl (by kernel_rfl) ?_ ?_
            · skip
              refine s_append (i := 0) cdok3 hF hM rfl rfl rfl rfl rfl ((hM.sl 1 rfl).sub 0 (x8 : Int).toNat (sl_0_i' c19).1 (sl_0_i' c19).2) Try.underlying42 c21 ?_; intro a w v20 hF hM
              refine s_nil ⟨rfl, (hM.pick [1] rfl rfl), ?_⟩
              refine h_one 6 #[true, true, true, true, true, true, true, false, true, true, true, false, false] rfl (by kernel_rfl) ?_
              refine s_bsl (C := cd3) [a1] cdok3 hF hM rfl rfl rfl rfl Try.underlying42 rfl ?_; intro a w v22 hF hM
              refine s_nil ⟨rfl, (hM.pick [2] rfl rfl), ?_⟩
              refine h_one 7 #[true, true, true, true, true, true, true, true, true, true, true, false, false] rfl (by kernel_rfl) ?_
              refine s_append (i := 1) cdok3 hF hM rfl rfl rfl rfl rfl (hM.sl 0 rfl) Try.underlying42 c24 ?_; intro a w v23 hF hM
              refine s_nil ⟨rfl, (hM.pick [2] rfl rfl), ?_⟩
              refine h_one 11 #[true, true, true, true, true, true, true, true, true, true, true, true, false] rfl (by kernel_rfl) ?_
              refine s_append (i := 1) cdok3 hF hM rfl rfl rfl rfl rfl ((hM.sl 2 rfl).sub (x8 : Int).toNat l0.length (sl_lo_n' c25).1 (sl_lo_n' c25).2) Try.underlying42 c27 ?_; intro a w v26 hF hM
              refine s_nil ⟨rfl, (hM.pick [2] rfl rfl), ?_⟩
              refine h_val 12 #[true, true, true, true, true, true, true, true, true, true, true, true, true] rfl (by kernel_rfl) hF rfl rfl rfl (fun w hS => e_assign hF rfl) (hM.pick [2] rfl rfl) ?_; intro a hF
              exact h_done rfl ⟨rfl, v26, v22, hF.sub _ ⟨rfl, trivial⟩, hM.pick [1, 0, 2] rfl rfl⟩
            · skip
              refine s_bsl (C := cd3) [a1] cdok3 hF hM rfl rfl rfl rfl Try.underlying42 rfl ?_; intro a w v22 hF hM
              refine s_nil ⟨rfl, (hM.pick [2] rfl rfl), ?_⟩
              refine h_one 4 #[true, true, true, true, true, true, true, false, true, true, true, false, false] rfl (by kernel_rfl) ?_
              refine s_append (i := 1) cdok3 hF hM rfl rfl rfl rfl rfl ((hM.sl 2 rfl).sub 0 (x8 : Int).toNat (sl_0_i' c19).1 (sl_0_i' c19).2) Try.underlying42 c21 ?_; intro a w v20 hF hM
              refine s_nil ⟨rfl, (hM.pick [2] rfl rfl), ?_⟩
              refine h_one 7 #[true, true, true, true, true, true, true, true, true, true, true, false, false] rfl (by kernel_rfl) ?_
              refine s_append (i := 1) cdok3 hF hM rfl rfl rfl rfl rfl (hM.sl 0 rfl) Try.underlying42 c24 ?_; intro a w v23 hF hM
              refine s_nil ⟨rfl, (hM.pick [2] rfl rfl), ?_⟩
              refine h_one 11 #[true, true, true, true, true, true, true, true, true, true, true, true, false] rfl (by kernel_rfl) ?_
              refine s_append (i := 1) cdok3 hF hM rfl rfl rfl rfl rfl ((hM.sl 2 rfl).sub (x8 : Int).toNat l0.length (sl_lo_n' c25).1 (sl_lo_n' c25).2) Try.underlying42 c27 ?_; intro a w v26 hF hM
              refine s_nil ⟨rfl, (hM.pick [2] rfl rfl), ?_⟩
              refine h_val 12 #[true, true, true, true, true, true, true, true, true, true, true, true, true] rfl (by kernel_rfl) hF rfl rfl rfl (fun w hS => e_assign hF rfl) (hM.pick [2] rfl rfl) ?_; intro a hF
              exact h_done rfl ⟨rfl, v26, v22, hF.sub _ ⟨rfl, trivial⟩, hM.pick [1, 0, 2] rfl rfl⟩
          · skip
            refine s_bsl (C := cd3) [a1] cdok3 hF hM rfl rfl rfl rfl Try.underlying42 rfl ?_; intro a w v22 hF hM
            refine s_nil ⟨rfl, (hM.pick [1] rfl rfl), ?_⟩
            refine h_one 0 #[true, true, true, true, false, true, true, false, true, true, true, false, false] rfl (by kernel_rfl) ?_
            refine s_bsl (C := cd3) ([] : List Int) cdok3 hF hM rfl rfl rfl rfl Try.underlying42 rfl ?_; intro a w v18 hF hM
            refine s_nil ⟨rfl, (hM.pick [2] rfl rfl), ?_⟩
            refine h_one 4 #[true, true, true, true, true, true, true, false, true, true, true, false, false] rfl (by kernel_rfl) ?_
            refine s_append (i := 0) cdok3 hF hM rfl rfl rfl rfl rfl ((hM.sl 2 rfl).sub 0 (x8 : Int).toNat (sl_0_i' c19).1 (sl_0_i' c19).2) Try.underlying42 c21 ?_; intro a w v20 hF hM
            refine s_nil ⟨rfl, (hM.pick [2] rfl rfl), ?_⟩
            refine h_one 7 #[true, true, true, true, true, true, true, true, true, true, true, false, false] rfl (by kernel_rfl) ?_
            refine s_append (i := 0) cdok3 hF hM rfl rfl rfl rfl rfl (hM.sl 1 rfl) Try.underlying42 c24 ?_; intro a w v23 hF hM
            refine s_nil ⟨rfl, (hM.pick [2] rfl rfl), ?_⟩
            refine h_one 11 #[true, true, true, true, true, true, true, true, true, true, true, true, false] rfl (by kernel_rfl) ?_
            refine s_append (i := 0) cdok3 hF hM rfl rfl rfl rfl rfl ((hM.sl 2 rfl).sub (x8 : Int).toNat l0.length (sl_lo_n' c25).1 (sl_lo_n' c25).2) Try.underlying42 c27 ?_; intro a w v26 hF hM
            refine s_nil ⟨rfl, (hM.pick [2] rfl rfl), ?_⟩
            refine h_val 12 #[true, true, true, true, true, true, true, true, true, true, true, true, true] rfl (by kernel_rfl) hF rfl rfl rfl (fun w hS => e_assign hF rfl) (hM.pick [2] rfl rfl) ?_; intro a hF
            exact h_done rfl ⟨rfl, v26, v22, hF.sub _ ⟨rfl, trivial⟩, hM.pick [0, 1, 2] rfl rfl⟩
        rintro e a w ⟨rfl, v26, v22, hF, hM⟩
        refine then_n ?_
        refine wp_ret ?_
        obtain rfl := some_some H
        refine s_ret [v26] hF Try.results92 ⟨rfl, trivial⟩ ?_
        exact ⟨_, rfl, v26, hM.pick [0] rfl rfl, rfl⟩
    ·
      refine s_region ?_
      refine s_val hF rfl rfl rfl (e_move hF rfl) ?_; intro a hF
      refine s_val hF rfl rfl rfl (e_move hF rfl) ?_; intro a hF
      refine s_val hF rfl rfl rfl (e_len hF rfl (hM.sl 0 rfl).toF Try.underlying42) ?_; intro a hF
      refine s_val hF rfl rfl rfl (e_lss hF rfl rfl) ?_; intro a hF
      refine s_val hF rfl rfl rfl (e_move hF rfl) ?_; intro a hF
      have hF := hF.topb (decide_eq_false c15)
      refine s_skip hF rfl rfl rfl ?_; intro a hF
      refine s_skip hF rfl rfl rfl ?_; intro a hF
      refine s_skip hF rfl rfl rfl ?_; intro a hF
      refine s_skip hF rfl rfl rfl ?_; intro a hF
      refine s_skip hF rfl rfl rfl ?_; intro a hF
      refine s_skip hF rfl rfl rfl ?_; intro a hF
      refine s_val hF rfl rfl rfl (e_pick_f hF rfl rfl) ?_; intro a hF
      refine s_nil ?_
      refine then_n ?_
      refine s_cond_f hF rfl rfl ?_
      refine wp_skip ?_
      refine then_n ?_
      refine wp_seq ?_
      obtain ⟨c31, H⟩ := ite_some H
      obtain ⟨c33, H⟩ := ite_some H
      obtain ⟨c36, H⟩ := ite_some H
      obtain ⟨c37, H⟩ := ite_some H
      obtain ⟨c39, H⟩ := ite_some H
      refine wp_mono (Q := fun e a w => e = Exit.normal ∧ ∃ v38 : Value, ∃ v34 : Value, Fr 45 a [(4, v38)] ∧ Ms X w0 w [rowR cd3 v38 (((([] : List Int) ++ ((l0.take (x8 : Int).toNat).drop 0)) ++ [a1]) ++ ((l0.take l0.length).drop (x8 : Int).toNat)), rowR cd3 v34 [a1], rowR cd3 u0 l0]) ?_ ?_
      · skip
        refine s_held (fun w => Ms X w0 w [rowR cd3 u0 l0]) #[false, false, false, false, false, false, false, false, false, false, false, false, false] mixed rfl rfl hM ?_; intro w hf hM; clear hf
        refine h_val 1 #[false, true, false, false, false, false, false, false, false, false, false, false, false] rfl (by kernel_rfl) hF rfl rfl rfl (fun w hS => e_move hF rfl) (hM.pick [0] rfl rfl) ?_; intro a hF
        refine h_val 2 #[false, true, true, false, false, false, false, false, false, false, false, false, false] rfl (by kernel_rfl) hF rfl rfl rfl (fun w hS => e_move hF rfl) (hM.pick [0] rfl rfl) ?_; intro a hF
        have f40 := (hM.sl 0 rfl).toF
        refine h_val 3 #[false, true, true, true, false, false, false, false, false, false, false, false, false] rfl (by kernel_rfl) hF rfl rfl rfl (fun w hS => e_sl_h hF rfl rfl f40 Try.underlying42 Try.sizeOf3 c31) (hM.pick [0] rfl rfl) ?_; intro a hF
        refine h_val 5 #[false, true, true, true, false, true, false, false, false, false, false, false, false] rfl (by kernel_rfl) hF rfl rfl rfl (fun w hS => e_move hF rfl) (hM.pick [0] rfl rfl) ?_; intro a hF
        refine h_val 8 #[false, true, true, true, false, true, false, false, true, false, false, false, false] rfl (by kernel_rfl) hF rfl rfl rfl (fun w hS => e_move hF rfl) (hM.pick [0] rfl rfl) ?_; intro a hF
        refine h_val 9 #[false, true, true, true, false, true, false, false, true, true, false, false, false] rfl (by kernel_rfl) hF rfl rfl rfl (fun w hS => e_move hF rfl) (hM.pick [0] rfl rfl) ?_; intro a hF
        have f41 := (hM.sl 0 rfl).toF
        refine h_val 10 #[false, true, true, true, false, true, false, false, true, true, true, false, false] rfl (by kernel_rfl) hF rfl rfl rfl (fun w hS => e_sl_l hF rfl rfl f41 Try.underlying42 Try.sizeOf3 c37) (hM.pick [0] rfl rfl) ?_; intro a hF
        refine h_two 0 6 #[true, true, true, true, false, true, false, false, true, true, true, false, false] #[false, true, true, true, false, true, true, false, true, true, true, false, false] rfl rfl rfl rfl (by kernel_rfl) ?_ ?_
        · skip
          refine s_bsl (C := cd3) ([] : List Int) cdok3 hF hM rfl rfl rfl rfl Try.underlying42 rfl ?_; intro a w v30 hF hM
          refine s_nil ⟨rfl, (hM.pick [1] rfl rfl), ?_⟩
          refine h_two 4 6 #[true, true, true, true, true, true, false, false, true, true, true, false, false] #[true, true, true, true, false, true, true, false, true, true, true, false, false] rfl rfl rfl rfl (by kernel_rfl) ?_ ?_
          · skip
            refine s_append (i := 0) cdok3 hF hM rfl rfl rfl rfl rfl ((hM.sl 1 rfl).sub 0 (x8 : Int).toNat (sl_0_i' c31).1 (sl_0_i' c31).2) Try.underlying42 c33 ?_; intro a w v32 hF hM
            refine s_nil ⟨rfl, (hM.pick [1] rfl rfl), ?_⟩
            refine h_one 6 #[true, true, true, true, true, true, true, false, true, true, true, false, false] rfl (by kernel_rfl) ?_
            refine s_bsl (C := cd3) [a1] cdok3 hF hM rfl rfl rfl rfl Try.underlying42 rfl ?_; intro a w v34 hF hM
            refine s_nil ⟨rfl, (hM.pick [2] rfl rfl), ?_⟩
            refine h_one 7 #[true, true, true, true, true, true, true, true, true, true, true, false, false] rfl (by kernel_rfl) ?_
            refine s_append (i := 1) cdok3 hF hM rfl rfl rfl rfl rfl (hM.sl 0 rfl) Try.underlying42 c36 ?_; intro a w v35 hF hM
            refine s_nil ⟨rfl, (hM.pick [2] rfl rfl), ?_⟩
            refine h_one 11 #[true, true, true, true, true, true, true, true, true, true, true, true, false] rfl (by kernel_rfl) ?_
            refine s_append (i := 1) cdok3 hF hM rfl rfl rfl rfl rfl ((hM.sl 2 rfl).sub (x8 : Int).toNat l0.length (sl_lo_n' c37).1 (sl_lo_n' c37).2) Try.underlying42 c39 ?_; intro a w v38 hF hM
            refine s_nil ⟨rfl, (hM.pick [2] rfl rfl), ?_⟩
            refine h_val 12 #[true, true, true, true, true, true, true, true, true, true, true, true, true] rfl (by kernel_rfl) hF rfl rfl rfl (fun w hS => e_assign hF rfl) (hM.pick [2] rfl rfl) ?_; intro a hF
            exact h_done rfl ⟨rfl, v38, v34, hF.sub _ ⟨rfl, trivial⟩, hM.pick [1, 0, 2] rfl rfl⟩
          · skip
            refine s_bsl (C := cd3) [a1] cdok3 hF hM rfl rfl rfl rfl Try.underlying42 rfl ?_; intro a w v34 hF hM
            refine s_nil ⟨rfl, (hM.pick [2] rfl rfl), ?_⟩
            refine h_one 4 #[true, true, true, true, true, true, true, false, true, true, true, false, false] rfl (by kernel_rfl) ?_
            refine s_append (i := 1) cdok3 hF hM rfl rfl rfl rfl rfl ((hM.sl 2 rfl).sub 0 (x8 : Int).toNat (sl_0_i' c31).1 (sl_0_i' c31).2) Try.underlying42 c33 ?_; intro a w v32 hF hM
            refine s_nil ⟨rfl, (hM.pick [2] rfl rfl), ?_⟩
            refine h_one 7 #[true, true, true, true, true, true, true, true, true, true, true, false, false] rfl (by kernel_rfl) ?_
            refine s_append (i := 1) cdok3 hF hM rfl rfl rfl rfl rfl (hM.sl 0 rfl) Try.underlying42 c36 ?_; intro a w v35 hF hM
            refine s_nil ⟨rfl, (hM.pick [2] rfl rfl), ?_⟩
            refine h_one 11 #[true, true, true, true, true, true, true, true, true, true, true, true, false] rfl (by kernel_rfl) ?_
            refine s_append (i := 1) cdok3 hF hM rfl rfl rfl rfl rfl ((hM.sl 2 rfl).sub (x8 : Int).toNat l0.length (sl_lo_n' c37).1 (sl_lo_n' c37).2) Try.underlying42 c39 ?_; intro a w v38 hF hM
            refine s_nil ⟨rfl, (hM.pick [2] rfl rfl), ?_⟩
            refine h_val 12 #[true, true, true, true, true, true, true, true, true, true, true, true, true] rfl (by kernel_rfl) hF rfl rfl rfl (fun w hS => e_assign hF rfl) (hM.pick [2] rfl rfl) ?_; intro a hF
            exact h_done rfl ⟨rfl, v38, v34, hF.sub _ ⟨rfl, trivial⟩, hM.pick [1, 0, 2] rfl rfl⟩
        · skip
          refine s_bsl (C := cd3) [a1] cdok3 hF hM rfl rfl rfl rfl Try.underlying42 rfl ?_; intro a w v34 hF hM
          refine s_nil ⟨rfl, (hM.pick [1] rfl rfl), ?_⟩
          refine h_one 0 #[true, true, true, true, false, true, true, false, true, true, true, false, false] rfl (by kernel_rfl) ?_
          refine s_bsl (C := cd3) ([] : List Int) cdok3 hF hM rfl rfl rfl rfl Try.underlying42 rfl ?_; intro a w v30 hF hM
          refine s_nil ⟨rfl, (hM.pick [2] rfl rfl), ?_⟩
          refine h_one 4 #[true, true, true, true, true, true, true, false, true, true, true, false, false] rfl (by kernel_rfl) ?_
          refine s_append (i := 0) cdok3 hF hM rfl rfl rfl rfl rfl ((hM.sl 2 rfl).sub 0 (x8 : Int).toNat (sl_0_i' c31).1 (sl_0_i' c31).2) Try.underlying42 c33 ?_; intro a w v32 hF hM
          refine s_nil ⟨rfl, (hM.pick [2] rfl rfl), ?_⟩
          refine h_one 7 #[true, true, true, true, true, true, true, true, true, true, true, false, false] rfl (by kernel_rfl) ?_
          refine s_append (i := 0) cdok3 hF hM rfl rfl rfl rfl rfl (hM.sl 1 rfl) Try.underlying42 c36 ?_; intro a w v35 hF hM
          refine s_nil ⟨rfl, (hM.pick [2] rfl rfl), ?_⟩
          refine h_one 11 #[true, true, true, true, true, true, true, true, true, true, true, true, false] rfl (by kernel_rfl) ?_
          refine s_append (i := 0) cdok3 hF hM rfl rfl rfl rfl rfl ((hM.sl 2 rfl).sub (x8 : Int).toNat l0.length (sl_lo_n' c37).1 (sl_lo_n' c37).2) Try.underlying42 c39 ?_; intro a w v38 hF hM
          refine s_nil ⟨rfl, (hM.pick [2] rfl rfl), ?_⟩
          refine h_val 12 #[true, true, true, true, true, true, true, true, true, true, true, true, true] rfl (by kernel_rfl) hF rfl rfl rfl (fun w hS => e_assign hF rfl) (hM.pick [2] rfl rfl) ?_; intro a hF
          exact h_done rfl ⟨rfl, v38, v34, hF.sub _ ⟨rfl, trivial⟩, hM.pick [0, 1, 2] rfl rfl⟩
      rintro e a w ⟨rfl, v38, v34, hF, hM⟩
      refine then_n ?_
      refine wp_ret ?_
      obtain rfl := some_some H
      refine s_ret [v38] hF Try.results92 ⟨rfl, trivial⟩ ?_
      exact ⟨_, rfl, v38, hM.pick [0] rfl rfl, rfl⟩

/-! ### loop.example/g01210/spec.l8Numbers: function 64 -/
def spec_l8Numbers.l0 (K : Nat) (a0 : (Ar 6)) : Nat → Int → (List Int) → Option (List Int)
  | 0, _, _ => none
  | k + 1, x16, x18 => if x16 < 6 then (if (0 : Int) ≤ x16 ∧ x16 < 6 then ((spec_l1Put.f K x18 (a0.get x16)).bind fun t21 => spec_l8Numbers.l0 K a0 k (wrap64 (x16 + 1)) t21) else none) else (some x18)
def spec_l8Numbers.f (K : Nat) (a0 : (Ar 6)) : Option (List Int) := (spec_l8Numbers.l0 K a0 K 0 ([] : List Int)).bind fun x15 => some x15
set_option maxRecDepth 100000 in
set_option maxHeartbeats 4000000 in
theorem spec_l8Numbers.calls {w0 : World} (K : Nat) (a0 : (Ar 6)) (r : (List Int)) (H : spec_l8Numbers.f K a0 = some r) : Calls Try.prog 64 [ag [Pt.ar a0]].toArray w0 (Post w0 fun w v => Fresh cd3 w0.heap.size w v r) := by
  rw [spec_l8Numbers.f] at H
  refine s_start Try.func64 rfl Try.ntmps64 rfl ?_
  intro a hF
  have hM := Ms.start w0
  skip
  refine wp_seq ?_
  refine s_region ?_
  refine s_box (ps := [Pt.ar a0]) hF hM rfl rfl rfl rfl ?_; intro a w b1 hF hM
  refine s_val hF rfl rfl rfl (e_assign hF rfl) ?_; intro a hF
  refine s_nil ?_
  refine then_n ?_
  refine wp_seq ?_
  refine s_region ?_
  refine s_bsl (C := cd3) ([] : List Int) cdok3 hF hM rfl rfl rfl rfl Try.underlying42 rfl ?_; intro a w v2 hF hM
  refine s_val hF rfl rfl rfl (e_assign hF rfl) ?_; intro a hF
  refine s_nil ?_
  refine then_n ?_
  refine wp_seq ?_
  refine wp_seq ?_
  refine s_region ?_
  refine s_val hF rfl rfl rfl (e_assign hF rfl) ?_; intro a hF
  refine s_nil ?_
  refine then_n ?_
  refine wp_block ?_
  obtain ⟨o24, h25, H⟩ := bind_some H
  refine wp_mono (Q := fun e a w => (e = Exit.exit 0 ∧ ∃ v14 : Value, ∃ x15 : (List Int), x15 = o24 ∧ Fr 16 a [(3, v14)] ∧ Ms [] w0 w [rowR cd3 v14 x15])) ?_ ?_
  · refine s_loop (fun kq a w => ∃ v17 : Value, ∃ x16 : Int, ∃ x18 : (List Int), spec_l8Numbers.l0 K a0 kq x16 x18 = some o24 ∧ Fr 16 a [(1, pt b1 0), (3, v17), (4, Value.int .i64 x16)] ∧ Ms [] w0 w [boxR b1 [Pt.ar a0] 22, rowR cd3 v17 x18]) K ⟨v2, 0, ([] : List Int), h25, hF.sub _ ⟨rfl, rfl, rfl, trivial⟩, hM.pick [1, 0] rfl rfl⟩ ?_ ?_
    · rintro a w ⟨_, _, _, H, _⟩; exact none_some H
    · rintro k a w ⟨v17, x16, x18, H, hF, hM⟩; rw [spec_l8Numbers.l0] at H
      refine wp_seq ?_
      refine wp_seq ?_
      refine s_region ?_
      refine s_val hF rfl rfl rfl (e_move hF rfl) ?_; intro a hF
      refine s_val hF rfl rfl rfl (e_lss hF rfl rfl) ?_; intro a hF
      refine s_nil ?_
      refine then_n ?_
      rcases ite_cases H with ⟨c19, H⟩ | ⟨c19, H⟩
      ·
        refine s_cond_t hF rfl (decide_eq_true c19) ?_
        refine wp_skip ?_
        refine then_n ?_
        refine wp_seq ?_
        refine wp_block ?_
        obtain ⟨c20, H⟩ := ite_some H
        obtain ⟨t21, h22, H⟩ := bind_some H
        refine s_region ?_
        refine s_val hF rfl rfl rfl (e_move hF rfl) ?_; intro a hF
        refine s_val hF rfl rfl rfl (e_move hF rfl) ?_; intro a hF
        refine s_val hF rfl rfl rfl (e_ia hF rfl rfl Try.underlying22 Try.sizeOf3 c20.1 c20.2) ?_; intro a hF
        refine s_val hF rfl rfl rfl (e_ldi (i := 0) (k := 0) hF hM rfl rfl rfl rfl rfl Try.isAgg3 c20.1 c20.2) ?_; intro a hF
        refine s_callx hF rfl rfl rfl Try.call92 (spec_l1Put.calls K x18 v17 (a0.get x16) (hM.lend [1] rfl rfl) t21 h22) ?_; intro a w v hF hR
        obtain ⟨v23, hR, rfl⟩ := hR; have hM := hM.back [1] [0] (by decide) rfl rfl hR
        refine s_val hF rfl rfl rfl (e_assign hF rfl) ?_; intro a hF
        refine s_nil ?_
        refine blk_n ?_
        refine then_n ?_
        refine s_region ?_
        refine s_val hF rfl rfl rfl (e_move hF rfl) ?_; intro a hF
        refine s_val hF rfl rfl rfl (e_add hF rfl rfl) ?_; intro a hF
        refine s_val hF rfl rfl rfl (e_assign hF rfl) ?_; intro a hF
        refine s_nil ?_
        refine then_n ?_
        exact ⟨v23, (wrap64 (x16 + 1)), t21, H, hF.sub _ ⟨rfl, rfl, rfl, trivial⟩, hM.pick [1, 0] rfl rfl⟩
      ·
        refine s_cond_f hF rfl (decide_eq_false c19) ?_
        refine wp_exit ?_
        refine then_x ?_
        refine then_x ?_
        exact ⟨rfl, v17, x18, some_some H, hF.sub _ ⟨rfl, trivial⟩, hM.pick [1] rfl rfl⟩
  · rintro e a w ⟨rfl, v14, x15, rfl, hF, hM⟩
    skip
    refine blk_x ?_
    refine then_n ?_
    refine wp_seq ?_
    refine s_region ?_
    refine s_val hF rfl rfl rfl (e_move hF rfl) ?_; intro a hF
    refine s_val hF rfl rfl rfl (e_assign hF rfl) ?_; intro a hF
    refine s_nil ?_
    refine then_n ?_
    refine wp_ret ?_
    obtain rfl := some_some H
    refine s_ret [v14] hF Try.results64 ⟨rfl, trivial⟩ ?_
    exact ⟨_, rfl, hM.frm, hM.give 0 rfl⟩

/-! ### loop.example/g01210/spec.l1Own: function 65 -/
def spec_l1Own.f (K : Nat) (l0 : (List Int)) : Option (List Int) := if ([] : List Int).length + l0.length ≤ 1073741824 then (some (([] : List Int) ++ l0)) else none
set_option maxRecDepth 100000 in
set_option maxHeartbeats 4000000 in
theorem spec_l1Own.calls {w0 : World} (K : Nat) (l0 : (List Int)) (u0 : Value) (q0 : SlR cd3 w0 u0 l0) (r : (List Int)) (H : spec_l1Own.f K l0 = some r) : Calls Try.prog 65 [u0].toArray w0 (Post w0 fun w v => Fresh cd3 w0.heap.size w v r) := by
  rw [spec_l1Own.f] at H
  refine s_start Try.func65 rfl Try.ntmps65 rfl ?_
  intro a hF
  have hM := Ms.start w0
  skip
  refine wp_seq ?_
  refine s_region ?_
  refine s_val hF rfl rfl rfl (e_assign hF rfl) ?_; intro a hF
  refine s_nil ?_
  refine then_n ?_
  refine wp_seq ?_
  obtain ⟨c3, H⟩ := ite_some H
  refine s_region ?_
  refine s_bsl (C := cd3) ([] : List Int) cdok3 hF hM rfl rfl rfl rfl Try.underlying42 rfl ?_; intro a w v1 hF hM
  refine s_val hF rfl rfl rfl (e_move hF rfl) ?_; intro a hF
  refine s_append (i := 0) cdok3 hF hM rfl rfl rfl rfl rfl (q0.frm hM.frm) Try.underlying42 c3 ?_; intro a w v2 hF hM
  refine s_val hF rfl rfl rfl (e_assign hF rfl) ?_; intro a hF
  refine s_nil ?_
  refine then_n ?_
  refine wp_ret ?_
  obtain rfl := some_some H
  refine s_ret [v2] hF Try.results65 ⟨rfl, trivial⟩ ?_
  exact ⟨_, rfl, hM.frm, hM.give 0 rfl⟩

/-! ### loop.example/g01210/spec.PhrasesOf: function 28 -/
def spec_PhrasesOf.l12 (K : Nat) (t10 : (List Int)) (x352 : (List (List Int))) (x463 : Int) : Nat → Int → (List (List Int)) → Option (List (List Int))
  | 0, _, _ => none
  | k + 1, x499, x501 => if x499 < (t10.length : Int) then (if (0 : Int) ≤ x463 ∧ x463 < (x352.length : Int) then ((spec_l1Own.f K (x352.getD (x463 : Int).toNat [])).bind fun t505 => if (0 : Int) ≤ x499 ∧ x499 < (t10.length : Int) then (if t505.length + [(t10.getD (x499 : Int).toNat (0 : Int))].length ≤ 1073741824 then (if x501.length + [(t505 ++ [(t10.getD (x499 : Int).toNat (0 : Int))])].length ≤ 1073741824 then (spec_PhrasesOf.l12 K t10 x352 x463 k (wrap64 (x499 + 1)) (x501 ++ [(t505 ++ [(t10.getD (x499 : Int).toNat (0 : Int))])])) else none) else none) else none) else none) else (some x501)
def spec_PhrasesOf.l11 (K : Nat) (t10 : (List Int)) (x352 : (List (List Int))) : Nat → Int → (List (List Int)) → Option (List (List Int))
  | 0, _, _ => none
  | k + 1, x463, x465 => if x463 < (x352.length : Int) then ((spec_PhrasesOf.l12 K t10 x352 x463 K 0 x465).bind fun x497 => spec_PhrasesOf.l11 K t10 x352 k (wrap64 (x463 + 1)) x497) else (some x465)
def spec_PhrasesOf.l8 (K : Nat) (a1 : Int) (t10 : (List Int)) : Nat → Int → (List (List Int)) → Option (List (List Int))
  | 0, _, _ => none
  | k + 1, x350, x352 => if x350 < a1 then ((spec_PhrasesOf.l11 K t10 x352 K 0 ([] : List (List Int))).bind fun x461 => spec_PhrasesOf.l8 K a1 t10 k (wrap64 (x350 + 1)) x461) else (some x352)
def spec_PhrasesOf.f (K : Nat) (a0 : (Ar 6)) (a1 : Int) : Option ((List (List Int)) × Bool) := (spec_l2Die.f K a0).bind fun t2 => if t2 = true then ((spec_l1In.f K a1 1 3).bind fun t5 => if t5 = true then ((spec_l8Numbers.f K a0).bind fun t10 => (spec_PhrasesOf.l8 K a1 t10 K 0 [([] : List Int)]).bind fun x348 => some (x348, true)) else (some (([] : List (List Int)), false))) else (some (([] : List (List Int)), false))
set_option maxRecDepth 100000 in
set_option maxHeartbeats 4000000 in
theorem spec_PhrasesOf.calls {w0 : World} {X : List Nat} (K : Nat) (a0 : (Ar 6)) (a1 : Int) (qM : Ms X w0 w0 []) (r : ((List (List Int)) × Bool)) (H : spec_PhrasesOf.f K a0 a1 = some r) : Calls Try.prog 28 [ag [Pt.ar a0], Value.int .i64 a1].toArray w0 (fun e w => ∃ v, e = .returned v ∧ ∃ v526 : Value, ∃ z527 : (List Value), Ms X w0 w [nestR cd3 42 v526 z527 r.1] ∧ Value.tuple #[v526, Value.bool r.2] = v) := by
  rw [spec_PhrasesOf.f] at H
  refine s_start Try.func28 rfl Try.ntmps28 rfl ?_
  intro a hF
  have hM := qM
  refine wp_seq ?_
  refine s_region ?_
  refine s_box (ps := [Pt.ar a0]) hF hM rfl rfl rfl rfl ?_; intro a w b1 hF hM
  refine s_val hF rfl rfl rfl (e_assign hF rfl) ?_; intro a hF
  refine s_val hF rfl rfl rfl (e_assign hF rfl) ?_; intro a hF
  refine s_nil ?_
  refine then_n ?_
  refine wp_seq ?_
  refine wp_seq ?_
  obtain ⟨t2, h3, H⟩ := bind_some H
  rcases ite_cases H with ⟨c4, H⟩ | ⟨c4, H⟩
  ·
    obtain ⟨t5, h6, H⟩ := bind_some H
    refine s_region ?_
    refine s_val hF rfl rfl rfl (e_lda (i := 0) 0 1 hF hM rfl rfl rfl rfl Try.isAgg22 Try.sizeOf22 rfl) ?_; intro a hF
    refine s_call hF rfl rfl rfl Try.call47 (spec_l2Die.calls K a0 t2 h3) ?_; intro a w v hF hf hR
    subst hR; have hM := hM.grow hf
    refine s_val hF rfl rfl rfl (e_not hF rfl) ?_; intro a hF
    refine s_val hF rfl rfl rfl (e_move hF rfl) ?_; intro a hF
    have hF := hF.topb (congrArg Bool.not c4)
    refine s_val hF rfl rfl rfl (e_move hF rfl) ?_; intro a hF
    refine s_call hF rfl rfl rfl Try.call48 (spec_l1In.calls K a1 1 3 t5 h6) ?_; intro a w v hF hf hR
    subst hR; have hM := hM.grow hf
    refine s_val hF rfl rfl rfl (e_not hF rfl) ?_; intro a hF
    refine s_val hF rfl rfl rfl (e_pick_f hF rfl rfl) ?_; intro a hF
    refine s_nil ?_
    refine then_n ?_
    rcases ite_cases H with ⟨c7, H⟩ | ⟨c7, H⟩
    ·
      refine s_cond_f hF rfl (congrArg Bool.not c7) ?_
      refine wp_skip ?_
      refine then_n ?_
      refine wp_seq ?_
      obtain ⟨t10, h11, H⟩ := bind_some H
      refine s_region ?_
      refine s_bsl (C := cd3) ([] : List Int) cdok3 hF hM rfl rfl rfl rfl Try.underlying42 rfl ?_; intro a w v8 hF hM
      refine s_bnest (i := 0) cdokV42 hF hM rfl rfl rfl rfl Try.underlying37 ?_; intro a w v9 hF hM
      refine s_val hF rfl rfl rfl (e_lda (i := 1) 0 1 hF hM rfl rfl rfl rfl Try.isAgg22 Try.sizeOf22 rfl) ?_; intro a hF
      refine s_call hF rfl rfl rfl Try.call64 (spec_l8Numbers.calls K a0 t10 h11) ?_; intro a w v12 hF hf hR
      have hM := hM.fresh hf hR
      refine s_val hF rfl rfl rfl (e_assign hF rfl) ?_; intro a hF
      refine s_val hF rfl rfl rfl (e_assign hF rfl) ?_; intro a hF
      refine s_nil ?_
      refine then_n ?_
      refine wp_seq ?_
      refine wp_seq ?_
      refine s_region ?_
      refine s_val hF rfl rfl rfl (e_assign hF rfl) ?_; intro a hF
      refine s_nil ?_
      refine then_n ?_
      refine wp_block ?_
      obtain ⟨o522, h523, H⟩ := bind_some H
      refine wp_mono (Q := fun e a w => (e = Exit.exit 0 ∧ ∃ v347 : Value, ∃ z349 : (List Value), ∃ x348 : (List (List Int)), x348 = o522 ∧ Fr 59 a [(6, v347)] ∧ Ms X w0 w [nestR cd3 42 v347 z349 x348])) ?_ ?_
      · refine s_loop (fun kq a w => ∃ v351 : Value, ∃ z353 : (List Value), ∃ x350 : Int, ∃ x352 : (List (List Int)), spec_PhrasesOf.l8 K a1 t10 kq x350 x352 = some o522 ∧ Fr 59 a [(1, Value.int .i64 a1), (6, v351), (7, v12), (8, Value.int .i64 x350)] ∧ Ms X w0 w [nestR cd3 42 v351 z353 x352, rowR cd3 v12 t10]) K ⟨v9, [v8], 0, [([] : List Int)], h523, hF.sub _ ⟨rfl, rfl, rfl, rfl, trivial⟩, hM.pick [1, 0] rfl rfl⟩ ?_ ?_
        · rintro a w ⟨_, _, _, _, H, _⟩; exact none_some H
        · rintro k a w ⟨v351, z353, x350, x352, H, hF, hM⟩; rw [spec_PhrasesOf.l8] at H
          refine wp_seq ?_
          refine wp_seq ?_
          refine s_region ?_
          refine s_val hF rfl rfl rfl (e_move hF rfl) ?_; intro a hF
          refine s_val hF rfl rfl rfl (e_move hF rfl) ?_; intro a hF
          refine s_val hF rfl rfl rfl (e_lss hF rfl rfl) ?_; intro a hF
          refine s_nil ?_
          refine then_n ?_
          rcases ite_cases H with ⟨c354, H⟩ | ⟨c354, H⟩
          ·
            refine s_cond_t hF rfl (decide_eq_true c354) ?_
            refine wp_skip ?_
            refine then_n ?_
            refine wp_seq ?_
            refine wp_block ?_
            refine wp_seq ?_
            refine s_region ?_
            refine s_bnest0 (C := cd3) cdokV42 hF hM rfl rfl Try.underlying37 ?_; intro a w v355 hF hM
            refine s_val hF rfl rfl rfl (e_assign hF rfl) ?_; intro a hF
            refine s_nil ?_
            refine then_n ?_
            refine wp_seq ?_
            refine wp_seq ?_
            refine s_region ?_
            refine s_val hF rfl rfl rfl (e_assign hF rfl) ?_; intro a hF
            refine s_nil ?_
            refine then_n ?_
            refine wp_block ?_
            obtain ⟨o520, h521, H⟩ := bind_some H
            refine wp_mono (Q := fun e a w => (e = Exit.exit 2 ∧ ∃ v460 : Value, ∃ z462 : (List Value), ∃ x461 : (List (List Int)), x461 = o520 ∧ Fr 59 a [(1, Value.int .i64 a1), (7, v12), (8, Value.int .i64 x350), (9, v460)] ∧ Ms X w0 w [rowR cd3 v12 t10, nestR cd3 42 v460 z462 x461])) ?_ ?_
            · refine s_loop (fun kq a w => ∃ v464 : Value, ∃ z466 : (List Value), ∃ x463 : Int, ∃ x465 : (List (List Int)), spec_PhrasesOf.l11 K t10 x352 kq x463 x465 = some o520 ∧ Fr 59 a [(1, Value.int .i64 a1), (6, v351), (7, v12), (8, Value.int .i64 x350), (9, v464), (10, Value.int .i64 x463)] ∧ Ms X w0 w [nestR cd3 42 v351 z353 x352, rowR cd3 v12 t10, nestR cd3 42 v464 z466 x465]) K ⟨v355, ([] : List Value), 0, ([] : List (List Int)), h521, hF.sub _ ⟨rfl, rfl, rfl, rfl, rfl, rfl, trivial⟩, hM.pick [1, 2, 0] rfl rfl⟩ ?_ ?_
              · rintro a w ⟨_, _, _, _, H, _⟩; exact none_some H
              · rintro k a w ⟨v464, z466, x463, x465, H, hF, hM⟩; rw [spec_PhrasesOf.l11] at H
                refine wp_seq ?_
                refine wp_seq ?_
                refine s_region ?_
                refine s_val hF rfl rfl rfl (e_move hF rfl) ?_; intro a hF
                refine s_val hF rfl rfl rfl (e_move hF rfl) ?_; intro a hF
                refine s_val hF rfl rfl rfl (e_len hF rfl (hM.ne 0 rfl).toF Try.underlying37) ?_; intro a hF
                refine s_val hF rfl rfl rfl (e_lss hF rfl rfl) ?_; intro a hF
                refine s_nil ?_
                refine then_n ?_
                rcases ite_cases H with ⟨c467, H⟩ | ⟨c467, H⟩
                ·
                  refine s_cond_t hF rfl (decide_eq_true c467) ?_
                  refine wp_skip ?_
                  refine then_n ?_
                  refine wp_seq ?_
                  refine wp_block ?_
                  refine wp_seq ?_
                  refine s_region ?_
                  refine s_val hF rfl rfl rfl (e_assign hF rfl) ?_; intro a hF
                  refine s_nil ?_
                  refine then_n ?_
                  refine wp_block ?_
                  obtain ⟨o518, h519, H⟩ := bind_some H
                  refine wp_mono (Q := fun e a w => (e = Exit.exit 4 ∧ ∃ v496 : Value, ∃ z498 : (List Value), ∃ x497 : (List (List Int)), x497 = o518 ∧ Fr 59 a [(1, Value.int .i64 a1), (6, v351), (7, v12), (8, Value.int .i64 x350), (9, v496), (10, Value.int .i64 x463)] ∧ Ms X w0 w [nestR cd3 42 v351 z353 x352, rowR cd3 v12 t10, nestR cd3 42 v496 z498 x497])) ?_ ?_
                  · refine s_loop (fun kq a w => ∃ v500 : Value, ∃ z502 : (List Value), ∃ x499 : Int, ∃ x501 : (List (List Int)), spec_PhrasesOf.l12 K t10 x352 x463 kq x499 x501 = some o518 ∧ Fr 59 a [(1, Value.int .i64 a1), (6, v351), (7, v12), (8, Value.int .i64 x350), (9, v500), (10, Value.int .i64 x463), (11, Value.int .i64 x499)] ∧ Ms X w0 w [nestR cd3 42 v351 z353 x352, rowR cd3 v12 t10, nestR cd3 42 v500 z502 x501]) K ⟨v464, z466, 0, x465, h519, hF.sub _ ⟨rfl, rfl, rfl, rfl, rfl, rfl, rfl, trivial⟩, hM.pick [0, 1, 2] rfl rfl⟩ ?_ ?_
                    · rintro a w ⟨_, _, _, _, H, _⟩; exact none_some H
                    · rintro k a w ⟨v500, z502, x499, x501, H, hF, hM⟩; rw [spec_PhrasesOf.l12] at H
                      refine wp_seq ?_
                      refine wp_seq ?_
                      refine s_region ?_
                      refine s_val hF rfl rfl rfl (e_move hF rfl) ?_; intro a hF
                      refine s_val hF rfl rfl rfl (e_move hF rfl) ?_; intro a hF
                      refine s_val hF rfl rfl rfl (e_len hF rfl (hM.sl 1 rfl).toF Try.underlying42) ?_; intro a hF
                      refine s_val hF rfl rfl rfl (e_lss hF rfl rfl) ?_; intro a hF
                      refine s_nil ?_
                      refine then_n ?_
                      rcases ite_cases H with ⟨c503, H⟩ | ⟨c503, H⟩
                      ·
                        refine s_cond_t hF rfl (decide_eq_true c503) ?_
                        refine wp_skip ?_
                        refine then_n ?_
                        refine wp_seq ?_
                        refine wp_block ?_
                        obtain ⟨c504, H⟩ := ite_some H
                        obtain ⟨t505, h506, H⟩ := bind_some H
                        obtain ⟨c508, H⟩ := ite_some H
                        obtain ⟨c511, H⟩ := ite_some H
                        obtain ⟨c514, H⟩ := ite_some H
                        refine wp_mono (Q := fun e a w => e = Exit.normal ∧ ∃ v509 : Value, ∃ v513 : Value, ∃ z515 : (List Value), Fr 59 a [(1, Value.int .i64 a1), (6, v351), (7, v12), (8, Value.int .i64 x350), (9, v513), (10, Value.int .i64 x463), (11, Value.int .i64 x499)] ∧ Ms X w0 w [rowR cd3 v509 [(t10.getD (x499 : Int).toNat (0 : Int))], nestR cd3 42 v351 z353 x352, rowR cd3 v12 t10, nestR cd3 42 v513 z515 (x501 ++ [(t505 ++ [(t10.getD (x499 : Int).toNat (0 : Int))])])]) ?_ ?_
                        · skip
                          refine s_held (fun w => Ms X w0 w [nestR cd3 42 v351 z353 x352, rowR cd3 v12 t10]) #[false, false, false, false, false, false, false, false, false, false, false, false, false, false, false] mixed rfl rfl hM ?_; intro w hf hM; clear hf
                          refine h_val 0 #[true, false, false, false, false, false, false, false, false, false, false, false, false, false, false] rfl (by kernel_rfl) hF rfl rfl rfl (fun w hS => e_move hF rfl) (hM.pick [0, 1] rfl rfl) ?_; intro a hF
                          refine h_val 1 #[true, true, false, false, false, false, false, false, false, false, false, false, false, false, false] rfl (by kernel_rfl) hF rfl rfl rfl (fun w hS => e_move hF rfl) (hM.pick [0, 1] rfl rfl) ?_; intro a hF
                          refine h_val 2 #[true, true, true, false, false, false, false, false, false, false, false, false, false, false, false] rfl (by kernel_rfl) hF rfl rfl rfl (fun w hS => e_move hF rfl) (hM.pick [0, 1] rfl rfl) ?_; intro a hF
                          have f516 := (hM.ne 0 rfl).toF
                          refine h_val 3 #[true, true, true, true, false, false, false, false, false, false, false, false, false, false, false] rfl (by kernel_rfl) hF rfl rfl rfl (fun w hS => e_ias (cdV 42) hF rfl rfl f516 Try.underlying37 Try.sizeOf42 c504.1 c504.2) (hM.pick [0, 1] rfl rfl) ?_; intro a hF
                          refine h_val 4 #[true, true, true, true, true, false, false, false, false, false, false, false, false, false, false] rfl (by kernel_rfl) hF rfl rfl rfl (fun w hS => e_lds (C := cdV 42) (m := x463) hF rfl (hS.ne 0 rfl).out ((hS.ne 0 rfl).at c504) rfl (any_cs ((hS.ne 0 rfl).get c504).toF.one) Try.isAgg42) (hM.pick [0, 1] rfl rfl) ?_; intro a hF
                          refine h_val 6 #[true, true, true, true, true, false, true, false, false, false, false, false, false, false, false] rfl (by kernel_rfl) hF rfl rfl rfl (fun w hS => e_move hF rfl) (hM.pick [0, 1] rfl rfl) ?_; intro a hF
                          refine h_val 7 #[true, true, true, true, true, false, true, true, false, false, false, false, false, false, false] rfl (by kernel_rfl) hF rfl rfl rfl (fun w hS => e_move hF rfl) (hM.pick [0, 1] rfl rfl) ?_; intro a hF
                          have f517 := (hM.sl 1 rfl).toF
                          refine h_val 8 #[true, true, true, true, true, false, true, true, true, false, false, false, false, false, false] rfl (by kernel_rfl) hF rfl rfl rfl (fun w hS => e_ias cd3 hF rfl rfl f517 Try.underlying42 Try.sizeOf3 c508.1 c508.2) (hM.pick [0, 1] rfl rfl) ?_; intro a hF
                          refine h_val 9 #[true, true, true, true, true, false, true, true, true, true, false, false, false, false, false] rfl (by kernel_rfl) hF rfl rfl rfl (fun w hS => e_lds (m := x499) hF rfl (hS.sl 1 rfl) (getD_some (z := (0 : Int)) c508.1 c508.2) rfl rfl Try.isAgg3) (hM.pick [0, 1] rfl rfl) ?_; intro a hF
                          refine h_two 5 10 #[true, true, true, true, true, true, true, true, true, true, false, false, false, false, false] #[true, true, true, true, true, false, true, true, true, true, true, false, false, false, false] rfl rfl rfl rfl (by kernel_rfl) ?_ ?_
                          · skip
                            refine s_call hF rfl rfl rfl Try.call65 (spec_l1Own.calls K (x352.getD (x463 : Int).toNat []) (z353.getD (x463 : Int).toNat nilv) ((hM.ne 0 rfl).get c504) t505 h506) ?_; intro a w v507 hF hf hR
                            have hM := hM.fresh hf hR
                            refine s_nil ⟨rfl, (hM.pick [1, 2] rfl rfl), ?_⟩
                            refine h_one 10 #[true, true, true, true, true, true, true, true, true, true, true, false, false, false, false] rfl (by kernel_rfl) ?_
                            refine s_bsl (C := cd3) [(t10.getD (x499 : Int).toNat (0 : Int))] cdok3 hF hM rfl rfl rfl rfl Try.underlying42 rfl ?_; intro a w v509 hF hM
                            refine s_nil ⟨rfl, (hM.pick [2, 3] rfl rfl), ?_⟩
                            refine h_one 11 #[true, true, true, true, true, true, true, true, true, true, true, true, false, false, false] rfl (by kernel_rfl) ?_
                            refine s_append (i := 1) cdok3 hF hM rfl rfl rfl rfl rfl (hM.sl 0 rfl) Try.underlying42 c511 ?_; intro a w v510 hF hM
                            refine s_nil ⟨rfl, (hM.pick [2, 3] rfl rfl), ?_⟩
                            refine h_one 12 #[true, true, true, true, true, true, true, true, true, true, true, true, true, false, false] rfl (by kernel_rfl) ?_
                            refine s_bnest (i := 1) cdokV42 hF hM rfl rfl rfl rfl Try.underlying37 ?_; intro a w v512 hF hM
                            refine s_nil ⟨rfl, (hM.pick [2, 3] rfl rfl), ?_⟩
                            refine h_one 13 #[true, true, true, true, true, true, true, true, true, true, true, true, true, true, false] rfl (by kernel_rfl) ?_
                            refine s_nappend cdokV42 hF 4 1 [0, 2, 3] hM rfl rfl rfl rfl rfl rfl rfl rfl Try.underlying37 c514 ?_; intro a w v513 hF hM
                            refine s_nil ⟨rfl, (hM.pick [2, 3] rfl rfl), ?_⟩
                            refine h_val 14 #[true, true, true, true, true, true, true, true, true, true, true, true, true, true, true] rfl (by kernel_rfl) hF rfl rfl rfl (fun w hS => e_assign hF rfl) (hM.pick [2, 3] rfl rfl) ?_; intro a hF
                            exact h_done rfl ⟨rfl, v509, v513, (z502 ++ [v510]), hF.sub _ ⟨rfl, rfl, rfl, rfl, rfl, rfl, rfl, trivial⟩, hM.pick [1, 2, 3, 0] rfl rfl⟩
                          · skip
                            refine s_bsl (C := cd3) [(t10.getD (x499 : Int).toNat (0 : Int))] cdok3 hF hM rfl rfl rfl rfl Try.underlying42 rfl ?_; intro a w v509 hF hM
                            refine s_nil ⟨rfl, (hM.pick [1, 2] rfl rfl), ?_⟩
                            refine h_one 5 #[true, true, true, true, true, true, true, true, true, true, true, false, false, false, false] rfl (by kernel_rfl) ?_
                            refine s_call hF rfl rfl rfl Try.call65 (spec_l1Own.calls K (x352.getD (x463 : Int).toNat []) (z353.getD (x463 : Int).toNat nilv) ((hM.ne 1 rfl).get c504) t505 h506) ?_; intro a w v507 hF hf hR
                            have hM := hM.fresh hf hR
                            refine s_nil ⟨rfl, (hM.pick [2, 3] rfl rfl), ?_⟩
                            refine h_one 11 #[true, true, true, true, true, true, true, true, true, true, true, true, false, false, false] rfl (by kernel_rfl) ?_
                            refine s_append (i := 0) cdok3 hF hM rfl rfl rfl rfl rfl (hM.sl 1 rfl) Try.underlying42 c511 ?_; intro a w v510 hF hM
                            refine s_nil ⟨rfl, (hM.pick [2, 3] rfl rfl), ?_⟩
                            refine h_one 12 #[true, true, true, true, true, true, true, true, true, true, true, true, true, false, false] rfl (by kernel_rfl) ?_
                            refine s_bnest (i := 0) cdokV42 hF hM rfl rfl rfl rfl Try.underlying37 ?_; intro a w v512 hF hM
                            refine s_nil ⟨rfl, (hM.pick [2, 3] rfl rfl), ?_⟩
                            refine h_one 13 #[true, true, true, true, true, true, true, true, true, true, true, true, true, true, false] rfl (by kernel_rfl) ?_
                            refine s_nappend cdokV42 hF 4 0 [1, 2, 3] hM rfl rfl rfl rfl rfl rfl rfl rfl Try.underlying37 c514 ?_; intro a w v513 hF hM
                            refine s_nil ⟨rfl, (hM.pick [2, 3] rfl rfl), ?_⟩
                            refine h_val 14 #[true, true, true, true, true, true, true, true, true, true, true, true, true, true, true] rfl (by kernel_rfl) hF rfl rfl rfl (fun w hS => e_assign hF rfl) (hM.pick [2, 3] rfl rfl) ?_; intro a hF
                            exact h_done rfl ⟨rfl, v509, v513, (z502 ++ [v510]), hF.sub _ ⟨rfl, rfl, rfl, rfl, rfl, rfl, rfl, trivial⟩, hM.pick [1, 2, 3, 0] rfl rfl⟩
                        rintro e a w ⟨rfl, v509, v513, z515, hF, hM⟩
                        refine blk_n ?_
                        refine then_n ?_
                        refine s_region ?_
                        refine s_val hF rfl rfl rfl (e_move hF rfl) ?_; intro a hF
                        refine s_val hF rfl rfl rfl (e_add hF rfl rfl) ?_; intro a hF
                        refine s_val hF rfl rfl rfl (e_assign hF rfl) ?_; intro a hF
                        refine s_nil ?_
                        refine then_n ?_
                        exact ⟨v513, z515, (wrap64 (x499 + 1)), (x501 ++ [(t505 ++ [(t10.getD (x499 : Int).toNat (0 : Int))])]), H, hF.sub _ ⟨rfl, rfl, rfl, rfl, rfl, rfl, rfl, trivial⟩, hM.pick [1, 2, 3] rfl rfl⟩
                      ·
                        refine s_cond_f hF rfl (decide_eq_false c503) ?_
                        refine wp_exit ?_
                        refine then_x ?_
                        refine then_x ?_
                        exact ⟨rfl, v500, z502, x501, some_some H, hF.sub _ ⟨rfl, rfl, rfl, rfl, rfl, rfl, trivial⟩, hM.pick [0, 1, 2] rfl rfl⟩
                  · rintro e a w ⟨rfl, v496, z498, x497, rfl, hF, hM⟩
                    skip
                    refine blk_x ?_
                    refine blk_n ?_
                    refine then_n ?_
                    refine s_region ?_
                    refine s_val hF rfl rfl rfl (e_move hF rfl) ?_; intro a hF
                    refine s_val hF rfl rfl rfl (e_add hF rfl rfl) ?_; intro a hF
                    refine s_val hF rfl rfl rfl (e_assign hF rfl) ?_; intro a hF
                    refine s_nil ?_
                    refine then_n ?_
                    exact ⟨v496, z498, (wrap64 (x463 + 1)), x497, H, hF.sub _ ⟨rfl, rfl, rfl, rfl, rfl, rfl, trivial⟩, hM.pick [0, 1, 2] rfl rfl⟩
                ·
                  refine s_cond_f hF rfl (decide_eq_false c467) ?_
                  refine wp_exit ?_
                  refine then_x ?_
                  refine then_x ?_
                  exact ⟨rfl, v464, z466, x465, some_some H, hF.sub _ ⟨rfl, rfl, rfl, rfl, trivial⟩, hM.pick [1, 2] rfl rfl⟩
            · rintro e a w ⟨rfl, v460, z462, x461, rfl, hF, hM⟩
              skip
              refine blk_x ?_
              refine then_n ?_
              refine s_region ?_
              refine s_val hF rfl rfl rfl (e_move hF rfl) ?_; intro a hF
              refine s_val hF rfl rfl rfl (e_assign hF rfl) ?_; intro a hF
              refine s_nil ?_
              refine blk_n ?_
              refine then_n ?_
              refine s_region ?_
              refine s_val hF rfl rfl rfl (e_move hF rfl) ?_; intro a hF
              refine s_val hF rfl rfl rfl (e_add hF rfl rfl) ?_; intro a hF
              refine s_val hF rfl rfl rfl (e_assign hF rfl) ?_; intro a hF
              refine s_nil ?_
              refine then_n ?_
              exact ⟨v460, z462, (wrap64 (x350 + 1)), x461, H, hF.sub _ ⟨rfl, rfl, rfl, rfl, trivial⟩, hM.pick [1, 0] rfl rfl⟩
          ·
            refine s_cond_f hF rfl (decide_eq_false c354) ?_
            refine wp_exit ?_
            refine then_x ?_
            refine then_x ?_
            exact ⟨rfl, v351, z353, x352, some_some H, hF.sub _ ⟨rfl, trivial⟩, hM.pick [0] rfl rfl⟩
      · rintro e a w ⟨rfl, v347, z349, x348, rfl, hF, hM⟩
        skip
        refine blk_x ?_
        refine then_n ?_
        refine wp_seq ?_
        refine s_region ?_
        refine s_val hF rfl rfl rfl (e_move hF rfl) ?_; intro a hF
        refine s_val hF rfl rfl rfl (e_assign hF rfl) ?_; intro a hF
        refine s_val hF rfl rfl rfl (e_assign hF rfl) ?_; intro a hF
        refine s_nil ?_
        refine then_n ?_
        refine wp_ret ?_
        obtain rfl := some_some H
        refine s_ret [v347, Value.bool true] hF Try.results28 ⟨rfl, rfl, trivial⟩ ?_
        exact ⟨_, rfl, v347, z349, hM.pick [0] rfl rfl, rfl⟩
    ·
      refine s_cond_t hF rfl (congrArg Bool.not (bf c7)) ?_
      refine wp_seq ?_
      refine s_region ?_
      refine s_bnest0 (C := cd3) cdokV42 hF hM rfl rfl Try.underlying37 ?_; intro a w v524 hF hM
      refine s_val hF rfl rfl rfl (e_assign hF rfl) ?_; intro a hF
      refine s_val hF rfl rfl rfl (e_assign hF rfl) ?_; intro a hF
      refine s_nil ?_
      refine then_n ?_
      refine wp_ret ?_
      refine then_r ?_
      obtain rfl := some_some H
      refine s_ret [v524, Value.bool false] hF Try.results28 ⟨rfl, rfl, trivial⟩ ?_
      exact ⟨_, rfl, v524, ([] : List Value), hM.pick [0] rfl rfl, rfl⟩
  ·
    refine s_region ?_
    refine s_val hF rfl rfl rfl (e_lda (i := 0) 0 1 hF hM rfl rfl rfl rfl Try.isAgg22 Try.sizeOf22 rfl) ?_; intro a hF
    refine s_call hF rfl rfl rfl Try.call47 (spec_l2Die.calls K a0 t2 h3) ?_; intro a w v hF hf hR
    subst hR; have hM := hM.grow hf
    refine s_val hF rfl rfl rfl (e_not hF rfl) ?_; intro a hF
    refine s_val hF rfl rfl rfl (e_move hF rfl) ?_; intro a hF
    have hF := hF.topb (congrArg Bool.not (bf c4))
    refine s_skip hF rfl rfl rfl ?_; intro a hF
    refine s_skip hF rfl rfl rfl ?_; intro a hF
    refine s_skip hF rfl rfl rfl ?_; intro a hF
    refine s_val hF rfl rfl rfl (e_pick_t hF rfl rfl) ?_; intro a hF
    refine s_nil ?_
    refine then_n ?_
    refine s_cond_t hF rfl rfl ?_
    refine wp_seq ?_
    refine s_region ?_
    refine s_bnest0 (C := cd3) cdokV42 hF hM rfl rfl Try.underlying37 ?_; intro a w v525 hF hM
    refine s_val hF rfl rfl rfl (e_assign hF rfl) ?_; intro a hF
    refine s_val hF rfl rfl rfl (e_assign hF rfl) ?_; intro a hF
    refine s_nil ?_
    refine then_n ?_
    refine wp_ret ?_
    refine then_r ?_
    obtain rfl := some_some H
    refine s_ret [v525, Value.bool false] hF Try.results28 ⟨rfl, rfl, trivial⟩ ?_
    exact ⟨_, rfl, v525, ([] : List Value), hM.pick [0] rfl rfl, rfl⟩

/-! ### loop.example/g01210/impl.within: function 51 -/
def impl_within.f (K : Nat) (a0 : Int) (a1 : Int) (a2 : Int) : Option Bool := if a1 ≤ a0 then (some (decide (a0 ≤ a2))) else (some false)
set_option maxRecDepth 100000 in
set_option maxHeartbeats 4000000 in
theorem impl_within.calls {w0 : World} (K : Nat) (a0 : Int) (a1 : Int) (a2 : Int) (r : Bool) (H : impl_within.f K a0 a1 a2 = some r) : Calls Try.prog 51 [Value.int .i64 a0, Value.int .i64 a1, Value.int .i64 a2].toArray w0 (Post w0 fun w v => v = Value.bool r) := by
  rw [impl_within.f] at H
  refine s_start Try.func51 rfl Try.ntmps51 rfl ?_
  intro a hF
  have hM := Ms.start w0
  skip
  refine wp_seq ?_
  refine s_region ?_
  refine s_val hF rfl rfl rfl (e_assign hF rfl) ?_; intro a hF
  refine s_nil ?_
  refine then_n ?_
  refine wp_seq ?_
  rcases ite_cases H with ⟨c1, H⟩ | ⟨c1, H⟩
  ·
    refine s_region ?_
    refine s_val hF rfl rfl rfl (e_move hF rfl) ?_; intro a hF
    refine s_val hF rfl rfl rfl (e_move hF rfl) ?_; intro a hF
    refine s_val hF rfl rfl rfl (e_leq hF rfl rfl) ?_; intro a hF
    refine s_val hF rfl rfl rfl (e_move hF rfl) ?_; intro a hF
    have hF := hF.topb (decide_eq_true c1)
    refine s_val hF rfl rfl rfl (e_move hF rfl) ?_; intro a hF
    refine s_val hF rfl rfl rfl (e_move hF rfl) ?_; intro a hF
    refine s_val hF rfl rfl rfl (e_leq hF rfl rfl) ?_; intro a hF
    refine s_val hF rfl rfl rfl (e_pick_t hF rfl rfl) ?_; intro a hF
    refine s_val hF rfl rfl rfl (e_assign hF rfl) ?_; intro a hF
    refine s_nil ?_
    refine then_n ?_
    refine wp_ret ?_
    obtain rfl := some_some H
    refine s_ret [Value.bool (decide (a0 ≤ a2))] hF Try.results51 ⟨rfl, trivial⟩ ?_
    exact ⟨_, rfl, hM.frm, rfl⟩
  ·
    refine s_region ?_
    refine s_val hF rfl rfl rfl (e_move hF rfl) ?_; intro a hF
    refine s_val hF rfl rfl rfl (e_move hF rfl) ?_; intro a hF
    refine s_val hF rfl rfl rfl (e_leq hF rfl rfl) ?_; intro a hF
    refine s_val hF rfl rfl rfl (e_move hF rfl) ?_; intro a hF
    have hF := hF.topb (decide_eq_false c1)
    refine s_skip hF rfl rfl rfl ?_; intro a hF
    refine s_skip hF rfl rfl rfl ?_; intro a hF
    refine s_skip hF rfl rfl rfl ?_; intro a hF
    refine s_val hF rfl rfl rfl (e_pick_f hF rfl rfl) ?_; intro a hF
    refine s_val hF rfl rfl rfl (e_assign hF rfl) ?_; intro a hF
    refine s_nil ?_
    refine then_n ?_
    refine wp_ret ?_
    obtain rfl := some_some H
    refine s_ret [Value.bool false] hF Try.results51 ⟨rfl, trivial⟩ ?_
    exact ⟨_, rfl, hM.frm, rfl⟩

/-! ### loop.example/g01210/impl.isFace: function 87 -/
def impl_isFace.f (K : Nat) (a0 : Int) : Option Bool := (impl_within.f K a0 0 30).bind fun t1 => some t1
set_option maxRecDepth 100000 in
set_option maxHeartbeats 4000000 in
theorem impl_isFace.calls {w0 : World} (K : Nat) (a0 : Int) (r : Bool) (H : impl_isFace.f K a0 = some r) : Calls Try.prog 87 [Value.int .i64 a0].toArray w0 (Post w0 fun w v => v = Value.bool r) := by
  rw [impl_isFace.f] at H
  refine s_start Try.func87 rfl Try.ntmps87 rfl ?_
  intro a hF
  have hM := Ms.start w0
  skip
  refine wp_seq ?_
  refine s_region ?_
  refine s_val hF rfl rfl rfl (e_assign hF rfl) ?_; intro a hF
  refine s_nil ?_
  refine then_n ?_
  refine wp_seq ?_
  obtain ⟨t1, h2, H⟩ := bind_some H
  refine s_region ?_
  refine s_val hF rfl rfl rfl (e_move hF rfl) ?_; intro a hF
  refine s_call hF rfl rfl rfl Try.call51 (impl_within.calls K a0 0 30 t1 h2) ?_; intro a w v hF hf hR
  subst hR; have hM := hM.grow hf
  refine s_val hF rfl rfl rfl (e_assign hF rfl) ?_; intro a hF
  refine s_nil ?_
  refine then_n ?_
  refine wp_ret ?_
  obtain rfl := some_some H
  refine s_ret [Value.bool t1] hF Try.results87 ⟨rfl, trivial⟩ ?_
  exact ⟨_, rfl, hM.frm, rfl⟩

/-! ### loop.example/g01210/impl.areAll[int]$1: function 101 -/
def impl_areAll_int_1__isFace.f (K : Nat) (a0 : Int) : Option Bool := (impl_isFace.f K a0).bind fun t3 => some (!t3)
set_option maxRecDepth 100000 in
set_option maxHeartbeats 4000000 in
theorem impl_areAll_int_1__isFace.calls {w0 : World} (K : Nat) (a0 : Int) (b1 : Nat) (q2 : (boxR b1 [Pt.val (Value.func (.func 87) #[] #[]) rfl] 58).holds w0) (r : Bool) (H : impl_areAll_int_1__isFace.f K a0 = some r) : Calls Try.prog 101 [Value.int .i64 a0, pt b1 0].toArray w0 (Post w0 fun w v => v = Value.bool r) := by
  rw [impl_areAll_int_1__isFace.f] at H
  refine s_start Try.func101 rfl Try.ntmps101 rfl ?_
  intro a hF
  have hM := Ms.start w0
  skip
  refine wp_seq ?_
  refine s_region ?_
  refine s_val hF rfl rfl rfl (e_assign hF rfl) ?_; intro a hF
  refine s_nil ?_
  refine then_n ?_
  refine wp_seq ?_
  obtain ⟨t3, h4, H⟩ := bind_some H
  refine s_region ?_
  refine s_val hF rfl rfl rfl (e_ld (i := 0) (k := 0) hF (lent_ms (box_frm q2 hM.frm)) rfl rfl rfl rfl Try.isAgg58 rfl) ?_; intro a hF
  refine s_val hF rfl rfl rfl (e_move hF rfl) ?_; intro a hF
  refine s_callv hF rfl rfl rfl rfl (callsV_of Try.call87 (impl_isFace.calls K a0 t3 h4)) ?_; intro a w v hF ⟨hf, hR⟩
  subst hR; have hM := hM.grow hf
  refine s_val hF rfl rfl rfl (e_not hF rfl) ?_; intro a hF
  refine s_val hF rfl rfl rfl (e_assign hF rfl) ?_; intro a hF
  refine s_nil ?_
  refine then_n ?_
  refine wp_ret ?_
  obtain rfl := some_some H
  refine s_ret [Value.bool (!t3)] hF Try.results101 ⟨rfl, trivial⟩ ?_
  exact ⟨_, rfl, hM.frm, rfl⟩

/-! ### slices.IndexFunc[[]int,int]: function 104 -/
def slices_IndexFunc_int_int__areAll_int_1_isFace.l0 (K : Nat) (l0 : (List Int)) : Nat → Int → Option (Sum Unit Int)
  | 0, _ => none
  | k + 1, x14 => if x14 < (l0.length : Int) then (if (0 : Int) ≤ x14 ∧ x14 < (l0.length : Int) then ((impl_areAll_int_1__isFace.f K (l0.getD (x14 : Int).toNat (0 : Int))).bind fun t17 => if t17 = true then (some (Sum.inr x14)) else (slices_IndexFunc_int_int__areAll_int_1_isFace.l0 K l0 k (wrap64 (x14 + 1)))) else none) else (some (Sum.inl ()))
def slices_IndexFunc_int_int__areAll_int_1_isFace.f (K : Nat) (l0 : (List Int)) : Option Int := (slices_IndexFunc_int_int__areAll_int_1_isFace.l0 K l0 K 0).bind fun o20 => (match o20 with | .inl () => some (-1) | .inr r22 => some r22)
set_option maxRecDepth 100000 in
set_option maxHeartbeats 4000000 in
theorem slices_IndexFunc_int_int__areAll_int_1_isFace.calls {w0 : World} (K : Nat) (l0 : (List Int)) (u0 : Value) (q0 : SlR cd3 w0 u0 l0) (b1 : Nat) (q2 : (boxR b1 [Pt.val (Value.func (.func 87) #[] #[]) rfl] 58).holds w0) (r : Int) (H : slices_IndexFunc_int_int__areAll_int_1_isFace.f K l0 = some r) : Calls Try.prog 104 [u0, Value.func (.func 101) #[] #[pt b1 0]].toArray w0 (Post w0 fun w v => v = Value.int .i64 r) := by
  rw [slices_IndexFunc_int_int__areAll_int_1_isFace.f] at H
  refine s_start Try.func104 rfl Try.ntmps104 rfl ?_
  intro a hF
  have hM := Ms.start w0
  skip
  refine wp_seq ?_
  refine s_region ?_
  refine s_val hF rfl rfl rfl (e_assign hF rfl) ?_; intro a hF
  refine s_nil ?_
  refine then_n ?_
  refine wp_seq ?_
  refine wp_seq ?_
  refine s_region ?_
  refine s_val hF rfl rfl rfl (e_move hF rfl) ?_; intro a hF
  refine s_val hF rfl rfl rfl (e_len hF rfl (q0.frm hM.frm).toF Try.underlying42) ?_; intro a hF
  refine s_val hF rfl rfl rfl (e_move hF rfl) ?_; intro a hF
  refine s_nil ?_
  refine then_n ?_
  refine wp_block ?_
  obtain ⟨o20, h21, H⟩ := bind_some H
  refine wp_mono (Q := fun e a w => (e = Exit.exit 0 ∧ Sum.inl () = o20 ∧ Fr 19 a [] ∧ Ms [] w0 w []) ∨ (e = Exit.ret ∧ ∃ r22 : Int, Sum.inr r22 = o20 ∧ Fr 19 a [(4, Value.int .i64 r22)] ∧ Ms [] w0 w [])) ?_ ?_
  · refine s_loop (fun kq a w => ∃ x14 : Int, slices_IndexFunc_int_int__areAll_int_1_isFace.l0 K l0 kq x14 = some o20 ∧ Fr 19 a [(0, u0), (1, Value.func (.func 101) #[] #[pt b1 0]), (7, Value.int .i64 (l0.length : Int)), (8, Value.int .i64 x14)] ∧ Ms [] w0 w []) K ⟨0, h21, hF.sub _ ⟨rfl, rfl, rfl, rfl, trivial⟩, hM.pick [] rfl rfl⟩ ?_ ?_
    · rintro a w ⟨_, H, _⟩; exact none_some H
    · rintro k a w ⟨x14, H, hF, hM⟩; rw [slices_IndexFunc_int_int__areAll_int_1_isFace.l0] at H
      refine wp_seq ?_
      refine s_region ?_
      refine s_val hF rfl rfl rfl (e_lss hF rfl rfl) ?_; intro a hF
      refine s_nil ?_
      refine then_n ?_
      refine wp_seq ?_
      rcases ite_cases H with ⟨c15, H⟩ | ⟨c15, H⟩
      ·
        refine s_cond_t hF rfl (decide_eq_true c15) ?_
        refine wp_skip ?_
        refine then_n ?_
        refine wp_seq ?_
        refine wp_block ?_
        refine wp_seq ?_
        refine s_region ?_
        refine s_val hF rfl rfl rfl (e_move hF rfl) ?_; intro a hF
        refine s_val hF rfl rfl rfl (e_assign hF rfl) ?_; intro a hF
        refine s_nil ?_
        refine then_n ?_
        refine wp_seq ?_
        obtain ⟨c16, H⟩ := ite_some H
        obtain ⟨t17, h18, H⟩ := bind_some H
        refine s_region ?_
        refine s_val hF rfl rfl rfl (e_move hF rfl) ?_; intro a hF
        refine s_val hF rfl rfl rfl (e_move hF rfl) ?_; intro a hF
        refine s_val hF rfl rfl rfl (e_move hF rfl) ?_; intro a hF
        refine s_val hF rfl rfl rfl (e_ias cd3 hF rfl rfl (q0.frm hM.frm).toF Try.underlying42 Try.sizeOf3 c16.1 c16.2) ?_; intro a hF
        refine s_val hF rfl rfl rfl (e_lds (m := x14) hF rfl (q0.frm hM.frm) (getD_some (z := (0 : Int)) c16.1 c16.2) rfl rfl Try.isAgg3) ?_; intro a hF
        refine s_callv hF rfl rfl rfl rfl (callsV_of Try.call101 (impl_areAll_int_1__isFace.calls K (l0.getD (x14 : Int).toNat (0 : Int)) b1 (box_frm q2 hM.frm) t17 h18)) ?_; intro a w v hF ⟨hf, hR⟩
        subst hR; have hM := hM.grow hf
        refine s_nil ?_
        refine then_n ?_
        rcases ite_cases H with ⟨c19, H⟩ | ⟨c19, H⟩
        ·
          refine s_cond_t hF rfl c19 ?_
          refine wp_seq ?_
          refine s_region ?_
          refine s_val hF rfl rfl rfl (e_move hF rfl) ?_; intro a hF
          refine s_val hF rfl rfl rfl (e_assign hF rfl) ?_; intro a hF
          refine s_nil ?_
          refine then_n ?_
          refine wp_ret ?_
          refine blk_r ?_
          refine then_r ?_
          refine then_r ?_
          exact Or.inr (⟨rfl, x14, some_some H, hF.sub _ ⟨rfl, trivial⟩, hM.pick [] rfl rfl⟩)
        ·
          refine s_cond_f hF rfl (bf c19) ?_
          refine wp_skip ?_
          refine blk_n ?_
          refine then_n ?_
          refine s_region ?_
          refine s_val hF rfl rfl rfl (e_add hF rfl rfl) ?_; intro a hF
          refine s_val hF rfl rfl rfl (e_move hF rfl) ?_; intro a hF
          refine s_nil ?_
          refine then_n ?_
          exact ⟨(wrap64 (x14 + 1)), H, hF.sub _ ⟨rfl, rfl, rfl, rfl, trivial⟩, hM.pick [] rfl rfl⟩
      ·
        refine s_cond_f hF rfl (decide_eq_false c15) ?_
        refine wp_exit ?_
        refine then_x ?_
        refine then_x ?_
        exact Or.inl (⟨rfl, some_some H, hF.sub _ trivial, hM.pick [] rfl rfl⟩)
  · rintro e a w (⟨rfl, rfl, hF, hM⟩ | ⟨rfl, r22, rfl, hF, hM⟩)
    ·
      dsimp only at H
      refine blk_x ?_
      refine then_n ?_
      refine wp_seq ?_
      refine s_region ?_
      refine s_val hF rfl rfl rfl (e_assign hF rfl) ?_; intro a hF
      refine s_nil ?_
      refine then_n ?_
      refine wp_ret ?_
      obtain rfl := some_some H
      refine s_ret [Value.int .i64 (-1)] hF Try.results104 ⟨rfl, trivial⟩ ?_
      exact ⟨_, rfl, hM.frm, rfl⟩
    ·
      dsimp only at H
      refine blk_r ?_
      refine then_r ?_
      obtain rfl := some_some H
      refine s_ret [Value.int .i64 r22] hF Try.results104 ⟨rfl, trivial⟩ ?_
      exact ⟨_, rfl, hM.frm, rfl⟩

/-! ### slices.ContainsFunc[[]int,int]: function 100 -/
def slices_ContainsFunc_int_int__areAll_int_1_isFace.f (K : Nat) (l0 : (List Int)) : Option Bool := (slices_IndexFunc_int_int__areAll_int_1_isFace.f K l0).bind fun t3 => some (decide (0 ≤ t3))
set_option maxRecDepth 100000 in
set_option maxHeartbeats 4000000 in
theorem slices_ContainsFunc_int_int__areAll_int_1_isFace.calls {w0 : World} (K : Nat) (l0 : (List Int)) (u0 : Value) (q0 : SlR cd3 w0 u0 l0) (b1 : Nat) (q2 : (boxR b1 [Pt.val (Value.func (.func 87) #[] #[]) rfl] 58).holds w0) (r : Bool) (H : slices_ContainsFunc_int_int__areAll_int_1_isFace.f K l0 = some r) : Calls Try.prog 100 [u0, Value.func (.func 101) #[] #[pt b1 0]].toArray w0 (Post w0 fun w v => v = Value.bool r) := by
  rw [slices_ContainsFunc_int_int__areAll_int_1_isFace.f] at H
  refine s_start Try.func100 rfl Try.ntmps100 rfl ?_
  intro a hF
  have hM := Ms.start w0
  skip
  refine wp_seq ?_
  refine s_region ?_
  refine s_val hF rfl rfl rfl (e_assign hF rfl) ?_; intro a hF
  refine s_nil ?_
  refine then_n ?_
  refine wp_seq ?_
  obtain ⟨t3, h4, H⟩ := bind_some H
  refine s_region ?_
  refine s_val hF rfl rfl rfl (e_move hF rfl) ?_; intro a hF
  refine s_val hF rfl rfl rfl (e_move hF rfl) ?_; intro a hF
  refine s_call hF rfl rfl rfl Try.call104 (slices_IndexFunc_int_int__areAll_int_1_isFace.calls K l0 u0 (q0.frm hM.frm) b1 (box_frm q2 hM.frm) t3 h4) ?_; intro a w v hF hf hR
  subst hR; have hM := hM.grow hf
  refine s_val hF rfl rfl rfl (e_geq hF rfl rfl) ?_; intro a hF
  refine s_val hF rfl rfl rfl (e_assign hF rfl) ?_; intro a hF
  refine s_nil ?_
  refine then_n ?_
  refine wp_ret ?_
  obtain rfl := some_some H
  refine s_ret [Value.bool (decide (0 ≤ t3))] hF Try.results100 ⟨rfl, trivial⟩ ?_
  exact ⟨_, rfl, hM.frm, rfl⟩

/-! ### loop.example/g01210/impl.areAll[int]: function 86 -/
def impl_areAll_int__isFace.f (K : Nat) (l0 : (List Int)) : Option Bool := (slices_ContainsFunc_int_int__areAll_int_1_isFace.f K l0).bind fun t2 => some (!t2)
set_option maxRecDepth 100000 in
set_option maxHeartbeats 4000000 in
theorem impl_areAll_int__isFace.calls {w0 : World} (K : Nat) (l0 : (List Int)) (u0 : Value) (q0 : SlR cd3 w0 u0 l0) (r : Bool) (H : impl_areAll_int__isFace.f K l0 = some r) : Calls Try.prog 86 [u0, Value.func (.func 87) #[] #[]].toArray w0 (Post w0 fun w v => v = Value.bool r) := by
  rw [impl_areAll_int__isFace.f] at H
  refine s_start Try.func86 rfl Try.ntmps86 rfl ?_
  intro a hF
  have hM := Ms.start w0
  skip
  refine wp_seq ?_
  refine s_region ?_
  refine s_box (ps := [Pt.val (Value.func (.func 87) #[] #[]) rfl]) hF hM rfl rfl rfl rfl ?_; intro a w b1 hF hM
  refine s_val hF rfl rfl rfl (e_assign hF rfl) ?_; intro a hF
  refine s_nil ?_
  refine then_n ?_
  refine wp_seq ?_
  obtain ⟨t2, h3, H⟩ := bind_some H
  refine s_region ?_
  refine s_val hF rfl rfl rfl (e_move hF rfl) ?_; intro a hF
  refine s_val hF rfl rfl rfl (e_mkfunc (hF.evs' rfl)) ?_; intro a hF
  refine s_call hF rfl rfl rfl Try.call100 (slices_ContainsFunc_int_int__areAll_int_1_isFace.calls K l0 u0 (q0.frm hM.frm) b1 (hM.get 0 rfl) t2 h3) ?_; intro a w v hF hf hR
  subst hR; have hM := hM.grow hf
  refine s_val hF rfl rfl rfl (e_not hF rfl) ?_; intro a hF
  refine s_val hF rfl rfl rfl (e_assign hF rfl) ?_; intro a hF
  refine s_nil ?_
  refine then_n ?_
  refine wp_ret ?_
  obtain rfl := some_some H
  refine s_ret [Value.bool (!t2)] hF Try.results86 ⟨rfl, trivial⟩ ?_
  exact ⟨_, rfl, hM.frm, rfl⟩

/-! ### cmp.isNaN[int]: function 105 -/
def cmp_isNaN_int.f (K : Nat) (a0 : Int) : Option Bool := some (!(decide (a0 = a0)))
set_option maxRecDepth 100000 in
set_option maxHeartbeats 4000000 in
theorem cmp_isNaN_int.calls {w0 : World} (K : Nat) (a0 : Int) (r : Bool) (H : cmp_isNaN_int.f K a0 = some r) : Calls Try.prog 105 [Value.int .i64 a0].toArray w0 (Post w0 fun w v => v = Value.bool r) := by
  rw [cmp_isNaN_int.f] at H
  refine s_start Try.func105 rfl Try.ntmps105 rfl ?_
  intro a hF
  have hM := Ms.start w0
  skip
  refine wp_seq ?_
  refine s_region ?_
  refine s_val hF rfl rfl rfl (e_assign hF rfl) ?_; intro a hF
  refine s_nil ?_
  refine then_n ?_
  refine wp_seq ?_
  refine s_region ?_
  refine s_val hF rfl rfl rfl (e_move hF rfl) ?_; intro a hF
  refine s_val hF rfl rfl rfl (e_move hF rfl) ?_; intro a hF
  refine s_val hF rfl rfl rfl (e_neq hF rfl rfl) ?_; intro a hF
  refine s_val hF rfl rfl rfl (e_assign hF rfl) ?_; intro a hF
  refine s_nil ?_
  refine then_n ?_
  refine wp_ret ?_
  obtain rfl := some_some H
  refine s_ret [Value.bool (!(decide (a0 = a0)))] hF Try.results105 ⟨rfl, trivial⟩ ?_
  exact ⟨_, rfl, hM.frm, rfl⟩

/-! ### cmp.Less[int]: function 102 -/
def cmp_Less_int.f (K : Nat) (a0 : Int) (a1 : Int) : Option Bool := (cmp_isNaN_int.f K a0).bind fun t1 => if t1 = true then ((cmp_isNaN_int.f K a1).bind fun t4 => if t4 = true then (some (decide (a0 < a1))) else (some true)) else (some (decide (a0 < a1)))
set_option maxRecDepth 100000 in
set_option maxHeartbeats 4000000 in
theorem cmp_Less_int.calls {w0 : World} (K : Nat) (a0 : Int) (a1 : Int) (r : Bool) (H : cmp_Less_int.f K a0 a1 = some r) : Calls Try.prog 102 [Value.int .i64 a0, Value.int .i64 a1].toArray w0 (Post w0 fun w v => v = Value.bool r) := by
  rw [cmp_Less_int.f] at H
  refine s_start Try.func102 rfl Try.ntmps102 rfl ?_
  intro a hF
  have hM := Ms.start w0
  skip
  refine wp_seq ?_
  refine s_region ?_
  refine s_val hF rfl rfl rfl (e_assign hF rfl) ?_; intro a hF
  refine s_nil ?_
  refine then_n ?_
  refine wp_seq ?_
  obtain ⟨t1, h2, H⟩ := bind_some H
  rcases ite_cases H with ⟨c3, H⟩ | ⟨c3, H⟩
  ·
    obtain ⟨t4, h5, H⟩ := bind_some H
    rcases ite_cases H with ⟨c6, H⟩ | ⟨c6, H⟩
    ·
      refine s_region ?_
      refine s_val hF rfl rfl rfl (e_move hF rfl) ?_; intro a hF
      refine s_call hF rfl rfl rfl Try.call105 (cmp_isNaN_int.calls K a0 t1 h2) ?_; intro a w v hF hf hR
      subst hR; have hM := hM.grow hf
      refine s_val hF rfl rfl rfl (e_move hF rfl) ?_; intro a hF
      have hF := hF.topb c3
      refine s_val hF rfl rfl rfl (e_move hF rfl) ?_; intro a hF
      refine s_call hF rfl rfl rfl Try.call105 (cmp_isNaN_int.calls K a1 t4 h5) ?_; intro a w v hF hf hR
      subst hR; have hM := hM.grow hf
      refine s_val hF rfl rfl rfl (e_not hF rfl) ?_; intro a hF
      refine s_val hF rfl rfl rfl (e_pick_t hF rfl rfl) ?_; intro a hF
      refine s_val hF rfl rfl rfl (e_move hF rfl) ?_; intro a hF
      have hF := hF.topb (congrArg Bool.not c6)
      refine s_val hF rfl rfl rfl (e_move hF rfl) ?_; intro a hF
      refine s_val hF rfl rfl rfl (e_move hF rfl) ?_; intro a hF
      refine s_val hF rfl rfl rfl (e_lss hF rfl rfl) ?_; intro a hF
      refine s_val hF rfl rfl rfl (e_pick_f hF rfl rfl) ?_; intro a hF
      refine s_val hF rfl rfl rfl (e_assign hF rfl) ?_; intro a hF
      refine s_nil ?_
      refine then_n ?_
      refine wp_ret ?_
      obtain rfl := some_some H
      refine s_ret [Value.bool (decide (a0 < a1))] hF Try.results102 ⟨rfl, trivial⟩ ?_
      exact ⟨_, rfl, hM.frm, rfl⟩
    ·
      refine s_region ?_
      refine s_val hF rfl rfl rfl (e_move hF rfl) ?_; intro a hF
      refine s_call hF rfl rfl rfl Try.call105 (cmp_isNaN_int.calls K a0 t1 h2) ?_; intro a w v hF hf hR
      subst hR; have hM := hM.grow hf
      refine s_val hF rfl rfl rfl (e_move hF rfl) ?_; intro a hF
      have hF := hF.topb c3
      refine s_val hF rfl rfl rfl (e_move hF rfl) ?_; intro a hF
      refine s_call hF rfl rfl rfl Try.call105 (cmp_isNaN_int.calls K a1 t4 h5) ?_; intro a w v hF hf hR
      subst hR; have hM := hM.grow hf
      refine s_val hF rfl rfl rfl (e_not hF rfl) ?_; intro a hF
      refine s_val hF rfl rfl rfl (e_pick_t hF rfl rfl) ?_; intro a hF
      refine s_val hF rfl rfl rfl (e_move hF rfl) ?_; intro a hF
      have hF := hF.topb (congrArg Bool.not (bf c6))
      refine s_skip hF rfl rfl rfl ?_; intro a hF
      refine s_skip hF rfl rfl rfl ?_; intro a hF
      refine s_skip hF rfl rfl rfl ?_; intro a hF
      refine s_val hF rfl rfl rfl (e_pick_t hF rfl rfl) ?_; intro a hF
      refine s_val hF rfl rfl rfl (e_assign hF rfl) ?_; intro a hF
      refine s_nil ?_
      refine then_n ?_
      refine wp_ret ?_
      obtain rfl := some_some H
      refine s_ret [Value.bool true] hF Try.results102 ⟨rfl, trivial⟩ ?_
      exact ⟨_, rfl, hM.frm, rfl⟩
  ·
    refine s_region ?_
    refine s_val hF rfl rfl rfl (e_move hF rfl) ?_; intro a hF
    refine s_call hF rfl rfl rfl Try.call105 (cmp_isNaN_int.calls K a0 t1 h2) ?_; intro a w v hF hf hR
    subst hR; have hM := hM.grow hf
    refine s_val hF rfl rfl rfl (e_move hF rfl) ?_; intro a hF
    have hF := hF.topb (bf c3)
    refine s_skip hF rfl rfl rfl ?_; intro a hF
    refine s_skip hF rfl rfl rfl ?_; intro a hF
    refine s_skip hF rfl rfl rfl ?_; intro a hF
    refine s_val hF rfl rfl rfl (e_pick_f hF rfl rfl) ?_; intro a hF
    refine s_val hF rfl rfl rfl (e_move hF rfl) ?_; intro a hF
    refine s_val hF rfl rfl rfl (e_move hF rfl) ?_; intro a hF
    refine s_val hF rfl rfl rfl (e_move hF rfl) ?_; intro a hF
    refine s_val hF rfl rfl rfl (e_lss hF rfl rfl) ?_; intro a hF
    refine s_val hF rfl rfl rfl (e_pick_f hF rfl rfl) ?_; intro a hF
    refine s_val hF rfl rfl rfl (e_assign hF rfl) ?_; intro a hF
    refine s_nil ?_
    refine then_n ?_
    refine wp_ret ?_
    obtain rfl := some_some H
    refine s_ret [Value.bool (decide (a0 < a1))] hF Try.results102 ⟨rfl, trivial⟩ ?_
    exact ⟨_, rfl, hM.frm, rfl⟩

/-! ### slices.IsSorted[[]int,int]: function 88 -/
def slices_IsSorted_int_int.l0 (K : Nat) (l0 : (List Int)) : Nat → Int → Option (Sum Unit Bool)
  | 0, _ => none
  | k + 1, x14 => if 0 < x14 then (if (0 : Int) ≤ x14 ∧ x14 < (l0.length : Int) then (if (0 : Int) ≤ (wrap64 (x14 - 1)) ∧ (wrap64 (x14 - 1)) < (l0.length : Int) then ((cmp_Less_int.f K (l0.getD (x14 : Int).toNat (0 : Int)) (l0.getD ((wrap64 (x14 - 1)) : Int).toNat (0 : Int))).bind fun t18 => if t18 = true then (some (Sum.inr false)) else (slices_IsSorted_int_int.l0 K l0 k (wrap64 (x14 - 1)))) else none) else none) else (some (Sum.inl ()))
def slices_IsSorted_int_int.f (K : Nat) (l0 : (List Int)) : Option Bool := (slices_IsSorted_int_int.l0 K l0 K (wrap64 ((l0.length : Int) - 1))).bind fun o23 => (match o23 with | .inl () => some true | .inr r25 => some r25)
set_option maxRecDepth 100000 in
set_option maxHeartbeats 4000000 in
theorem slices_IsSorted_int_int.calls {w0 : World} (K : Nat) (l0 : (List Int)) (u0 : Value) (q0 : SlR cd3 w0 u0 l0) (r : Bool) (H : slices_IsSorted_int_int.f K l0 = some r) : Calls Try.prog 88 [u0].toArray w0 (Post w0 fun w v => v = Value.bool r) := by
  rw [slices_IsSorted_int_int.f] at H
  refine s_start Try.func88 rfl Try.ntmps88 rfl ?_
  intro a hF
  have hM := Ms.start w0
  skip
  refine wp_seq ?_
  refine s_region ?_
  refine s_val hF rfl rfl rfl (e_assign hF rfl) ?_; intro a hF
  refine s_nil ?_
  refine then_n ?_
  refine wp_seq ?_
  refine wp_seq ?_
  refine s_region ?_
  refine s_val hF rfl rfl rfl (e_move hF rfl) ?_; intro a hF
  refine s_val hF rfl rfl rfl (e_len hF rfl (q0.frm hM.frm).toF Try.underlying42) ?_; intro a hF
  refine s_val hF rfl rfl rfl (e_sub hF rfl rfl) ?_; intro a hF
  refine s_val hF rfl rfl rfl (e_assign hF rfl) ?_; intro a hF
  refine s_nil ?_
  refine then_n ?_
  refine wp_block ?_
  obtain ⟨o23, h24, H⟩ := bind_some H
  refine wp_mono (Q := fun e a w => (e = Exit.exit 0 ∧ Sum.inl () = o23 ∧ Fr 21 a [] ∧ Ms [] w0 w []) ∨ (e = Exit.ret ∧ ∃ r25 : Bool, Sum.inr r25 = o23 ∧ Fr 21 a [(2, Value.bool r25)] ∧ Ms [] w0 w [])) ?_ ?_
  · refine s_loop (fun kq a w => ∃ x14 : Int, slices_IsSorted_int_int.l0 K l0 kq x14 = some o23 ∧ Fr 21 a [(0, u0), (3, Value.int .i64 x14)] ∧ Ms [] w0 w []) K ⟨(wrap64 ((l0.length : Int) - 1)), h24, hF.sub _ ⟨rfl, rfl, trivial⟩, hM.pick [] rfl rfl⟩ ?_ ?_
    · rintro a w ⟨_, H, _⟩; exact none_some H
    · rintro k a w ⟨x14, H, hF, hM⟩; rw [slices_IsSorted_int_int.l0] at H
      refine wp_seq ?_
      refine wp_seq ?_
      refine s_region ?_
      refine s_val hF rfl rfl rfl (e_move hF rfl) ?_; intro a hF
      refine s_val hF rfl rfl rfl (e_gtr hF rfl rfl) ?_; intro a hF
      refine s_nil ?_
      refine then_n ?_
      rcases ite_cases H with ⟨c15, H⟩ | ⟨c15, H⟩
      ·
        refine s_cond_t hF rfl (decide_eq_true c15) ?_
        refine wp_skip ?_
        refine then_n ?_
        refine wp_seq ?_
        refine wp_block ?_
        refine wp_seq ?_
        obtain ⟨c16, H⟩ := ite_some H
        obtain ⟨c17, H⟩ := ite_some H
        obtain ⟨t18, h19, H⟩ := bind_some H
        refine s_held (fun w => Ms [] w0 w []) #[false, false, false, false, false, false, false, false, false, false] mixed rfl rfl hM ?_; intro w hf hM; clear hf
        refine h_val 0 #[true, false, false, false, false, false, false, false, false, false] rfl (by kernel_rfl) hF rfl rfl rfl (fun w hS => e_move hF rfl) (hM.pick [] rfl rfl) ?_; intro a hF
        refine h_val 1 #[true, true, false, false, false, false, false, false, false, false] rfl (by kernel_rfl) hF rfl rfl rfl (fun w hS => e_move hF rfl) (hM.pick [] rfl rfl) ?_; intro a hF
        have f20 := (q0.frm hM.frm).toF
        refine h_val 2 #[true, true, true, false, false, false, false, false, false, false] rfl (by kernel_rfl) hF rfl rfl rfl (fun w hS => e_ias cd3 hF rfl rfl f20 Try.underlying42 Try.sizeOf3 c16.1 c16.2) (hM.pick [] rfl rfl) ?_; intro a hF
        refine h_val 3 #[true, true, true, true, false, false, false, false, false, false] rfl (by kernel_rfl) hF rfl rfl rfl (fun w hS => e_lds (m := x14) hF rfl (q0.frm hS.frm) (getD_some (z := (0 : Int)) c16.1 c16.2) rfl rfl Try.isAgg3) (hM.pick [] rfl rfl) ?_; intro a hF
        refine h_val 4 #[true, true, true, true, true, false, false, false, false, false] rfl (by kernel_rfl) hF rfl rfl rfl (fun w hS => e_move hF rfl) (hM.pick [] rfl rfl) ?_; intro a hF
        refine h_val 5 #[true, true, true, true, true, true, false, false, false, false] rfl (by kernel_rfl) hF rfl rfl rfl (fun w hS => e_move hF rfl) (hM.pick [] rfl rfl) ?_; intro a hF
        refine h_val 6 #[true, true, true, true, true, true, true, false, false, false] rfl (by kernel_rfl) hF rfl rfl rfl (fun w hS => e_sub hF rfl rfl) (hM.pick [] rfl rfl) ?_; intro a hF
        have f21 := (q0.frm hM.frm).toF
        refine h_val 7 #[true, true, true, true, true, true, true, true, false, false] rfl (by kernel_rfl) hF rfl rfl rfl (fun w hS => e_ias cd3 hF rfl rfl f21 Try.underlying42 Try.sizeOf3 c17.1 c17.2) (hM.pick [] rfl rfl) ?_; intro a hF
        refine h_val 8 #[true, true, true, true, true, true, true, true, true, false] rfl (by kernel_rfl) hF rfl rfl rfl (fun w hS => e_lds (m := (wrap64 (x14 - 1))) hF rfl (q0.frm hS.frm) (getD_some (z := (0 : Int)) c17.1 c17.2) rfl rfl Try.isAgg3) (hM.pick [] rfl rfl) ?_; intro a hF
        refine h_one 9 #[true, true, true, true, true, true, true, true, true, true] rfl (by kernel_rfl) ?_
        refine s_call hF rfl rfl rfl Try.call102 (cmp_Less_int.calls K (l0.getD (x14 : Int).toNat (0 : Int)) (l0.getD ((wrap64 (x14 - 1)) : Int).toNat (0 : Int)) t18 h19) ?_; intro a w v hF hf hR
        subst hR; have hM := hM.grow hf
        refine s_nil ⟨rfl, (hM.pick [] rfl rfl), ?_⟩
        refine h_done rfl ?_
        refine then_n ?_
        rcases ite_cases H with ⟨c22, H⟩ | ⟨c22, H⟩
        ·
          refine s_cond_t hF rfl c22 ?_
          refine wp_seq ?_
          refine s_region ?_
          refine s_val hF rfl rfl rfl (e_assign hF rfl) ?_; intro a hF
          refine s_nil ?_
          refine then_n ?_
          refine wp_ret ?_
          refine blk_r ?_
          refine then_r ?_
          refine then_r ?_
          exact Or.inr (⟨rfl, false, some_some H, hF.sub _ ⟨rfl, trivial⟩, hM.pick [] rfl rfl⟩)
        ·
          refine s_cond_f hF rfl (bf c22) ?_
          refine wp_skip ?_
          refine blk_n ?_
          refine then_n ?_
          refine s_region ?_
          refine s_val hF rfl rfl rfl (e_move hF rfl) ?_; intro a hF
          refine s_val hF rfl rfl rfl (e_sub hF rfl rfl) ?_; intro a hF
          refine s_val hF rfl rfl rfl (e_assign hF rfl) ?_; intro a hF
          refine s_nil ?_
          refine then_n ?_
          exact ⟨(wrap64 (x14 - 1)), H, hF.sub _ ⟨rfl, rfl, trivial⟩, hM.pick [] rfl rfl⟩
      ·
        refine s_cond_f hF rfl (decide_eq_false c15) ?_
        refine wp_exit ?_
        refine then_x ?_
        refine then_x ?_
        exact Or.inl (⟨rfl, some_some H, hF.sub _ trivial, hM.pick [] rfl rfl⟩)
  · rintro e a w (⟨rfl, rfl, hF, hM⟩ | ⟨rfl, r25, rfl, hF, hM⟩)
    ·
      dsimp only at H
      refine blk_x ?_
      refine then_n ?_
      refine wp_seq ?_
      refine s_region ?_
      refine s_val hF rfl rfl rfl (e_assign hF rfl) ?_; intro a hF
      refine s_nil ?_
      refine then_n ?_
      refine wp_ret ?_
      obtain rfl := some_some H
      refine s_ret [Value.bool true] hF Try.results88 ⟨rfl, trivial⟩ ?_
      exact ⟨_, rfl, hM.frm, rfl⟩
    ·
      dsimp only at H
      refine blk_r ?_
      refine then_r ?_
      obtain rfl := some_some H
      refine s_ret [Value.bool r25] hF Try.results88 ⟨rfl, trivial⟩ ?_
      exact ⟨_, rfl, hM.frm, rfl⟩

/-! ### loop.example/g01210/impl.IsDie: function 50 -/
def impl_IsDie.f (K : Nat) (a0 : (Ar 6)) : Option Bool := (impl_areAll_int__isFace.f K a0.l).bind fun t2 => if t2 = true then ((slices_IsSorted_int_int.f K a0.l).bind fun t5 => some t5) else (some false)
set_option maxRecDepth 100000 in
set_option maxHeartbeats 4000000 in
theorem impl_IsDie.calls {w0 : World} (K : Nat) (a0 : (Ar 6)) (r : Bool) (H : impl_IsDie.f K a0 = some r) : Calls Try.prog 50 [ag [Pt.ar a0]].toArray w0 (Post w0 fun w v => v = Value.bool r) := by
  rw [impl_IsDie.f] at H
  refine s_start Try.func50 rfl Try.ntmps50 rfl ?_
  intro a hF
  have hM := Ms.start w0
  skip
  refine wp_seq ?_
  refine s_region ?_
  refine s_box (ps := [Pt.ar a0]) hF hM rfl rfl rfl rfl ?_; intro a w b1 hF hM
  refine s_val hF rfl rfl rfl (e_assign hF rfl) ?_; intro a hF
  refine s_nil ?_
  refine then_n ?_
  refine wp_seq ?_
  obtain ⟨t2, h3, H⟩ := bind_some H
  rcases ite_cases H with ⟨c4, H⟩ | ⟨c4, H⟩
  ·
    obtain ⟨t5, h6, H⟩ := bind_some H
    refine s_region ?_
    refine s_val hF rfl rfl rfl (e_slA0 hF rfl Try.underlying22 Try.sizeOf3) ?_; intro a hF
    refine s_call hF rfl rfl rfl Try.call86 (impl_areAll_int__isFace.calls K a0.l (Value.slice (some ⟨b1, 0, none⟩) 6 6) (hM.boxSl (k := 0) (m := 6) 0 rfl rfl rfl cd3 (fun _ => rfl) 6 (by decide)) t2 h3) ?_; intro a w v hF hf hR
    subst hR; have hM := hM.grow hf
    refine s_val hF rfl rfl rfl (e_move hF rfl) ?_; intro a hF
    have hF := hF.topb c4
    refine s_val hF rfl rfl rfl (e_slA0 hF rfl Try.underlying22 Try.sizeOf3) ?_; intro a hF
    refine s_call hF rfl rfl rfl Try.call88 (slices_IsSorted_int_int.calls K a0.l (Value.slice (some ⟨b1, 0, none⟩) 6 6) (hM.boxSl (k := 0) (m := 6) 0 rfl rfl rfl cd3 (fun _ => rfl) 6 (by decide)) t5 h6) ?_; intro a w v hF hf hR
    subst hR; have hM := hM.grow hf
    refine s_val hF rfl rfl rfl (e_pick_t hF rfl rfl) ?_; intro a hF
    refine s_val hF rfl rfl rfl (e_assign hF rfl) ?_; intro a hF
    refine s_nil ?_
    refine then_n ?_
    refine wp_ret ?_
    obtain rfl := some_some H
    refine s_ret [Value.bool t5] hF Try.results50 ⟨rfl, trivial⟩ ?_
    exact ⟨_, rfl, hM.frm, rfl⟩
  ·
    refine s_region ?_
    refine s_val hF rfl rfl rfl (e_slA0 hF rfl Try.underlying22 Try.sizeOf3) ?_; intro a hF
    refine s_call hF rfl rfl rfl Try.call86 (impl_areAll_int__isFace.calls K a0.l (Value.slice (some ⟨b1, 0, none⟩) 6 6) (hM.boxSl (k := 0) (m := 6) 0 rfl rfl rfl cd3 (fun _ => rfl) 6 (by decide)) t2 h3) ?_; intro a w v hF hf hR
    subst hR; have hM := hM.grow hf
    refine s_val hF rfl rfl rfl (e_move hF rfl) ?_; intro a hF
    have hF := hF.topb (bf c4)
    refine s_skip hF rfl rfl rfl ?_; intro a hF
    refine s_skip hF rfl rfl rfl ?_; intro a hF
    refine s_val hF rfl rfl rfl (e_pick_f hF rfl rfl) ?_; intro a hF
    refine s_val hF rfl rfl rfl (e_assign hF rfl) ?_; intro a hF
    refine s_nil ?_
    refine then_n ?_
    refine wp_ret ?_
    obtain rfl := some_some H
    refine s_ret [Value.bool false] hF Try.results50 ⟨rfl, trivial⟩ ?_
    exact ⟨_, rfl, hM.frm, rfl⟩

/-! ### slices.Clone[[]int,int]: function 67 -/
def slices_Clone_int_int.f (K : Nat) (l0 : (List Int)) : Option (List Int) := if l0.length ≤ 1073741824 then some l0 else none
set_option maxRecDepth 100000 in
theorem slices_Clone_int_int.calls {w0 : World} (K : Nat) (l0 : (List Int)) (u0 : Value) (q0 : SlR cd3 w0 u0 l0) (r : (List Int)) (H : slices_Clone_int_int.f K l0 = some r) : Calls Try.prog 67 [u0].toArray w0 (Post w0 fun w v => Fresh cd3 w0.heap.size w v r) := by
  rw [slices_Clone_int_int.f] at H
  obtain ⟨c1, H⟩ := ite_some H
  obtain rfl := some_some H
  refine s_start Try.func67 rfl Try.ntmps67 rfl ?_
  intro a hF
  have hM := Ms.start w0
  refine wp_seq ?_
  refine s_region ?_
  refine s_val hF rfl rfl rfl (e_assign hF rfl) ?_; intro a hF
  refine s_nil ?_
  refine then_n ?_
  refine wp_seq ?_
  refine wp_seq ?_
  refine s_region ?_
  refine s_val hF rfl rfl rfl (e_move hF rfl) ?_; intro a hF
  refine s_val hF rfl rfl rfl (e_slnil hF rfl q0.toF Try.underlying42) ?_; intro a hF
  refine s_nil ?_
  refine then_n ?_
  cases hn : isNilV u0 with
  | true =>
    refine s_cond_t hF rfl hn ?_
    refine wp_seq ?_
    refine s_region ?_
    refine s_val hF rfl rfl rfl (e_assign hF rfl) ?_; intro a hF
    refine s_nil ?_
    refine then_n ?_
    refine wp_ret ?_
    refine then_r ?_
    obtain rfl := q0.nil_of hn
    refine s_ret [Value.slice none 0 0] hF Try.results67 ⟨rfl, trivial⟩ ?_
    exact ⟨_, rfl, hM.frm, Fresh.nil _ _ _⟩
  | false =>
    refine s_cond_f hF rfl hn ?_
    refine wp_skip ?_
    refine then_n ?_
    refine wp_seq ?_
    refine s_region ?_
    refine s_bsl (C := cd3) ([] : List Int) cdok3 hF hM rfl rfl rfl rfl Try.underlying42 rfl ?_; intro a w v1 hF hM
    refine s_val hF rfl rfl rfl (e_move hF rfl) ?_; intro a hF
    refine s_append (i := 0) cdok3 hF hM rfl rfl rfl rfl rfl (q0.frm hM.frm) Try.underlying42 (by simpa using c1) ?_; intro a w v2 hF hM
    refine s_val hF rfl rfl rfl (e_assign hF rfl) ?_; intro a hF
    refine s_nil ?_
    refine then_n ?_
    refine wp_ret ?_
    refine s_ret [v2] hF Try.results67 ⟨rfl, trivial⟩ ?_
    exact ⟨_, rfl, hM.frm, hM.give 0 rfl⟩

/-! ### slices.Compact[[]int,int]: function 93 -/
def slices_Compact_int_int.l3 (K : Nat) (l0 : (List Int)) (x69 : Int) : Nat → Int → Int → (List Int) → Option (Int × (List Int))
  | 0, _, _, _ => none
  | k + 1, x92, x93, x94 => if (0 : Int) ≤ x69 ∧ x69 ≤ (l0.length : Int) ∧ (l0.length : Int) ≤ (x94.length : Int) then (if x93 < (((x94.take l0.length).drop (x69 : Int).toNat).length : Int) then (if (0 : Int) ≤ x93 ∧ x93 < (((x94.take l0.length).drop (x69 : Int).toNat).length : Int) then (if (0 : Int) ≤ (wrap64 (x93 - 1)) ∧ (wrap64 (x93 - 1)) < (((x94.take l0.length).drop (x69 : Int).toNat).length : Int) then (if (((x94.take l0.length).drop (x69 : Int).toNat).getD (x93 : Int).toNat (0 : Int)) = (((x94.take l0.length).drop (x69 : Int).toNat).getD ((wrap64 (x93 - 1)) : Int).toNat (0 : Int)) then (slices_Compact_int_int.l3 K l0 x69 k x92 (wrap64 (x93 + 1)) x94) else (if (0 : Int) ≤ x92 ∧ x92 < (x94.length : Int) then (slices_Compact_int_int.l3 K l0 x69 k (wrap64 (x92 + 1)) (wrap64 (x93 + 1)) (x94.set (x92 : Int).toNat (((x94.take l0.length).drop (x69 : Int).toNat).getD (x93 : Int).toNat (0 : Int)))) else none)) else none) else none) else (some (x92, x94))) else none
def slices_Compact_int_int.l2 (K : Nat) (l0 : (List Int)) : Nat → Int → Option (Sum Unit (List Int))
  | 0, _ => none
  | k + 1, x69 => if x69 < (l0.length : Int) then (if (0 : Int) ≤ x69 ∧ x69 < (l0.length : Int) then (if (0 : Int) ≤ (wrap64 (x69 - 1)) ∧ (wrap64 (x69 - 1)) < (l0.length : Int) then (if (l0.getD (x69 : Int).toNat (0 : Int)) = (l0.getD ((wrap64 (x69 - 1)) : Int).toNat (0 : Int)) then (if (0 : Int) ≤ x69 ∧ x69 ≤ (l0.length : Int) ∧ (l0.length : Int) ≤ (l0.length : Int) then ((slices_Compact_int_int.l3 K l0 x69 K x69 1 l0).bind fun (x90, x91) => if (0 : Int) ≤ x90 ∧ x90 ≤ (x91.length : Int) ∧ (x91.length : Int) ≤ (x91.length : Int) then (if (0 : Int) ≤ 0 ∧ (0 : Int) ≤ x90 ∧ x90 ≤ ((putAt x91 (x90 : Int).toNat (List.replicate (x91.length - (x90 : Int).toNat) (0 : Int))).length : Int) then (some (Sum.inr (((putAt x91 (x90 : Int).toNat (List.replicate (x91.length - (x90 : Int).toNat) (0 : Int))).take (x90 : Int).toNat).drop 0))) else none) else none) else none) else (slices_Compact_int_int.l2 K l0 k (wrap64 (x69 + 1)))) else none) else none) else (some (Sum.inl ()))
def slices_Compact_int_int.f (K : Nat) (l0 : (List Int)) : Option (List Int) := if (l0.length : Int) < 2 then (some l0) else ((slices_Compact_int_int.l2 K l0 K 1).bind fun o107 => (match o107 with | .inl () => some l0 | .inr r109 => some r109))
set_option maxRecDepth 100000 in
set_option maxHeartbeats 4000000 in
theorem slices_Compact_int_int.calls {w0 : World} {X : List Nat} (K : Nat) (l0 : (List Int)) (u0 : Value) (qM : Ms X w0 w0 [rowR cd3 u0 l0]) (r : (List Int)) (H : slices_Compact_int_int.f K l0 = some r) : Calls Try.prog 93 [u0].toArray w0 (fun e w => ∃ v, e = .returned v ∧ ∃ v111 : Value, Ms X w0 w [rowR cd3 v111 r] ∧ v111 = v) := by
  rw [slices_Compact_int_int.f] at H
  refine s_start Try.func93 rfl Try.ntmps93 rfl ?_
  intro a hF
  have hM := qM
  refine wp_seq ?_
  refine s_region ?_
  refine s_val hF rfl rfl rfl (e_assign hF rfl) ?_; intro a hF
  refine s_nil ?_
  refine then_n ?_
  refine wp_seq ?_
  refine wp_seq ?_
  refine s_region ?_
  refine s_val hF rfl rfl rfl (e_move hF rfl) ?_; intro a hF
  refine s_val hF rfl rfl rfl (e_len hF rfl (hM.sl 0 rfl).toF Try.underlying42) ?_; intro a hF
  refine s_val hF rfl rfl rfl (e_lss hF rfl rfl) ?_; intro a hF
  refine s_nil ?_
  refine then_n ?_
  rcases ite_cases H with ⟨c1, H⟩ | ⟨c1, H⟩
  ·
    refine s_cond_t hF rfl (decide_eq_true c1) ?_
    refine wp_seq ?_
    refine s_region ?_
    refine s_val hF rfl rfl rfl (e_move hF rfl) ?_; intro a hF
    refine s_val hF rfl rfl rfl (e_assign hF rfl) ?_; intro a hF
    refine s_nil ?_
    refine then_n ?_
    refine wp_ret ?_
    refine then_r ?_
    obtain rfl := some_some H
    refine s_ret [u0] hF Try.results93 ⟨rfl, trivial⟩ ?_
    exact ⟨_, rfl, u0, hM.pick [0] rfl rfl, rfl⟩
  ·
    refine s_cond_f hF rfl (decide_eq_false c1) ?_
    refine wp_skip ?_
    refine then_n ?_
    refine wp_seq ?_
    refine wp_seq ?_
    refine s_region ?_
    refine s_val hF rfl rfl rfl (e_assign hF rfl) ?_; intro a hF
    refine s_nil ?_
    refine then_n ?_
    refine wp_block ?_
    obtain ⟨o107, h108, H⟩ := bind_some H
    refine wp_mono (Q := fun e a w => (e = Exit.exit 0 ∧ Sum.inl () = o107 ∧ Fr 61 a [(0, u0)] ∧ Ms X w0 w [rowR cd3 u0 l0]) ∨ (e = Exit.ret ∧ ∃ v110 : Value, ∃ r109 : (List Int), Sum.inr r109 = o107 ∧ Fr 61 a [(2, v110)] ∧ Ms X w0 w [rowR cd3 v110 r109])) ?_ ?_
    · refine s_loop (fun kq a w => ∃ x69 : Int, slices_Compact_int_int.l2 K l0 kq x69 = some o107 ∧ Fr 61 a [(0, u0), (3, Value.int .i64 x69)] ∧ Ms X w0 w [rowR cd3 u0 l0]) K ⟨1, h108, hF.sub _ ⟨rfl, rfl, trivial⟩, hM.pick [0] rfl rfl⟩ ?_ ?_
      · rintro a w ⟨_, H, _⟩; exact none_some H
      · rintro k a w ⟨x69, H, hF, hM⟩; rw [slices_Compact_int_int.l2] at H
        refine wp_seq ?_
        refine wp_seq ?_
        refine s_region ?_
        refine s_val hF rfl rfl rfl (e_move hF rfl) ?_; intro a hF
        refine s_val hF rfl rfl rfl (e_move hF rfl) ?_; intro a hF
        refine s_val hF rfl rfl rfl (e_len hF rfl (hM.sl 0 rfl).toF Try.underlying42) ?_; intro a hF
        refine s_val hF rfl rfl rfl (e_lss hF rfl rfl) ?_; intro a hF
        refine s_nil ?_
        refine then_n ?_
        rcases ite_cases H with ⟨c70, H⟩ | ⟨c70, H⟩
        ·
          refine s_cond_t hF rfl (decide_eq_true c70) ?_
          refine wp_skip ?_
          refine then_n ?_
          refine wp_seq ?_
          refine wp_block ?_
          refine wp_seq ?_
          obtain ⟨c71, H⟩ := ite_some H
          obtain ⟨c72, H⟩ := ite_some H
          refine s_held (fun w => Ms X w0 w [rowR cd3 u0 l0]) #[false, false, false, false, false, false, false, false, false, false] mixed rfl rfl hM ?_; intro w hf hM; clear hf
          refine h_val 0 #[true, false, false, false, false, false, false, false, false, false] rfl (by kernel_rfl) hF rfl rfl rfl (fun w hS => e_move hF rfl) (hM.pick [0] rfl rfl) ?_; intro a hF
          refine h_val 1 #[true, true, false, false, false, false, false, false, false, false] rfl (by kernel_rfl) hF rfl rfl rfl (fun w hS => e_move hF rfl) (hM.pick [0] rfl rfl) ?_; intro a hF
          have f73 := (hM.sl 0 rfl).toF
          refine h_val 2 #[true, true, true, false, false, false, false, false, false, false] rfl (by kernel_rfl) hF rfl rfl rfl (fun w hS => e_ias cd3 hF rfl rfl f73 Try.underlying42 Try.sizeOf3 c71.1 c71.2) (hM.pick [0] rfl rfl) ?_; intro a hF
          refine h_val 3 #[true, true, true, true, false, false, false, false, false, false] rfl (by kernel_rfl) hF rfl rfl rfl (fun w hS => e_lds (m := x69) hF rfl (hS.sl 0 rfl) (getD_some (z := (0 : Int)) c71.1 c71.2) rfl rfl Try.isAgg3) (hM.pick [0] rfl rfl) ?_; intro a hF
          refine h_val 4 #[true, true, true, true, true, false, false, false, false, false] rfl (by kernel_rfl) hF rfl rfl rfl (fun w hS => e_move hF rfl) (hM.pick [0] rfl rfl) ?_; intro a hF
          refine h_val 5 #[true, true, true, true, true, true, false, false, false, false] rfl (by kernel_rfl) hF rfl rfl rfl (fun w hS => e_move hF rfl) (hM.pick [0] rfl rfl) ?_; intro a hF
          refine h_val 6 #[true, true, true, true, true, true, true, false, false, false] rfl (by kernel_rfl) hF rfl rfl rfl (fun w hS => e_sub hF rfl rfl) (hM.pick [0] rfl rfl) ?_; intro a hF
          have f74 := (hM.sl 0 rfl).toF
          refine h_val 7 #[true, true, true, true, true, true, true, true, false, false] rfl (by kernel_rfl) hF rfl rfl rfl (fun w hS => e_ias cd3 hF rfl rfl f74 Try.underlying42 Try.sizeOf3 c72.1 c72.2) (hM.pick [0] rfl rfl) ?_; intro a hF
          refine h_val 8 #[true, true, true, true, true, true, true, true, true, false] rfl (by kernel_rfl) hF rfl rfl rfl (fun w hS => e_lds (m := (wrap64 (x69 - 1))) hF rfl (hS.sl 0 rfl) (getD_some (z := (0 : Int)) c72.1 c72.2) rfl rfl Try.isAgg3) (hM.pick [0] rfl rfl) ?_; intro a hF
          refine h_val 9 #[true, true, true, true, true, true, true, true, true, true] rfl (by kernel_rfl) hF rfl rfl rfl (fun w hS => e_eql hF rfl rfl) (hM.pick [0] rfl rfl) ?_; intro a hF
          refine h_done rfl ?_
          refine then_n ?_
          rcases ite_cases H with ⟨c75, H⟩ | ⟨c75, H⟩
          ·
            refine s_cond_t hF rfl (decide_eq_true c75) ?_
            refine wp_seq ?_
            obtain ⟨c76, H⟩ := ite_some H
            refine s_region ?_
            refine s_val hF rfl rfl rfl (e_move hF rfl) ?_; intro a hF
            refine s_val hF rfl rfl rfl (e_move hF rfl) ?_; intro a hF
            refine s_val hF rfl rfl rfl (e_sl_l hF rfl rfl (hM.sl 0 rfl).toF Try.underlying42 Try.sizeOf3 c76) ?_; intro a hF
            refine s_val hF rfl rfl rfl (e_assign hF rfl) ?_; intro a hF
            refine s_nil ?_
            refine then_n ?_
            refine wp_seq ?_
            refine wp_seq ?_
            refine s_region ?_
            refine s_val hF rfl rfl rfl (e_assign hF rfl) ?_; intro a hF
            refine s_nil ?_
            refine then_n ?_
            refine wp_block ?_
            obtain ⟨o103, h104, H⟩ := bind_some H
            refine wp_mono (Q := fun e a w => (e = Exit.exit 2 ∧ ∃ x90 : Int, ∃ x91 : (List Int), (x90, x91) = o103 ∧ Fr 61 a [(0, u0), (3, Value.int .i64 x90)] ∧ Ms X w0 w [rowR cd3 u0 x91])) ?_ ?_
            · refine s_loop (fun kq a w => ∃ x92 : Int, ∃ x93 : Int, ∃ x94 : (List Int), slices_Compact_int_int.l3 K l0 x69 kq x92 x93 x94 = some o103 ∧ Fr 61 a [(0, u0), (3, Value.int .i64 x92), (4, (subv u0 (x69 : Int).toNat l0.length 1)), (5, Value.int .i64 x93)] ∧ Ms X w0 w [rowR cd3 u0 x94]) K ⟨x69, 1, l0, h104, hF.sub _ ⟨rfl, rfl, rfl, rfl, trivial⟩, hM.pick [0] rfl rfl⟩ ?_ ?_
              · rintro a w ⟨_, _, _, H, _⟩; exact none_some H
              · rintro k a w ⟨x92, x93, x94, H, hF, hM⟩; rw [slices_Compact_int_int.l3] at H
                refine wp_seq ?_
                refine wp_seq ?_
                obtain ⟨c95, H⟩ := ite_some H
                refine s_region ?_
                refine s_val hF rfl rfl rfl (e_move hF rfl) ?_; intro a hF
                refine s_val hF rfl rfl rfl (e_move hF rfl) ?_; intro a hF
                refine s_val hF rfl rfl rfl (e_len hF rfl ((hM.sl 0 rfl).sub (x69 : Int).toNat l0.length (sl_lo_n' c95).1 (sl_lo_n' c95).2).toF Try.underlying42) ?_; intro a hF
                refine s_val hF rfl rfl rfl (e_lss hF rfl rfl) ?_; intro a hF
                refine s_nil ?_
                refine then_n ?_
                rcases ite_cases H with ⟨c96, H⟩ | ⟨c96, H⟩
                ·
                  refine s_cond_t hF rfl (decide_eq_true c96) ?_
                  refine wp_skip ?_
                  refine then_n ?_
                  refine wp_seq ?_
                  refine wp_block ?_
                  refine wp_seq ?_
                  obtain ⟨c97, H⟩ := ite_some H
                  obtain ⟨c98, H⟩ := ite_some H
                  refine s_held (fun w => Ms X w0 w [rowR cd3 u0 x94]) #[false, false, false, false, false, false, false, false, false, false] mixed rfl rfl hM ?_; intro w hf hM; clear hf
                  refine h_val 0 #[true, false, false, false, false, false, false, false, false, false] rfl (by kernel_rfl) hF rfl rfl rfl (fun w hS => e_move hF rfl) (hM.pick [0] rfl rfl) ?_; intro a hF
                  refine h_val 1 #[true, true, false, false, false, false, false, false, false, false] rfl (by kernel_rfl) hF rfl rfl rfl (fun w hS => e_move hF rfl) (hM.pick [0] rfl rfl) ?_; intro a hF
                  have f99 := ((hM.sl 0 rfl).sub (x69 : Int).toNat l0.length (sl_lo_n' c95).1 (sl_lo_n' c95).2).toF
                  refine h_val 2 #[true, true, true, false, false, false, false, false, false, false] rfl (by kernel_rfl) hF rfl rfl rfl (fun w hS => e_ias cd3 hF rfl rfl f99 Try.underlying42 Try.sizeOf3 c97.1 c97.2) (hM.pick [0] rfl rfl) ?_; intro a hF
                  refine h_val 3 #[true, true, true, true, false, false, false, false, false, false] rfl (by kernel_rfl) hF rfl rfl rfl (fun w hS => e_lds (m := x93) hF rfl ((hS.sl 0 rfl).sub (x69 : Int).toNat l0.length (sl_lo_n' c95).1 (sl_lo_n' c95).2) (getD_some (z := (0 : Int)) c97.1 c97.2) rfl rfl Try.isAgg3) (hM.pick [0] rfl rfl) ?_; intro a hF
                  refine h_val 4 #[true, true, true, true, true, false, false, false, false, false] rfl (by kernel_rfl) hF rfl rfl rfl (fun w hS => e_move hF rfl) (hM.pick [0] rfl rfl) ?_; intro a hF
                  refine h_val 5 #[true, true, true, true, true, true, false, false, false, false] rfl (by kernel_rfl) hF rfl rfl rfl (fun w hS => e_move hF rfl) (hM.pick [0] rfl rfl) ?_; intro a hF
                  refine h_val 6 #[true, true, true, true, true, true, true, false, false, false] rfl (by kernel_rfl) hF rfl rfl rfl (fun w hS => e_sub hF rfl rfl) (hM.pick [0] rfl rfl) ?_; intro a hF
                  have f100 := ((hM.sl 0 rfl).sub (x69 : Int).toNat l0.length (sl_lo_n' c95).1 (sl_lo_n' c95).2).toF
                  refine h_val 7 #[true, true, true, true, true, true, true, true, false, false] rfl (by kernel_rfl) hF rfl rfl rfl (fun w hS => e_ias cd3 hF rfl rfl f100 Try.underlying42 Try.sizeOf3 c98.1 c98.2) (hM.pick [0] rfl rfl) ?_; intro a hF
                  refine h_val 8 #[true, true, true, true, true, true, true, true, true, false] rfl (by kernel_rfl) hF rfl rfl rfl (fun w hS => e_lds (m := (wrap64 (x93 - 1))) hF rfl ((hS.sl 0 rfl).sub (x69 : Int).toNat l0.length (sl_lo_n' c95).1 (sl_lo_n' c95).2) (getD_some (z := (0 : Int)) c98.1 c98.2) rfl rfl Try.isAgg3) (hM.pick [0] rfl rfl) ?_; intro a hF
                  refine h_val 9 #[true, true, true, true, true, true, true, true, true, true] rfl (by kernel_rfl) hF rfl rfl rfl (fun w hS => e_neq hF rfl rfl) (hM.pick [0] rfl rfl) ?_; intro a hF
                  refine h_done rfl ?_
                  refine then_n ?_
                  rcases ite_cases H with ⟨c101, H⟩ | ⟨c101, H⟩
                  ·
                    refine s_cond_f hF rfl (congrArg Bool.not (decide_eq_true c101)) ?_
                    refine wp_skip ?_
                    refine blk_n ?_
                    refine then_n ?_
                    refine s_region ?_
                    refine s_val hF rfl rfl rfl (e_move hF rfl) ?_; intro a hF
                    refine s_val hF rfl rfl rfl (e_add hF rfl rfl) ?_; intro a hF
                    refine s_val hF rfl rfl rfl (e_assign hF rfl) ?_; intro a hF
                    refine s_nil ?_
                    refine then_n ?_
                    exact ⟨x92, (wrap64 (x93 + 1)), x94, H, hF.sub _ ⟨rfl, rfl, rfl, rfl, trivial⟩, hM.pick [0] rfl rfl⟩
                  ·
                    refine s_cond_t hF rfl (congrArg Bool.not (decide_eq_false c101)) ?_
                    refine wp_seq ?_
                    obtain ⟨c102, H⟩ := ite_some H
                    refine s_region ?_
                    refine s_val hF rfl rfl rfl (e_move hF rfl) ?_; intro a hF
                    refine s_val hF rfl rfl rfl (e_move hF rfl) ?_; intro a hF
                    refine s_val hF rfl rfl rfl (e_move hF rfl) ?_; intro a hF
                    refine s_val hF rfl rfl rfl (e_move hF rfl) ?_; intro a hF
                    refine s_val hF rfl rfl rfl (e_ias cd3 hF rfl rfl ((hM.sl 0 rfl).sub (x69 : Int).toNat l0.length (sl_lo_n' c95).1 (sl_lo_n' c95).2).toF Try.underlying42 Try.sizeOf3 c97.1 c97.2) ?_; intro a hF
                    refine s_val hF rfl rfl rfl (e_lds (m := x93) hF rfl ((hM.sl 0 rfl).sub (x69 : Int).toNat l0.length (sl_lo_n' c95).1 (sl_lo_n' c95).2) (getD_some (z := (0 : Int)) c97.1 c97.2) rfl rfl Try.isAgg3) ?_; intro a hF
                    refine s_val hF rfl rfl rfl (e_ias cd3 hF rfl rfl (hM.sl 0 rfl).toF Try.underlying42 Try.sizeOf3 c102.1 c102.2) ?_; intro a hF
                    refine s_sts (i := 0) (((x94.take l0.length).drop (x69 : Int).toNat).getD (x93 : Int).toNat (0 : Int)) hF hM rfl rfl rfl rfl rfl c102.1 c102.2 Try.sizeOf3 ?_; intro a w hF hM
                    refine s_nil ?_
                    refine then_n ?_
                    refine s_region ?_
                    refine s_val hF rfl rfl rfl (e_move hF rfl) ?_; intro a hF
                    refine s_val hF rfl rfl rfl (e_add hF rfl rfl) ?_; intro a hF
                    refine s_val hF rfl rfl rfl (e_assign hF rfl) ?_; intro a hF
                    refine s_nil ?_
                    refine blk_n ?_
                    refine then_n ?_
                    refine s_region ?_
                    refine s_val hF rfl rfl rfl (e_move hF rfl) ?_; intro a hF
                    refine s_val hF rfl rfl rfl (e_add hF rfl rfl) ?_; intro a hF
                    refine s_val hF rfl rfl rfl (e_assign hF rfl) ?_; intro a hF
                    refine s_nil ?_
                    refine then_n ?_
                    exact ⟨(wrap64 (x92 + 1)), (wrap64 (x93 + 1)), (x94.set (x92 : Int).toNat (((x94.take l0.length).drop (x69 : Int).toNat).getD (x93 : Int).toNat (0 : Int))), H, hF.sub _ ⟨rfl, rfl, rfl, rfl, trivial⟩, hM.pick [0] rfl rfl⟩
                ·
                  refine s_cond_f hF rfl (decide_eq_false c96) ?_
                  refine wp_exit ?_
                  refine then_x ?_
                  refine then_x ?_
                  exact ⟨rfl, x92, x94, some_some H, hF.sub _ ⟨rfl, rfl, trivial⟩, hM.pick [0] rfl rfl⟩
            · rintro e a w ⟨rfl, x90, x91, rfl, hF, hM⟩
              skip
              refine blk_x ?_
              refine then_n ?_
              refine wp_seq ?_
              obtain ⟨c105, H⟩ := ite_some H
              refine s_region ?_
              refine s_val hF rfl rfl rfl (e_move hF rfl) ?_; intro a hF
              refine s_val hF rfl rfl rfl (e_move hF rfl) ?_; intro a hF
              refine s_val hF rfl rfl rfl (e_sl_l hF rfl rfl (hM.sl 0 rfl).toF Try.underlying42 Try.sizeOf3 c105) ?_; intro a hF
              refine s_clear (i := 0) (lo := (x90 : Int).toNat) (hi := x91.length) cdok3 hF hM rfl rfl rfl ⟨(sl_lo_n' c105).1, (sl_lo_n' c105).2⟩ Try.underlying42 ?_; intro a w hF hM
              refine s_nil ?_
              refine then_n ?_
              refine wp_seq ?_
              obtain ⟨c106, H⟩ := ite_some H
              refine s_region ?_
              refine s_val hF rfl rfl rfl (e_move hF rfl) ?_; intro a hF
              refine s_val hF rfl rfl rfl (e_move hF rfl) ?_; intro a hF
              refine s_val hF rfl rfl rfl (e_sl_h hF rfl rfl (hM.sl 0 rfl).toF Try.underlying42 Try.sizeOf3 c106) ?_; intro a hF
              refine s_val hF rfl rfl rfl (e_assign hF rfl) ?_; intro a hF
              refine s_nil ?_
              refine then_n ?_
              refine wp_ret ?_
              refine blk_r ?_
              refine then_r ?_
              have hM := hM.cut 0 (x90 : Int).toNat rfl (sl_0_i' c106).2
              refine then_r ?_
              exact Or.inr (⟨rfl, (subv u0 0 (x90 : Int).toNat 1), (((putAt x91 (x90 : Int).toNat (List.replicate (x91.length - (x90 : Int).toNat) (0 : Int))).take (x90 : Int).toNat).drop 0), some_some H, hF.sub _ ⟨rfl, trivial⟩, hM.pick [0] rfl rfl⟩)
          ·
            refine s_cond_f hF rfl (decide_eq_false c75) ?_
            refine wp_skip ?_
            refine blk_n ?_
            refine then_n ?_
            refine s_region ?_
            refine s_val hF rfl rfl rfl (e_move hF rfl) ?_; intro a hF
            refine s_val hF rfl rfl rfl (e_add hF rfl rfl) ?_; intro a hF
            refine s_val hF rfl rfl rfl (e_assign hF rfl) ?_; intro a hF
            refine s_nil ?_
            refine then_n ?_
            exact ⟨(wrap64 (x69 + 1)), H, hF.sub _ ⟨rfl, rfl, trivial⟩, hM.pick [0] rfl rfl⟩
        ·
          refine s_cond_f hF rfl (decide_eq_false c70) ?_
          refine wp_exit ?_
          refine then_x ?_
          refine then_x ?_
          exact Or.inl (⟨rfl, some_some H, hF.sub _ ⟨rfl, trivial⟩, hM.pick [0] rfl rfl⟩)
    · rintro e a w (⟨rfl, rfl, hF, hM⟩ | ⟨rfl, v110, r109, rfl, hF, hM⟩)
      ·
        dsimp only at H
        refine blk_x ?_
        refine then_n ?_
        refine wp_seq ?_
        refine s_region ?_
        refine s_val hF rfl rfl rfl (e_move hF rfl) ?_; intro a hF
        refine s_val hF rfl rfl rfl (e_assign hF rfl) ?_; intro a hF
        refine s_nil ?_
        refine then_n ?_
        refine wp_ret ?_
        obtain rfl := some_some H
        refine s_ret [u0] hF Try.results93 ⟨rfl, trivial⟩ ?_
        exact ⟨_, rfl, u0, hM.pick [0] rfl rfl, rfl⟩
      ·
        dsimp only at H
        refine blk_r ?_
        refine then_r ?_
        obtain rfl := some_some H
        refine s_ret [v110] hF Try.results93 ⟨rfl, trivial⟩ ?_
        exact ⟨_, rfl, v110, hM.pick [0] rfl rfl, rfl⟩

/-! ### loop.example/g01210/impl.numbers: function 66 -/
def impl_numbers.f (K : Nat) (a0 : (Ar 6)) : Option (List Int) := (slices_Clone_int_int.f K a0.l).bind fun t2 => (slices_Compact_int_int.f K t2).bind fun t5 => some t5
set_option maxRecDepth 100000 in
set_option maxHeartbeats 4000000 in
theorem impl_numbers.calls {w0 : World} (K : Nat) (a0 : (Ar 6)) (r : (List Int)) (H : impl_numbers.f K a0 = some r) : Calls Try.prog 66 [ag [Pt.ar a0]].toArray w0 (Post w0 fun w v => Fresh cd3 w0.heap.size w v r) := by
  rw [impl_numbers.f] at H
  refine s_start Try.func66 rfl Try.ntmps66 rfl ?_
  intro a hF
  have hM := Ms.start w0
  skip
  refine wp_seq ?_
  refine s_region ?_
  refine s_box (ps := [Pt.ar a0]) hF hM rfl rfl rfl rfl ?_; intro a w b1 hF hM
  refine s_val hF rfl rfl rfl (e_assign hF rfl) ?_; intro a hF
  refine s_nil ?_
  refine then_n ?_
  refine wp_seq ?_
  obtain ⟨t2, h3, H⟩ := bind_some H
  obtain ⟨t5, h6, H⟩ := bind_some H
  refine s_region ?_
  refine s_val hF rfl rfl rfl (e_slA0 hF rfl Try.underlying22 Try.sizeOf3) ?_; intro a hF
  refine s_call hF rfl rfl rfl Try.call67 (slices_Clone_int_int.calls K a0.l (Value.slice (some ⟨b1, 0, none⟩) 6 6) (hM.boxSl (k := 0) (m := 6) 0 rfl rfl rfl cd3 (fun _ => rfl) 6 (by decide)) t2 h3) ?_; intro a w v4 hF hf hR
  have hM := hM.fresh hf hR
  refine s_callx hF rfl rfl rfl Try.call93 (slices_Compact_int_int.calls K t2 v4 (hM.lend [0] rfl rfl) t5 h6) ?_; intro a w v hF hR
  obtain ⟨v7, hR, rfl⟩ := hR; have hM := hM.back [0] [1] (by decide) rfl rfl hR
  refine s_val hF rfl rfl rfl (e_assign hF rfl) ?_; intro a hF
  refine s_nil ?_
  refine then_n ?_
  refine wp_ret ?_
  obtain rfl := some_some H
  refine s_ret [v7] hF Try.results66 ⟨rfl, trivial⟩ ?_
  exact ⟨_, rfl, hM.frm, hM.give 0 rfl⟩

/-! ### loop.example/g01210/impl.PhrasesOf: function 29 -/
def impl_PhrasesOf.l15 (K : Nat) (x480 : (List (List Int))) (x656 : Int) (t662 : (List Int)) : Nat → Int → (List (List Int)) → Option (List (List Int))
  | 0, _, _ => none
  | k + 1, x694, x696 => if x694 < (t662.length : Int) then (if (0 : Int) ≤ x694 ∧ x694 < (t662.length : Int) then ((slices_Clone_int_int.f K (x480.getD (x656 : Int).toNat [])).bind fun t700 => if t700.length + [(t662.getD (x694 : Int).toNat (0 : Int))].length ≤ 1073741824 then (if x696.length + [(t700 ++ [(t662.getD (x694 : Int).toNat (0 : Int))])].length ≤ 1073741824 then (impl_PhrasesOf.l15 K x480 x656 t662 k (wrap64 (x694 + 1)) (x696 ++ [(t700 ++ [(t662.getD (x694 : Int).toNat (0 : Int))])])) else none) else none) else none) else (some x696)
def impl_PhrasesOf.l14 (K : Nat) (a0 : (Ar 6)) (x480 : (List (List Int))) : Nat → Int → (List (List Int)) → Option (List (List Int))
  | 0, _, _ => none
  | k + 1, x656, x658 => if x656 < (x480.length : Int) then (if (0 : Int) ≤ x656 ∧ x656 < (x480.length : Int) then ((impl_numbers.f K a0).bind fun t662 => (impl_PhrasesOf.l15 K x480 x656 t662 K 0 x658).bind fun x692 => impl_PhrasesOf.l14 K a0 x480 k (wrap64 (x656 + 1)) x692) else none) else (some x658)
def impl_PhrasesOf.l10 (K : Nat) (a0 : (Ar 6)) (a1 : Int) : Nat → Int → (List (List Int)) → Option (List (List Int))
  | 0, _, _ => none
  | k + 1, x478, x480 => if x478 < a1 then ((impl_PhrasesOf.l14 K a0 x480 K 0 ([] : List (List Int))).bind fun x654 => impl_PhrasesOf.l10 K a0 a1 k (wrap64 (x478 + 1)) x654) else (some x480)
def impl_PhrasesOf.f (K : Nat) (a0 : (Ar 6)) (a1 : Int) : Option ((List (List Int)) × Bool) := (impl_IsDie.f K a0).bind fun t2 => if t2 = true then ((impl_within.f K a1 1 3).bind fun t5 => if t5 = true then ((impl_PhrasesOf.l10 K a0 a1 K 0 [([] : List Int)]).bind fun x476 => some (x476, true)) else (some ([], false))) else (some ([], false))
set_option maxRecDepth 100000 in
set_option maxHeartbeats 4000000 in
theorem impl_PhrasesOf.calls {w0 : World} {X : List Nat} (K : Nat) (a0 : (Ar 6)) (a1 : Int) (qM : Ms X w0 w0 []) (r : ((List (List Int)) × Bool)) (H : impl_PhrasesOf.f K a0 a1 = some r) : Calls Try.prog 29 [ag [Pt.ar a0], Value.int .i64 a1].toArray w0 (fun e w => ∃ v, e = .returned v ∧ ∃ v715 : Value, ∃ z716 : (List Value), Ms X w0 w [nestR cd3 42 v715 z716 r.1] ∧ Value.tuple #[v715, Value.bool r.2] = v) := by
  rw [impl_PhrasesOf.f] at H
  refine s_start Try.func29 rfl Try.ntmps29 rfl ?_
  intro a hF
  have hM := qM
  refine wp_seq ?_
  refine s_region ?_
  refine s_box (ps := [Pt.ar a0]) hF hM rfl rfl rfl rfl ?_; intro a w b1 hF hM
  refine s_val hF rfl rfl rfl (e_assign hF rfl) ?_; intro a hF
  refine s_val hF rfl rfl rfl (e_assign hF rfl) ?_; intro a hF
  refine s_nil ?_
  refine then_n ?_
  refine wp_seq ?_
  refine wp_seq ?_
  obtain ⟨t2, h3, H⟩ := bind_some H
  rcases ite_cases H with ⟨c4, H⟩ | ⟨c4, H⟩
  ·
    obtain ⟨t5, h6, H⟩ := bind_some H
    refine s_region ?_
    refine s_val hF rfl rfl rfl (e_lda (i := 0) 0 1 hF hM rfl rfl rfl rfl Try.isAgg22 Try.sizeOf22 rfl) ?_; intro a hF
    refine s_call hF rfl rfl rfl Try.call50 (impl_IsDie.calls K a0 t2 h3) ?_; intro a w v hF hf hR
    subst hR; have hM := hM.grow hf
    refine s_val hF rfl rfl rfl (e_not hF rfl) ?_; intro a hF
    refine s_val hF rfl rfl rfl (e_move hF rfl) ?_; intro a hF
    have hF := hF.topb (congrArg Bool.not c4)
    refine s_val hF rfl rfl rfl (e_move hF rfl) ?_; intro a hF
    refine s_call hF rfl rfl rfl Try.call51 (impl_within.calls K a1 1 3 t5 h6) ?_; intro a w v hF hf hR
    subst hR; have hM := hM.grow hf
    refine s_val hF rfl rfl rfl (e_not hF rfl) ?_; intro a hF
    refine s_val hF rfl rfl rfl (e_pick_f hF rfl rfl) ?_; intro a hF
    refine s_nil ?_
    refine then_n ?_
    rcases ite_cases H with ⟨c7, H⟩ | ⟨c7, H⟩
    ·
      refine s_cond_f hF rfl (congrArg Bool.not c7) ?_
      refine wp_skip ?_
      refine then_n ?_
      refine wp_seq ?_
      refine s_region ?_
      have hM := hM.nilRow cd3
      refine s_bnest (i := 0) cdokV42 hF hM rfl rfl rfl rfl Try.underlying37 ?_; intro a w v8 hF hM
      refine s_val hF rfl rfl rfl (e_assign hF rfl) ?_; intro a hF
      refine s_nil ?_
      refine then_n ?_
      refine wp_seq ?_
      refine wp_seq ?_
      refine s_region ?_
      refine s_val hF rfl rfl rfl (e_move hF rfl) ?_; intro a hF
      refine s_val hF rfl rfl rfl (e_move hF rfl) ?_; intro a hF
      refine s_nil ?_
      refine then_n ?_
      refine wp_block ?_
      obtain ⟨o713, h714, H⟩ := bind_some H
      refine wp_mono (Q := fun e a w => (e = Exit.exit 0 ∧ ∃ v475 : Value, ∃ z477 : (List Value), ∃ x476 : (List (List Int)), x476 = o713 ∧ Fr 50 a [(6, v475)] ∧ Ms X w0 w [nestR cd3 42 v475 z477 x476])) ?_ ?_
      · refine s_loop (fun kq a w => ∃ v479 : Value, ∃ z481 : (List Value), ∃ x478 : Int, ∃ x480 : (List (List Int)), impl_PhrasesOf.l10 K a0 a1 kq x478 x480 = some o713 ∧ Fr 50 a [(2, pt b1 0), (6, v479), (21, Value.int .i64 a1), (22, Value.int .i64 x478)] ∧ Ms X w0 w [boxR b1 [Pt.ar a0] 22, nestR cd3 42 v479 z481 x480]) K ⟨v8, [(Value.slice none 0 0)], 0, [([] : List Int)], h714, hF.sub _ ⟨rfl, rfl, rfl, rfl, trivial⟩, hM.pick [1, 0] rfl rfl⟩ ?_ ?_
        · rintro a w ⟨_, _, _, _, H, _⟩; exact none_some H
        · rintro k a w ⟨v479, z481, x478, x480, H, hF, hM⟩; rw [impl_PhrasesOf.l10] at H
          refine wp_seq ?_
          refine s_region ?_
          refine s_val hF rfl rfl rfl (e_lss hF rfl rfl) ?_; intro a hF
          refine s_nil ?_
          refine then_n ?_
          refine wp_seq ?_
          rcases ite_cases H with ⟨c482, H⟩ | ⟨c482, H⟩
          ·
            refine s_cond_t hF rfl (decide_eq_true c482) ?_
            refine wp_skip ?_
            refine then_n ?_
            refine wp_seq ?_
            refine wp_block ?_
            refine wp_seq ?_
            refine s_region ?_
            refine s_val hF rfl rfl rfl (e_assign hF rfl) ?_; intro a hF
            refine s_nil ?_
            refine then_n ?_
            refine wp_seq ?_
            refine wp_seq ?_
            refine s_region ?_
            refine s_val hF rfl rfl rfl (e_move hF rfl) ?_; intro a hF
            refine s_val hF rfl rfl rfl (e_len hF rfl (hM.ne 1 rfl).toF Try.underlying37) ?_; intro a hF
            refine s_val hF rfl rfl rfl (e_move hF rfl) ?_; intro a hF
            refine s_nil ?_
            refine then_n ?_
            refine wp_block ?_
            have hM := hM.nilNest cd3 42
            obtain ⟨o711, h712, H⟩ := bind_some H
            refine wp_mono (Q := fun e a w => (e = Exit.exit 2 ∧ ∃ v653 : Value, ∃ z655 : (List Value), ∃ x654 : (List (List Int)), x654 = o711 ∧ Fr 50 a [(2, pt b1 0), (7, v653), (21, Value.int .i64 a1), (22, Value.int .i64 x478)] ∧ Ms X w0 w [boxR b1 [Pt.ar a0] 22, nestR cd3 42 v653 z655 x654])) ?_ ?_
            · refine s_loop (fun kq a w => ∃ v657 : Value, ∃ z659 : (List Value), ∃ x656 : Int, ∃ x658 : (List (List Int)), impl_PhrasesOf.l14 K a0 x480 kq x656 x658 = some o711 ∧ Fr 50 a [(2, pt b1 0), (7, v657), (21, Value.int .i64 a1), (22, Value.int .i64 x478), (24, v479), (25, Value.int .i64 (x480.length : Int)), (26, Value.int .i64 x656)] ∧ Ms X w0 w [boxR b1 [Pt.ar a0] 22, nestR cd3 42 v657 z659 x658, nestR cd3 42 v479 z481 x480]) K ⟨(Value.slice none 0 0), ([] : List Value), 0, ([] : List (List Int)), h712, hF.sub _ ⟨rfl, rfl, rfl, rfl, rfl, rfl, rfl, trivial⟩, hM.pick [1, 0, 2] rfl rfl⟩ ?_ ?_
              · rintro a w ⟨_, _, _, _, H, _⟩; exact none_some H
              · rintro k a w ⟨v657, z659, x656, x658, H, hF, hM⟩; rw [impl_PhrasesOf.l14] at H
                refine wp_seq ?_
                refine s_region ?_
                refine s_val hF rfl rfl rfl (e_lss hF rfl rfl) ?_; intro a hF
                refine s_nil ?_
                refine then_n ?_
                refine wp_seq ?_
                rcases ite_cases H with ⟨c660, H⟩ | ⟨c660, H⟩
                ·
                  refine s_cond_t hF rfl (decide_eq_true c660) ?_
                  refine wp_skip ?_
                  refine then_n ?_
                  refine wp_seq ?_
                  refine wp_block ?_
                  refine wp_seq ?_
                  obtain ⟨c661, H⟩ := ite_some H
                  refine s_region ?_
                  refine s_val hF rfl rfl rfl (e_ias (cdV 42) hF rfl rfl (hM.ne 2 rfl).toF Try.underlying37 Try.sizeOf42 c661.1 c661.2) ?_; intro a hF
                  refine s_val hF rfl rfl rfl (e_lds (C := cdV 42) (m := x656) hF rfl (hM.ne 2 rfl).out ((hM.ne 2 rfl).at c661) rfl (any_cs ((hM.ne 2 rfl).get c661).toF.one) Try.isAgg42) ?_; intro a hF
                  refine s_val hF rfl rfl rfl (e_assign hF rfl) ?_; intro a hF
                  refine s_nil ?_
                  refine then_n ?_
                  refine wp_seq ?_
                  obtain ⟨t662, h663, H⟩ := bind_some H
                  refine s_region ?_
                  refine s_val hF rfl rfl rfl (e_lda (i := 0) 0 1 hF hM rfl rfl rfl rfl Try.isAgg22 Try.sizeOf22 rfl) ?_; intro a hF
                  refine s_call hF rfl rfl rfl Try.call66 (impl_numbers.calls K a0 t662 h663) ?_; intro a w v664 hF hf hR
                  have hM := hM.fresh hf hR
                  refine s_val hF rfl rfl rfl (e_len hF rfl (hM.sl 0 rfl).toF Try.underlying42) ?_; intro a hF
                  refine s_val hF rfl rfl rfl (e_move hF rfl) ?_; intro a hF
                  refine s_nil ?_
                  refine then_n ?_
                  refine wp_block ?_
                  obtain ⟨o709, h710, H⟩ := bind_some H
                  refine wp_mono (Q := fun e a w => (e = Exit.exit 4 ∧ ∃ v691 : Value, ∃ z693 : (List Value), ∃ x692 : (List (List Int)), x692 = o709 ∧ Fr 50 a [(2, pt b1 0), (7, v691), (21, Value.int .i64 a1), (22, Value.int .i64 x478), (24, v479), (25, Value.int .i64 (x480.length : Int)), (26, Value.int .i64 x656)] ∧ Ms X w0 w [boxR b1 [Pt.ar a0] 22, nestR cd3 42 v691 z693 x692, nestR cd3 42 v479 z481 x480])) ?_ ?_
                  · refine s_loop (fun kq a w => ∃ v695 : Value, ∃ z697 : (List Value), ∃ x694 : Int, ∃ x696 : (List (List Int)), impl_PhrasesOf.l15 K x480 x656 t662 kq x694 x696 = some o709 ∧ Fr 50 a [(2, pt b1 0), (7, v695), (9, (z481.getD (x656 : Int).toNat nilv)), (21, Value.int .i64 a1), (22, Value.int .i64 x478), (24, v479), (25, Value.int .i64 (x480.length : Int)), (26, Value.int .i64 x656), (31, v664), (32, Value.int .i64 (t662.length : Int)), (33, Value.int .i64 x694)] ∧ Ms X w0 w [boxR b1 [Pt.ar a0] 22, nestR cd3 42 v695 z697 x696, nestR cd3 42 v479 z481 x480, rowR cd3 v664 t662]) K ⟨v657, z659, 0, x658, h710, hF.sub _ ⟨rfl, rfl, rfl, rfl, rfl, rfl, rfl, rfl, rfl, rfl, rfl, trivial⟩, hM.pick [1, 2, 3, 0] rfl rfl⟩ ?_ ?_
                    · rintro a w ⟨_, _, _, _, H, _⟩; exact none_some H
                    · rintro k a w ⟨v695, z697, x694, x696, H, hF, hM⟩; rw [impl_PhrasesOf.l15] at H
                      refine wp_seq ?_
                      refine s_region ?_
                      refine s_val hF rfl rfl rfl (e_lss hF rfl rfl) ?_; intro a hF
                      refine s_nil ?_
                      refine then_n ?_
                      refine wp_seq ?_
                      rcases ite_cases H with ⟨c698, H⟩ | ⟨c698, H⟩
                      ·
                        refine s_cond_t hF rfl (decide_eq_true c698) ?_
                        refine wp_skip ?_
                        refine then_n ?_
                        refine wp_seq ?_
                        refine wp_block ?_
                        refine wp_seq ?_
                        obtain ⟨c699, H⟩ := ite_some H
                        refine s_region ?_
                        refine s_val hF rfl rfl rfl (e_ias cd3 hF rfl rfl (hM.sl 3 rfl).toF Try.underlying42 Try.sizeOf3 c699.1 c699.2) ?_; intro a hF
                        refine s_val hF rfl rfl rfl (e_lds (m := x694) hF rfl (hM.sl 3 rfl) (getD_some (z := (0 : Int)) c699.1 c699.2) rfl rfl Try.isAgg3) ?_; intro a hF
                        refine s_val hF rfl rfl rfl (e_assign hF rfl) ?_; intro a hF
                        refine s_nil ?_
                        refine then_n ?_
                        obtain ⟨t700, h701, H⟩ := bind_some H
                        obtain ⟨c705, H⟩ := ite_some H
                        obtain ⟨c708, H⟩ := ite_some H
                        refine s_region ?_
                        refine s_val hF rfl rfl rfl (e_move hF rfl) ?_; intro a hF
                        refine s_val hF rfl rfl rfl (e_move hF rfl) ?_; intro a hF
                        refine s_call hF rfl rfl rfl Try.call67 (slices_Clone_int_int.calls K (x480.getD (x656 : Int).toNat []) (z481.getD (x656 : Int).toNat nilv) ((hM.ne 2 rfl).get c661) t700 h701) ?_; intro a w v702 hF hf hR
                        have hM := hM.fresh hf hR
                        refine s_val hF rfl rfl rfl (e_move hF rfl) ?_; intro a hF
                        refine s_bsl (C := cd3) [(t662.getD (x694 : Int).toNat (0 : Int))] cdok3 hF hM rfl rfl rfl rfl Try.underlying42 rfl ?_; intro a w v703 hF hM
                        refine s_append (i := 1) cdok3 hF hM rfl rfl rfl rfl rfl (hM.sl 0 rfl) Try.underlying42 c705 ?_; intro a w v704 hF hM
                        refine s_bnest (i := 1) cdokV42 hF hM rfl rfl rfl rfl Try.underlying37 ?_; intro a w v706 hF hM
                        refine s_nappend cdokV42 hF 3 1 [0, 2, 4, 5] hM rfl rfl rfl rfl rfl rfl rfl rfl Try.underlying37 c708 ?_; intro a w v707 hF hM
                        refine s_val hF rfl rfl rfl (e_assign hF rfl) ?_; intro a hF
                        refine s_nil ?_
                        refine blk_n ?_
                        refine then_n ?_
                        refine s_region ?_
                        refine s_val hF rfl rfl rfl (e_add hF rfl rfl) ?_; intro a hF
                        refine s_val hF rfl rfl rfl (e_move hF rfl) ?_; intro a hF
                        refine s_nil ?_
                        refine then_n ?_
                        exact ⟨v707, (z697 ++ [v704]), (wrap64 (x694 + 1)), (x696 ++ [(t700 ++ [(t662.getD (x694 : Int).toNat (0 : Int))])]), H, hF.sub _ ⟨rfl, rfl, rfl, rfl, rfl, rfl, rfl, rfl, rfl, rfl, rfl, trivial⟩, hM.pick [2, 0, 3, 4] rfl rfl⟩
                      ·
                        refine s_cond_f hF rfl (decide_eq_false c698) ?_
                        refine wp_exit ?_
                        refine then_x ?_
                        refine then_x ?_
                        exact ⟨rfl, v695, z697, x696, some_some H, hF.sub _ ⟨rfl, rfl, rfl, rfl, rfl, rfl, rfl, trivial⟩, hM.pick [0, 1, 2] rfl rfl⟩
                  · rintro e a w ⟨rfl, v691, z693, x692, rfl, hF, hM⟩
                    skip
                    refine blk_x ?_
                    refine blk_n ?_
                    refine then_n ?_
                    refine s_region ?_
                    refine s_val hF rfl rfl rfl (e_add hF rfl rfl) ?_; intro a hF
                    refine s_val hF rfl rfl rfl (e_move hF rfl) ?_; intro a hF
                    refine s_nil ?_
                    refine then_n ?_
                    exact ⟨v691, z693, (wrap64 (x656 + 1)), x692, H, hF.sub _ ⟨rfl, rfl, rfl, rfl, rfl, rfl, rfl, trivial⟩, hM.pick [0, 1, 2] rfl rfl⟩
                ·
                  refine s_cond_f hF rfl (decide_eq_false c660) ?_
                  refine wp_exit ?_
                  refine then_x ?_
                  refine then_x ?_
                  exact ⟨rfl, v657, z659, x658, some_some H, hF.sub _ ⟨rfl, rfl, rfl, rfl, trivial⟩, hM.pick [0, 1] rfl rfl⟩
            · rintro e a w ⟨rfl, v653, z655, x654, rfl, hF, hM⟩
              skip
              refine blk_x ?_
              refine then_n ?_
              refine s_region ?_
              refine s_val hF rfl rfl rfl (e_move hF rfl) ?_; intro a hF
              refine s_val hF rfl rfl rfl (e_assign hF rfl) ?_; intro a hF
              refine s_nil ?_
              refine blk_n ?_
              refine then_n ?_
              refine s_region ?_
              refine s_val hF rfl rfl rfl (e_add hF rfl rfl) ?_; intro a hF
              refine s_val hF rfl rfl rfl (e_move hF rfl) ?_; intro a hF
              refine s_nil ?_
              refine then_n ?_
              exact ⟨v653, z655, (wrap64 (x478 + 1)), x654, H, hF.sub _ ⟨rfl, rfl, rfl, rfl, trivial⟩, hM.pick [0, 1] rfl rfl⟩
          ·
            refine s_cond_f hF rfl (decide_eq_false c482) ?_
            refine wp_exit ?_
            refine then_x ?_
            refine then_x ?_
            exact ⟨rfl, v479, z481, x480, some_some H, hF.sub _ ⟨rfl, trivial⟩, hM.pick [1] rfl rfl⟩
      · rintro e a w ⟨rfl, v475, z477, x476, rfl, hF, hM⟩
        skip
        refine blk_x ?_
        refine then_n ?_
        refine wp_seq ?_
        refine s_region ?_
        refine s_val hF rfl rfl rfl (e_move hF rfl) ?_; intro a hF
        refine s_val hF rfl rfl rfl (e_assign hF rfl) ?_; intro a hF
        refine s_val hF rfl rfl rfl (e_assign hF rfl) ?_; intro a hF
        refine s_nil ?_
        refine then_n ?_
        refine wp_ret ?_
        obtain rfl := some_some H
        refine s_ret [v475, Value.bool true] hF Try.results29 ⟨rfl, rfl, trivial⟩ ?_
        exact ⟨_, rfl, v475, z477, hM.pick [0] rfl rfl, rfl⟩
    ·
      refine s_cond_t hF rfl (congrArg Bool.not (bf c7)) ?_
      refine wp_seq ?_
      refine s_region ?_
      refine s_val hF rfl rfl rfl (e_assign hF rfl) ?_; intro a hF
      refine s_val hF rfl rfl rfl (e_assign hF rfl) ?_; intro a hF
      refine s_nil ?_
      refine then_n ?_
      refine wp_ret ?_
      refine then_r ?_
      obtain rfl := some_some H
      refine s_ret [(Value.slice none 0 0), Value.bool false] hF Try.results29 ⟨rfl, rfl, trivial⟩ ?_
      have hM := hM.nilNest cd3 42
      exact ⟨_, rfl, (Value.slice none 0 0), [], hM.pick [0] rfl rfl, rfl⟩
  ·
    refine s_region ?_
    refine s_val hF rfl rfl rfl (e_lda (i := 0) 0 1 hF hM rfl rfl rfl rfl Try.isAgg22 Try.sizeOf22 rfl) ?_; intro a hF
    refine s_call hF rfl rfl rfl Try.call50 (impl_IsDie.calls K a0 t2 h3) ?_; intro a w v hF hf hR
    subst hR; have hM := hM.grow hf
    refine s_val hF rfl rfl rfl (e_not hF rfl) ?_; intro a hF
    refine s_val hF rfl rfl rfl (e_move hF rfl) ?_; intro a hF
    have hF := hF.topb (congrArg Bool.not (bf c4))
    refine s_skip hF rfl rfl rfl ?_; intro a hF
    refine s_skip hF rfl rfl rfl ?_; intro a hF
    refine s_skip hF rfl rfl rfl ?_; intro a hF
    refine s_val hF rfl rfl rfl (e_pick_t hF rfl rfl) ?_; intro a hF
    refine s_nil ?_
    refine then_n ?_
    refine s_cond_t hF rfl rfl ?_
    refine wp_seq ?_
    refine s_region ?_
    refine s_val hF rfl rfl rfl (e_assign hF rfl) ?_; intro a hF
    refine s_val hF rfl rfl rfl (e_assign hF rfl) ?_; intro a hF
    refine s_nil ?_
    refine then_n ?_
    refine wp_ret ?_
    refine then_r ?_
    obtain rfl := some_some H
    refine s_ret [(Value.slice none 0 0), Value.bool false] hF Try.results29 ⟨rfl, rfl, trivial⟩ ?_
    have hM := hM.nilNest cd3 42
    exact ⟨_, rfl, (Value.slice none 0 0), [], hM.pick [0] rfl rfl, rfl⟩

/-! ### loop.example/g01210/laws.eqIntS: function 38 -/
def laws_eqIntS.l0 (K : Nat) (l0 : (List Int)) (l1 : (List Int)) : Nat → Int → Option (Sum Unit Bool)
  | 0, _ => none
  | k + 1, x11 => if x11 < (l0.length : Int) then (if (0 : Int) ≤ x11 ∧ x11 < (l0.length : Int) then (if (0 : Int) ≤ x11 ∧ x11 < (l1.length : Int) then (if (l0.getD (x11 : Int).toNat (0 : Int)) = (l1.getD (x11 : Int).toNat (0 : Int)) then (laws_eqIntS.l0 K l0 l1 k (wrap64 (x11 + 1))) else (some (Sum.inr false))) else none) else none) else (some (Sum.inl ()))
def laws_eqIntS.f (K : Nat) (l0 : (List Int)) (l1 : (List Int)) : Option Bool := if (l0.length : Int) = (l1.length : Int) then ((laws_eqIntS.l0 K l0 l1 K 0).bind fun o18 => (match o18 with | .inl () => some true | .inr r20 => some r20)) else (some false)
set_option maxRecDepth 100000 in
set_option maxHeartbeats 4000000 in
theorem laws_eqIntS.calls {w0 : World} (K : Nat) (l0 : (List Int)) (u0 : Value) (q0 : SlR cd3 w0 u0 l0) (l1 : (List Int)) (u1 : Value) (q1 : SlR cd3 w0 u1 l1) (r : Bool) (H : laws_eqIntS.f K l0 l1 = some r) : Calls Try.prog 38 [u0, u1].toArray w0 (Post w0 fun w v => v = Value.bool r) := by
  rw [laws_eqIntS.f] at H
  refine s_start Try.func38 rfl Try.ntmps38 rfl ?_
  intro a hF
  have hM := Ms.start w0
  skip
  refine wp_seq ?_
  refine s_region ?_
  refine s_val hF rfl rfl rfl (e_assign hF rfl) ?_; intro a hF
  refine s_nil ?_
  refine then_n ?_
  refine wp_seq ?_
  refine wp_seq ?_
  refine s_region ?_
  refine s_val hF rfl rfl rfl (e_move hF rfl) ?_; intro a hF
  refine s_val hF rfl rfl rfl (e_len hF rfl (q0.frm hM.frm).toF Try.underlying42) ?_; intro a hF
  refine s_val hF rfl rfl rfl (e_move hF rfl) ?_; intro a hF
  refine s_val hF rfl rfl rfl (e_len hF rfl (q1.frm hM.frm).toF Try.underlying42) ?_; intro a hF
  refine s_val hF rfl rfl rfl (e_neq hF rfl rfl) ?_; intro a hF
  refine s_nil ?_
  refine then_n ?_
  rcases ite_cases H with ⟨c1, H⟩ | ⟨c1, H⟩
  ·
    refine s_cond_f hF rfl (congrArg Bool.not (decide_eq_true c1)) ?_
    refine wp_skip ?_
    refine then_n ?_
    refine wp_seq ?_
    refine wp_seq ?_
    refine s_region ?_
    refine s_val hF rfl rfl rfl (e_assign hF rfl) ?_; intro a hF
    refine s_nil ?_
    refine then_n ?_
    refine wp_block ?_
    obtain ⟨o18, h19, H⟩ := bind_some H
    refine wp_mono (Q := fun e a w => (e = Exit.exit 0 ∧ Sum.inl () = o18 ∧ Fr 26 a [] ∧ Ms [] w0 w []) ∨ (e = Exit.ret ∧ ∃ r20 : Bool, Sum.inr r20 = o18 ∧ Fr 26 a [(4, Value.bool r20)] ∧ Ms [] w0 w [])) ?_ ?_
    · refine s_loop (fun kq a w => ∃ x11 : Int, laws_eqIntS.l0 K l0 l1 kq x11 = some o18 ∧ Fr 26 a [(0, u0), (1, u1), (5, Value.int .i64 x11)] ∧ Ms [] w0 w []) K ⟨0, h19, hF.sub _ ⟨rfl, rfl, rfl, trivial⟩, hM.pick [] rfl rfl⟩ ?_ ?_
      · rintro a w ⟨_, H, _⟩; exact none_some H
      · rintro k a w ⟨x11, H, hF, hM⟩; rw [laws_eqIntS.l0] at H
        refine wp_seq ?_
        refine wp_seq ?_
        refine s_region ?_
        refine s_val hF rfl rfl rfl (e_move hF rfl) ?_; intro a hF
        refine s_val hF rfl rfl rfl (e_move hF rfl) ?_; intro a hF
        refine s_val hF rfl rfl rfl (e_len hF rfl (q0.frm hM.frm).toF Try.underlying42) ?_; intro a hF
        refine s_val hF rfl rfl rfl (e_lss hF rfl rfl) ?_; intro a hF
        refine s_nil ?_
        refine then_n ?_
        rcases ite_cases H with ⟨c12, H⟩ | ⟨c12, H⟩
        ·
          refine s_cond_t hF rfl (decide_eq_true c12) ?_
          refine wp_skip ?_
          refine then_n ?_
          refine wp_seq ?_
          refine wp_block ?_
          refine wp_seq ?_
          obtain ⟨c13, H⟩ := ite_some H
          obtain ⟨c14, H⟩ := ite_some H
          refine s_held (fun w => Ms [] w0 w []) #[false, false, false, false, false, false, false, false, false] mixed rfl rfl hM ?_; intro w hf hM; clear hf
          refine h_val 0 #[true, false, false, false, false, false, false, false, false] rfl (by kernel_rfl) hF rfl rfl rfl (fun w hS => e_move hF rfl) (hM.pick [] rfl rfl) ?_; intro a hF
          refine h_val 1 #[true, true, false, false, false, false, false, false, false] rfl (by kernel_rfl) hF rfl rfl rfl (fun w hS => e_move hF rfl) (hM.pick [] rfl rfl) ?_; intro a hF
          have f15 := (q0.frm hM.frm).toF
          refine h_val 2 #[true, true, true, false, false, false, false, false, false] rfl (by kernel_rfl) hF rfl rfl rfl (fun w hS => e_ias cd3 hF rfl rfl f15 Try.underlying42 Try.sizeOf3 c13.1 c13.2) (hM.pick [] rfl rfl) ?_; intro a hF
          refine h_val 3 #[true, true, true, true, false, false, false, false, false] rfl (by kernel_rfl) hF rfl rfl rfl (fun w hS => e_lds (m := x11) hF rfl (q0.frm hS.frm) (getD_some (z := (0 : Int)) c13.1 c13.2) rfl rfl Try.isAgg3) (hM.pick [] rfl rfl) ?_; intro a hF
          refine h_val 4 #[true, true, true, true, true, false, false, false, false] rfl (by kernel_rfl) hF rfl rfl rfl (fun w hS => e_move hF rfl) (hM.pick [] rfl rfl) ?_; intro a hF
          refine h_val 5 #[true, true, true, true, true, true, false, false, false] rfl (by kernel_rfl) hF rfl rfl rfl (fun w hS => e_move hF rfl) (hM.pick [] rfl rfl) ?_; intro a hF
          have f16 := (q1.frm hM.frm).toF
          refine h_val 6 #[true, true, true, true, true, true, true, false, false] rfl (by kernel_rfl) hF rfl rfl rfl (fun w hS => e_ias cd3 hF rfl rfl f16 Try.underlying42 Try.sizeOf3 c14.1 c14.2) (hM.pick [] rfl rfl) ?_; intro a hF
          refine h_val 7 #[true, true, true, true, true, true, true, true, false] rfl (by kernel_rfl) hF rfl rfl rfl (fun w hS => e_lds (m := x11) hF rfl (q1.frm hS.frm) (getD_some (z := (0 : Int)) c14.1 c14.2) rfl rfl Try.isAgg3) (hM.pick [] rfl rfl) ?_; intro a hF
          refine h_val 8 #[true, true, true, true, true, true, true, true, true] rfl (by kernel_rfl) hF rfl rfl rfl (fun w hS => e_neq hF rfl rfl) (hM.pick [] rfl rfl) ?_; intro a hF
          refine h_done rfl ?_
          refine then_n ?_
          rcases ite_cases H with ⟨c17, H⟩ | ⟨c17, H⟩
          ·
            refine s_cond_f hF rfl (congrArg Bool.not (decide_eq_true c17)) ?_
            refine wp_skip ?_
            refine blk_n ?_
            refine then_n ?_
            refine s_region ?_
            refine s_val hF rfl rfl rfl (e_move hF rfl) ?_; intro a hF
            refine s_val hF rfl rfl rfl (e_add hF rfl rfl) ?_; intro a hF
            refine s_val hF rfl rfl rfl (e_assign hF rfl) ?_; intro a hF
            refine s_nil ?_
            refine then_n ?_
            exact ⟨(wrap64 (x11 + 1)), H, hF.sub _ ⟨rfl, rfl, rfl, trivial⟩, hM.pick [] rfl rfl⟩
          ·
            refine s_cond_t hF rfl (congrArg Bool.not (decide_eq_false c17)) ?_
            refine wp_seq ?_
            refine s_region ?_
            refine s_val hF rfl rfl rfl (e_assign hF rfl) ?_; intro a hF
            refine s_nil ?_
            refine then_n ?_
            refine wp_ret ?_
            refine blk_r ?_
            refine then_r ?_
            refine then_r ?_
            exact Or.inr (⟨rfl, false, some_some H, hF.sub _ ⟨rfl, trivial⟩, hM.pick [] rfl rfl⟩)
        ·
          refine s_cond_f hF rfl (decide_eq_false c12) ?_
          refine wp_exit ?_
          refine then_x ?_
          refine then_x ?_
          exact Or.inl (⟨rfl, some_some H, hF.sub _ trivial, hM.pick [] rfl rfl⟩)
    · rintro e a w (⟨rfl, rfl, hF, hM⟩ | ⟨rfl, r20, rfl, hF, hM⟩)
      ·
        dsimp only at H
        refine blk_x ?_
        refine then_n ?_
        refine wp_seq ?_
        refine s_region ?_
        refine s_val hF rfl rfl rfl (e_assign hF rfl) ?_; intro a hF
        refine s_nil ?_
        refine then_n ?_
        refine wp_ret ?_
        obtain rfl := some_some H
        refine s_ret [Value.bool true] hF Try.results38 ⟨rfl, trivial⟩ ?_
        exact ⟨_, rfl, hM.frm, rfl⟩
      ·
        dsimp only at H
        refine blk_r ?_
        refine then_r ?_
        obtain rfl := some_some H
        refine s_ret [Value.bool r20] hF Try.results38 ⟨rfl, trivial⟩ ?_
        exact ⟨_, rfl, hM.frm, rfl⟩
  ·
    refine s_cond_t hF rfl (congrArg Bool.not (decide_eq_false c1)) ?_
    refine wp_seq ?_
    refine s_region ?_
    refine s_val hF rfl rfl rfl (e_assign hF rfl) ?_; intro a hF
    refine s_nil ?_
    refine then_n ?_
    refine wp_ret ?_
    refine then_r ?_
    obtain rfl := some_some H
    refine s_ret [Value.bool false] hF Try.results38 ⟨rfl, trivial⟩ ?_
    exact ⟨_, rfl, hM.frm, rfl⟩

/-! ### loop.example/g01210/laws.eqIntSS: function 30 -/
def laws_eqIntSS.l0 (K : Nat) (l0 : (List (List Int))) (l1 : (List (List Int))) : Nat → Int → Option (Sum Unit Bool)
  | 0, _ => none
  | k + 1, x15 => if x15 < (l0.length : Int) then (if (0 : Int) ≤ x15 ∧ x15 < (l0.length : Int) then (if (0 : Int) ≤ x15 ∧ x15 < (l1.length : Int) then ((laws_eqIntS.f K (l0.getD (x15 : Int).toNat []) (l1.getD (x15 : Int).toNat [])).bind fun t19 => if t19 = true then (laws_eqIntSS.l0 K l0 l1 k (wrap64 (x15 + 1))) else (some (Sum.inr false))) else none) else none) else (some (Sum.inl ()))
def laws_eqIntSS.f (K : Nat) (l0 : (List (List Int))) (l1 : (List (List Int))) : Option Bool := if (l0.length : Int) = (l1.length : Int) then ((laws_eqIntSS.l0 K l0 l1 K 0).bind fun o24 => (match o24 with | .inl () => some true | .inr r26 => some r26)) else (some false)
set_option maxRecDepth 100000 in
set_option maxHeartbeats 4000000 in
theorem laws_eqIntSS.calls {w0 : World} (K : Nat) (l0 : (List (List Int))) (u0 : Value) (z0 : List Value) (q0 : NeR cd3 42 w0 u0 z0 l0) (l1 : (List (List Int))) (u1 : Value) (z1 : List Value) (q1 : NeR cd3 42 w0 u1 z1 l1) (r : Bool) (H : laws_eqIntSS.f K l0 l1 = some r) : Calls Try.prog 30 [u0, u1].toArray w0 (Post w0 fun w v => v = Value.bool r) := by
  rw [laws_eqIntSS.f] at H
  refine s_start Try.func30 rfl Try.ntmps30 rfl ?_
  intro a hF
  have hM := Ms.start w0
  skip
  refine wp_seq ?_
  refine s_region ?_
  refine s_val hF rfl rfl rfl (e_assign hF rfl) ?_; intro a hF
  refine s_nil ?_
  refine then_n ?_
  refine wp_seq ?_
  refine wp_seq ?_
  refine s_region ?_
  refine s_val hF rfl rfl rfl (e_move hF rfl) ?_; intro a hF
  refine s_val hF rfl rfl rfl (e_len hF rfl (q0.frm hM.frm).toF Try.underlying37) ?_; intro a hF
  refine s_val hF rfl rfl rfl (e_move hF rfl) ?_; intro a hF
  refine s_val hF rfl rfl rfl (e_len hF rfl (q1.frm hM.frm).toF Try.underlying37) ?_; intro a hF
  refine s_val hF rfl rfl rfl (e_neq hF rfl rfl) ?_; intro a hF
  refine s_nil ?_
  refine then_n ?_
  rcases ite_cases H with ⟨c1, H⟩ | ⟨c1, H⟩
  ·
    refine s_cond_f hF rfl (congrArg Bool.not (decide_eq_true c1)) ?_
    refine wp_skip ?_
    refine then_n ?_
    refine wp_seq ?_
    refine wp_seq ?_
    refine s_region ?_
    refine s_val hF rfl rfl rfl (e_assign hF rfl) ?_; intro a hF
    refine s_nil ?_
    refine then_n ?_
    refine wp_block ?_
    obtain ⟨o24, h25, H⟩ := bind_some H
    refine wp_mono (Q := fun e a w => (e = Exit.exit 0 ∧ Sum.inl () = o24 ∧ Fr 27 a [] ∧ Ms [] w0 w []) ∨ (e = Exit.ret ∧ ∃ r26 : Bool, Sum.inr r26 = o24 ∧ Fr 27 a [(4, Value.bool r26)] ∧ Ms [] w0 w [])) ?_ ?_
    · refine s_loop (fun kq a w => ∃ x15 : Int, laws_eqIntSS.l0 K l0 l1 kq x15 = some o24 ∧ Fr 27 a [(0, u0), (1, u1), (5, Value.int .i64 x15)] ∧ Ms [] w0 w []) K ⟨0, h25, hF.sub _ ⟨rfl, rfl, rfl, trivial⟩, hM.pick [] rfl rfl⟩ ?_ ?_
      · rintro a w ⟨_, H, _⟩; exact none_some H
      · rintro k a w ⟨x15, H, hF, hM⟩; rw [laws_eqIntSS.l0] at H
        refine wp_seq ?_
        refine wp_seq ?_
        refine s_region ?_
        refine s_val hF rfl rfl rfl (e_move hF rfl) ?_; intro a hF
        refine s_val hF rfl rfl rfl (e_move hF rfl) ?_; intro a hF
        refine s_val hF rfl rfl rfl (e_len hF rfl (q0.frm hM.frm).toF Try.underlying37) ?_; intro a hF
        refine s_val hF rfl rfl rfl (e_lss hF rfl rfl) ?_; intro a hF
        refine s_nil ?_
        refine then_n ?_
        rcases ite_cases H with ⟨c16, H⟩ | ⟨c16, H⟩
        ·
          refine s_cond_t hF rfl (decide_eq_true c16) ?_
          refine wp_skip ?_
          refine then_n ?_
          refine wp_seq ?_
          refine wp_block ?_
          refine wp_seq ?_
          obtain ⟨c17, H⟩ := ite_some H
          obtain ⟨c18, H⟩ := ite_some H
          obtain ⟨t19, h20, H⟩ := bind_some H
          refine s_held (fun w => Ms [] w0 w []) #[false, false, false, false, false, false, false, false, false, false] mixed rfl rfl hM ?_; intro w hf hM; clear hf
          refine h_val 0 #[true, false, false, false, false, false, false, false, false, false] rfl (by kernel_rfl) hF rfl rfl rfl (fun w hS => e_move hF rfl) (hM.pick [] rfl rfl) ?_; intro a hF
          refine h_val 1 #[true, true, false, false, false, false, false, false, false, false] rfl (by kernel_rfl) hF rfl rfl rfl (fun w hS => e_move hF rfl) (hM.pick [] rfl rfl) ?_; intro a hF
          have f21 := (q0.frm hM.frm).toF
          refine h_val 2 #[true, true, true, false, false, false, false, false, false, false] rfl (by kernel_rfl) hF rfl rfl rfl (fun w hS => e_ias (cdV 42) hF rfl rfl f21 Try.underlying37 Try.sizeOf42 c17.1 c17.2) (hM.pick [] rfl rfl) ?_; intro a hF
          refine h_val 3 #[true, true, true, true, false, false, false, false, false, false] rfl (by kernel_rfl) hF rfl rfl rfl (fun w hS => e_lds (C := cdV 42) (m := x15) hF rfl (q0.frm hS.frm).out ((q0.frm hS.frm).at c17) rfl (any_cs ((q0.frm hS.frm).get c17).toF.one) Try.isAgg42) (hM.pick [] rfl rfl) ?_; intro a hF
          refine h_val 4 #[true, true, true, true, true, false, false, false, false, false] rfl (by kernel_rfl) hF rfl rfl rfl (fun w hS => e_move hF rfl) (hM.pick [] rfl rfl) ?_; intro a hF
          refine h_val 5 #[true, true, true, true, true, true, false, false, false, false] rfl (by kernel_rfl) hF rfl rfl rfl (fun w hS => e_move hF rfl) (hM.pick [] rfl rfl) ?_; intro a hF
          have f22 := (q1.frm hM.frm).toF
          refine h_val 6 #[true, true, true, true, true, true, true, false, false, false] rfl (by kernel_rfl) hF rfl rfl rfl (fun w hS => e_ias (cdV 42) hF rfl rfl f22 Try.underlying37 Try.sizeOf42 c18.1 c18.2) (hM.pick [] rfl rfl) ?_; intro a hF
          refine h_val 7 #[true, true, true, true, true, true, true, true, false, false] rfl (by kernel_rfl) hF rfl rfl rfl (fun w hS => e_lds (C := cdV 42) (m := x15) hF rfl (q1.frm hS.frm).out ((q1.frm hS.frm).at c18) rfl (any_cs ((q1.frm hS.frm).get c18).toF.one) Try.isAgg42) (hM.pick [] rfl rfl) ?_; intro a hF
          refine h_one 8 #[true, true, true, true, true, true, true, true, true, false] rfl (by kernel_rfl) ?_
          refine s_call hF rfl rfl rfl Try.call38 (laws_eqIntS.calls K (l0.getD (x15 : Int).toNat []) (z0.getD (x15 : Int).toNat nilv) ((q0.frm hM.frm).get c17) (l1.getD (x15 : Int).toNat []) (z1.getD (x15 : Int).toNat nilv) ((q1.frm hM.frm).get c18) t19 h20) ?_; intro a w v hF hf hR
          subst hR; have hM := hM.grow hf
          refine s_nil ⟨rfl, (hM.pick [] rfl rfl), ?_⟩
          refine h_val 9 #[true, true, true, true, true, true, true, true, true, true] rfl (by kernel_rfl) hF rfl rfl rfl (fun w hS => e_not hF rfl) (hM.pick [] rfl rfl) ?_; intro a hF
          refine h_done rfl ?_
          refine then_n ?_
          rcases ite_cases H with ⟨c23, H⟩ | ⟨c23, H⟩
          ·
            refine s_cond_f hF rfl (congrArg Bool.not c23) ?_
            refine wp_skip ?_
            refine blk_n ?_
            refine then_n ?_
            refine s_region ?_
            refine s_val hF rfl rfl rfl (e_move hF rfl) ?_; intro a hF
            refine s_val hF rfl rfl rfl (e_add hF rfl rfl) ?_; intro a hF
            refine s_val hF rfl rfl rfl (e_assign hF rfl) ?_; intro a hF
            refine s_nil ?_
            refine then_n ?_
            exact ⟨(wrap64 (x15 + 1)), H, hF.sub _ ⟨rfl, rfl, rfl, trivial⟩, hM.pick [] rfl rfl⟩
          ·
            refine s_cond_t hF rfl (congrArg Bool.not (bf c23)) ?_
            refine wp_seq ?_
            refine s_region ?_
            refine s_val hF rfl rfl rfl (e_assign hF rfl) ?_; intro a hF
            refine s_nil ?_
            refine then_n ?_
            refine wp_ret ?_
            refine blk_r ?_
            refine then_r ?_
            refine then_r ?_
            exact Or.inr (⟨rfl, false, some_some H, hF.sub _ ⟨rfl, trivial⟩, hM.pick [] rfl rfl⟩)
        ·
          refine s_cond_f hF rfl (decide_eq_false c16) ?_
          refine wp_exit ?_
          refine then_x ?_
          refine then_x ?_
          exact Or.inl (⟨rfl, some_some H, hF.sub _ trivial, hM.pick [] rfl rfl⟩)
    · rintro e a w (⟨rfl, rfl, hF, hM⟩ | ⟨rfl, r26, rfl, hF, hM⟩)
      ·
        dsimp only at H
        refine blk_x ?_
        refine then_n ?_
        refine wp_seq ?_
        refine s_region ?_
        refine s_val hF rfl rfl rfl (e_assign hF rfl) ?_; intro a hF
        refine s_nil ?_
        refine then_n ?_
        refine wp_ret ?_
        obtain rfl := some_some H
        refine s_ret [Value.bool true] hF Try.results30 ⟨rfl, trivial⟩ ?_
        exact ⟨_, rfl, hM.frm, rfl⟩
      ·
        dsimp only at H
        refine blk_r ?_
        refine then_r ?_
        obtain rfl := some_some H
        refine s_ret [Value.bool r26] hF Try.results30 ⟨rfl, trivial⟩ ?_
        exact ⟨_, rfl, hM.frm, rfl⟩
  ·
    refine s_cond_t hF rfl (congrArg Bool.not (decide_eq_false c1)) ?_
    refine wp_seq ?_
    refine s_region ?_
    refine s_val hF rfl rfl rfl (e_assign hF rfl) ?_; intro a hF
    refine s_nil ?_
    refine then_n ?_
    refine wp_ret ?_
    refine then_r ?_
    obtain rfl := some_some H
    refine s_ret [Value.bool false] hF Try.results30 ⟨rfl, trivial⟩ ?_
    exact ⟨_, rfl, hM.frm, rfl⟩

/-! ### loop.example/g01210/laws.markIntS: function 68 -/
def laws_markIntS.l0 (K : Nat) (l0 : (List Int)) : Nat → Int → Int → (List Int) → Option (Int × (List Int))
  | 0, _, _, _ => none
  | k + 1, x10, x11, x12 => if x11 < (x12.length : Int) then (if (0 : Int) ≤ x11 ∧ x11 < (x12.length : Int) then (laws_markIntS.l0 K l0 k (wrap64 (x10 + 1)) (wrap64 (x11 + 1)) (x12.set (x11 : Int).toNat x10)) else none) else (some (x10, x12))
def laws_markIntS.f (K : Nat) (l0 : (List Int)) (a1 : Int) : Option (Int × (List Int)) := (laws_markIntS.l0 K l0 K a1 0 l0).bind fun (x8, x9) => some (x8, x9)
set_option maxRecDepth 100000 in
set_option maxHeartbeats 4000000 in
theorem laws_markIntS.calls {w0 : World} (K : Nat) (l0 : (List Int)) (u0 : Value) (q0 : (rowR cd3 u0 l0).holds w0) (a1 : Int) (r : (Int × (List Int))) (H : laws_markIntS.f K l0 a1 = some r) : Calls Try.prog 68 [u0, Value.int .i64 a1].toArray w0 (fun e w => ∃ v, e = .returned v ∧ Frm u0.ownBlock.toList w0 w ∧ (v = Value.int .i64 r.1) ∧ (rowR cd3 u0 r.2).holds w) := by
  rw [laws_markIntS.f] at H
  refine s_start Try.func68 rfl Try.ntmps68 rfl ?_
  intro a hF
  have hM := Ms.start1 w0 (rowR cd3 u0 l0) q0 (fun b hb => (World.ownsRow.lt q0 b (by simpa [rowR] using hb)).2)
  skip
  refine wp_seq ?_
  refine s_region ?_
  refine s_val hF rfl rfl rfl (e_assign hF rfl) ?_; intro a hF
  refine s_nil ?_
  refine then_n ?_
  refine wp_seq ?_
  refine wp_seq ?_
  refine s_region ?_
  refine s_val hF rfl rfl rfl (e_assign hF rfl) ?_; intro a hF
  refine s_nil ?_
  refine then_n ?_
  refine wp_block ?_
  obtain ⟨o15, h16, H⟩ := bind_some H
  refine wp_mono (Q := fun e a w => (e = Exit.exit 0 ∧ ∃ x8 : Int, ∃ x9 : (List Int), (x8, x9) = o15 ∧ Fr 19 a [(1, Value.int .i64 x8)] ∧ Ms u0.ownBlock.toList w0 w [rowR cd3 u0 x9])) ?_ ?_
  · refine s_loop (fun kq a w => ∃ x10 : Int, ∃ x11 : Int, ∃ x12 : (List Int), laws_markIntS.l0 K l0 kq x10 x11 x12 = some o15 ∧ Fr 19 a [(0, u0), (1, Value.int .i64 x10), (5, Value.int .i64 x11)] ∧ Ms u0.ownBlock.toList w0 w [rowR cd3 u0 x12]) K ⟨a1, 0, l0, h16, hF.sub _ ⟨rfl, rfl, rfl, trivial⟩, hM.pick [0] rfl rfl⟩ ?_ ?_
    · rintro a w ⟨_, _, _, H, _⟩; exact none_some H
    · rintro k a w ⟨x10, x11, x12, H, hF, hM⟩; rw [laws_markIntS.l0] at H
      refine wp_seq ?_
      refine wp_seq ?_
      refine s_region ?_
      refine s_val hF rfl rfl rfl (e_move hF rfl) ?_; intro a hF
      refine s_val hF rfl rfl rfl (e_move hF rfl) ?_; intro a hF
      refine s_val hF rfl rfl rfl (e_len hF rfl (hM.sl 0 rfl).toF Try.underlying42) ?_; intro a hF
      refine s_val hF rfl rfl rfl (e_lss hF rfl rfl) ?_; intro a hF
      refine s_nil ?_
      refine then_n ?_
      rcases ite_cases H with ⟨c13, H⟩ | ⟨c13, H⟩
      ·
        refine s_cond_t hF rfl (decide_eq_true c13) ?_
        refine wp_skip ?_
        refine then_n ?_
        refine wp_seq ?_
        refine wp_block ?_
        refine wp_seq ?_
        obtain ⟨c14, H⟩ := ite_some H
        refine s_region ?_
        refine s_val hF rfl rfl rfl (e_move hF rfl) ?_; intro a hF
        refine s_val hF rfl rfl rfl (e_move hF rfl) ?_; intro a hF
        refine s_val hF rfl rfl rfl (e_move hF rfl) ?_; intro a hF
        refine s_val hF rfl rfl rfl (e_ias cd3 hF rfl rfl (hM.sl 0 rfl).toF Try.underlying42 Try.sizeOf3 c14.1 c14.2) ?_; intro a hF
        refine s_sts (i := 0) x10 hF hM rfl rfl rfl rfl rfl c14.1 c14.2 Try.sizeOf3 ?_; intro a w hF hM
        refine s_nil ?_
        refine then_n ?_
        refine s_region ?_
        refine s_val hF rfl rfl rfl (e_move hF rfl) ?_; intro a hF
        refine s_val hF rfl rfl rfl (e_add hF rfl rfl) ?_; intro a hF
        refine s_val hF rfl rfl rfl (e_assign hF rfl) ?_; intro a hF
        refine s_nil ?_
        refine blk_n ?_
        refine then_n ?_
        refine s_region ?_
        refine s_val hF rfl rfl rfl (e_move hF rfl) ?_; intro a hF
        refine s_val hF rfl rfl rfl (e_add hF rfl rfl) ?_; intro a hF
        refine s_val hF rfl rfl rfl (e_assign hF rfl) ?_; intro a hF
        refine s_nil ?_
        refine then_n ?_
        exact ⟨(wrap64 (x10 + 1)), (wrap64 (x11 + 1)), (x12.set (x11 : Int).toNat x10), H, hF.sub _ ⟨rfl, rfl, rfl, trivial⟩, hM.pick [0] rfl rfl⟩
      ·
        refine s_cond_f hF rfl (decide_eq_false c13) ?_
        refine wp_exit ?_
        refine then_x ?_
        refine then_x ?_
        exact ⟨rfl, x10, x12, some_some H, hF.sub _ ⟨rfl, trivial⟩, hM.pick [0] rfl rfl⟩
  · rintro e a w ⟨rfl, x8, x9, rfl, hF, hM⟩
    skip
    refine blk_x ?_
    refine then_n ?_
    refine wp_seq ?_
    refine s_region ?_
    refine s_val hF rfl rfl rfl (e_move hF rfl) ?_; intro a hF
    refine s_val hF rfl rfl rfl (e_assign hF rfl) ?_; intro a hF
    refine s_nil ?_
    refine then_n ?_
    refine wp_ret ?_
    obtain rfl := some_some H
    refine s_ret [Value.int .i64 x8] hF Try.results68 ⟨rfl, trivial⟩ ?_
    exact ⟨_, rfl, hM.frm, ⟨rfl, hM.get 0 rfl⟩⟩

/-! ### loop.example/g01210/laws.markIntSS: function 31 -/
def laws_markIntSS.l0 (K : Nat) (l0 : (List (List Int))) : Nat → Int → Int → (List (List Int)) → Option (Int × (List (List Int)))
  | 0, _, _, _ => none
  | k + 1, x14, x15, x16 => if x15 < (x16.length : Int) then (if (0 : Int) ≤ x15 ∧ x15 < (x16.length : Int) then ((laws_markIntS.f K (x16.getD (x15 : Int).toNat []) x14).bind fun t19 => laws_markIntSS.l0 K l0 k t19.1 (wrap64 (x15 + 1)) (x16.set (x15 : Int).toNat t19.2)) else none) else (some (x14, x16))
def laws_markIntSS.f (K : Nat) (l0 : (List (List Int))) (a1 : Int) : Option (Int × (List (List Int))) := (laws_markIntSS.l0 K l0 K a1 0 l0).bind fun (x12, x13) => some (x12, x13)
set_option maxRecDepth 100000 in
set_option maxHeartbeats 4000000 in
theorem laws_markIntSS.calls {w0 : World} {X : List Nat} (K : Nat) (l0 : (List (List Int))) (u0 : Value) (z0 : List Value) (a1 : Int) (qM : Ms X w0 w0 [nestR cd3 42 u0 z0 l0]) (r : (Int × (List (List Int)))) (H : laws_markIntSS.f K l0 a1 = some r) : Calls Try.prog 31 [u0, Value.int .i64 a1].toArray w0 (fun e w => ∃ v, e = .returned v ∧ Ms X w0 w [nestR cd3 42 u0 z0 r.2] ∧ Value.int .i64 r.1 = v) := by
  rw [laws_markIntSS.f] at H
  refine s_start Try.func31 rfl Try.ntmps31 rfl ?_
  intro a hF
  have hM := qM
  refine wp_seq ?_
  refine s_region ?_
  refine s_val hF rfl rfl rfl (e_assign hF rfl) ?_; intro a hF
  refine s_nil ?_
  refine then_n ?_
  refine wp_seq ?_
  refine wp_seq ?_
  refine s_region ?_
  refine s_val hF rfl rfl rfl (e_assign hF rfl) ?_; intro a hF
  refine s_nil ?_
  refine then_n ?_
  refine wp_block ?_
  obtain ⟨o21, h22, H⟩ := bind_some H
  refine wp_mono (Q := fun e a w => (e = Exit.exit 0 ∧ ∃ x12 : Int, ∃ x13 : (List (List Int)), (x12, x13) = o21 ∧ Fr 19 a [(1, Value.int .i64 x12)] ∧ Ms X w0 w [nestR cd3 42 u0 z0 x13])) ?_ ?_
  · refine s_loop (fun kq a w => ∃ x14 : Int, ∃ x15 : Int, ∃ x16 : (List (List Int)), laws_markIntSS.l0 K l0 kq x14 x15 x16 = some o21 ∧ Fr 19 a [(0, u0), (1, Value.int .i64 x14), (5, Value.int .i64 x15)] ∧ Ms X w0 w [nestR cd3 42 u0 z0 x16]) K ⟨a1, 0, l0, h22, hF.sub _ ⟨rfl, rfl, rfl, trivial⟩, hM.pick [0] rfl rfl⟩ ?_ ?_
    · rintro a w ⟨_, _, _, H, _⟩; exact none_some H
    · rintro k a w ⟨x14, x15, x16, H, hF, hM⟩; rw [laws_markIntSS.l0] at H
      refine wp_seq ?_
      refine wp_seq ?_
      refine s_region ?_
      refine s_val hF rfl rfl rfl (e_move hF rfl) ?_; intro a hF
      refine s_val hF rfl rfl rfl (e_move hF rfl) ?_; intro a hF
      refine s_val hF rfl rfl rfl (e_len hF rfl (hM.ne 0 rfl).toF Try.underlying37) ?_; intro a hF
      refine s_val hF rfl rfl rfl (e_lss hF rfl rfl) ?_; intro a hF
      refine s_nil ?_
      refine then_n ?_
      rcases ite_cases H with ⟨c17, H⟩ | ⟨c17, H⟩
      ·
        refine s_cond_t hF rfl (decide_eq_true c17) ?_
        refine wp_skip ?_
        refine then_n ?_
        refine wp_seq ?_
        refine wp_block ?_
        obtain ⟨c18, H⟩ := ite_some H
        obtain ⟨t19, h20, H⟩ := bind_some H
        refine s_region ?_
        refine s_val hF rfl rfl rfl (e_move hF rfl) ?_; intro a hF
        refine s_val hF rfl rfl rfl (e_move hF rfl) ?_; intro a hF
        refine s_val hF rfl rfl rfl (e_ias (cdV 42) hF rfl rfl (hM.ne 0 rfl).toF Try.underlying37 Try.sizeOf42 c18.1 c18.2) ?_; intro a hF
        refine s_val hF rfl rfl rfl (e_lds (C := cdV 42) (m := x15) hF rfl (hM.ne 0 rfl).out ((hM.ne 0 rfl).at c18) rfl (any_cs ((hM.ne 0 rfl).get c18).toF.one) Try.isAgg42) ?_; intro a hF
        refine s_val hF rfl rfl rfl (e_move hF rfl) ?_; intro a hF
        refine s_callx hF rfl rfl rfl Try.call68 (laws_markIntS.calls K (x16.getD (x15 : Int).toNat []) (z0.getD (x15 : Int).toNat nilv) (hM.rowAt 0 rfl c18) x14 t19 h20) ?_; intro a w v hF ⟨hf, hR⟩
        obtain ⟨hR, hO⟩ := hR; subst hR; have hM := hM.inner (i := 0) rfl ((hM.ne 0 rfl).at c18) (getD_some (z := []) c18.1 c18.2) hf hO
        refine s_val hF rfl rfl rfl (e_assign hF rfl) ?_; intro a hF
        refine s_nil ?_
        refine blk_n ?_
        refine then_n ?_
        refine s_region ?_
        refine s_val hF rfl rfl rfl (e_move hF rfl) ?_; intro a hF
        refine s_val hF rfl rfl rfl (e_add hF rfl rfl) ?_; intro a hF
        refine s_val hF rfl rfl rfl (e_assign hF rfl) ?_; intro a hF
        refine s_nil ?_
        refine then_n ?_
        exact ⟨t19.1, (wrap64 (x15 + 1)), (x16.set (x15 : Int).toNat t19.2), H, hF.sub _ ⟨rfl, rfl, rfl, trivial⟩, hM.pick [0] rfl rfl⟩
      ·
        refine s_cond_f hF rfl (decide_eq_false c17) ?_
        refine wp_exit ?_
        refine then_x ?_
        refine then_x ?_
        exact ⟨rfl, x14, x16, some_some H, hF.sub _ ⟨rfl, trivial⟩, hM.pick [0] rfl rfl⟩
  · rintro e a w ⟨rfl, x12, x13, rfl, hF, hM⟩
    skip
    refine blk_x ?_
    refine then_n ?_
    refine wp_seq ?_
    refine s_region ?_
    refine s_val hF rfl rfl rfl (e_move hF rfl) ?_; intro a hF
    refine s_val hF rfl rfl rfl (e_assign hF rfl) ?_; intro a hF
    refine s_nil ?_
    refine then_n ?_
    refine wp_ret ?_
    obtain rfl := some_some H
    refine s_ret [Value.int .i64 x12] hF Try.results31 ⟨rfl, trivial⟩ ?_
    exact ⟨_, rfl, hM.pick [0] rfl rfl, rfl⟩

/-! ### loop.example/g01210/laws.heldIntS: function 69 -/
def laws_heldIntS.l0 (K : Nat) (l0 : (List Int)) : Nat → Int → Int → Option (Sum Int Int)
  | 0, _, _ => none
  | k + 1, x10, x11 => if x11 < (l0.length : Int) then (if (0 : Int) ≤ x11 ∧ x11 < (l0.length : Int) then (if (l0.getD (x11 : Int).toNat (0 : Int)) = x10 then (laws_heldIntS.l0 K l0 k (wrap64 (x10 + 1)) (wrap64 (x11 + 1))) else (some (Sum.inr (-1)))) else none) else (some (Sum.inl x10))
def laws_heldIntS.f (K : Nat) (l0 : (List Int)) (a1 : Int) : Option Int := (laws_heldIntS.l0 K l0 K a1 0).bind fun o15 => (match o15 with | .inl x9 => some x9 | .inr r17 => some r17)
set_option maxRecDepth 100000 in
set_option maxHeartbeats 4000000 in
theorem laws_heldIntS.calls {w0 : World} (K : Nat) (l0 : (List Int)) (u0 : Value) (q0 : SlR cd3 w0 u0 l0) (a1 : Int) (r : Int) (H : laws_heldIntS.f K l0 a1 = some r) : Calls Try.prog 69 [u0, Value.int .i64 a1].toArray w0 (Post w0 fun w v => v = Value.int .i64 r) := by
  rw [laws_heldIntS.f] at H
  refine s_start Try.func69 rfl Try.ntmps69 rfl ?_
  intro a hF
  have hM := Ms.start w0
  skip
  refine wp_seq ?_
  refine s_region ?_
  refine s_val hF rfl rfl rfl (e_assign hF rfl) ?_; intro a hF
  refine s_nil ?_
  refine then_n ?_
  refine wp_seq ?_
  refine wp_seq ?_
  refine s_region ?_
  refine s_val hF rfl rfl rfl (e_assign hF rfl) ?_; intro a hF
  refine s_nil ?_
  refine then_n ?_
  refine wp_block ?_
  obtain ⟨o15, h16, H⟩ := bind_some H
  refine wp_mono (Q := fun e a w => (e = Exit.exit 0 ∧ ∃ x9 : Int, Sum.inl x9 = o15 ∧ Fr 21 a [(1, Value.int .i64 x9)] ∧ Ms [] w0 w []) ∨ (e = Exit.ret ∧ ∃ r17 : Int, Sum.inr r17 = o15 ∧ Fr 21 a [(4, Value.int .i64 r17)] ∧ Ms [] w0 w [])) ?_ ?_
  · refine s_loop (fun kq a w => ∃ x10 : Int, ∃ x11 : Int, laws_heldIntS.l0 K l0 kq x10 x11 = some o15 ∧ Fr 21 a [(0, u0), (1, Value.int .i64 x10), (5, Value.int .i64 x11)] ∧ Ms [] w0 w []) K ⟨a1, 0, h16, hF.sub _ ⟨rfl, rfl, rfl, trivial⟩, hM.pick [] rfl rfl⟩ ?_ ?_
    · rintro a w ⟨_, _, H, _⟩; exact none_some H
    · rintro k a w ⟨x10, x11, H, hF, hM⟩; rw [laws_heldIntS.l0] at H
      refine wp_seq ?_
      refine wp_seq ?_
      refine s_region ?_
      refine s_val hF rfl rfl rfl (e_move hF rfl) ?_; intro a hF
      refine s_val hF rfl rfl rfl (e_move hF rfl) ?_; intro a hF
      refine s_val hF rfl rfl rfl (e_len hF rfl (q0.frm hM.frm).toF Try.underlying42) ?_; intro a hF
      refine s_val hF rfl rfl rfl (e_lss hF rfl rfl) ?_; intro a hF
      refine s_nil ?_
      refine then_n ?_
      rcases ite_cases H with ⟨c12, H⟩ | ⟨c12, H⟩
      ·
        refine s_cond_t hF rfl (decide_eq_true c12) ?_
        refine wp_skip ?_
        refine then_n ?_
        refine wp_seq ?_
        refine wp_block ?_
        refine wp_seq ?_
        refine wp_seq ?_
        obtain ⟨c13, H⟩ := ite_some H
        refine s_region ?_
        refine s_val hF rfl rfl rfl (e_move hF rfl) ?_; intro a hF
        refine s_val hF rfl rfl rfl (e_move hF rfl) ?_; intro a hF
        refine s_val hF rfl rfl rfl (e_ias cd3 hF rfl rfl (q0.frm hM.frm).toF Try.underlying42 Try.sizeOf3 c13.1 c13.2) ?_; intro a hF
        refine s_val hF rfl rfl rfl (e_lds (m := x11) hF rfl (q0.frm hM.frm) (getD_some (z := (0 : Int)) c13.1 c13.2) rfl rfl Try.isAgg3) ?_; intro a hF
        refine s_val hF rfl rfl rfl (e_move hF rfl) ?_; intro a hF
        refine s_val hF rfl rfl rfl (e_neq hF rfl rfl) ?_; intro a hF
        refine s_nil ?_
        refine then_n ?_
        rcases ite_cases H with ⟨c14, H⟩ | ⟨c14, H⟩
        ·
          refine s_cond_f hF rfl (congrArg Bool.not (decide_eq_true c14)) ?_
          refine wp_skip ?_
          refine then_n ?_
          refine s_region ?_
          refine s_val hF rfl rfl rfl (e_move hF rfl) ?_; intro a hF
          refine s_val hF rfl rfl rfl (e_add hF rfl rfl) ?_; intro a hF
          refine s_val hF rfl rfl rfl (e_assign hF rfl) ?_; intro a hF
          refine s_nil ?_
          refine blk_n ?_
          refine then_n ?_
          refine s_region ?_
          refine s_val hF rfl rfl rfl (e_move hF rfl) ?_; intro a hF
          refine s_val hF rfl rfl rfl (e_add hF rfl rfl) ?_; intro a hF
          refine s_val hF rfl rfl rfl (e_assign hF rfl) ?_; intro a hF
          refine s_nil ?_
          refine then_n ?_
          exact ⟨(wrap64 (x10 + 1)), (wrap64 (x11 + 1)), H, hF.sub _ ⟨rfl, rfl, rfl, trivial⟩, hM.pick [] rfl rfl⟩
        ·
          refine s_cond_t hF rfl (congrArg Bool.not (decide_eq_false c14)) ?_
          refine wp_seq ?_
          refine s_region ?_
          refine s_val hF rfl rfl rfl (e_assign hF rfl) ?_; intro a hF
          refine s_nil ?_
          refine then_n ?_
          refine wp_ret ?_
          refine then_r ?_
          refine blk_r ?_
          refine then_r ?_
          refine then_r ?_
          exact Or.inr (⟨rfl, (-1), some_some H, hF.sub _ ⟨rfl, trivial⟩, hM.pick [] rfl rfl⟩)
      ·
        refine s_cond_f hF rfl (decide_eq_false c12) ?_
        refine wp_exit ?_
        refine then_x ?_
        refine then_x ?_
        exact Or.inl (⟨rfl, x10, some_some H, hF.sub _ ⟨rfl, trivial⟩, hM.pick [] rfl rfl⟩)
  · rintro e a w (⟨rfl, x9, rfl, hF, hM⟩ | ⟨rfl, r17, rfl, hF, hM⟩)
    ·
      dsimp only at H
      refine blk_x ?_
      refine then_n ?_
      refine wp_seq ?_
      refine s_region ?_
      refine s_val hF rfl rfl rfl (e_move hF rfl) ?_; intro a hF
      refine s_val hF rfl rfl rfl (e_assign hF rfl) ?_; intro a hF
      refine s_nil ?_
      refine then_n ?_
      refine wp_ret ?_
      obtain rfl := some_some H
      refine s_ret [Value.int .i64 x9] hF Try.results69 ⟨rfl, trivial⟩ ?_
      exact ⟨_, rfl, hM.frm, rfl⟩
    ·
      dsimp only at H
      refine blk_r ?_
      refine then_r ?_
      obtain rfl := some_some H
      refine s_ret [Value.int .i64 r17] hF Try.results69 ⟨rfl, trivial⟩ ?_
      exact ⟨_, rfl, hM.frm, rfl⟩

/-! ### loop.example/g01210/laws.heldIntSS: function 32 -/
def laws_heldIntSS.l0 (K : Nat) (l0 : (List (List Int))) : Nat → Int → Int → Option (Sum Int Int)
  | 0, _, _ => none
  | k + 1, x14, x15 => if x15 < (l0.length : Int) then (if (0 : Int) ≤ x15 ∧ x15 < (l0.length : Int) then ((laws_heldIntS.f K (l0.getD (x15 : Int).toNat []) x14).bind fun t18 => if t18 < 0 then (some (Sum.inr (-1))) else (laws_heldIntSS.l0 K l0 k t18 (wrap64 (x15 + 1)))) else none) else (some (Sum.inl x14))
def laws_heldIntSS.f (K : Nat) (l0 : (List (List Int))) (a1 : Int) : Option Int := (laws_heldIntSS.l0 K l0 K a1 0).bind fun o21 => (match o21 with | .inl x13 => some x13 | .inr r23 => some r23)
set_option maxRecDepth 100000 in
set_option maxHeartbeats 4000000 in
theorem laws_heldIntSS.calls {w0 : World} (K : Nat) (l0 : (List (List Int))) (u0 : Value) (z0 : List Value) (q0 : NeR cd3 42 w0 u0 z0 l0) (a1 : Int) (r : Int) (H : laws_heldIntSS.f K l0 a1 = some r) : Calls Try.prog 32 [u0, Value.int .i64 a1].toArray w0 (Post w0 fun w v => v = Value.int .i64 r) := by
  rw [laws_heldIntSS.f] at H
  refine s_start Try.func32 rfl Try.ntmps32 rfl ?_
  intro a hF
  have hM := Ms.start w0
  skip
  refine wp_seq ?_
  refine s_region ?_
  refine s_val hF rfl rfl rfl (e_assign hF rfl) ?_; intro a hF
  refine s_nil ?_
  refine then_n ?_
  refine wp_seq ?_
  refine wp_seq ?_
  refine s_region ?_
  refine s_val hF rfl rfl rfl (e_assign hF rfl) ?_; intro a hF
  refine s_nil ?_
  refine then_n ?_
  refine wp_block ?_
  obtain ⟨o21, h22, H⟩ := bind_some H
  refine wp_mono (Q := fun e a w => (e = Exit.exit 0 ∧ ∃ x13 : Int, Sum.inl x13 = o21 ∧ Fr 21 a [(1, Value.int .i64 x13)] ∧ Ms [] w0 w []) ∨ (e = Exit.ret ∧ ∃ r23 : Int, Sum.inr r23 = o21 ∧ Fr 21 a [(4, Value.int .i64 r23)] ∧ Ms [] w0 w [])) ?_ ?_
  · refine s_loop (fun kq a w => ∃ x14 : Int, ∃ x15 : Int, laws_heldIntSS.l0 K l0 kq x14 x15 = some o21 ∧ Fr 21 a [(0, u0), (1, Value.int .i64 x14), (5, Value.int .i64 x15)] ∧ Ms [] w0 w []) K ⟨a1, 0, h22, hF.sub _ ⟨rfl, rfl, rfl, trivial⟩, hM.pick [] rfl rfl⟩ ?_ ?_
    · rintro a w ⟨_, _, H, _⟩; exact none_some H
    · rintro k a w ⟨x14, x15, H, hF, hM⟩; rw [laws_heldIntSS.l0] at H
      refine wp_seq ?_
      refine wp_seq ?_
      refine s_region ?_
      refine s_val hF rfl rfl rfl (e_move hF rfl) ?_; intro a hF
      refine s_val hF rfl rfl rfl (e_move hF rfl) ?_; intro a hF
      refine s_val hF rfl rfl rfl (e_len hF rfl (q0.frm hM.frm).toF Try.underlying37) ?_; intro a hF
      refine s_val hF rfl rfl rfl (e_lss hF rfl rfl) ?_; intro a hF
      refine s_nil ?_
      refine then_n ?_
      rcases ite_cases H with ⟨c16, H⟩ | ⟨c16, H⟩
      ·
        refine s_cond_t hF rfl (decide_eq_true c16) ?_
        refine wp_skip ?_
        refine then_n ?_
        refine wp_seq ?_
        refine wp_block ?_
        refine wp_seq ?_
        obtain ⟨c17, H⟩ := ite_some H
        obtain ⟨t18, h19, H⟩ := bind_some H
        refine s_region ?_
        refine s_val hF rfl rfl rfl (e_move hF rfl) ?_; intro a hF
        refine s_val hF rfl rfl rfl (e_move hF rfl) ?_; intro a hF
        refine s_val hF rfl rfl rfl (e_ias (cdV 42) hF rfl rfl (q0.frm hM.frm).toF Try.underlying37 Try.sizeOf42 c17.1 c17.2) ?_; intro a hF
        refine s_val hF rfl rfl rfl (e_lds (C := cdV 42) (m := x15) hF rfl (q0.frm hM.frm).out ((q0.frm hM.frm).at c17) rfl (any_cs ((q0.frm hM.frm).get c17).toF.one) Try.isAgg42) ?_; intro a hF
        refine s_val hF rfl rfl rfl (e_move hF rfl) ?_; intro a hF
        refine s_call hF rfl rfl rfl Try.call69 (laws_heldIntS.calls K (l0.getD (x15 : Int).toNat []) (z0.getD (x15 : Int).toNat nilv) ((q0.frm hM.frm).get c17) x14 t18 h19) ?_; intro a w v hF hf hR
        subst hR; have hM := hM.grow hf
        refine s_val hF rfl rfl rfl (e_assign hF rfl) ?_; intro a hF
        refine s_nil ?_
        refine then_n ?_
        refine wp_seq ?_
        refine s_region ?_
        refine s_val hF rfl rfl rfl (e_move hF rfl) ?_; intro a hF
        refine s_val hF rfl rfl rfl (e_lss hF rfl rfl) ?_; intro a hF
        refine s_nil ?_
        refine then_n ?_
        rcases ite_cases H with ⟨c20, H⟩ | ⟨c20, H⟩
        ·
          refine s_cond_t hF rfl (decide_eq_true c20) ?_
          refine wp_seq ?_
          refine s_region ?_
          refine s_val hF rfl rfl rfl (e_assign hF rfl) ?_; intro a hF
          refine s_nil ?_
          refine then_n ?_
          refine wp_ret ?_
          refine blk_r ?_
          refine then_r ?_
          refine then_r ?_
          exact Or.inr (⟨rfl, (-1), some_some H, hF.sub _ ⟨rfl, trivial⟩, hM.pick [] rfl rfl⟩)
        ·
          refine s_cond_f hF rfl (decide_eq_false c20) ?_
          refine wp_skip ?_
          refine blk_n ?_
          refine then_n ?_
          refine s_region ?_
          refine s_val hF rfl rfl rfl (e_move hF rfl) ?_; intro a hF
          refine s_val hF rfl rfl rfl (e_add hF rfl rfl) ?_; intro a hF
          refine s_val hF rfl rfl rfl (e_assign hF rfl) ?_; intro a hF
          refine s_nil ?_
          refine then_n ?_
          exact ⟨t18, (wrap64 (x15 + 1)), H, hF.sub _ ⟨rfl, rfl, rfl, trivial⟩, hM.pick [] rfl rfl⟩
      ·
        refine s_cond_f hF rfl (decide_eq_false c16) ?_
        refine wp_exit ?_
        refine then_x ?_
        refine then_x ?_
        exact Or.inl (⟨rfl, x14, some_some H, hF.sub _ ⟨rfl, trivial⟩, hM.pick [] rfl rfl⟩)
  · rintro e a w (⟨rfl, x13, rfl, hF, hM⟩ | ⟨rfl, r23, rfl, hF, hM⟩)
    ·
      dsimp only at H
      refine blk_x ?_
      refine then_n ?_
      refine wp_seq ?_
      refine s_region ?_
      refine s_val hF rfl rfl rfl (e_move hF rfl) ?_; intro a hF
      refine s_val hF rfl rfl rfl (e_assign hF rfl) ?_; intro a hF
      refine s_nil ?_
      refine then_n ?_
      refine wp_ret ?_
      obtain rfl := some_some H
      refine s_ret [Value.int .i64 x13] hF Try.results32 ⟨rfl, trivial⟩ ?_
      exact ⟨_, rfl, hM.frm, rfl⟩
    ·
      dsimp only at H
      refine blk_r ?_
      refine then_r ?_
      obtain rfl := some_some H
      refine s_ret [Value.int .i64 r23] hF Try.results32 ⟨rfl, trivial⟩ ?_
      exact ⟨_, rfl, hM.frm, rfl⟩

/-! ### loop.example/g01210/laws.FnExactPhrasesOf: function 8 -/
def laws_FnExactPhrasesOf.f (K : Nat) (a0 : (Ar 6)) (a1 : Int) : Option Bool := (laws_toIntA6.f K a0).bind fun t2 => (spec_PhrasesOf.f K t2 a1).bind fun t4 => (laws_toIntA6.f K a0).bind fun t8 => (impl_PhrasesOf.f K t8 a1).bind fun t10 => (laws_eqIntSS.f K t10.1 t4.1).bind fun t14 => if t14 = true then (if (t10.2 == t4.2) = true then ((laws_markIntSS.f K t10.1 1).bind fun t18 => (laws_heldIntSS.f K t18.2 1).bind fun t20 => if t20 < 0 then (some false) else (if t20 = t18.1 then ((laws_toIntA6.f K a0).bind fun t24 => (impl_PhrasesOf.f K t24 a1).bind fun t26 => (laws_eqIntSS.f K t26.1 t4.1).bind fun t30 => if t30 = true then (if (t26.2 == t4.2) = true then ((laws_heldIntSS.f K t18.2 1).bind fun t34 => if t34 < 0 then (some false) else (if t34 = t18.1 then (some true) else (some false))) else (some false)) else (some false)) else (some false))) else (some false)) else (some false)
set_option maxRecDepth 100000 in
set_option maxHeartbeats 4000000 in
theorem laws_FnExactPhrasesOf.calls {w0 : World} (K : Nat) (a0 : (Ar 6)) (a1 : Int) (r : Bool) (H : laws_FnExactPhrasesOf.f K a0 a1 = some r) : Calls Try.prog 8 [ag [Pt.ar a0], Value.int .i64 a1].toArray w0 (Post w0 fun w v => v = Value.bool r) := by
  rw [laws_FnExactPhrasesOf.f] at H
  refine s_start Try.func8 rfl Try.ntmps8 rfl ?_
  intro a hF
  have hM := Ms.start w0
  skip
  refine wp_seq ?_
  refine s_region ?_
  refine s_box (ps := [Pt.ar a0]) hF hM rfl rfl rfl rfl ?_; intro a w b1 hF hM
  refine s_val hF rfl rfl rfl (e_assign hF rfl) ?_; intro a hF
  refine s_nil ?_
  refine then_n ?_
  refine wp_seq ?_
  obtain ⟨t2, h3, H⟩ := bind_some H
  obtain ⟨t4, h5, H⟩ := bind_some H
  refine s_region ?_
  refine s_val hF rfl rfl rfl (e_lda (i := 0) 0 1 hF hM rfl rfl rfl rfl Try.isAgg22 Try.sizeOf22 rfl) ?_; intro a hF
  refine s_call hF rfl rfl rfl Try.call16 (laws_toIntA6.calls K a0 t2 h3) ?_; intro a w v hF hf hR
  subst hR; have hM := hM.grow hf
  refine s_val hF rfl rfl rfl (e_move hF rfl) ?_; intro a hF
  refine s_callx hF rfl rfl rfl Try.call28 (spec_PhrasesOf.calls K t2 a1 (hM.lend [] rfl rfl) t4 h5) ?_; intro a w v hF hR
  obtain ⟨v6, z7, hR, rfl⟩ := hR; have hM := hM.back [] [0] (by decide) rfl rfl hR
  refine s_val hF rfl rfl rfl (e_move hF rfl) ?_; intro a hF
  refine s_val hF rfl rfl rfl (e_extract hF rfl rfl) ?_; intro a hF
  refine s_val hF rfl rfl rfl (e_extract hF rfl rfl) ?_; intro a hF
  refine s_val hF rfl rfl rfl (e_assign hF rfl) ?_; intro a hF
  refine s_val hF rfl rfl rfl (e_assign hF rfl) ?_; intro a hF
  refine s_nil ?_
  refine then_n ?_
  refine wp_seq ?_
  obtain ⟨t8, h9, H⟩ := bind_some H
  obtain ⟨t10, h11, H⟩ := bind_some H
  refine s_region ?_
  refine s_val hF rfl rfl rfl (e_lda (i := 1) 0 1 hF hM rfl rfl rfl rfl Try.isAgg22 Try.sizeOf22 rfl) ?_; intro a hF
  refine s_call hF rfl rfl rfl Try.call16 (laws_toIntA6.calls K a0 t8 h9) ?_; intro a w v hF hf hR
  subst hR; have hM := hM.grow hf
  refine s_val hF rfl rfl rfl (e_move hF rfl) ?_; intro a hF
  refine s_callx hF rfl rfl rfl Try.call29 (impl_PhrasesOf.calls K t8 a1 (hM.lend [] rfl rfl) t10 h11) ?_; intro a w v hF hR
  obtain ⟨v12, z13, hR, rfl⟩ := hR; have hM := hM.back [] [0, 1] (by decide) rfl rfl hR
  refine s_val hF rfl rfl rfl (e_move hF rfl) ?_; intro a hF
  refine s_val hF rfl rfl rfl (e_extract hF rfl rfl) ?_; intro a hF
  refine s_val hF rfl rfl rfl (e_extract hF rfl rfl) ?_; intro a hF
  refine s_val hF rfl rfl rfl (e_assign hF rfl) ?_; intro a hF
  refine s_val hF rfl rfl rfl (e_assign hF rfl) ?_; intro a hF
  refine s_nil ?_
  refine then_n ?_
  refine wp_seq ?_
  refine wp_seq ?_
  obtain ⟨t14, h15, H⟩ := bind_some H
  rcases ite_cases H with ⟨c16, H⟩ | ⟨c16, H⟩
  ·
    refine s_region ?_
    refine s_val hF rfl rfl rfl (e_move hF rfl) ?_; intro a hF
    refine s_val hF rfl rfl rfl (e_move hF rfl) ?_; intro a hF
    refine s_call hF rfl rfl rfl Try.call30 (laws_eqIntSS.calls K t10.1 v12 z13 (hM.ne 0 rfl) t4.1 v6 z7 (hM.ne 1 rfl) t14 h15) ?_; intro a w v hF hf hR
    subst hR; have hM := hM.grow hf
    refine s_val hF rfl rfl rfl (e_not hF rfl) ?_; intro a hF
    refine s_val hF rfl rfl rfl (e_move hF rfl) ?_; intro a hF
    have hF := hF.topb (congrArg Bool.not c16)
    refine s_val hF rfl rfl rfl (e_move hF rfl) ?_; intro a hF
    refine s_val hF rfl rfl rfl (e_move hF rfl) ?_; intro a hF
    refine s_val hF rfl rfl rfl (e_bneq hF rfl rfl Try.underlying4) ?_; intro a hF
    refine s_val hF rfl rfl rfl (e_pick_f hF rfl rfl) ?_; intro a hF
    refine s_nil ?_
    refine then_n ?_
    rcases ite_cases H with ⟨c17, H⟩ | ⟨c17, H⟩
    ·
      refine s_cond_f hF rfl (congrArg Bool.not c17) ?_
      refine wp_skip ?_
      refine then_n ?_
      refine wp_seq ?_
      refine s_region ?_
      refine s_val hF rfl rfl rfl (e_assign hF rfl) ?_; intro a hF
      refine s_nil ?_
      refine then_n ?_
      refine wp_seq ?_
      obtain ⟨t18, h19, H⟩ := bind_some H
      refine s_region ?_
      refine s_val hF rfl rfl rfl (e_move hF rfl) ?_; intro a hF
      refine s_val hF rfl rfl rfl (e_move hF rfl) ?_; intro a hF
      refine s_callx hF rfl rfl rfl Try.call31 (laws_markIntSS.calls K t10.1 v12 z13 1 (hM.lend [0] rfl rfl) t18 h19) ?_; intro a w v hF hR
      obtain ⟨hR, rfl⟩ := hR; have hM := hM.back [0] [1, 2] (by decide) rfl rfl hR
      refine s_val hF rfl rfl rfl (e_assign hF rfl) ?_; intro a hF
      refine s_nil ?_
      refine then_n ?_
      refine wp_seq ?_
      refine s_region ?_
      refine s_val hF rfl rfl rfl (e_assign hF rfl) ?_; intro a hF
      refine s_nil ?_
      refine then_n ?_
      refine wp_seq ?_
      obtain ⟨t20, h21, H⟩ := bind_some H
      refine s_region ?_
      refine s_val hF rfl rfl rfl (e_move hF rfl) ?_; intro a hF
      refine s_val hF rfl rfl rfl (e_move hF rfl) ?_; intro a hF
      refine s_call hF rfl rfl rfl Try.call32 (laws_heldIntSS.calls K t18.2 v12 z13 (hM.ne 0 rfl) 1 t20 h21) ?_; intro a w v hF hf hR
      subst hR; have hM := hM.grow hf
      refine s_val hF rfl rfl rfl (e_assign hF rfl) ?_; intro a hF
      refine s_nil ?_
      refine then_n ?_
      refine wp_seq ?_
      refine wp_seq ?_
      refine s_region ?_
      refine s_val hF rfl rfl rfl (e_move hF rfl) ?_; intro a hF
      refine s_val hF rfl rfl rfl (e_lss hF rfl rfl) ?_; intro a hF
      refine s_nil ?_
      refine then_n ?_
      rcases ite_cases H with ⟨c22, H⟩ | ⟨c22, H⟩
      ·
        refine s_cond_t hF rfl (decide_eq_true c22) ?_
        refine wp_seq ?_
        refine s_region ?_
        refine s_val hF rfl rfl rfl (e_assign hF rfl) ?_; intro a hF
        refine s_nil ?_
        refine then_n ?_
        refine wp_ret ?_
        refine then_r ?_
        obtain rfl := some_some H
        refine s_ret [Value.bool false] hF Try.results8 ⟨rfl, trivial⟩ ?_
        exact ⟨_, rfl, hM.frm, rfl⟩
      ·
        refine s_cond_f hF rfl (decide_eq_false c22) ?_
        refine wp_skip ?_
        refine then_n ?_
        refine wp_seq ?_
        refine wp_seq ?_
        refine s_region ?_
        refine s_val hF rfl rfl rfl (e_move hF rfl) ?_; intro a hF
        refine s_val hF rfl rfl rfl (e_move hF rfl) ?_; intro a hF
        refine s_val hF rfl rfl rfl (e_neq hF rfl rfl) ?_; intro a hF
        refine s_nil ?_
        refine then_n ?_
        rcases ite_cases H with ⟨c23, H⟩ | ⟨c23, H⟩
        ·
          refine s_cond_f hF rfl (congrArg Bool.not (decide_eq_true c23)) ?_
          refine wp_skip ?_
          refine then_n ?_
          refine wp_seq ?_
          obtain ⟨t24, h25, H⟩ := bind_some H
          obtain ⟨t26, h27, H⟩ := bind_some H
          refine s_region ?_
          refine s_val hF rfl rfl rfl (e_lda (i := 2) 0 1 hF hM rfl rfl rfl rfl Try.isAgg22 Try.sizeOf22 rfl) ?_; intro a hF
          refine s_call hF rfl rfl rfl Try.call16 (laws_toIntA6.calls K a0 t24 h25) ?_; intro a w v hF hf hR
          subst hR; have hM := hM.grow hf
          refine s_val hF rfl rfl rfl (e_move hF rfl) ?_; intro a hF
          refine s_callx hF rfl rfl rfl Try.call29 (impl_PhrasesOf.calls K t24 a1 (hM.lend [] rfl rfl) t26 h27) ?_; intro a w v hF hR
          obtain ⟨v28, z29, hR, rfl⟩ := hR; have hM := hM.back [] [0, 1, 2] (by decide) rfl rfl hR
          refine s_val hF rfl rfl rfl (e_move hF rfl) ?_; intro a hF
          refine s_val hF rfl rfl rfl (e_extract hF rfl rfl) ?_; intro a hF
          refine s_val hF rfl rfl rfl (e_extract hF rfl rfl) ?_; intro a hF
          refine s_val hF rfl rfl rfl (e_assign hF rfl) ?_; intro a hF
          refine s_val hF rfl rfl rfl (e_assign hF rfl) ?_; intro a hF
          refine s_nil ?_
          refine then_n ?_
          refine wp_seq ?_
          refine wp_seq ?_
          obtain ⟨t30, h31, H⟩ := bind_some H
          rcases ite_cases H with ⟨c32, H⟩ | ⟨c32, H⟩
          ·
            refine s_region ?_
            refine s_val hF rfl rfl rfl (e_move hF rfl) ?_; intro a hF
            refine s_val hF rfl rfl rfl (e_move hF rfl) ?_; intro a hF
            refine s_call hF rfl rfl rfl Try.call30 (laws_eqIntSS.calls K t26.1 v28 z29 (hM.ne 0 rfl) t4.1 v6 z7 (hM.ne 2 rfl) t30 h31) ?_; intro a w v hF hf hR
            subst hR; have hM := hM.grow hf
            refine s_val hF rfl rfl rfl (e_not hF rfl) ?_; intro a hF
            refine s_val hF rfl rfl rfl (e_move hF rfl) ?_; intro a hF
            have hF := hF.topb (congrArg Bool.not c32)
            refine s_val hF rfl rfl rfl (e_move hF rfl) ?_; intro a hF
            refine s_val hF rfl rfl rfl (e_move hF rfl) ?_; intro a hF
            refine s_val hF rfl rfl rfl (e_bneq hF rfl rfl Try.underlying4) ?_; intro a hF
            refine s_val hF rfl rfl rfl (e_pick_f hF rfl rfl) ?_; intro a hF
            refine s_nil ?_
            refine then_n ?_
            rcases ite_cases H with ⟨c33, H⟩ | ⟨c33, H⟩
            ·
              refine s_cond_f hF rfl (congrArg Bool.not c33) ?_
              refine wp_skip ?_
              refine then_n ?_
              refine wp_seq ?_
              refine s_region ?_
              refine s_val hF rfl rfl rfl (e_assign hF rfl) ?_; intro a hF
              refine s_nil ?_
              refine then_n ?_
              refine wp_seq ?_
              obtain ⟨t34, h35, H⟩ := bind_some H
              refine s_region ?_
              refine s_val hF rfl rfl rfl (e_move hF rfl) ?_; intro a hF
              refine s_val hF rfl rfl rfl (e_move hF rfl) ?_; intro a hF
              refine s_call hF rfl rfl rfl Try.call32 (laws_heldIntSS.calls K t18.2 v12 z13 (hM.ne 1 rfl) 1 t34 h35) ?_; intro a w v hF hf hR
              subst hR; have hM := hM.grow hf
              refine s_val hF rfl rfl rfl (e_assign hF rfl) ?_; intro a hF
              refine s_nil ?_
              refine then_n ?_
              refine wp_seq ?_
              refine wp_seq ?_
              refine s_region ?_
              refine s_val hF rfl rfl rfl (e_move hF rfl) ?_; intro a hF
              refine s_val hF rfl rfl rfl (e_lss hF rfl rfl) ?_; intro a hF
              refine s_nil ?_
              refine then_n ?_
              rcases ite_cases H with ⟨c36, H⟩ | ⟨c36, H⟩
              ·
                refine s_cond_t hF rfl (decide_eq_true c36) ?_
                refine wp_seq ?_
                refine s_region ?_
                refine s_val hF rfl rfl rfl (e_assign hF rfl) ?_; intro a hF
                refine s_nil ?_
                refine then_n ?_
                refine wp_ret ?_
                refine then_r ?_
                obtain rfl := some_some H
                refine s_ret [Value.bool false] hF Try.results8 ⟨rfl, trivial⟩ ?_
                exact ⟨_, rfl, hM.frm, rfl⟩
              ·
                refine s_cond_f hF rfl (decide_eq_false c36) ?_
                refine wp_skip ?_
                refine then_n ?_
                refine wp_seq ?_
                refine wp_seq ?_
                refine s_region ?_
                refine s_val hF rfl rfl rfl (e_move hF rfl) ?_; intro a hF
                refine s_val hF rfl rfl rfl (e_move hF rfl) ?_; intro a hF
                refine s_val hF rfl rfl rfl (e_neq hF rfl rfl) ?_; intro a hF
                refine s_nil ?_
                refine then_n ?_
                rcases ite_cases H with ⟨c37, H⟩ | ⟨c37, H⟩
                ·
                  refine s_cond_f hF rfl (congrArg Bool.not (decide_eq_true c37)) ?_
                  refine wp_skip ?_
                  refine then_n ?_
                  refine wp_seq ?_
                  refine s_region ?_
                  refine s_val hF rfl rfl rfl (e_assign hF rfl) ?_; intro a hF
                  refine s_nil ?_
                  refine then_n ?_
                  refine wp_ret ?_
                  obtain rfl := some_some H
                  refine s_ret [Value.bool true] hF Try.results8 ⟨rfl, trivial⟩ ?_
                  exact ⟨_, rfl, hM.frm, rfl⟩
                ·
                  refine s_cond_t hF rfl (congrArg Bool.not (decide_eq_false c37)) ?_
                  refine wp_seq ?_
                  refine s_region ?_
                  refine s_val hF rfl rfl rfl (e_assign hF rfl) ?_; intro a hF
                  refine s_nil ?_
                  refine then_n ?_
                  refine wp_ret ?_
                  refine then_r ?_
                  obtain rfl := some_some H
                  refine s_ret [Value.bool false] hF Try.results8 ⟨rfl, trivial⟩ ?_
                  exact ⟨_, rfl, hM.frm, rfl⟩
            ·
              refine s_cond_t hF rfl (congrArg Bool.not (bf c33)) ?_
              refine wp_seq ?_
              refine s_region ?_
              refine s_val hF rfl rfl rfl (e_assign hF rfl) ?_; intro a hF
              refine s_nil ?_
              refine then_n ?_
              refine wp_ret ?_
              refine then_r ?_
              obtain rfl := some_some H
              refine s_ret [Value.bool false] hF Try.results8 ⟨rfl, trivial⟩ ?_
              exact ⟨_, rfl, hM.frm, rfl⟩
          ·
            refine s_region ?_
            refine s_val hF rfl rfl rfl (e_move hF rfl) ?_; intro a hF
            refine s_val hF rfl rfl rfl (e_move hF rfl) ?_; intro a hF
            refine s_call hF rfl rfl rfl Try.call30 (laws_eqIntSS.calls K t26.1 v28 z29 (hM.ne 0 rfl) t4.1 v6 z7 (hM.ne 2 rfl) t30 h31) ?_; intro a w v hF hf hR
            subst hR; have hM := hM.grow hf
            refine s_val hF rfl rfl rfl (e_not hF rfl) ?_; intro a hF
            refine s_val hF rfl rfl rfl (e_move hF rfl) ?_; intro a hF
            have hF := hF.topb (congrArg Bool.not (bf c32))
            refine s_skip hF rfl rfl rfl ?_; intro a hF
            refine s_skip hF rfl rfl rfl ?_; intro a hF
            refine s_skip hF rfl rfl rfl ?_; intro a hF
            refine s_val hF rfl rfl rfl (e_pick_t hF rfl rfl) ?_; intro a hF
            refine s_nil ?_
            refine then_n ?_
            refine s_cond_t hF rfl rfl ?_
            refine wp_seq ?_
            refine s_region ?_
            refine s_val hF rfl rfl rfl (e_assign hF rfl) ?_; intro a hF
            refine s_nil ?_
            refine then_n ?_
            refine wp_ret ?_
            refine then_r ?_
            obtain rfl := some_some H
            refine s_ret [Value.bool false] hF Try.results8 ⟨rfl, trivial⟩ ?_
            exact ⟨_, rfl, hM.frm, rfl⟩
        ·
          refine s_cond_t hF rfl (congrArg Bool.not (decide_eq_false c23)) ?_
          refine wp_seq ?_
          refine s_region ?_
          refine s_val hF rfl rfl rfl (e_assign hF rfl) ?_; intro a hF
          refine s_nil ?_
          refine then_n ?_
          refine wp_ret ?_
          refine then_r ?_
          obtain rfl := some_some H
          refine s_ret [Value.bool false] hF Try.results8 ⟨rfl, trivial⟩ ?_
          exact ⟨_, rfl, hM.frm, rfl⟩
    ·
      refine s_cond_t hF rfl (congrArg Bool.not (bf c17)) ?_
      refine wp_seq ?_
      refine s_region ?_
      refine s_val hF rfl rfl rfl (e_assign hF rfl) ?_; intro a hF
      refine s_nil ?_
      refine then_n ?_
      refine wp_ret ?_
      refine then_r ?_
      obtain rfl := some_some H
      refine s_ret [Value.bool false] hF Try.results8 ⟨rfl, trivial⟩ ?_
      exact ⟨_, rfl, hM.frm, rfl⟩
  ·
    refine s_region ?_
    refine s_val hF rfl rfl rfl (e_move hF rfl) ?_; intro a hF
    refine s_val hF rfl rfl rfl (e_move hF rfl) ?_; intro a hF
    refine s_call hF rfl rfl rfl Try.call30 (laws_eqIntSS.calls K t10.1 v12 z13 (hM.ne 0 rfl) t4.1 v6 z7 (hM.ne 1 rfl) t14 h15) ?_; intro a w v hF hf hR
    subst hR; have hM := hM.grow hf
    refine s_val hF rfl rfl rfl (e_not hF rfl) ?_; intro a hF
    refine s_val hF rfl rfl rfl (e_move hF rfl) ?_; intro a hF
    have hF := hF.topb (congrArg Bool.not (bf c16))
    refine s_skip hF rfl rfl rfl ?_; intro a hF
    refine s_skip hF rfl rfl rfl ?_; intro a hF
    refine s_skip hF rfl rfl rfl ?_; intro a hF
    refine s_val hF rfl rfl rfl (e_pick_t hF rfl rfl) ?_; intro a hF
    refine s_nil ?_
    refine then_n ?_
    refine s_cond_t hF rfl rfl ?_
    refine wp_seq ?_
    refine s_region ?_
    refine s_val hF rfl rfl rfl (e_assign hF rfl) ?_; intro a hF
    refine s_nil ?_
    refine then_n ?_
    refine wp_ret ?_
    refine then_r ?_
    obtain rfl := some_some H
    refine s_ret [Value.bool false] hF Try.results8 ⟨rfl, trivial⟩ ?_
    exact ⟨_, rfl, hM.frm, rfl⟩

end Go.Proofs.Ytnjfmhgmbfemdaa.WPhrasesOf

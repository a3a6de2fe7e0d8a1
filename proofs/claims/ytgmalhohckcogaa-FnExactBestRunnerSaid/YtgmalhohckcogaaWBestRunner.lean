/- The walk through the code that the statement reaches: what each function computes. Conditions: none but those in each line. -/
import Derived.Test.YtgmalhohckcogaaProg
import Derived.Test.YtgmalhohckcogaaK
namespace Go.Proofs.Ytgmalhohckcogaa.WBestRunner
open Go.K Go.RowKit
set_option linter.unusedVariables false
set_option linter.unusedSimpArgs false

def cd3 : Cd Int := ⟨3, 1, 8, fun x => [Pt.int x], fun x => Value.int .i64 x, (0 : Int), fun _ => rfl, fun _ => rfl, by decide⟩
theorem cdok3 : CdOk Try.prog cd3 := by
  obtain ⟨i, h1, h2, h3, h4⟩ := info_parts (by kernel_rfl : (Try.prog.info? 3).map (fun i => (i.zero, i.size, i.bytes)) = some (some (cd3.v cd3.z), 1, 8))
  exact ⟨⟨i, h1, h3, h4, h2⟩, by decide⟩
def cd22 : Cd (Ar 6) := ⟨22, 6, 48, fun x => [Pt.ar x], fun x => ag [Pt.ar x], (Ar.zero 6), fun _ => rfl, fun _ => rfl, by decide⟩
theorem cdok22 : CdOk Try.prog cd22 := by
  obtain ⟨i, h1, h2, h3, h4⟩ := info_parts (by kernel_rfl : (Try.prog.info? 22).map (fun i => (i.zero, i.size, i.bytes)) = some (some (cd22.v cd22.z), 6, 48))
  exact ⟨⟨i, h1, h3, h4, h2⟩, by decide⟩
theorem zv22 (w : World) : (zeroValue 22).run Try.prog w = .ok (ag [Pt.ar (Ar.zero 6)]) w := by kernel_rfl
theorem zv33 (w : World) : (zeroValue 33).run Try.prog w = .ok (ag [Pt.ar (Ar.zero 2)]) w := by kernel_rfl
theorem mixed : Try.prog.follows .mixedOrders = true := by kernel_rfl

/-! ### loop.example/g01210/laws.szIntA6S: function 47 -/
def laws_szIntA6S.f (K : Nat) (l0 : (List (Ar 6))) (a1 : Int) : Option Int := if (wrap64 (a1 - (l0.length : Int))) < 0 then (some (-1)) else (some (wrap64 (a1 - (l0.length : Int))))
set_option maxRecDepth 100000 in
set_option maxHeartbeats 4000000 in
theorem laws_szIntA6S.calls {w0 : World} (K : Nat) (l0 : (List (Ar 6))) (u0 : Value) (q0 : SlR cd22 w0 u0 l0) (a1 : Int) (r : Int) (H : laws_szIntA6S.f K l0 a1 = some r) : Calls Try.prog 47 [u0, Value.int .i64 a1].toArray w0 (Post w0 fun w v => v = Value.int .i64 r) := by
  rw [laws_szIntA6S.f] at H
  refine s_start Try.func47 rfl Try.ntmps47 rfl ?_
  intro a hF
  have hM := Ms.start w0
  skip
  refine wp_seq ?_
  refine s_region ?_
  refine s_val hF rfl rfl rfl (e_assign hF rfl) ?_; intro a hF
  refine s_nil ?_
  refine then_n ?_
  refine wp_seq ?_
  refine s_region ?_
  refine s_val hF rfl rfl rfl (e_move hF rfl) ?_; intro a hF
  refine s_val hF rfl rfl rfl (e_move hF rfl) ?_; intro a hF
  refine s_val hF rfl rfl rfl (e_len hF rfl (q0.frm hM.frm).toF Try.underlying54) ?_; intro a hF
  refine s_val hF rfl rfl rfl (e_sub hF rfl rfl) ?_; intro a hF
  refine s_val hF rfl rfl rfl (e_assign hF rfl) ?_; intro a hF
  refine s_nil ?_
  refine then_n ?_
  refine wp_seq ?_
  refine wp_seq ?_
  refine s_region ?_
  refine s_val hF rfl rfl rfl (e_move hF rfl) ?_; intro a hF
  refine s_val hF rfl rfl rfl (e_lss hF rfl rfl) ?_; intro a hF
  refine s_nil ?_
  refine then_n ?_
  rcases ite_cases H with ⟨c1, H⟩ | ⟨c1, H⟩
  ·
    refine s_cond_t hF rfl (decide_eq_true c1) ?_
    refine wp_seq ?_
    refine s_region ?_
    refine s_val hF rfl rfl rfl (e_assign hF rfl) ?_; intro a hF
    refine s_nil ?_
    refine then_n ?_
    refine wp_ret ?_
    refine then_r ?_
    obtain rfl := some_some H
    refine s_ret [Value.int .i64 (-1)] hF Try.results47 ⟨rfl, trivial⟩ ?_
    exact ⟨_, rfl, hM.frm, rfl⟩
  ·
    refine s_cond_f hF rfl (decide_eq_false c1) ?_
    refine wp_skip ?_
    refine then_n ?_
    refine wp_seq ?_
    refine s_region ?_
    refine s_val hF rfl rfl rfl (e_move hF rfl) ?_; intro a hF
    refine s_val hF rfl rfl rfl (e_assign hF rfl) ?_; intro a hF
    refine s_nil ?_
    refine then_n ?_
    refine wp_ret ?_
    obtain rfl := some_some H
    refine s_ret [Value.int .i64 (wrap64 (a1 - (l0.length : Int)))] hF Try.results47 ⟨rfl, trivial⟩ ?_
    exact ⟨_, rfl, hM.frm, rfl⟩

/-! ### loop.example/g01210/laws.toIntA6: function 16 -/
def laws_toIntA6.l0 (K : Nat) (a0 : (Ar 6)) : Nat → Int → (Ar 6) → Option (Ar 6)
  | 0, _, _ => none
  | k + 1, x9, x10 => if x9 < 6 then (if (0 : Int) ≤ x9 ∧ x9 < 6 then (laws_toIntA6.l0 K a0 k (wrap64 (x9 + 1)) (x10.set x9 (a0.get x9))) else none) else (some x10)
def laws_toIntA6.f (K : Nat) (a0 : (Ar 6)) : Option (Ar 6) := (laws_toIntA6.l0 K a0 K 0 (Ar.zero 6)).bind fun x8 => some x8
set_option maxRecDepth 100000 in
set_option maxHeartbeats 4000000 in
theorem laws_toIntA6.calls {w0 : World} (K : Nat) (a0 : (Ar 6)) (r : (Ar 6)) (H : laws_toIntA6.f K a0 = some r) : Calls Try.prog 16 [ag [Pt.ar a0]].toArray w0 (Post w0 fun w v => v = ag [Pt.ar r]) := by
  rw [laws_toIntA6.f] at H
  refine s_start Try.func16 rfl Try.ntmps16 rfl ?_
  intro a hF
  have hM := Ms.start w0
  skip
  refine wp_seq ?_
  refine s_region ?_
  refine s_box (ps := [Pt.ar a0]) hF hM rfl rfl rfl rfl ?_; intro a w b1 hF hM
  refine s_alloc (ps := [Pt.ar (Ar.zero 6)]) hF hM rfl rfl zv22 rfl ?_; intro a w b2 hF hM
  refine s_nil ?_
  refine then_n ?_
  refine wp_seq ?_
  refine s_region ?_
  refine s_alloc (ps := [Pt.ar (Ar.zero 6)]) hF hM rfl rfl zv22 rfl ?_; intro a w b3 hF hM
  refine s_nil ?_
  refine then_n ?_
  refine wp_seq ?_
  refine wp_seq ?_
  refine s_region ?_
  refine s_val hF rfl rfl rfl (e_assign hF rfl) ?_; intro a hF
  refine s_nil ?_
  refine then_n ?_
  refine wp_block ?_
  obtain ⟨o13, h14, H⟩ := bind_some H
  refine wp_mono (Q := fun e a w => (e = Exit.exit 0 ∧ ∃ x8 : (Ar 6), x8 = o13 ∧ Fr 15 a [(2, pt b2 0), (3, pt b3 0)] ∧ Ms [] w0 w [boxR b2 [Pt.ar (Ar.zero 6)] 22, boxR b3 [Pt.ar x8] 22])) ?_ ?_
  · refine s_loop (fun kq a w => ∃ x9 : Int, ∃ x10 : (Ar 6), laws_toIntA6.l0 K a0 kq x9 x10 = some o13 ∧ Fr 15 a [(1, pt b1 0), (2, pt b2 0), (3, pt b3 0), (4, Value.int .i64 x9)] ∧ Ms [] w0 w [boxR b1 [Pt.ar a0] 22, boxR b2 [Pt.ar (Ar.zero 6)] 22, boxR b3 [Pt.ar x10] 22]) K ⟨0, (Ar.zero 6), h14, hF.sub _ ⟨rfl, rfl, rfl, rfl, trivial⟩, hM.pick [2, 1, 0] rfl rfl⟩ ?_ ?_
    · rintro a w ⟨_, _, H, _⟩; exact none_some H
    · rintro k a w ⟨x9, x10, H, hF, hM⟩; rw [laws_toIntA6.l0] at H
      refine wp_seq ?_
      refine wp_seq ?_
      refine s_region ?_
      refine s_val hF rfl rfl rfl (e_move hF rfl) ?_; intro a hF
      refine s_val hF rfl rfl rfl (e_lss hF rfl rfl) ?_; intro a hF
      refine s_nil ?_
      refine then_n ?_
      rcases ite_cases H with ⟨c11, H⟩ | ⟨c11, H⟩
      ·
        refine s_cond_t hF rfl (decide_eq_true c11) ?_
        refine wp_skip ?_
        refine then_n ?_
        refine wp_seq ?_
        refine wp_block ?_
        obtain ⟨c12, H⟩ := ite_some H
        refine s_region ?_
        refine s_val hF rfl rfl rfl (e_move hF rfl) ?_; intro a hF
        refine s_val hF rfl rfl rfl (e_move hF rfl) ?_; intro a hF
        refine s_val hF rfl rfl rfl (e_ia hF rfl rfl Try.underlying22 Try.sizeOf3 c12.1 c12.2) ?_; intro a hF
        refine s_val hF rfl rfl rfl (e_ldi (i := 0) (k := 0) hF hM rfl rfl rfl rfl rfl Try.isAgg3 c12.1 c12.2) ?_; intro a hF
        refine s_val hF rfl rfl rfl (e_ia hF rfl rfl Try.underlying22 Try.sizeOf3 c12.1 c12.2) ?_; intro a hF
        refine s_sti (i := 2) (k := 0) hF hM rfl rfl rfl rfl rfl rfl rfl Try.sizeOf3 c12.1 c12.2 ?_; intro a w hF hM
        refine s_nil ?_
        refine blk_n ?_
        refine then_n ?_
        refine s_region ?_
        refine s_val hF rfl rfl rfl (e_move hF rfl) ?_; intro a hF
        refine s_val hF rfl rfl rfl (e_add hF rfl rfl) ?_; intro a hF
        refine s_val hF rfl rfl rfl (e_assign hF rfl) ?_; intro a hF
        refine s_nil ?_
        refine then_n ?_
        exact ⟨(wrap64 (x9 + 1)), (x10.set x9 (a0.get x9)), H, hF.sub _ ⟨rfl, rfl, rfl, rfl, trivial⟩, hM.pick [0, 1, 2] rfl rfl⟩
      ·
        refine s_cond_f hF rfl (decide_eq_false c11) ?_
        refine wp_exit ?_
        refine then_x ?_
        refine then_x ?_
        exact ⟨rfl, x10, some_some H, hF.sub _ ⟨rfl, rfl, trivial⟩, hM.pick [1, 2] rfl rfl⟩
  · rintro e a w ⟨rfl, x8, rfl, hF, hM⟩
    skip
    refine blk_x ?_
    refine then_n ?_
    refine wp_seq ?_
    refine s_region ?_
    refine s_val hF rfl rfl rfl (e_lda (i := 1) 0 1 hF hM rfl rfl rfl rfl Try.isAgg22 Try.sizeOf22 rfl) ?_; intro a hF
    refine s_stw (i := 0) (ps' := [Pt.ar x8]) hF hM rfl rfl rfl rfl rfl rfl Try.sizeOf22 rfl ?_; intro a w hF hM
    refine s_nil ?_
    refine then_n ?_
    refine wp_ret ?_
    obtain rfl := some_some H
    refine s_ret [ag [Pt.ar x8]] hF Try.results16 ⟨⟨_, rfl, rv_box hM (i := 0) rfl Try.isAgg22 Try.sizeOf22 rfl⟩, trivial⟩ ?_
    exact ⟨_, rfl, hM.frm, rfl⟩

/-! ### loop.example/g01210/laws.toIntA6S: function 49 -/
def laws_toIntA6S.l0 (K : Nat) (l0 : (List (Ar 6))) : Nat → Int → (List (Ar 6)) → Option (List (Ar 6))
  | 0, _, _ => none
  | k + 1, x16, x17 => if x16 < (l0.length : Int) then (if (0 : Int) ≤ x16 ∧ x16 < (l0.length : Int) then ((laws_toIntA6.f K (l0.getD (x16 : Int).toNat (Ar.zero 6))).bind fun t20 => if (0 : Int) ≤ x16 ∧ x16 < (x17.length : Int) then (laws_toIntA6S.l0 K l0 k (wrap64 (x16 + 1)) (x17.set (x16 : Int).toNat t20)) else none) else none) else (some x17)
def laws_toIntA6S.f (K : Nat) (l0 : (List (Ar 6))) : Option (List (Ar 6)) := if (0 : Int) ≤ (l0.length : Int) ∧ (l0.length : Int) ≤ 1073741824 then ((laws_toIntA6S.l0 K l0 K 0 (List.replicate (l0.length : Int).toNat (Ar.zero 6))).bind fun x15 => some x15) else none
set_option maxRecDepth 100000 in
set_option maxHeartbeats 4000000 in
theorem laws_toIntA6S.calls {w0 : World} (K : Nat) (l0 : (List (Ar 6))) (u0 : Value) (q0 : SlR cd22 w0 u0 l0) (r : (List (Ar 6))) (H : laws_toIntA6S.f K l0 = some r) : Calls Try.prog 49 [u0].toArray w0 (Post w0 fun w v => Fresh cd22 w0.heap.size w v r) := by
  rw [laws_toIntA6S.f] at H
  refine s_start Try.func49 rfl Try.ntmps49 rfl ?_
  intro a hF
  have hM := Ms.start w0
  skip
  refine wp_seq ?_
  refine s_region ?_
  refine s_val hF rfl rfl rfl (e_assign hF rfl) ?_; intro a hF
  refine s_nil ?_
  refine then_n ?_
  refine wp_seq ?_
  obtain ⟨c2, H⟩ := ite_some H
  refine s_region ?_
  refine s_val hF rfl rfl rfl (e_move hF rfl) ?_; intro a hF
  refine s_val hF rfl rfl rfl (e_len hF rfl (q0.frm hM.frm).toF Try.underlying54) ?_; intro a hF
  refine s_make (C := cd22) cdok22 hF hM rfl rfl rfl rfl Try.underlying54 c2.1 c2.2 ?_; intro a w v1 hF hM
  refine s_val hF rfl rfl rfl (e_assign hF rfl) ?_; intro a hF
  refine s_nil ?_
  refine then_n ?_
  refine wp_seq ?_
  refine wp_seq ?_
  refine s_region ?_
  refine s_val hF rfl rfl rfl (e_assign hF rfl) ?_; intro a hF
  refine s_nil ?_
  refine then_n ?_
  refine wp_block ?_
  obtain ⟨o23, h24, H⟩ := bind_some H
  refine wp_mono (Q := fun e a w => (e = Exit.exit 0 ∧ ∃ x15 : (List (Ar 6)), x15 = o23 ∧ Fr 23 a [(3, v1)] ∧ Ms [] w0 w [rowR cd22 v1 x15])) ?_ ?_
  · refine s_loop (fun kq a w => ∃ x16 : Int, ∃ x17 : (List (Ar 6)), laws_toIntA6S.l0 K l0 kq x16 x17 = some o23 ∧ Fr 23 a [(0, u0), (3, v1), (4, Value.int .i64 x16)] ∧ Ms [] w0 w [rowR cd22 v1 x17]) K ⟨0, (List.replicate (l0.length : Int).toNat (Ar.zero 6)), h24, hF.sub _ ⟨rfl, rfl, rfl, trivial⟩, hM.pick [0] rfl rfl⟩ ?_ ?_
    · rintro a w ⟨_, _, H, _⟩; exact none_some H
    · rintro k a w ⟨x16, x17, H, hF, hM⟩; rw [laws_toIntA6S.l0] at H
      refine wp_seq ?_
      refine wp_seq ?_
      refine s_region ?_
      refine s_val hF rfl rfl rfl (e_move hF rfl) ?_; intro a hF
      refine s_val hF rfl rfl rfl (e_move hF rfl) ?_; intro a hF
      refine s_val hF rfl rfl rfl (e_len hF rfl (q0.frm hM.frm).toF Try.underlying54) ?_; intro a hF
      refine s_val hF rfl rfl rfl (e_lss hF rfl rfl) ?_; intro a hF
      refine s_nil ?_
      refine then_n ?_
      rcases ite_cases H with ⟨c18, H⟩ | ⟨c18, H⟩
      ·
        refine s_cond_t hF rfl (decide_eq_true c18) ?_
        refine wp_skip ?_
        refine then_n ?_
        refine wp_seq ?_
        refine wp_block ?_
        obtain ⟨c19, H⟩ := ite_some H
        obtain ⟨t20, h21, H⟩ := bind_some H
        obtain ⟨c22, H⟩ := ite_some H
        refine s_region ?_
        refine s_val hF rfl rfl rfl (e_move hF rfl) ?_; intro a hF
        refine s_val hF rfl rfl rfl (e_move hF rfl) ?_; intro a hF
        refine s_val hF rfl rfl rfl (e_move hF rfl) ?_; intro a hF
        refine s_val hF rfl rfl rfl (e_move hF rfl) ?_; intro a hF
        refine s_val hF rfl rfl rfl (e_ias cd22 hF rfl rfl (q0.frm hM.frm).toF Try.underlying54 Try.sizeOf22 c19.1 c19.2) ?_; intro a hF
        refine s_val hF rfl rfl rfl (e_ldsa (m := x16) hF rfl (q0.frm hM.frm) (getD_some (z := (Ar.zero 6)) c19.1 c19.2) Try.isAgg22 Try.sizeOf22) ?_; intro a hF
        refine s_call hF rfl rfl rfl Try.call16 (laws_toIntA6.calls K (l0.getD (x16 : Int).toNat (Ar.zero 6)) t20 h21) ?_; intro a w v hF hf hR
        subst hR; have hM := hM.grow hf
        refine s_val hF rfl rfl rfl (e_ias cd22 hF rfl rfl (hM.sl 0 rfl).toF Try.underlying54 Try.sizeOf22 c22.1 c22.2) ?_; intro a hF
        refine s_sts (i := 0) t20 hF hM rfl rfl rfl rfl rfl c22.1 c22.2 Try.sizeOf22 ?_; intro a w hF hM
        refine s_nil ?_
        refine blk_n ?_
        refine then_n ?_
        refine s_region ?_
        refine s_val hF rfl rfl rfl (e_move hF rfl) ?_; intro a hF
        refine s_val hF rfl rfl rfl (e_add hF rfl rfl) ?_; intro a hF
        refine s_val hF rfl rfl rfl (e_assign hF rfl) ?_; intro a hF
        refine s_nil ?_
        refine then_n ?_
        exact ⟨(wrap64 (x16 + 1)), (x17.set (x16 : Int).toNat t20), H, hF.sub _ ⟨rfl, rfl, rfl, trivial⟩, hM.pick [0] rfl rfl⟩
      ·
        refine s_cond_f hF rfl (decide_eq_false c18) ?_
        refine wp_exit ?_
        refine then_x ?_
        refine then_x ?_
        exact ⟨rfl, x17, some_some H, hF.sub _ ⟨rfl, trivial⟩, hM.pick [0] rfl rfl⟩
  · rintro e a w ⟨rfl, x15, rfl, hF, hM⟩
    skip
    refine blk_x ?_
    refine then_n ?_
    refine wp_seq ?_
    refine s_region ?_
    refine s_val hF rfl rfl rfl (e_move hF rfl) ?_; intro a hF
    refine s_val hF rfl rfl rfl (e_assign hF rfl) ?_; intro a hF
    refine s_nil ?_
    refine then_n ?_
    refine wp_ret ?_
    obtain rfl := some_some H
    refine s_ret [v1] hF Try.results49 ⟨rfl, trivial⟩ ?_
    exact ⟨_, rfl, hM.frm, hM.give 0 rfl⟩

/-! ### loop.example/g01210/spec.l1In: function 54 -/
def spec_l1In.f (K : Nat) (a0 : Int) (a1 : Int) (a2 : Int) : Option Bool := if a1 ≤ a0 then (some (decide (a0 ≤ a2))) else (some false)
set_option maxRecDepth 100000 in
set_option maxHeartbeats 4000000 in
theorem spec_l1In.calls {w0 : World} (K : Nat) (a0 : Int) (a1 : Int) (a2 : Int) (r : Bool) (H : spec_l1In.f K a0 a1 a2 = some r) : Calls Try.prog 54 [Value.int .i64 a0, Value.int .i64 a1, Value.int .i64 a2].toArray w0 (Post w0 fun w v => v = Value.bool r) := by
  rw [spec_l1In.f] at H
  refine s_start Try.func54 rfl Try.ntmps54 rfl ?_
  intro a hF
  have hM := Ms.start w0
  skip
  refine wp_seq ?_
  refine s_region ?_
  refine s_val hF rfl rfl rfl (e_assign hF rfl) ?_; intro a hF
  refine s_nil ?_
  refine then_n ?_
  refine wp_seq ?_
  rcases ite_cases H with ⟨c1, H⟩ | ⟨c1, H⟩
  ·
    refine s_region ?_
    refine s_val hF rfl rfl rfl (e_move hF rfl) ?_; intro a hF
    refine s_val hF rfl rfl rfl (e_move hF rfl) ?_; intro a hF
    refine s_val hF rfl rfl rfl (e_geq hF rfl rfl) ?_; intro a hF
    refine s_val hF rfl rfl rfl (e_move hF rfl) ?_; intro a hF
    have hF := hF.topb (decide_eq_true c1)
    refine s_val hF rfl rfl rfl (e_move hF rfl) ?_; intro a hF
    refine s_val hF rfl rfl rfl (e_move hF rfl) ?_; intro a hF
    refine s_val hF rfl rfl rfl (e_leq hF rfl rfl) ?_; intro a hF
    refine s_val hF rfl rfl rfl (e_pick_t hF rfl rfl) ?_; intro a hF
    refine s_val hF rfl rfl rfl (e_assign hF rfl) ?_; intro a hF
    refine s_nil ?_
    refine then_n ?_
    refine wp_ret ?_
    obtain rfl := some_some H
    refine s_ret [Value.bool (decide (a0 ≤ a2))] hF Try.results54 ⟨rfl, trivial⟩ ?_
    exact ⟨_, rfl, hM.frm, rfl⟩
  ·
    refine s_region ?_
    refine s_val hF rfl rfl rfl (e_move hF rfl) ?_; intro a hF
    refine s_val hF rfl rfl rfl (e_move hF rfl) ?_; intro a hF
    refine s_val hF rfl rfl rfl (e_geq hF rfl rfl) ?_; intro a hF
    refine s_val hF rfl rfl rfl (e_move hF rfl) ?_; intro a hF
    have hF := hF.topb (decide_eq_false c1)
    refine s_skip hF rfl rfl rfl ?_; intro a hF
    refine s_skip hF rfl rfl rfl ?_; intro a hF
    refine s_skip hF rfl rfl rfl ?_; intro a hF
    refine s_val hF rfl rfl rfl (e_pick_f hF rfl rfl) ?_; intro a hF
    refine s_val hF rfl rfl rfl (e_assign hF rfl) ?_; intro a hF
    refine s_nil ?_
    refine then_n ?_
    refine wp_ret ?_
    obtain rfl := some_some H
    refine s_ret [Value.bool false] hF Try.results54 ⟨rfl, trivial⟩ ?_
    exact ⟨_, rfl, hM.frm, rfl⟩

/-! ### loop.example/g01210/spec.l2Die: function 81 -/
def spec_l2Die.l0 (K : Nat) (a0 : (Ar 6)) : Nat → Int → Option (Sum Unit Bool)
  | 0, _ => none
  | k + 1, x14 => if x14 < 6 then (if (0 : Int) ≤ x14 ∧ x14 < 6 then ((spec_l1In.f K (a0.get x14) 0 30).bind fun t17 => if t17 = true then (if 0 < x14 then (if (0 : Int) ≤ (wrap64 (x14 - 1)) ∧ (wrap64 (x14 - 1)) < 6 then (if (a0.get x14) < (a0.get (wrap64 (x14 - 1))) then (some (Sum.inr false)) else (spec_l2Die.l0 K a0 k (wrap64 (x14 + 1)))) else none) else (spec_l2Die.l0 K a0 k (wrap64 (x14 + 1)))) else (some (Sum.inr false))) else none) else (some (Sum.inl ()))
def spec_l2Die.f (K : Nat) (a0 : (Ar 6)) : Option Bool := (spec_l2Die.l0 K a0 K 0).bind fun o23 => (match o23 with | .inl () => some true | .inr r25 => some r25)
set_option maxRecDepth 100000 in
set_option maxHeartbeats 4000000 in
theorem spec_l2Die.calls {w0 : World} (K : Nat) (a0 : (Ar 6)) (r : Bool) (H : spec_l2Die.f K a0 = some r) : Calls Try.prog 81 [ag [Pt.ar a0]].toArray w0 (Post w0 fun w v => v = Value.bool r) := by
  rw [spec_l2Die.f] at H
  refine s_start Try.func81 rfl Try.ntmps81 rfl ?_
  intro a hF
  have hM := Ms.start w0
  skip
  refine wp_seq ?_
  refine s_region ?_
  refine s_box (ps := [Pt.ar a0]) hF hM rfl rfl rfl rfl ?_; intro a w b1 hF hM
  refine s_val hF rfl rfl rfl (e_assign hF rfl) ?_; intro a hF
  refine s_nil ?_
  refine then_n ?_
  refine wp_seq ?_
  refine wp_seq ?_
  refine s_region ?_
  refine s_val hF rfl rfl rfl (e_assign hF rfl) ?_; intro a hF
  refine s_nil ?_
  refine then_n ?_
  refine wp_block ?_
  obtain ⟨o23, h24, H⟩ := bind_some H
  refine wp_mono (Q := fun e a w => (e = Exit.exit 0 ∧ Sum.inl () = o23 ∧ Fr 27 a [] ∧ Ms [] w0 w []) ∨ (e = Exit.ret ∧ ∃ r25 : Bool, Sum.inr r25 = o23 ∧ Fr 27 a [(2, Value.bool r25)] ∧ Ms [] w0 w [])) ?_ ?_
  · refine s_loop (fun kq a w => ∃ x14 : Int, spec_l2Die.l0 K a0 kq x14 = some o23 ∧ Fr 27 a [(1, pt b1 0), (3, Value.int .i64 x14)] ∧ Ms [] w0 w [boxR b1 [Pt.ar a0] 22]) K ⟨0, h24, hF.sub _ ⟨rfl, rfl, trivial⟩, hM.pick [0] rfl rfl⟩ ?_ ?_
    · rintro a w ⟨_, H, _⟩; exact none_some H
    · rintro k a w ⟨x14, H, hF, hM⟩; rw [spec_l2Die.l0] at H
      refine wp_seq ?_
      refine wp_seq ?_
      refine s_region ?_
      refine s_val hF rfl rfl rfl (e_move hF rfl) ?_; intro a hF
      refine s_val hF rfl rfl rfl (e_lss hF rfl rfl) ?_; intro a hF
      refine s_nil ?_
      refine then_n ?_
      rcases ite_cases H with ⟨c15, H⟩ | ⟨c15, H⟩
      ·
        refine s_cond_t hF rfl (decide_eq_true c15) ?_
        refine wp_skip ?_
        refine then_n ?_
        refine wp_seq ?_
        refine wp_block ?_
        refine wp_seq ?_
        obtain ⟨c16, H⟩ := ite_some H
        obtain ⟨t17, h18, H⟩ := bind_some H
        rcases ite_cases H with ⟨c19, H⟩ | ⟨c19, H⟩
        ·
          rcases ite_cases H with ⟨c20, H⟩ | ⟨c20, H⟩
          ·
            obtain ⟨c21, H⟩ := ite_some H
            refine s_held (fun w => Ms [] w0 w [boxR b1 [Pt.ar a0] 22]) #[false, false, false, false, false, false, false, false, false, false, false, false, false, false, false, false, false, false, false] mixed rfl rfl hM ?_; intro w hf hM; clear hf
            refine h_val 0 #[true, false, false, false, false, false, false, false, false, false, false, false, false, false, false, false, false, false, false] rfl (by kernel_rfl) hF rfl rfl rfl (fun w hS => e_move hF rfl) (hM.pick [0] rfl rfl) ?_; intro a hF
            refine h_val 1 #[true, true, false, false, false, false, false, false, false, false, false, false, false, false, false, false, false, false, false] rfl (by kernel_rfl) hF rfl rfl rfl (fun w hS => e_ia hF rfl rfl Try.underlying22 Try.sizeOf3 c16.1 c16.2) (hM.pick [0] rfl rfl) ?_; intro a hF
            refine h_val 2 #[true, true, true, false, false, false, false, false, false, false, false, false, false, false, false, false, false, false, false] rfl (by kernel_rfl) hF rfl rfl rfl (fun w hS => e_ldi (i := 0) (k := 0) hF hS rfl rfl rfl rfl rfl Try.isAgg3 c16.1 c16.2) (hM.pick [0] rfl rfl) ?_; intro a hF
            refine h_one 3 #[true, true, true, true, false, false, false, false, false, false, false, false, false, false, false, false, false, false, false] rfl (by kernel_rfl) ?_
            refine s_call hF rfl rfl rfl Try.call54 (spec_l1In.calls K (a0.get x14) 0 30 t17 h18) ?_; intro a w v hF hf hR
            subst hR; have hM := hM.grow hf
            refine s_nil ⟨rfl, (hM.pick [0] rfl rfl), ?_⟩
            refine h_val 4 #[true, true, true, true, true, false, false, false, false, false, false, false, false, false, false, false, false, false, false] rfl (by kernel_rfl) hF rfl rfl rfl (fun w hS => e_not hF rfl) (hM.pick [0] rfl rfl) ?_; intro a hF
            refine h_val 5 #[true, true, true, true, true, true, false, false, false, false, false, false, false, false, false, false, false, false, false] rfl (by kernel_rfl) hF rfl rfl rfl (fun w hS => e_move hF rfl) (hM.pick [0] rfl rfl) ?_; intro a hF
            have hF := hF.topb (congrArg Bool.not c19)
            refine h_val 6 #[true, true, true, true, true, true, true, false, false, false, false, false, false, false, false, false, false, false, false] rfl (by kernel_rfl) hF rfl rfl rfl (fun w hS => e_move hF rfl) (hM.pick [0] rfl rfl) ?_; intro a hF
            refine h_val 7 #[true, true, true, true, true, true, true, true, false, false, false, false, false, false, false, false, false, false, false] rfl (by kernel_rfl) hF rfl rfl rfl (fun w hS => e_gtr hF rfl rfl) (hM.pick [0] rfl rfl) ?_; intro a hF
            refine h_val 8 #[true, true, true, true, true, true, true, true, true, false, false, false, false, false, false, false, false, false, false] rfl (by kernel_rfl) hF rfl rfl rfl (fun w hS => e_move hF rfl) (hM.pick [0] rfl rfl) ?_; intro a hF
            have hF := hF.topb (decide_eq_true c20)
            refine h_val 9 #[true, true, true, true, true, true, true, true, true, true, false, false, false, false, false, false, false, false, false] rfl (by kernel_rfl) hF rfl rfl rfl (fun w hS => e_move hF rfl) (hM.pick [0] rfl rfl) ?_; intro a hF
            refine h_val 10 #[true, true, true, true, true, true, true, true, true, true, true, false, false, false, false, false, false, false, false] rfl (by kernel_rfl) hF rfl rfl rfl (fun w hS => e_ia hF rfl rfl Try.underlying22 Try.sizeOf3 c16.1 c16.2) (hM.pick [0] rfl rfl) ?_; intro a hF
            refine h_val 11 #[true, true, true, true, true, true, true, true, true, true, true, true, false, false, false, false, false, false, false] rfl (by kernel_rfl) hF rfl rfl rfl (fun w hS => e_ldi (i := 0) (k := 0) hF hS rfl rfl rfl rfl rfl Try.isAgg3 c16.1 c16.2) (hM.pick [0] rfl rfl) ?_; intro a hF
            refine h_val 12 #[true, true, true, true, true, true, true, true, true, true, true, true, true, false, false, false, false, false, false] rfl (by kernel_rfl) hF rfl rfl rfl (fun w hS => e_move hF rfl) (hM.pick [0] rfl rfl) ?_; intro a hF
            refine h_val 13 #[true, true, true, true, true, true, true, true, true, true, true, true, true, true, false, false, false, false, false] rfl (by kernel_rfl) hF rfl rfl rfl (fun w hS => e_sub hF rfl rfl) (hM.pick [0] rfl rfl) ?_; intro a hF
            refine h_val 14 #[true, true, true, true, true, true, true, true, true, true, true, true, true, true, true, false, false, false, false] rfl (by kernel_rfl) hF rfl rfl rfl (fun w hS => e_ia hF rfl rfl Try.underlying22 Try.sizeOf3 c21.1 c21.2) (hM.pick [0] rfl rfl) ?_; intro a hF
            refine h_val 15 #[true, true, true, true, true, true, true, true, true, true, true, true, true, true, true, true, false, false, false] rfl (by kernel_rfl) hF rfl rfl rfl (fun w hS => e_ldi (i := 0) (k := 0) hF hS rfl rfl rfl rfl rfl Try.isAgg3 c21.1 c21.2) (hM.pick [0] rfl rfl) ?_; intro a hF
            refine h_val 16 #[true, true, true, true, true, true, true, true, true, true, true, true, true, true, true, true, true, false, false] rfl (by kernel_rfl) hF rfl rfl rfl (fun w hS => e_lss hF rfl rfl) (hM.pick [0] rfl rfl) ?_; intro a hF
            refine h_val 17 #[true, true, true, true, true, true, true, true, true, true, true, true, true, true, true, true, true, true, false] rfl (by kernel_rfl) hF rfl rfl rfl (fun w hS => e_pick_t hF rfl rfl) (hM.pick [0] rfl rfl) ?_; intro a hF
            refine h_val 18 #[true, true, true, true, true, true, true, true, true, true, true, true, true, true, true, true, true, true, true] rfl (by kernel_rfl) hF rfl rfl rfl (fun w hS => e_pick_f hF rfl rfl) (hM.pick [0] rfl rfl) ?_; intro a hF
            refine h_done rfl ?_
            refine then_n ?_
            rcases ite_cases H with ⟨c22, H⟩ | ⟨c22, H⟩
            ·
              refine s_cond_t hF rfl (decide_eq_true c22) ?_
              refine wp_seq ?_
              refine s_region ?_
              refine s_val hF rfl rfl rfl (e_assign hF rfl) ?_; intro a hF
              refine s_nil ?_
              refine then_n ?_
              refine wp_ret ?_
              refine blk_r ?_
              refine then_r ?_
              refine then_r ?_
              exact Or.inr (⟨rfl, false, some_some H, hF.sub _ ⟨rfl, trivial⟩, hM.pick [] rfl rfl⟩)
            ·
              refine s_cond_f hF rfl (decide_eq_false c22) ?_
              refine wp_skip ?_
              refine blk_n ?_
              refine then_n ?_
              refine s_region ?_
              refine s_val hF rfl rfl rfl (e_move hF rfl) ?_; intro a hF
              refine s_val hF rfl rfl rfl (e_add hF rfl rfl) ?_; intro a hF
              refine s_val hF rfl rfl rfl (e_assign hF rfl) ?_; intro a hF
              refine s_nil ?_
              refine then_n ?_
              exact ⟨(wrap64 (x14 + 1)), H, hF.sub _ ⟨rfl, rfl, trivial⟩, hM.pick [0] rfl rfl⟩
          ·
            refine s_held (fun w => Ms [] w0 w [boxR b1 [Pt.ar a0] 22]) #[false, false, false, false, false, false, false, false, false, false, false, false, false, false, false, false, false, false, false] mixed rfl rfl hM ?_; intro w hf hM; clear hf
            refine h_val 0 #[true, false, false, false, false, false, false, false, false, false, false, false, false, false, false, false, false, false, false] rfl (by kernel_rfl) hF rfl rfl rfl (fun w hS => e_move hF rfl) (hM.pick [0] rfl rfl) ?_; intro a hF
            refine h_val 1 #[true, true, false, false, false, false, false, false, false, false, false, false, false, false, false, false, false, false, false] rfl (by kernel_rfl) hF rfl rfl rfl (fun w hS => e_ia hF rfl rfl Try.underlying22 Try.sizeOf3 c16.1 c16.2) (hM.pick [0] rfl rfl) ?_; intro a hF
            refine h_val 2 #[true, true, true, false, false, false, false, false, false, false, false, false, false, false, false, false, false, false, false] rfl (by kernel_rfl) hF rfl rfl rfl (fun w hS => e_ldi (i := 0) (k := 0) hF hS rfl rfl rfl rfl rfl Try.isAgg3 c16.1 c16.2) (hM.pick [0] rfl rfl) ?_; intro a hF
            refine h_one 3 #[true, true, true, true, false, false, false, false, false, false, false, false, false, false, false, false, false, false, false] rfl (by kernel_rfl) ?_
            refine s_call hF rfl rfl rfl Try.call54 (spec_l1In.calls K (a0.get x14) 0 30 t17 h18) ?_; intro a w v hF hf hR
            subst hR; have hM := hM.grow hf
            refine s_nil ⟨rfl, (hM.pick [0] rfl rfl), ?_⟩
            refine h_val 4 #[true, true, true, true, true, false, false, false, false, false, false, false, false, false, false, false, false, false, false] rfl (by kernel_rfl) hF rfl rfl rfl (fun w hS => e_not hF rfl) (hM.pick [0] rfl rfl) ?_; intro a hF
            refine h_val 5 #[true, true, true, true, true, true, false, false, false, false, false, false, false, false, false, false, false, false, false] rfl (by kernel_rfl) hF rfl rfl rfl (fun w hS => e_move hF rfl) (hM.pick [0] rfl rfl) ?_; intro a hF
            have hF := hF.topb (congrArg Bool.not c19)
            refine h_val 6 #[true, true, true, true, true, true, true, false, false, false, false, false, false, false, false, false, false, false, false] rfl (by kernel_rfl) hF rfl rfl rfl (fun w hS => e_move hF rfl) (hM.pick [0] rfl rfl) ?_; intro a hF
            refine h_val 7 #[true, true, true, true, true, true, true, true, false, false, false, false, false, false, false, false, false, false, false] rfl (by kernel_rfl) hF rfl rfl rfl (fun w hS => e_gtr hF rfl rfl) (hM.pick [0] rfl rfl) ?_; intro a hF
            refine h_val 8 #[true, true, true, true, true, true, true, true, true, false, false, false, false, false, false, false, false, false, false] rfl (by kernel_rfl) hF rfl rfl rfl (fun w hS => e_move hF rfl) (hM.pick [0] rfl rfl) ?_; intro a hF
            have hF := hF.topb (decide_eq_false c20)
            refine h_skip 9 #[true, true, true, true, true, true, true, true, true, true, false, false, false, false, false, false, false, false, false] rfl (by kernel_rfl) hF rfl rfl rfl (hM.pick [0] rfl rfl) ?_; intro a hF
            refine h_skip 10 #[true, true, true, true, true, true, true, true, true, true, true, false, false, false, false, false, false, false, false] rfl (by kernel_rfl) hF rfl rfl rfl (hM.pick [0] rfl rfl) ?_; intro a hF
            refine h_skip 11 #[true, true, true, true, true, true, true, true, true, true, true, true, false, false, false, false, false, false, false] rfl (by kernel_rfl) hF rfl rfl rfl (hM.pick [0] rfl rfl) ?_; intro a hF
            refine h_skip 12 #[true, true, true, true, true, true, true, true, true, true, true, true, true, false, false, false, false, false, false] rfl (by kernel_rfl) hF rfl rfl rfl (hM.pick [0] rfl rfl) ?_; intro a hF
            refine h_skip 13 #[true, true, true, true, true, true, true, true, true, true, true, true, true, true, false, false, false, false, false] rfl (by kernel_rfl) hF rfl rfl rfl (hM.pick [0] rfl rfl) ?_; intro a hF
            refine h_skip 14 #[true, true, true, true, true, true, true, true, true, true, true, true, true, true, true, false, false, false, false] rfl (by kernel_rfl) hF rfl rfl rfl (hM.pick [0] rfl rfl) ?_; intro a hF
            refine h_skip 15 #[true, true, true, true, true, true, true, true, true, true, true, true, true, true, true, true, false, false, false] rfl (by kernel_rfl) hF rfl rfl rfl (hM.pick [0] rfl rfl) ?_; intro a hF
            refine h_skip 16 #[true, true, true, true, true, true, true, true, true, true, true, true, true, true, true, true, true, false, false] rfl (by kernel_rfl) hF rfl rfl rfl (hM.pick [0] rfl rfl) ?_; intro a hF
            refine h_val 17 #[true, true, true, true, true, true, true, true, true, true, true, true, true, true, true, true, true, true, false] rfl (by kernel_rfl) hF rfl rfl rfl (fun w hS => e_pick_f hF rfl rfl) (hM.pick [0] rfl rfl) ?_; intro a hF
            refine h_val 18 #[true, true, true, true, true, true, true, true, true, true, true, true, true, true, true, true, true, true, true] rfl (by kernel_rfl) hF rfl rfl rfl (fun w hS => e_pick_f hF rfl rfl) (hM.pick [0] rfl rfl) ?_; intro a hF
            refine h_done rfl ?_
            refine then_n ?_
            refine s_cond_f hF rfl rfl ?_
            refine wp_skip ?_
            refine blk_n ?_
            refine then_n ?_
            refine s_region ?_
            refine s_val hF rfl rfl rfl (e_move hF rfl) ?_; intro a hF
            refine s_val hF rfl rfl rfl (e_add hF rfl rfl) ?_; intro a hF
            refine s_val hF rfl rfl rfl (e_assign hF rfl) ?_; intro a hF
            refine s_nil ?_
            refine then_n ?_
            exact ⟨(wrap64 (x14 + 1)), H, hF.sub _ ⟨rfl, rfl, trivial⟩, hM.pick [0] rfl rfl⟩
        ·
          refine s_held (fun w => Ms [] w0 w [boxR b1 [Pt.ar a0] 22]) #[false, false, false, false, false, false, false, false, false, false, false, false, false, false, false, false, false, false, false] mixed rfl rfl hM ?_; intro w hf hM; clear hf
          refine h_val 0 #[true, false, false, false, false, false, false, false, false, false, false, false, false, false, false, false, false, false, false] rfl (by kernel_rfl) hF rfl rfl rfl (fun w hS => e_move hF rfl) (hM.pick [0] rfl rfl) ?_; intro a hF
          refine h_val 1 #[true, true, false, false, false, false, false, false, false, false, false, false, false, false, false, false, false, false, false] rfl (by kernel_rfl) hF rfl rfl rfl (fun w hS => e_ia hF rfl rfl Try.underlying22 Try.sizeOf3 c16.1 c16.2) (hM.pick [0] rfl rfl) ?_; intro a hF
          refine h_val 2 #[true, true, true, false, false, false, false, false, false, false, false, false, false, false, false, false, false, false, false] rfl (by kernel_rfl) hF rfl rfl rfl (fun w hS => e_ldi (i := 0) (k := 0) hF hS rfl rfl rfl rfl rfl Try.isAgg3 c16.1 c16.2) (hM.pick [0] rfl rfl) ?_; intro a hF
          refine h_one 3 #[true, true, true, true, false, false, false, false, false, false, false, false, false, false, false, false, false, false, false] rfl (by kernel_rfl) ?_
          refine s_call hF rfl rfl rfl Try.call54 (spec_l1In.calls K (a0.get x14) 0 30 t17 h18) ?_; intro a w v hF hf hR
          subst hR; have hM := hM.grow hf
          refine s_nil ⟨rfl, (hM.pick [0] rfl rfl), ?_⟩
          refine h_val 4 #[true, true, true, true, true, false, false, false, false, false, false, false, false, false, false, false, false, false, false] rfl (by kernel_rfl) hF rfl rfl rfl (fun w hS => e_not hF rfl) (hM.pick [0] rfl rfl) ?_; intro a hF
          refine h_val 5 #[true, true, true, true, true, true, false, false, false, false, false, false, false, false, false, false, false, false, false] rfl (by kernel_rfl) hF rfl rfl rfl (fun w hS => e_move hF rfl) (hM.pick [0] rfl rfl) ?_; intro a hF
          have hF := hF.topb (congrArg Bool.not (bf c19))
          refine h_skip 6 #[true, true, true, true, true, true, true, false, false, false, false, false, false, false, false, false, false, false, false] rfl (by kernel_rfl) hF rfl rfl rfl (hM.pick [0] rfl rfl) ?_; intro a hF
          refine h_skip 7 #[true, true, true, true, true, true, true, true, false, false, false, false, false, false, false, false, false, false, false] rfl (by kernel_rfl) hF rfl rfl rfl (hM.pick [0] rfl rfl) ?_; intro a hF
          refine h_skip 8 #[true, true, true, true, true, true, true, true, true, false, false, false, false, false, false, false, false, false, false] rfl (by kernel_rfl) hF rfl rfl rfl (hM.pick [0] rfl rfl) ?_; intro a hF
          refine h_skip 9 #[true, true, true, true, true, true, true, true, true, true, false, false, false, false, false, false, false, false, false] rfl (by kernel_rfl) hF rfl rfl rfl (hM.pick [0] rfl rfl) ?_; intro a hF
          refine h_skip 10 #[true, true, true, true, true, true, true, true, true, true, true, false, false, false, false, false, false, false, false] rfl (by kernel_rfl) hF rfl rfl rfl (hM.pick [0] rfl rfl) ?_; intro a hF
          refine h_skip 11 #[true, true, true, true, true, true, true, true, true, true, true, true, false, false, false, false, false, false, false] rfl (by kernel_rfl) hF rfl rfl rfl (hM.pick [0] rfl rfl) ?_; intro a hF
          refine h_skip 12 #[true, true, true, true, true, true, true, true, true, true, true, true, true, false, false, false, false, false, false] rfl (by kernel_rfl) hF rfl rfl rfl (hM.pick [0] rfl rfl) ?_; intro a hF
          refine h_skip 13 #[true, true, true, true, true, true, true, true, true, true, true, true, true, true, false, false, false, false, false] rfl (by kernel_rfl) hF rfl rfl rfl (hM.pick [0] rfl rfl) ?_; intro a hF
          refine h_skip 14 #[true, true, true, true, true, true, true, true, true, true, true, true, true, true, true, false, false, false, false] rfl (by kernel_rfl) hF rfl rfl rfl (hM.pick [0] rfl rfl) ?_; intro a hF
          refine h_skip 15 #[true, true, true, true, true, true, true, true, true, true, true, true, true, true, true, true, false, false, false] rfl (by kernel_rfl) hF rfl rfl rfl (hM.pick [0] rfl rfl) ?_; intro a hF
          refine h_skip 16 #[true, true, true, true, true, true, true, true, true, true, true, true, true, true, true, true, true, false, false] rfl (by kernel_rfl) hF rfl rfl rfl (hM.pick [0] rfl rfl) ?_; intro a hF
          refine h_skip 17 #[true, true, true, true, true, true, true, true, true, true, true, true, true, true, true, true, true, true, false] rfl (by kernel_rfl) hF rfl rfl rfl (hM.pick [0] rfl rfl) ?_; intro a hF
          refine h_val 18 #[true, true, true, true, true, true, true, true, true, true, true, true, true, true, true, true, true, true, true] rfl (by kernel_rfl) hF rfl rfl rfl (fun w hS => e_pick_t hF rfl rfl) (hM.pick [0] rfl rfl) ?_; intro a hF
          refine h_done rfl ?_
          refine then_n ?_
          refine s_cond_t hF rfl rfl ?_
          refine wp_seq ?_
          refine s_region ?_
          refine s_val hF rfl rfl rfl (e_assign hF rfl) ?_; intro a hF
          refine s_nil ?_
          refine then_n ?_
          refine wp_ret ?_
          refine blk_r ?_
          refine then_r ?_
          refine then_r ?_
          exact Or.inr (⟨rfl, false, some_some H, hF.sub _ ⟨rfl, trivial⟩, hM.pick [] rfl rfl⟩)
      ·
        refine s_cond_f hF rfl (decide_eq_false c15) ?_
        refine wp_exit ?_
        refine then_x ?_
        refine then_x ?_
        exact Or.inl (⟨rfl, some_some H, hF.sub _ trivial, hM.pick [] rfl rfl⟩)
  · rintro e a w (⟨rfl, rfl, hF, hM⟩ | ⟨rfl, r25, rfl, hF, hM⟩)
    ·
      dsimp only at H
      refine blk_x ?_
      refine then_n ?_
      refine wp_seq ?_
      refine s_region ?_
      refine s_val hF rfl rfl rfl (e_assign hF rfl) ?_; intro a hF
      refine s_nil ?_
      refine then_n ?_
      refine wp_ret ?_
      obtain rfl := some_some H
      refine s_ret [Value.bool true] hF Try.results81 ⟨rfl, trivial⟩ ?_
      exact ⟨_, rfl, hM.frm, rfl⟩
    ·
      dsimp only at H
      refine blk_r ?_
      refine then_r ?_
      obtain rfl := some_some H
      refine s_ret [Value.bool r25] hF Try.results81 ⟨rfl, trivial⟩ ?_
      exact ⟨_, rfl, hM.frm, rfl⟩

/-! ### loop.example/g01210/spec.l3Row: function 77 -/
def spec_l3Row.l0 (K : Nat) (l0 : (List (Ar 6))) : Nat → Int → Option (Sum Unit Bool)
  | 0, _ => none
  | k + 1, x13 => if x13 < (l0.length : Int) then (if x13 ≤ 6 then (if (0 : Int) ≤ x13 ∧ x13 < (l0.length : Int) then ((spec_l2Die.f K (l0.getD (x13 : Int).toNat (Ar.zero 6))).bind fun t17 => if t17 = true then (spec_l3Row.l0 K l0 k (wrap64 (x13 + 1))) else (some (Sum.inr false))) else none) else (some (Sum.inl ()))) else (some (Sum.inl ()))
def spec_l3Row.f (K : Nat) (l0 : (List (Ar 6))) : Option Bool := (spec_l3Row.l0 K l0 K 0).bind fun o20 => (match o20 with | .inl () => (spec_l1In.f K (l0.length : Int) 1 6).bind fun t23 => some t23 | .inr r22 => some r22)
set_option maxRecDepth 100000 in
set_option maxHeartbeats 4000000 in
theorem spec_l3Row.calls {w0 : World} (K : Nat) (l0 : (List (Ar 6))) (u0 : Value) (q0 : SlR cd22 w0 u0 l0) (r : Bool) (H : spec_l3Row.f K l0 = some r) : Calls Try.prog 77 [u0].toArray w0 (Post w0 fun w v => v = Value.bool r) := by
  rw [spec_l3Row.f] at H
  refine s_start Try.func77 rfl Try.ntmps77 rfl ?_
  intro a hF
  have hM := Ms.start w0
  skip
  refine wp_seq ?_
  refine s_region ?_
  refine s_val hF rfl rfl rfl (e_assign hF rfl) ?_; intro a hF
  refine s_nil ?_
  refine then_n ?_
  refine wp_seq ?_
  refine wp_seq ?_
  refine s_region ?_
  refine s_val hF rfl rfl rfl (e_assign hF rfl) ?_; intro a hF
  refine s_nil ?_
  refine then_n ?_
  refine wp_block ?_
  obtain ⟨o20, h21, H⟩ := bind_some H
  refine wp_mono (Q := fun e a w => (e = Exit.exit 0 ∧ Sum.inl () = o20 ∧ Fr 23 a [(0, u0)] ∧ Ms [] w0 w []) ∨ (e = Exit.ret ∧ ∃ r22 : Bool, Sum.inr r22 = o20 ∧ Fr 23 a [(2, Value.bool r22)] ∧ Ms [] w0 w [])) ?_ ?_
  · refine s_loop (fun kq a w => ∃ x13 : Int, spec_l3Row.l0 K l0 kq x13 = some o20 ∧ Fr 23 a [(0, u0), (3, Value.int .i64 x13)] ∧ Ms [] w0 w []) K ⟨0, h21, hF.sub _ ⟨rfl, rfl, trivial⟩, hM.pick [] rfl rfl⟩ ?_ ?_
    · rintro a w ⟨_, H, _⟩; exact none_some H
    · rintro k a w ⟨x13, H, hF, hM⟩; rw [spec_l3Row.l0] at H
      refine wp_seq ?_
      refine wp_seq ?_
      rcases ite_cases H with ⟨c14, H⟩ | ⟨c14, H⟩
      ·
        refine s_region ?_
        refine s_val hF rfl rfl rfl (e_move hF rfl) ?_; intro a hF
        refine s_val hF rfl rfl rfl (e_move hF rfl) ?_; intro a hF
        refine s_val hF rfl rfl rfl (e_len hF rfl (q0.frm hM.frm).toF Try.underlying54) ?_; intro a hF
        refine s_val hF rfl rfl rfl (e_lss hF rfl rfl) ?_; intro a hF
        refine s_val hF rfl rfl rfl (e_move hF rfl) ?_; intro a hF
        have hF := hF.topb (decide_eq_true c14)
        refine s_val hF rfl rfl rfl (e_move hF rfl) ?_; intro a hF
        refine s_val hF rfl rfl rfl (e_leq hF rfl rfl) ?_; intro a hF
        refine s_val hF rfl rfl rfl (e_pick_t hF rfl rfl) ?_; intro a hF
        refine s_nil ?_
        refine then_n ?_
        rcases ite_cases H with ⟨c15, H⟩ | ⟨c15, H⟩
        ·
          refine s_cond_t hF rfl (decide_eq_true c15) ?_
          refine wp_skip ?_
          refine then_n ?_
          refine wp_seq ?_
          refine wp_block ?_
          refine wp_seq ?_
          obtain ⟨c16, H⟩ := ite_some H
          obtain ⟨t17, h18, H⟩ := bind_some H
          refine s_region ?_
          refine s_val hF rfl rfl rfl (e_move hF rfl) ?_; intro a hF
          refine s_val hF rfl rfl rfl (e_move hF rfl) ?_; intro a hF
          refine s_val hF rfl rfl rfl (e_ias cd22 hF rfl rfl (q0.frm hM.frm).toF Try.underlying54 Try.sizeOf22 c16.1 c16.2) ?_; intro a hF
          refine s_val hF rfl rfl rfl (e_ldsa (m := x13) hF rfl (q0.frm hM.frm) (getD_some (z := (Ar.zero 6)) c16.1 c16.2) Try.isAgg22 Try.sizeOf22) ?_; intro a hF
          refine s_call hF rfl rfl rfl Try.call81 (spec_l2Die.calls K (l0.getD (x13 : Int).toNat (Ar.zero 6)) t17 h18) ?_; intro a w v hF hf hR
          subst hR; have hM := hM.grow hf
          refine s_val hF rfl rfl rfl (e_not hF rfl) ?_; intro a hF
          refine s_nil ?_
          refine then_n ?_
          rcases ite_cases H with ⟨c19, H⟩ | ⟨c19, H⟩
          ·
            refine s_cond_f hF rfl (congrArg Bool.not c19) ?_
            refine wp_skip ?_
            refine blk_n ?_
            refine then_n ?_
            refine s_region ?_
            refine s_val hF rfl rfl rfl (e_move hF rfl) ?_; intro a hF
            refine s_val hF rfl rfl rfl (e_add hF rfl rfl) ?_; intro a hF
            refine s_val hF rfl rfl rfl (e_assign hF rfl) ?_; intro a hF
            refine s_nil ?_
            refine then_n ?_
            exact ⟨(wrap64 (x13 + 1)), H, hF.sub _ ⟨rfl, rfl, trivial⟩, hM.pick [] rfl rfl⟩
          ·
            refine s_cond_t hF rfl (congrArg Bool.not (bf c19)) ?_
            refine wp_seq ?_
            refine s_region ?_
            refine s_val hF rfl rfl rfl (e_assign hF rfl) ?_; intro a hF
            refine s_nil ?_
            refine then_n ?_
            refine wp_ret ?_
            refine blk_r ?_
            refine then_r ?_
            refine then_r ?_
            exact Or.inr (⟨rfl, false, some_some H, hF.sub _ ⟨rfl, trivial⟩, hM.pick [] rfl rfl⟩)
        ·
          refine s_cond_f hF rfl (decide_eq_false c15) ?_
          refine wp_exit ?_
          refine then_x ?_
          refine then_x ?_
          exact Or.inl (⟨rfl, some_some H, hF.sub _ ⟨rfl, trivial⟩, hM.pick [] rfl rfl⟩)
      ·
        refine s_region ?_
        refine s_val hF rfl rfl rfl (e_move hF rfl) ?_; intro a hF
        refine s_val hF rfl rfl rfl (e_move hF rfl) ?_; intro a hF
        refine s_val hF rfl rfl rfl (e_len hF rfl (q0.frm hM.frm).toF Try.underlying54) ?_; intro a hF
        refine s_val hF rfl rfl rfl (e_lss hF rfl rfl) ?_; intro a hF
        refine s_val hF rfl rfl rfl (e_move hF rfl) ?_; intro a hF
        have hF := hF.topb (decide_eq_false c14)
        refine s_skip hF rfl rfl rfl ?_; intro a hF
        refine s_skip hF rfl rfl rfl ?_; intro a hF
        refine s_val hF rfl rfl rfl (e_pick_f hF rfl rfl) ?_; intro a hF
        refine s_nil ?_
        refine then_n ?_
        refine s_cond_f hF rfl rfl ?_
        refine wp_exit ?_
        refine then_x ?_
        refine then_x ?_
        exact Or.inl (⟨rfl, some_some H, hF.sub _ ⟨rfl, trivial⟩, hM.pick [] rfl rfl⟩)
  · rintro e a w (⟨rfl, rfl, hF, hM⟩ | ⟨rfl, r22, rfl, hF, hM⟩)
    ·
      dsimp only at H
      refine blk_x ?_
      refine then_n ?_
      refine wp_seq ?_
      obtain ⟨t23, h24, H⟩ := bind_some H
      refine s_region ?_
      refine s_val hF rfl rfl rfl (e_move hF rfl) ?_; intro a hF
      refine s_val hF rfl rfl rfl (e_len hF rfl (q0.frm hM.frm).toF Try.underlying54) ?_; intro a hF
      refine s_call hF rfl rfl rfl Try.call54 (spec_l1In.calls K (l0.length : Int) 1 6 t23 h24) ?_; intro a w v hF hf hR
      subst hR; have hM := hM.grow hf
      refine s_val hF rfl rfl rfl (e_assign hF rfl) ?_; intro a hF
      refine s_nil ?_
      refine then_n ?_
      refine wp_ret ?_
      obtain rfl := some_some H
      refine s_ret [Value.bool t23] hF Try.results77 ⟨rfl, trivial⟩ ?_
      exact ⟨_, rfl, hM.frm, rfl⟩
    ·
      dsimp only at H
      refine blk_r ?_
      refine then_r ?_
      obtain rfl := some_some H
      refine s_ret [Value.bool r22] hF Try.results77 ⟨rfl, trivial⟩ ?_
      exact ⟨_, rfl, hM.frm, rfl⟩

/-! ### loop.example/g01210/spec.l7Goal: function 53 -/
def spec_l7Goal.f (K : Nat) (a0 : Int) : Option Bool := (spec_l1In.f K a0 1 8).bind fun t1 => some t1
set_option maxRecDepth 100000 in
set_option maxHeartbeats 4000000 in
theorem spec_l7Goal.calls {w0 : World} (K : Nat) (a0 : Int) (r : Bool) (H : spec_l7Goal.f K a0 = some r) : Calls Try.prog 53 [Value.int .i64 a0].toArray w0 (Post w0 fun w v => v = Value.bool r) := by
  rw [spec_l7Goal.f] at H
  refine s_start Try.func53 rfl Try.ntmps53 rfl ?_
  intro a hF
  have hM := Ms.start w0
  skip
  refine wp_seq ?_
  refine s_region ?_
  refine s_val hF rfl rfl rfl (e_assign hF rfl) ?_; intro a hF
  refine s_nil ?_
  refine then_n ?_
  refine wp_seq ?_
  obtain ⟨t1, h2, H⟩ := bind_some H
  refine s_region ?_
  refine s_val hF rfl rfl rfl (e_move hF rfl) ?_; intro a hF
  refine s_call hF rfl rfl rfl Try.call54 (spec_l1In.calls K a0 1 8 t1 h2) ?_; intro a w v hF hf hR
  subst hR; have hM := hM.grow hf
  refine s_val hF rfl rfl rfl (e_assign hF rfl) ?_; intro a hF
  refine s_nil ?_
  refine then_n ?_
  refine wp_ret ?_
  obtain rfl := some_some H
  refine s_ret [Value.bool t1] hF Try.results53 ⟨rfl, trivial⟩ ?_
  exact ⟨_, rfl, hM.frm, rfl⟩

/-! ### loop.example/g01210/spec.l7Die: function 52 -/
def spec_l7Die.f (K : Nat) (a0 : (Ar 6)) : Option Bool := (spec_l2Die.f K a0).bind fun t2 => if t2 = true then (some (decide (0 < (a0.get 0)))) else (some false)
set_option maxRecDepth 100000 in
set_option maxHeartbeats 4000000 in
theorem spec_l7Die.calls {w0 : World} (K : Nat) (a0 : (Ar 6)) (r : Bool) (H : spec_l7Die.f K a0 = some r) : Calls Try.prog 52 [ag [Pt.ar a0]].toArray w0 (Post w0 fun w v => v = Value.bool r) := by
  rw [spec_l7Die.f] at H
  refine s_start Try.func52 rfl Try.ntmps52 rfl ?_
  intro a hF
  have hM := Ms.start w0
  skip
  refine wp_seq ?_
  refine s_region ?_
  refine s_box (ps := [Pt.ar a0]) hF hM rfl rfl rfl rfl ?_; intro a w b1 hF hM
  refine s_val hF rfl rfl rfl (e_assign hF rfl) ?_; intro a hF
  refine s_nil ?_
  refine then_n ?_
  refine wp_seq ?_
  obtain ⟨t2, h3, H⟩ := bind_some H
  rcases ite_cases H with ⟨c4, H⟩ | ⟨c4, H⟩
  ·
    refine s_region ?_
    refine s_val hF rfl rfl rfl (e_lda (i := 0) 0 1 hF hM rfl rfl rfl rfl Try.isAgg22 Try.sizeOf22 rfl) ?_; intro a hF
    refine s_call hF rfl rfl rfl Try.call81 (spec_l2Die.calls K a0 t2 h3) ?_; intro a w v hF hf hR
    subst hR; have hM := hM.grow hf
    refine s_val hF rfl rfl rfl (e_move hF rfl) ?_; intro a hF
    have hF := hF.topb c4
    refine s_val hF rfl rfl rfl (e_ia hF rfl rfl Try.underlying22 Try.sizeOf3 (by decide) (by decide)) ?_; intro a hF
    refine s_val hF rfl rfl rfl (e_ldi (i := 0) (k := 0) hF hM rfl rfl rfl rfl rfl Try.isAgg3 (by decide) (by decide)) ?_; intro a hF
    refine s_val hF rfl rfl rfl (e_gtr hF rfl rfl) ?_; intro a hF
    refine s_val hF rfl rfl rfl (e_pick_t hF rfl rfl) ?_; intro a hF
    refine s_val hF rfl rfl rfl (e_assign hF rfl) ?_; intro a hF
    refine s_nil ?_
    refine then_n ?_
    refine wp_ret ?_
    obtain rfl := some_some H
    refine s_ret [Value.bool (decide (0 < (a0.get 0)))] hF Try.results52 ⟨rfl, trivial⟩ ?_
    exact ⟨_, rfl, hM.frm, rfl⟩
  ·
    refine s_region ?_
    refine s_val hF rfl rfl rfl (e_lda (i := 0) 0 1 hF hM rfl rfl rfl rfl Try.isAgg22 Try.sizeOf22 rfl) ?_; intro a hF
    refine s_call hF rfl rfl rfl Try.call81 (spec_l2Die.calls K a0 t2 h3) ?_; intro a w v hF hf hR
    subst hR; have hM := hM.grow hf
    refine s_val hF rfl rfl rfl (e_move hF rfl) ?_; intro a hF
    have hF := hF.topb (bf c4)
    refine s_skip hF rfl rfl rfl ?_; intro a hF
    refine s_skip hF rfl rfl rfl ?_; intro a hF
    refine s_skip hF rfl rfl rfl ?_; intro a hF
    refine s_val hF rfl rfl rfl (e_pick_f hF rfl rfl) ?_; intro a hF
    refine s_val hF rfl rfl rfl (e_assign hF rfl) ?_; intro a hF
    refine s_nil ?_
    refine then_n ?_
    refine wp_ret ?_
    obtain rfl := some_some H
    refine s_ret [Value.bool false] hF Try.results52 ⟨rfl, trivial⟩ ?_
    exact ⟨_, rfl, hM.frm, rfl⟩

/-! ### loop.example/g01210/spec.l7Run: function 75 -/
def spec_l7Run.l12 (K : Nat) (a0 : (Ar 6)) (a1 : Int) (x207 : (List Int)) (x272 : Int) : Nat → Int → Int → (List Int) → Option (Int × (List Int))
  | 0, _, _, _ => none
  | k + 1, x290, x291, x292 => if x291 < 6 then (if (0 : Int) ≤ x291 ∧ x291 < 6 then (if (wrap64 (x272 + (a0.get x291))) < a1 then (if (0 : Int) ≤ (wrap64 (x272 + (a0.get x291))) ∧ (wrap64 (x272 + (a0.get x291))) < (x292.length : Int) then (if (0 : Int) ≤ x272 ∧ x272 < (x207.length : Int) then (spec_l7Run.l12 K a0 a1 x207 x272 k x290 (wrap64 (x291 + 1)) (x292.set ((wrap64 (x272 + (a0.get x291))) : Int).toNat (wrap64 ((x292.getD ((wrap64 (x272 + (a0.get x291))) : Int).toNat (0 : Int)) + (x207.getD (x272 : Int).toNat (0 : Int)))))) else none) else none) else (if (0 : Int) ≤ x272 ∧ x272 < (x207.length : Int) then (spec_l7Run.l12 K a0 a1 x207 x272 k (wrap64 (x290 + (x207.getD (x272 : Int).toNat (0 : Int)))) (wrap64 (x291 + 1)) x292) else none)) else none) else (some (x290, x292))
def spec_l7Run.l11 (K : Nat) (a0 : (Ar 6)) (a1 : Int) (x207 : (List Int)) : Nat → Int → Int → (List Int) → Option (Int × (List Int))
  | 0, _, _, _ => none
  | k + 1, x271, x272, x273 => if x272 < a1 then ((spec_l7Run.l12 K a0 a1 x207 x272 K x271 0 x273).bind fun (x288, x289) => spec_l7Run.l11 K a0 a1 x207 k x288 (wrap64 (x272 + 1)) x289) else (some (x271, x273))
def spec_l7Run.l8 (K : Nat) (a0 : (Ar 6)) (a1 : Int) : Nat → Int → (List Int) → (List Int) → Option (List Int)
  | 0, _, _, _ => none
  | k + 1, x205, x207, x209 => if x205 ≤ a1 then ((spec_l7Run.l11 K a0 a1 x207 K 0 0 (List.replicate a1.toNat (0 : Int))).bind fun (x269, x270) => if x209.length + [x269].length ≤ 1073741824 then (spec_l7Run.l8 K a0 a1 k (wrap64 (x205 + 1)) x270 (x209 ++ [x269])) else none) else (some x209)
def spec_l7Run.f (K : Nat) (a0 : (Ar 6)) (a1 : Int) : Option (List Int) := if (0 : Int) ≤ a1 ∧ a1 ≤ 1073741824 then (if (0 : Int) ≤ 0 ∧ 0 < ((List.replicate a1.toNat (0 : Int)).length : Int) then ((spec_l7Run.l8 K a0 a1 K 1 ((List.replicate a1.toNat (0 : Int)).set (0 : Int).toNat 1) [0]).bind fun x204 => some x204) else none) else none
set_option maxRecDepth 100000 in
set_option maxHeartbeats 4000000 in
theorem spec_l7Run.calls {w0 : World} (K : Nat) (a0 : (Ar 6)) (a1 : Int) (r : (List Int)) (H : spec_l7Run.f K a0 a1 = some r) : Calls Try.prog 75 [ag [Pt.ar a0], Value.int .i64 a1].toArray w0 (Post w0 fun w v => Fresh cd3 w0.heap.size w v r) := by
  rw [spec_l7Run.f] at H
  refine s_start Try.func75 rfl Try.ntmps75 rfl ?_
  intro a hF
  have hM := Ms.start w0
  skip
  refine wp_seq ?_
  refine s_region ?_
  refine s_box (ps := [Pt.ar a0]) hF hM rfl rfl rfl rfl ?_; intro a w b1 hF hM
  refine s_val hF rfl rfl rfl (e_assign hF rfl) ?_; intro a hF
  refine s_nil ?_
  refine then_n ?_
  refine wp_seq ?_
  obtain ⟨c3, H⟩ := ite_some H
  refine s_region ?_
  refine s_val hF rfl rfl rfl (e_move hF rfl) ?_; intro a hF
  refine s_make (C := cd3) cdok3 hF hM rfl rfl rfl rfl Try.underlying23 c3.1 c3.2 ?_; intro a w v2 hF hM
  refine s_bsl (C := cd3) [0] cdok3 hF hM rfl rfl rfl rfl Try.underlying23 rfl ?_; intro a w v4 hF hM
  refine s_val hF rfl rfl rfl (e_assign hF rfl) ?_; intro a hF
  refine s_val hF rfl rfl rfl (e_assign hF rfl) ?_; intro a hF
  refine s_nil ?_
  refine then_n ?_
  refine wp_seq ?_
  obtain ⟨c5, H⟩ := ite_some H
  refine s_region ?_
  refine s_val hF rfl rfl rfl (e_move hF rfl) ?_; intro a hF
  refine s_val hF rfl rfl rfl (e_ias cd3 hF rfl rfl (hM.sl 1 rfl).toF Try.underlying23 Try.sizeOf3 c5.1 c5.2) ?_; intro a hF
  refine s_sts (i := 1) 1 hF hM rfl rfl rfl rfl rfl c5.1 c5.2 Try.sizeOf3 ?_; intro a w hF hM
  refine s_nil ?_
  refine then_n ?_
  refine wp_seq ?_
  refine wp_seq ?_
  refine s_region ?_
  refine s_val hF rfl rfl rfl (e_assign hF rfl) ?_; intro a hF
  refine s_nil ?_
  refine then_n ?_
  refine wp_block ?_
  obtain ⟨o309, h310, H⟩ := bind_some H
  refine wp_mono (Q := fun e a w => (e = Exit.exit 0 ∧ ∃ v203 : Value, ∃ x204 : (List Int), x204 = o309 ∧ Fr 72 a [(6, v203)] ∧ Ms [] w0 w [rowR cd3 v203 x204])) ?_ ?_
  · refine s_loop (fun kq a w => ∃ v206 : Value, ∃ v208 : Value, ∃ x205 : Int, ∃ x207 : (List Int), ∃ x209 : (List Int), spec_l7Run.l8 K a0 a1 kq x205 x207 x209 = some o309 ∧ Fr 72 a [(1, Value.int .i64 a1), (2, pt b1 0), (5, v206), (6, v208), (7, Value.int .i64 x205)] ∧ Ms [] w0 w [boxR b1 [Pt.ar a0] 22, rowR cd3 v206 x207, rowR cd3 v208 x209]) K ⟨v2, v4, 1, ((List.replicate a1.toNat (0 : Int)).set (0 : Int).toNat 1), [0], h310, hF.sub _ ⟨rfl, rfl, rfl, rfl, rfl, trivial⟩, hM.pick [2, 1, 0] rfl rfl⟩ ?_ ?_
    · rintro a w ⟨_, _, _, _, _, H, _⟩; exact none_some H
    · rintro k a w ⟨v206, v208, x205, x207, x209, H, hF, hM⟩; rw [spec_l7Run.l8] at H
      refine wp_seq ?_
      refine wp_seq ?_
      refine s_region ?_
      refine s_val hF rfl rfl rfl (e_move hF rfl) ?_; intro a hF
      refine s_val hF rfl rfl rfl (e_move hF rfl) ?_; intro a hF
      refine s_val hF rfl rfl rfl (e_leq hF rfl rfl) ?_; intro a hF
      refine s_nil ?_
      refine then_n ?_
      rcases ite_cases H with ⟨c210, H⟩ | ⟨c210, H⟩
      ·
        refine s_cond_t hF rfl (decide_eq_true c210) ?_
        refine wp_skip ?_
        refine then_n ?_
        refine wp_seq ?_
        refine wp_block ?_
        refine wp_seq ?_
        refine s_region ?_
        refine s_val hF rfl rfl rfl (e_move hF rfl) ?_; intro a hF
        refine s_make (C := cd3) cdok3 hF hM rfl rfl rfl rfl Try.underlying23 c3.1 c3.2 ?_; intro a w v211 hF hM
        refine s_val hF rfl rfl rfl (e_assign hF rfl) ?_; intro a hF
        refine s_val hF rfl rfl rfl (e_assign hF rfl) ?_; intro a hF
        refine s_nil ?_
        refine then_n ?_
        refine wp_seq ?_
        refine wp_seq ?_
        refine s_region ?_
        refine s_val hF rfl rfl rfl (e_assign hF rfl) ?_; intro a hF
        refine s_nil ?_
        refine then_n ?_
        refine wp_block ?_
        obtain ⟨o304, h305, H⟩ := bind_some H
        refine wp_mono (Q := fun e a w => (e = Exit.exit 2 ∧ ∃ x269 : Int, ∃ x270 : (List Int), (x269, x270) = o304 ∧ Fr 72 a [(1, Value.int .i64 a1), (2, pt b1 0), (6, v208), (7, Value.int .i64 x205), (8, v211), (9, Value.int .i64 x269)] ∧ Ms [] w0 w [boxR b1 [Pt.ar a0] 22, rowR cd3 v208 x209, rowR cd3 v211 x270])) ?_ ?_
        · refine s_loop (fun kq a w => ∃ x271 : Int, ∃ x272 : Int, ∃ x273 : (List Int), spec_l7Run.l11 K a0 a1 x207 kq x271 x272 x273 = some o304 ∧ Fr 72 a [(1, Value.int .i64 a1), (2, pt b1 0), (5, v206), (6, v208), (7, Value.int .i64 x205), (8, v211), (9, Value.int .i64 x271), (10, Value.int .i64 x272)] ∧ Ms [] w0 w [boxR b1 [Pt.ar a0] 22, rowR cd3 v206 x207, rowR cd3 v208 x209, rowR cd3 v211 x273]) K ⟨0, 0, (List.replicate a1.toNat (0 : Int)), h305, hF.sub _ ⟨rfl, rfl, rfl, rfl, rfl, rfl, rfl, rfl, trivial⟩, hM.pick [1, 2, 3, 0] rfl rfl⟩ ?_ ?_
          · rintro a w ⟨_, _, _, H, _⟩; exact none_some H
          · rintro k a w ⟨x271, x272, x273, H, hF, hM⟩; rw [spec_l7Run.l11] at H
            refine wp_seq ?_
            refine wp_seq ?_
            refine s_region ?_
            refine s_val hF rfl rfl rfl (e_move hF rfl) ?_; intro a hF
            refine s_val hF rfl rfl rfl (e_move hF rfl) ?_; intro a hF
            refine s_val hF rfl rfl rfl (e_lss hF rfl rfl) ?_; intro a hF
            refine s_nil ?_
            refine then_n ?_
            rcases ite_cases H with ⟨c274, H⟩ | ⟨c274, H⟩
            ·
              refine s_cond_t hF rfl (decide_eq_true c274) ?_
              refine wp_skip ?_
              refine then_n ?_
              refine wp_seq ?_
              refine wp_block ?_
              refine wp_seq ?_
              refine s_region ?_
              refine s_val hF rfl rfl rfl (e_assign hF rfl) ?_; intro a hF
              refine s_nil ?_
              refine then_n ?_
              refine wp_block ?_
              obtain ⟨o302, h303, H⟩ := bind_some H
              refine wp_mono (Q := fun e a w => (e = Exit.exit 4 ∧ ∃ x288 : Int, ∃ x289 : (List Int), (x288, x289) = o302 ∧ Fr 72 a [(1, Value.int .i64 a1), (2, pt b1 0), (5, v206), (6, v208), (7, Value.int .i64 x205), (8, v211), (9, Value.int .i64 x288), (10, Value.int .i64 x272)] ∧ Ms [] w0 w [boxR b1 [Pt.ar a0] 22, rowR cd3 v206 x207, rowR cd3 v208 x209, rowR cd3 v211 x289])) ?_ ?_
              · refine s_loop (fun kq a w => ∃ x290 : Int, ∃ x291 : Int, ∃ x292 : (List Int), spec_l7Run.l12 K a0 a1 x207 x272 kq x290 x291 x292 = some o302 ∧ Fr 72 a [(1, Value.int .i64 a1), (2, pt b1 0), (5, v206), (6, v208), (7, Value.int .i64 x205), (8, v211), (9, Value.int .i64 x290), (10, Value.int .i64 x272), (11, Value.int .i64 x291)] ∧ Ms [] w0 w [boxR b1 [Pt.ar a0] 22, rowR cd3 v206 x207, rowR cd3 v208 x209, rowR cd3 v211 x292]) K ⟨x271, 0, x273, h303, hF.sub _ ⟨rfl, rfl, rfl, rfl, rfl, rfl, rfl, rfl, rfl, trivial⟩, hM.pick [0, 1, 2, 3] rfl rfl⟩ ?_ ?_
                · rintro a w ⟨_, _, _, H, _⟩; exact none_some H
                · rintro k a w ⟨x290, x291, x292, H, hF, hM⟩; rw [spec_l7Run.l12] at H
                  refine wp_seq ?_
                  refine wp_seq ?_
                  refine s_region ?_
                  refine s_val hF rfl rfl rfl (e_move hF rfl) ?_; intro a hF
                  refine s_val hF rfl rfl rfl (e_lss hF rfl rfl) ?_; intro a hF
                  refine s_nil ?_
                  refine then_n ?_
                  rcases ite_cases H with ⟨c293, H⟩ | ⟨c293, H⟩
                  ·
                    refine s_cond_t hF rfl (decide_eq_true c293) ?_
                    refine wp_skip ?_
                    refine then_n ?_
                    refine wp_seq ?_
                    refine wp_block ?_
                    refine wp_seq ?_
                    obtain ⟨c294, H⟩ := ite_some H
                    refine s_region ?_
                    refine s_val hF rfl rfl rfl (e_move hF rfl) ?_; intro a hF
                    refine s_val hF rfl rfl rfl (e_move hF rfl) ?_; intro a hF
                    refine s_val hF rfl rfl rfl (e_ia hF rfl rfl Try.underlying22 Try.sizeOf3 c294.1 c294.2) ?_; intro a hF
                    refine s_val hF rfl rfl rfl (e_ldi (i := 0) (k := 0) hF hM rfl rfl rfl rfl rfl Try.isAgg3 c294.1 c294.2) ?_; intro a hF
                    refine s_val hF rfl rfl rfl (e_add hF rfl rfl) ?_; intro a hF
                    refine s_val hF rfl rfl rfl (e_move hF rfl) ?_; intro a hF
                    refine s_val hF rfl rfl rfl (e_lss hF rfl rfl) ?_; intro a hF
                    refine s_nil ?_
                    refine then_n ?_
                    rcases ite_cases H with ⟨c295, H⟩ | ⟨c295, H⟩
                    ·
                      refine s_cond_t hF rfl (decide_eq_true c295) ?_
                      obtain ⟨c296, H⟩ := ite_some H
                      obtain ⟨c297, H⟩ := ite_some H
                      refine s_held (fun w => Ms [] w0 w [boxR b1 [Pt.ar a0] 22, rowR cd3 v206 x207, rowR cd3 v208 x209]) #[false, false, false, false, false, false, false, false, false, false, false, false, false, false, false, false, false, false, false, false, false] mixed rfl rfl hM ?_; intro w hf hM; clear hf
                      refine h_val 0 #[true, false, false, false, false, false, false, false, false, false, false, false, false, false, false, false, false, false, false, false, false] rfl (by kernel_rfl) hF rfl rfl rfl (fun w hS => e_move hF rfl) (hM.pick [0, 1, 2] rfl rfl) ?_; intro a hF
                      refine h_val 1 #[true, true, false, false, false, false, false, false, false, false, false, false, false, false, false, false, false, false, false, false, false] rfl (by kernel_rfl) hF rfl rfl rfl (fun w hS => e_move hF rfl) (hM.pick [0, 1, 2] rfl rfl) ?_; intro a hF
                      refine h_val 2 #[true, true, true, false, false, false, false, false, false, false, false, false, false, false, false, false, false, false, false, false, false] rfl (by kernel_rfl) hF rfl rfl rfl (fun w hS => e_move hF rfl) (hM.pick [0, 1, 2] rfl rfl) ?_; intro a hF
                      refine h_val 3 #[true, true, true, true, false, false, false, false, false, false, false, false, false, false, false, false, false, false, false, false, false] rfl (by kernel_rfl) hF rfl rfl rfl (fun w hS => e_ia hF rfl rfl Try.underlying22 Try.sizeOf3 c294.1 c294.2) (hM.pick [0, 1, 2] rfl rfl) ?_; intro a hF
                      refine h_val 4 #[true, true, true, true, true, false, false, false, false, false, false, false, false, false, false, false, false, false, false, false, false] rfl (by kernel_rfl) hF rfl rfl rfl (fun w hS => e_ldi (i := 0) (k := 0) hF hS rfl rfl rfl rfl rfl Try.isAgg3 c294.1 c294.2) (hM.pick [0, 1, 2] rfl rfl) ?_; intro a hF
                      refine h_val 5 #[true, true, true, true, true, true, false, false, false, false, false, false, false, false, false, false, false, false, false, false, false] rfl (by kernel_rfl) hF rfl rfl rfl (fun w hS => e_add hF rfl rfl) (hM.pick [0, 1, 2] rfl rfl) ?_; intro a hF
                      refine h_val 6 #[true, true, true, true, true, true, true, false, false, false, false, false, false, false, false, false, false, false, false, false, false] rfl (by kernel_rfl) hF rfl rfl rfl (fun w hS => e_move hF rfl) (hM.pick [0, 1, 2] rfl rfl) ?_; intro a hF
                      refine h_val 7 #[true, true, true, true, true, true, true, true, false, false, false, false, false, false, false, false, false, false, false, false, false] rfl (by kernel_rfl) hF rfl rfl rfl (fun w hS => e_move hF rfl) (hM.pick [0, 1, 2] rfl rfl) ?_; intro a hF
                      refine h_val 8 #[true, true, true, true, true, true, true, true, true, false, false, false, false, false, false, false, false, false, false, false, false] rfl (by kernel_rfl) hF rfl rfl rfl (fun w hS => e_move hF rfl) (hM.pick [0, 1, 2] rfl rfl) ?_; intro a hF
                      refine h_val 9 #[true, true, true, true, true, true, true, true, true, true, false, false, false, false, false, false, false, false, false, false, false] rfl (by kernel_rfl) hF rfl rfl rfl (fun w hS => e_ia hF rfl rfl Try.underlying22 Try.sizeOf3 c294.1 c294.2) (hM.pick [0, 1, 2] rfl rfl) ?_; intro a hF
                      refine h_val 10 #[true, true, true, true, true, true, true, true, true, true, true, false, false, false, false, false, false, false, false, false, false] rfl (by kernel_rfl) hF rfl rfl rfl (fun w hS => e_ldi (i := 0) (k := 0) hF hS rfl rfl rfl rfl rfl Try.isAgg3 c294.1 c294.2) (hM.pick [0, 1, 2] rfl rfl) ?_; intro a hF
                      refine h_val 11 #[true, true, true, true, true, true, true, true, true, true, true, true, false, false, false, false, false, false, false, false, false] rfl (by kernel_rfl) hF rfl rfl rfl (fun w hS => e_add hF rfl rfl) (hM.pick [0, 1, 2] rfl rfl) ?_; intro a hF
                      have f298 := (hM.sl 3 rfl).toF
                      refine h_val 12 #[true, true, true, true, true, true, true, true, true, true, true, true, true, false, false, false, false, false, false, false, false] rfl (by kernel_rfl) hF rfl rfl rfl (fun w hS => e_ias cd3 hF rfl rfl f298 Try.underlying23 Try.sizeOf3 c296.1 c296.2) (hM.pick [0, 1, 2] rfl rfl) ?_; intro a hF
                      refine h_val 14 #[true, true, true, true, true, true, true, true, true, true, true, true, true, false, true, false, false, false, false, false, false] rfl (by kernel_rfl) hF rfl rfl rfl (fun w hS => e_move hF rfl) (hM.pick [0, 1, 2] rfl rfl) ?_; intro a hF
                      refine h_val 15 #[true, true, true, true, true, true, true, true, true, true, true, true, true, false, true, true, false, false, false, false, false] rfl (by kernel_rfl) hF rfl rfl rfl (fun w hS => e_move hF rfl) (hM.pick [0, 1, 2] rfl rfl) ?_; intro a hF
                      have f299 := (hM.sl 1 rfl).toF
                      refine h_val 16 #[true, true, true, true, true, true, true, true, true, true, true, true, true, false, true, true, true, false, false, false, false] rfl (by kernel_rfl) hF rfl rfl rfl (fun w hS => e_ias cd3 hF rfl rfl f299 Try.underlying23 Try.sizeOf3 c297.1 c297.2) (hM.pick [0, 1, 2] rfl rfl) ?_; intro a hF
                      refine h_val 17 #[true, true, true, true, true, true, true, true, true, true, true, true, true, false, true, true, true, true, false, false, false] rfl (by kernel_rfl) hF rfl rfl rfl (fun w hS => e_lds (m := x272) hF rfl (hS.sl 1 rfl) (getD_some (z := (0 : Int)) c297.1 c297.2) rfl rfl Try.isAgg3) (hM.pick [0, 1, 2] rfl rfl) ?_; intro a hF
                      refine h_one 13 #[true, true, true, true, true, true, true, true, true, true, true, true, true, true, true, true, true, true, false, false, false] rfl (by kernel_rfl) ?_
                      refine s_val hF rfl rfl rfl (e_lds (m := (wrap64 (x272 + (a0.get x291)))) hF rfl (hM.sl 3 rfl) (getD_some (z := (0 : Int)) c296.1 c296.2) rfl rfl Try.isAgg3) ?_; intro a hF
                      refine s_nil ⟨rfl, (hM.pick [0, 1, 2] rfl rfl), ?_⟩
                      refine h_val 18 #[true, true, true, true, true, true, true, true, true, true, true, true, true, true, true, true, true, true, true, false, false] rfl (by kernel_rfl) hF rfl rfl rfl (fun w hS => e_add hF rfl rfl) (hM.pick [0, 1, 2] rfl rfl) ?_; intro a hF
                      have f300 := (hM.sl 3 rfl).toF
                      refine h_val 19 #[true, true, true, true, true, true, true, true, true, true, true, true, true, true, true, true, true, true, true, true, false] rfl (by kernel_rfl) hF rfl rfl rfl (fun w hS => e_ias cd3 hF rfl rfl f300 Try.underlying23 Try.sizeOf3 c296.1 c296.2) (hM.pick [0, 1, 2] rfl rfl) ?_; intro a hF
                      refine h_one 20 #[true, true, true, true, true, true, true, true, true, true, true, true, true, true, true, true, true, true, true, true, true] rfl (by kernel_rfl) ?_
                      refine s_sts (i := 3) (wrap64 ((x292.getD ((wrap64 (x272 + (a0.get x291))) : Int).toNat (0 : Int)) + (x207.getD (x272 : Int).toNat (0 : Int)))) hF hM rfl rfl rfl rfl rfl c296.1 c296.2 Try.sizeOf3 ?_; intro a w hF hM
                      refine s_nil ⟨rfl, (hM.pick [0, 1, 2] rfl rfl), ?_⟩
                      refine h_done rfl ?_
                      refine blk_n ?_
                      refine then_n ?_
                      refine s_region ?_
                      refine s_val hF rfl rfl rfl (e_move hF rfl) ?_; intro a hF
                      refine s_val hF rfl rfl rfl (e_add hF rfl rfl) ?_; intro a hF
                      refine s_val hF rfl rfl rfl (e_assign hF rfl) ?_; intro a hF
                      refine s_nil ?_
                      refine then_n ?_
                      exact ⟨x290, (wrap64 (x291 + 1)), (x292.set ((wrap64 (x272 + (a0.get x291))) : Int).toNat (wrap64 ((x292.getD ((wrap64 (x272 + (a0.get x291))) : Int).toNat (0 : Int)) + (x207.getD (x272 : Int).toNat (0 : Int))))), H, hF.sub _ ⟨rfl, rfl, rfl, rfl, rfl, rfl, rfl, rfl, rfl, trivial⟩, hM.pick [0, 1, 2, 3] rfl rfl⟩
                    ·
                      refine s_cond_f hF rfl (decide_eq_false c295) ?_
                      obtain ⟨c301, H⟩ := ite_some H
                      refine s_region ?_
                      refine s_val hF rfl rfl rfl (e_move hF rfl) ?_; intro a hF
                      refine s_val hF rfl rfl rfl (e_move hF rfl) ?_; intro a hF
                      refine s_val hF rfl rfl rfl (e_move hF rfl) ?_; intro a hF
                      refine s_val hF rfl rfl rfl (e_ias cd3 hF rfl rfl (hM.sl 1 rfl).toF Try.underlying23 Try.sizeOf3 c301.1 c301.2) ?_; intro a hF
                      refine s_val hF rfl rfl rfl (e_lds (m := x272) hF rfl (hM.sl 1 rfl) (getD_some (z := (0 : Int)) c301.1 c301.2) rfl rfl Try.isAgg3) ?_; intro a hF
                      refine s_val hF rfl rfl rfl (e_add hF rfl rfl) ?_; intro a hF
                      refine s_val hF rfl rfl rfl (e_assign hF rfl) ?_; intro a hF
                      refine s_nil ?_
                      refine blk_n ?_
                      refine then_n ?_
                      refine s_region ?_
                      refine s_val hF rfl rfl rfl (e_move hF rfl) ?_; intro a hF
                      refine s_val hF rfl rfl rfl (e_add hF rfl rfl) ?_; intro a hF
                      refine s_val hF rfl rfl rfl (e_assign hF rfl) ?_; intro a hF
                      refine s_nil ?_
                      refine then_n ?_
                      exact ⟨(wrap64 (x290 + (x207.getD (x272 : Int).toNat (0 : Int)))), (wrap64 (x291 + 1)), x292, H, hF.sub _ ⟨rfl, rfl, rfl, rfl, rfl, rfl, rfl, rfl, rfl, trivial⟩, hM.pick [0, 1, 2, 3] rfl rfl⟩
                  ·
                    refine s_cond_f hF rfl (decide_eq_false c293) ?_
                    refine wp_exit ?_
                    refine then_x ?_
                    refine then_x ?_
                    exact ⟨rfl, x290, x292, some_some H, hF.sub _ ⟨rfl, rfl, rfl, rfl, rfl, rfl, rfl, rfl, trivial⟩, hM.pick [0, 1, 2, 3] rfl rfl⟩
              · rintro e a w ⟨rfl, x288, x289, rfl, hF, hM⟩
                skip
                refine blk_x ?_
                refine blk_n ?_
                refine then_n ?_
                refine s_region ?_
                refine s_val hF rfl rfl rfl (e_move hF rfl) ?_; intro a hF
                refine s_val hF rfl rfl rfl (e_add hF rfl rfl) ?_; intro a hF
                refine s_val hF rfl rfl rfl (e_assign hF rfl) ?_; intro a hF
                refine s_nil ?_
                refine then_n ?_
                exact ⟨x288, (wrap64 (x272 + 1)), x289, H, hF.sub _ ⟨rfl, rfl, rfl, rfl, rfl, rfl, rfl, rfl, trivial⟩, hM.pick [0, 1, 2, 3] rfl rfl⟩
            ·
              refine s_cond_f hF rfl (decide_eq_false c274) ?_
              refine wp_exit ?_
              refine then_x ?_
              refine then_x ?_
              exact ⟨rfl, x271, x273, some_some H, hF.sub _ ⟨rfl, rfl, rfl, rfl, rfl, rfl, trivial⟩, hM.pick [0, 2, 3] rfl rfl⟩
        · rintro e a w ⟨rfl, x269, x270, rfl, hF, hM⟩
          skip
          refine blk_x ?_
          refine then_n ?_
          refine wp_seq ?_
          obtain ⟨c308, H⟩ := ite_some H
          refine s_region ?_
          refine s_val hF rfl rfl rfl (e_move hF rfl) ?_; intro a hF
          refine s_val hF rfl rfl rfl (e_move hF rfl) ?_; intro a hF
          refine s_bsl (C := cd3) [x269] cdok3 hF hM rfl rfl rfl rfl Try.underlying23 rfl ?_; intro a w v306 hF hM
          refine s_append (i := 2) cdok3 hF hM rfl rfl rfl rfl rfl (hM.sl 0 rfl) Try.underlying23 c308 ?_; intro a w v307 hF hM
          refine s_val hF rfl rfl rfl (e_assign hF rfl) ?_; intro a hF
          refine s_nil ?_
          refine then_n ?_
          refine s_region ?_
          refine s_val hF rfl rfl rfl (e_move hF rfl) ?_; intro a hF
          refine s_val hF rfl rfl rfl (e_assign hF rfl) ?_; intro a hF
          refine s_nil ?_
          refine blk_n ?_
          refine then_n ?_
          refine s_region ?_
          refine s_val hF rfl rfl rfl (e_move hF rfl) ?_; intro a hF
          refine s_val hF rfl rfl rfl (e_add hF rfl rfl) ?_; intro a hF
          refine s_val hF rfl rfl rfl (e_assign hF rfl) ?_; intro a hF
          refine s_nil ?_
          refine then_n ?_
          exact ⟨v211, v307, (wrap64 (x205 + 1)), x270, (x209 ++ [x269]), H, hF.sub _ ⟨rfl, rfl, rfl, rfl, rfl, trivial⟩, hM.pick [1, 3, 2] rfl rfl⟩
      ·
        refine s_cond_f hF rfl (decide_eq_false c210) ?_
        refine wp_exit ?_
        refine then_x ?_
        refine then_x ?_
        exact ⟨rfl, v208, x209, some_some H, hF.sub _ ⟨rfl, trivial⟩, hM.pick [2] rfl rfl⟩
  · rintro e a w ⟨rfl, v203, x204, rfl, hF, hM⟩
    skip
    refine blk_x ?_
    refine then_n ?_
    refine wp_seq ?_
    refine s_region ?_
    refine s_val hF rfl rfl rfl (e_move hF rfl) ?_; intro a hF
    refine s_val hF rfl rfl rfl (e_assign hF rfl) ?_; intro a hF
    refine s_nil ?_
    refine then_n ?_
    refine wp_ret ?_
    obtain rfl := some_some H
    refine s_ret [v203] hF Try.results75 ⟨rfl, trivial⟩ ?_
    exact ⟨_, rfl, hM.frm, hM.give 0 rfl⟩

/-! ### loop.example/g01210/spec.l2All: function 60 -/
def spec_l2All.l0 (K : Nat) (a0 : Int) : Nat → Int → Int → Option Int
  | 0, _, _ => none
  | k + 1, x6, x7 => if x7 < a0 then (spec_l2All.l0 K a0 k (wrap64 (x6 * 6)) (wrap64 (x7 + 1))) else (some x6)
def spec_l2All.f (K : Nat) (a0 : Int) : Option Int := (spec_l2All.l0 K a0 K 1 0).bind fun x5 => some x5
set_option maxRecDepth 100000 in
set_option maxHeartbeats 4000000 in
theorem spec_l2All.calls {w0 : World} (K : Nat) (a0 : Int) (r : Int) (H : spec_l2All.f K a0 = some r) : Calls Try.prog 60 [Value.int .i64 a0].toArray w0 (Post w0 fun w v => v = Value.int .i64 r) := by
  rw [spec_l2All.f] at H
  refine s_start Try.func60 rfl Try.ntmps60 rfl ?_
  intro a hF
  have hM := Ms.start w0
  skip
  refine wp_seq ?_
  refine s_region ?_
  refine s_val hF rfl rfl rfl (e_assign hF rfl) ?_; intro a hF
  refine s_nil ?_
  refine then_n ?_
  refine wp_seq ?_
  refine s_region ?_
  refine s_val hF rfl rfl rfl (e_assign hF rfl) ?_; intro a hF
  refine s_nil ?_
  refine then_n ?_
  refine wp_seq ?_
  refine wp_seq ?_
  refine s_region ?_
  refine s_val hF rfl rfl rfl (e_assign hF rfl) ?_; intro a hF
  refine s_nil ?_
  refine then_n ?_
  refine wp_block ?_
  obtain ⟨o9, h10, H⟩ := bind_some H
  refine wp_mono (Q := fun e a w => (e = Exit.exit 0 ∧ ∃ x5 : Int, x5 = o9 ∧ Fr 13 a [(3, Value.int .i64 x5)] ∧ Ms [] w0 w [])) ?_ ?_
  · refine s_loop (fun kq a w => ∃ x6 : Int, ∃ x7 : Int, spec_l2All.l0 K a0 kq x6 x7 = some o9 ∧ Fr 13 a [(0, Value.int .i64 a0), (3, Value.int .i64 x6), (4, Value.int .i64 x7)] ∧ Ms [] w0 w []) K ⟨1, 0, h10, hF.sub _ ⟨rfl, rfl, rfl, trivial⟩, hM.pick [] rfl rfl⟩ ?_ ?_
    · rintro a w ⟨_, _, H, _⟩; exact none_some H
    · rintro k a w ⟨x6, x7, H, hF, hM⟩; rw [spec_l2All.l0] at H
      refine wp_seq ?_
      refine wp_seq ?_
      refine s_region ?_
      refine s_val hF rfl rfl rfl (e_move hF rfl) ?_; intro a hF
      refine s_val hF rfl rfl rfl (e_move hF rfl) ?_; intro a hF
      refine s_val hF rfl rfl rfl (e_lss hF rfl rfl) ?_; intro a hF
      refine s_nil ?_
      refine then_n ?_
      rcases ite_cases H with ⟨c8, H⟩ | ⟨c8, H⟩
      ·
        refine s_cond_t hF rfl (decide_eq_true c8) ?_
        refine wp_skip ?_
        refine then_n ?_
        refine wp_seq ?_
        refine wp_block ?_
        refine s_region ?_
        refine s_val hF rfl rfl rfl (e_move hF rfl) ?_; intro a hF
        refine s_val hF rfl rfl rfl (e_mul hF rfl rfl) ?_; intro a hF
        refine s_val hF rfl rfl rfl (e_assign hF rfl) ?_; intro a hF
        refine s_nil ?_
        refine blk_n ?_
        refine then_n ?_
        refine s_region ?_
        refine s_val hF rfl rfl rfl (e_move hF rfl) ?_; intro a hF
        refine s_val hF rfl rfl rfl (e_add hF rfl rfl) ?_; intro a hF
        refine s_val hF rfl rfl rfl (e_assign hF rfl) ?_; intro a hF
        refine s_nil ?_
        refine then_n ?_
        exact ⟨(wrap64 (x6 * 6)), (wrap64 (x7 + 1)), H, hF.sub _ ⟨rfl, rfl, rfl, trivial⟩, hM.pick [] rfl rfl⟩
      ·
        refine s_cond_f hF rfl (decide_eq_false c8) ?_
        refine wp_exit ?_
        refine then_x ?_
        refine then_x ?_
        exact ⟨rfl, x6, some_some H, hF.sub _ ⟨rfl, trivial⟩, hM.pick [] rfl rfl⟩
  · rintro e a w ⟨rfl, x5, rfl, hF, hM⟩
    skip
    refine blk_x ?_
    refine then_n ?_
    refine wp_seq ?_
    refine s_region ?_
    refine s_val hF rfl rfl rfl (e_move hF rfl) ?_; intro a hF
    refine s_val hF rfl rfl rfl (e_assign hF rfl) ?_; intro a hF
    refine s_nil ?_
    refine then_n ?_
    refine wp_ret ?_
    obtain rfl := some_some H
    refine s_ret [Value.int .i64 x5] hF Try.results60 ⟨rfl, trivial⟩ ?_
    exact ⟨_, rfl, hM.frm, rfl⟩

/-! ### loop.example/g01210/spec.l1Most: function 83 -/
def spec_l1Most.f (K : Nat) (a0 : Int) (a1 : Int) : Option Int := if a1 < a0 then (some a0) else (some a1)
set_option maxRecDepth 100000 in
set_option maxHeartbeats 4000000 in
theorem spec_l1Most.calls {w0 : World} (K : Nat) (a0 : Int) (a1 : Int) (r : Int) (H : spec_l1Most.f K a0 a1 = some r) : Calls Try.prog 83 [Value.int .i64 a0, Value.int .i64 a1].toArray w0 (Post w0 fun w v => v = Value.int .i64 r) := by
  rw [spec_l1Most.f] at H
  refine s_start Try.func83 rfl Try.ntmps83 rfl ?_
  intro a hF
  have hM := Ms.start w0
  skip
  refine wp_seq ?_
  refine s_region ?_
  refine s_val hF rfl rfl rfl (e_assign hF rfl) ?_; intro a hF
  refine s_nil ?_
  refine then_n ?_
  refine wp_seq ?_
  refine wp_seq ?_
  refine s_region ?_
  refine s_val hF rfl rfl rfl (e_move hF rfl) ?_; intro a hF
  refine s_val hF rfl rfl rfl (e_move hF rfl) ?_; intro a hF
  refine s_val hF rfl rfl rfl (e_gtr hF rfl rfl) ?_; intro a hF
  refine s_nil ?_
  refine then_n ?_
  rcases ite_cases H with ⟨c1, H⟩ | ⟨c1, H⟩
  ·
    refine s_cond_t hF rfl (decide_eq_true c1) ?_
    refine wp_seq ?_
    refine s_region ?_
    refine s_val hF rfl rfl rfl (e_move hF rfl) ?_; intro a hF
    refine s_val hF rfl rfl rfl (e_assign hF rfl) ?_; intro a hF
    refine s_nil ?_
    refine then_n ?_
    refine wp_ret ?_
    refine then_r ?_
    obtain rfl := some_some H
    refine s_ret [Value.int .i64 a0] hF Try.results83 ⟨rfl, trivial⟩ ?_
    exact ⟨_, rfl, hM.frm, rfl⟩
  ·
    refine s_cond_f hF rfl (decide_eq_false c1) ?_
    refine wp_skip ?_
    refine then_n ?_
    refine wp_seq ?_
    refine s_region ?_
    refine s_val hF rfl rfl rfl (e_move hF rfl) ?_; intro a hF
    refine s_val hF rfl rfl rfl (e_assign hF rfl) ?_; intro a hF
    refine s_nil ?_
    refine then_n ?_
    refine wp_ret ?_
    obtain rfl := some_some H
    refine s_ret [Value.int .i64 a1] hF Try.results83 ⟨rfl, trivial⟩ ?_
    exact ⟨_, rfl, hM.frm, rfl⟩

/-! ### loop.example/g01210/spec.l2Cut: function 61 -/
def spec_l2Cut.l0 (K : Nat) : Nat → Int → Int → Option Int
  | 0, _, _ => none
  | k + 1, x9, x10 => if 0 < x10 then (if x10 ≠ 0 then (spec_l2Cut.l0 K k x10 (x9.tmod x10)) else none) else (some x9)
def spec_l2Cut.f (K : Nat) (a0 : Int) (a1 : Int) : Option (Ar 2) := (spec_l2Cut.l0 K K a0 a1).bind fun x8 => (spec_l1Most.f K x8 1).bind fun t15 => if t15 ≠ 0 then ((spec_l1Most.f K x8 1).bind fun t18 => if t18 ≠ 0 then (some (⟨[(wrap64 (a0.tdiv t15)), (wrap64 (a1.tdiv t18))], rfl⟩ : Ar 2)) else none) else none
set_option maxRecDepth 100000 in
set_option maxHeartbeats 4000000 in
theorem spec_l2Cut.calls {w0 : World} (K : Nat) (a0 : Int) (a1 : Int) (r : (Ar 2)) (H : spec_l2Cut.f K a0 a1 = some r) : Calls Try.prog 61 [Value.int .i64 a0, Value.int .i64 a1].toArray w0 (Post w0 fun w v => v = ag [Pt.ar r]) := by
  rw [spec_l2Cut.f] at H
  refine s_start Try.func61 rfl Try.ntmps61 rfl ?_
  intro a hF
  have hM := Ms.start w0
  skip
  refine wp_seq ?_
  refine s_region ?_
  refine s_alloc (ps := [Pt.ar (Ar.zero 2)]) hF hM rfl rfl zv33 rfl ?_; intro a w b1 hF hM
  refine s_nil ?_
  refine then_n ?_
  refine wp_seq ?_
  refine s_region ?_
  refine s_val hF rfl rfl rfl (e_move hF rfl) ?_; intro a hF
  refine s_val hF rfl rfl rfl (e_move hF rfl) ?_; intro a hF
  refine s_val hF rfl rfl rfl (e_assign hF rfl) ?_; intro a hF
  refine s_val hF rfl rfl rfl (e_assign hF rfl) ?_; intro a hF
  refine s_nil ?_
  refine then_n ?_
  refine wp_seq ?_
  refine wp_block ?_
  obtain ⟨o13, h14, H⟩ := bind_some H
  refine wp_mono (Q := fun e a w => (e = Exit.exit 0 ∧ ∃ x8 : Int, x8 = o13 ∧ Fr 24 a [(0, Value.int .i64 a0), (1, Value.int .i64 a1), (4, pt b1 0), (5, Value.int .i64 x8)] ∧ Ms [] w0 w [boxR b1 [Pt.ar (Ar.zero 2)] 33])) ?_ ?_
  · refine s_loop (fun kq a w => ∃ x9 : Int, ∃ x10 : Int, spec_l2Cut.l0 K kq x9 x10 = some o13 ∧ Fr 24 a [(0, Value.int .i64 a0), (1, Value.int .i64 a1), (4, pt b1 0), (5, Value.int .i64 x9), (6, Value.int .i64 x10)] ∧ Ms [] w0 w [boxR b1 [Pt.ar (Ar.zero 2)] 33]) K ⟨a0, a1, h14, hF.sub _ ⟨rfl, rfl, rfl, rfl, rfl, trivial⟩, hM.pick [0] rfl rfl⟩ ?_ ?_
    · rintro a w ⟨_, _, H, _⟩; exact none_some H
    · rintro k a w ⟨x9, x10, H, hF, hM⟩; rw [spec_l2Cut.l0] at H
      refine wp_seq ?_
      refine wp_seq ?_
      refine s_region ?_
      refine s_val hF rfl rfl rfl (e_move hF rfl) ?_; intro a hF
      refine s_val hF rfl rfl rfl (e_gtr hF rfl rfl) ?_; intro a hF
      refine s_nil ?_
      refine then_n ?_
      rcases ite_cases H with ⟨c11, H⟩ | ⟨c11, H⟩
      ·
        refine s_cond_t hF rfl (decide_eq_true c11) ?_
        refine wp_skip ?_
        refine then_n ?_
        refine wp_block ?_
        obtain ⟨c12, H⟩ := ite_some H
        refine s_held (fun w => Ms [] w0 w [boxR b1 [Pt.ar (Ar.zero 2)] 33]) #[false, false, false, false, false, false] mixed rfl rfl hM ?_; intro w hf hM; clear hf
        refine h_val 0 #[true, false, false, false, false, false] rfl (by kernel_rfl) hF rfl rfl rfl (fun w hS => e_move hF rfl) (hM.pick [0] rfl rfl) ?_; intro a hF
        refine h_val 1 #[true, true, false, false, false, false] rfl (by kernel_rfl) hF rfl rfl rfl (fun w hS => e_move hF rfl) (hM.pick [0] rfl rfl) ?_; intro a hF
        refine h_val 2 #[true, true, true, false, false, false] rfl (by kernel_rfl) hF rfl rfl rfl (fun w hS => e_move hF rfl) (hM.pick [0] rfl rfl) ?_; intro a hF
        refine h_val 3 #[true, true, true, true, false, false] rfl (by kernel_rfl) hF rfl rfl rfl (fun w hS => e_rem hF rfl rfl c12) (hM.pick [0] rfl rfl) ?_; intro a hF
        refine h_val 4 #[true, true, true, true, true, false] rfl (by kernel_rfl) hF rfl rfl rfl (fun w hS => e_assign hF rfl) (hM.pick [0] rfl rfl) ?_; intro a hF
        refine h_val 5 #[true, true, true, true, true, true] rfl (by kernel_rfl) hF rfl rfl rfl (fun w hS => e_assign hF rfl) (hM.pick [0] rfl rfl) ?_; intro a hF
        refine h_done rfl ?_
        refine blk_n ?_
        refine then_n ?_
        exact ⟨x10, (x9.tmod x10), H, hF.sub _ ⟨rfl, rfl, rfl, rfl, rfl, trivial⟩, hM.pick [0] rfl rfl⟩
      ·
        refine s_cond_f hF rfl (decide_eq_false c11) ?_
        refine wp_exit ?_
        refine then_x ?_
        refine then_x ?_
        exact ⟨rfl, x9, some_some H, hF.sub _ ⟨rfl, rfl, rfl, rfl, trivial⟩, hM.pick [0] rfl rfl⟩
  · rintro e a w ⟨rfl, x8, rfl, hF, hM⟩
    skip
    refine blk_x ?_
    refine then_n ?_
    refine wp_seq ?_
    obtain ⟨t15, h16, H⟩ := bind_some H
    obtain ⟨c17, H⟩ := ite_some H
    obtain ⟨t18, h19, H⟩ := bind_some H
    obtain ⟨c20, H⟩ := ite_some H
    refine s_held (fun w => Ms [] w0 w []) #[false, false, false, false, false, false, false, false, false, false] mixed rfl rfl hM ?_; intro w hf hM; clear hf
    refine h_val 0 #[true, false, false, false, false, false, false, false, false, false] rfl (by kernel_rfl) hF rfl rfl rfl (fun w hS => e_move hF rfl) (hM.pick [] rfl rfl) ?_; intro a hF
    refine h_val 1 #[true, true, false, false, false, false, false, false, false, false] rfl (by kernel_rfl) hF rfl rfl rfl (fun w hS => e_move hF rfl) (hM.pick [] rfl rfl) ?_; intro a hF
    refine h_val 4 #[true, true, false, false, true, false, false, false, false, false] rfl (by kernel_rfl) hF rfl rfl rfl (fun w hS => e_move hF rfl) (hM.pick [] rfl rfl) ?_; intro a hF
    refine h_val 5 #[true, true, false, false, true, true, false, false, false, false] rfl (by kernel_rfl) hF rfl rfl rfl (fun w hS => e_move hF rfl) (hM.pick [] rfl rfl) ?_; intro a hF
    refine h_one 2 #[true, true, true, false, true, true, false, false, false, false] rfl (by kernel_rfl) ?_
    refine s_call hF rfl rfl rfl Try.call83 (spec_l1Most.calls K x8 1 t15 h16) ?_; intro a w v hF hf hR
    subst hR; have hM := hM.grow hf
    refine s_nil ⟨rfl, (hM.pick [] rfl rfl), ?_⟩
    refine h_val 3 #[true, true, true, true, true, true, false, false, false, false] rfl (by kernel_rfl) hF rfl rfl rfl (fun w hS => e_quo hF rfl rfl c17) (hM.pick [] rfl rfl) ?_; intro a hF
    refine h_one 6 #[true, true, true, true, true, true, true, false, false, false] rfl (by kernel_rfl) ?_
    refine s_call hF rfl rfl rfl Try.call83 (spec_l1Most.calls K x8 1 t18 h19) ?_; intro a w v hF hf hR
    subst hR; have hM := hM.grow hf
    refine s_nil ⟨rfl, (hM.pick [] rfl rfl), ?_⟩
    refine h_val 7 #[true, true, true, true, true, true, true, true, false, false] rfl (by kernel_rfl) hF rfl rfl rfl (fun w hS => e_quo hF rfl rfl c20) (hM.pick [] rfl rfl) ?_; intro a hF
    refine h_val 8 #[true, true, true, true, true, true, true, true, true, false] rfl (by kernel_rfl) hF rfl rfl rfl (fun w hS => e_build' (cells := cat [Pt.ar (⟨[(wrap64 (a0.tdiv t15)), (wrap64 (a1.tdiv t18))], rfl⟩ : Ar 2)]) hF rfl (by kernel_rfl)) (hM.pick [] rfl rfl) ?_; intro a hF
    refine h_one 9 #[true, true, true, true, true, true, true, true, true, true] rfl (by kernel_rfl) ?_
    refine s_stw (i := 0) (ps' := [Pt.ar (⟨[(wrap64 (a0.tdiv t15)), (wrap64 (a1.tdiv t18))], rfl⟩ : Ar 2)]) hF hM rfl rfl rfl rfl rfl rfl Try.sizeOf33 rfl ?_; intro a w hF hM
    refine s_nil ⟨rfl, (hM.pick [] rfl rfl), ?_⟩
    refine h_done rfl ?_
    refine then_n ?_
    refine wp_ret ?_
    obtain rfl := some_some H
    refine s_ret [ag [Pt.ar (⟨[(wrap64 (a0.tdiv t15)), (wrap64 (a1.tdiv t18))], rfl⟩ : Ar 2)]] hF Try.results61 ⟨⟨_, rfl, rv_box hM (i := 0) rfl Try.isAgg33 Try.sizeOf33 rfl⟩, trivial⟩ ?_
    exact ⟨_, rfl, hM.frm, rfl⟩

/-! ### loop.example/g01210/spec.l7Mean: function 67 -/
def spec_l7Mean.l0 (K : Nat) (a1 : Int) (t3 : (List Int)) : Nat → Int → Int → Option Int
  | 0, _, _ => none
  | k + 1, x17, x18 => if x18 ≤ a1 then (if (0 : Int) ≤ x18 ∧ x18 < (t3.length : Int) then ((spec_l2All.f K (wrap64 (a1 - x18))).bind fun t21 => spec_l7Mean.l0 K a1 t3 k (wrap64 (x17 + (wrap64 ((wrap64 (x18 * (t3.getD (x18 : Int).toNat (0 : Int)))) * t21)))) (wrap64 (x18 + 1))) else none) else (some x17)
def spec_l7Mean.f (K : Nat) (a0 : (Ar 6)) (a1 : Int) : Option (Ar 2) := (spec_l7Run.f K a0 a1).bind fun t3 => (spec_l7Mean.l0 K a1 t3 K 0 1).bind fun x16 => (spec_l2All.f K a1).bind fun t26 => (spec_l2Cut.f K x16 t26).bind fun t28 => some t28
set_option maxRecDepth 100000 in
set_option maxHeartbeats 4000000 in
theorem spec_l7Mean.calls {w0 : World} (K : Nat) (a0 : (Ar 6)) (a1 : Int) (r : (Ar 2)) (H : spec_l7Mean.f K a0 a1 = some r) : Calls Try.prog 67 [ag [Pt.ar a0], Value.int .i64 a1].toArray w0 (Post w0 fun w v => v = ag [Pt.ar r]) := by
  rw [spec_l7Mean.f] at H
  refine s_start Try.func67 rfl Try.ntmps67 rfl ?_
  intro a hF
  have hM := Ms.start w0
  skip
  refine wp_seq ?_
  refine s_region ?_
  refine s_box (ps := [Pt.ar a0]) hF hM rfl rfl rfl rfl ?_; intro a w b1 hF hM
  refine s_alloc (ps := [Pt.ar (Ar.zero 2)]) hF hM rfl rfl zv33 rfl ?_; intro a w b2 hF hM
  refine s_nil ?_
  refine then_n ?_
  refine wp_seq ?_
  obtain ⟨t3, h4, H⟩ := bind_some H
  refine s_region ?_
  refine s_val hF rfl rfl rfl (e_lda (i := 1) 0 1 hF hM rfl rfl rfl rfl Try.isAgg22 Try.sizeOf22 rfl) ?_; intro a hF
  refine s_val hF rfl rfl rfl (e_move hF rfl) ?_; intro a hF
  refine s_call hF rfl rfl rfl Try.call75 (spec_l7Run.calls K a0 a1 t3 h4) ?_; intro a w v5 hF hf hR
  have hM := hM.fresh hf hR
  refine s_val hF rfl rfl rfl (e_assign hF rfl) ?_; intro a hF
  refine s_val hF rfl rfl rfl (e_assign hF rfl) ?_; intro a hF
  refine s_nil ?_
  refine then_n ?_
  refine wp_seq ?_
  refine wp_seq ?_
  refine s_region ?_
  refine s_val hF rfl rfl rfl (e_assign hF rfl) ?_; intro a hF
  refine s_nil ?_
  refine then_n ?_
  refine wp_block ?_
  obtain ⟨o24, h25, H⟩ := bind_some H
  refine wp_mono (Q := fun e a w => (e = Exit.exit 0 ∧ ∃ x16 : Int, x16 = o24 ∧ Fr 33 a [(1, Value.int .i64 a1), (4, pt b2 0), (5, Value.int .i64 x16)] ∧ Ms [] w0 w [boxR b2 [Pt.ar (Ar.zero 2)] 33])) ?_ ?_
  · refine s_loop (fun kq a w => ∃ x17 : Int, ∃ x18 : Int, spec_l7Mean.l0 K a1 t3 kq x17 x18 = some o24 ∧ Fr 33 a [(1, Value.int .i64 a1), (4, pt b2 0), (5, Value.int .i64 x17), (6, v5), (7, Value.int .i64 x18)] ∧ Ms [] w0 w [boxR b2 [Pt.ar (Ar.zero 2)] 33, rowR cd3 v5 t3]) K ⟨0, 1, h25, hF.sub _ ⟨rfl, rfl, rfl, rfl, rfl, trivial⟩, hM.pick [1, 0] rfl rfl⟩ ?_ ?_
    · rintro a w ⟨_, _, H, _⟩; exact none_some H
    · rintro k a w ⟨x17, x18, H, hF, hM⟩; rw [spec_l7Mean.l0] at H
      refine wp_seq ?_
      refine wp_seq ?_
      refine s_region ?_
      refine s_val hF rfl rfl rfl (e_move hF rfl) ?_; intro a hF
      refine s_val hF rfl rfl rfl (e_move hF rfl) ?_; intro a hF
      refine s_val hF rfl rfl rfl (e_leq hF rfl rfl) ?_; intro a hF
      refine s_nil ?_
      refine then_n ?_
      rcases ite_cases H with ⟨c19, H⟩ | ⟨c19, H⟩
      ·
        refine s_cond_t hF rfl (decide_eq_true c19) ?_
        refine wp_skip ?_
        refine then_n ?_
        refine wp_seq ?_
        refine wp_block ?_
        obtain ⟨c20, H⟩ := ite_some H
        obtain ⟨t21, h22, H⟩ := bind_some H
        refine s_held (fun w => Ms [] w0 w [boxR b2 [Pt.ar (Ar.zero 2)] 33, rowR cd3 v5 t3]) #[false, false, false, false, false, false, false, false, false, false, false, false, false, false] mixed rfl rfl hM ?_; intro w hf hM; clear hf
        refine h_val 0 #[true, false, false, false, false, false, false, false, false, false, false, false, false, false] rfl (by kernel_rfl) hF rfl rfl rfl (fun w hS => e_move hF rfl) (hM.pick [0, 1] rfl rfl) ?_; intro a hF
        refine h_val 1 #[true, true, false, false, false, false, false, false, false, false, false, false, false, false] rfl (by kernel_rfl) hF rfl rfl rfl (fun w hS => e_move hF rfl) (hM.pick [0, 1] rfl rfl) ?_; intro a hF
        refine h_val 2 #[true, true, true, false, false, false, false, false, false, false, false, false, false, false] rfl (by kernel_rfl) hF rfl rfl rfl (fun w hS => e_move hF rfl) (hM.pick [0, 1] rfl rfl) ?_; intro a hF
        refine h_val 3 #[true, true, true, true, false, false, false, false, false, false, false, false, false, false] rfl (by kernel_rfl) hF rfl rfl rfl (fun w hS => e_move hF rfl) (hM.pick [0, 1] rfl rfl) ?_; intro a hF
        have f23 := (hM.sl 1 rfl).toF
        refine h_val 4 #[true, true, true, true, true, false, false, false, false, false, false, false, false, false] rfl (by kernel_rfl) hF rfl rfl rfl (fun w hS => e_ias cd3 hF rfl rfl f23 Try.underlying23 Try.sizeOf3 c20.1 c20.2) (hM.pick [0, 1] rfl rfl) ?_; intro a hF
        refine h_val 5 #[true, true, true, true, true, true, false, false, false, false, false, false, false, false] rfl (by kernel_rfl) hF rfl rfl rfl (fun w hS => e_lds (m := x18) hF rfl (hS.sl 1 rfl) (getD_some (z := (0 : Int)) c20.1 c20.2) rfl rfl Try.isAgg3) (hM.pick [0, 1] rfl rfl) ?_; intro a hF
        refine h_val 6 #[true, true, true, true, true, true, true, false, false, false, false, false, false, false] rfl (by kernel_rfl) hF rfl rfl rfl (fun w hS => e_mul hF rfl rfl) (hM.pick [0, 1] rfl rfl) ?_; intro a hF
        refine h_val 7 #[true, true, true, true, true, true, true, true, false, false, false, false, false, false] rfl (by kernel_rfl) hF rfl rfl rfl (fun w hS => e_move hF rfl) (hM.pick [0, 1] rfl rfl) ?_; intro a hF
        refine h_val 8 #[true, true, true, true, true, true, true, true, true, false, false, false, false, false] rfl (by kernel_rfl) hF rfl rfl rfl (fun w hS => e_move hF rfl) (hM.pick [0, 1] rfl rfl) ?_; intro a hF
        refine h_val 9 #[true, true, true, true, true, true, true, true, true, true, false, false, false, false] rfl (by kernel_rfl) hF rfl rfl rfl (fun w hS => e_sub hF rfl rfl) (hM.pick [0, 1] rfl rfl) ?_; intro a hF
        refine h_one 10 #[true, true, true, true, true, true, true, true, true, true, true, false, false, false] rfl (by kernel_rfl) ?_
        refine s_call hF rfl rfl rfl Try.call60 (spec_l2All.calls K (wrap64 (a1 - x18)) t21 h22) ?_; intro a w v hF hf hR
        subst hR; have hM := hM.grow hf
        refine s_nil ⟨rfl, (hM.pick [0, 1] rfl rfl), ?_⟩
        refine h_val 11 #[true, true, true, true, true, true, true, true, true, true, true, true, false, false] rfl (by kernel_rfl) hF rfl rfl rfl (fun w hS => e_mul hF rfl rfl) (hM.pick [0, 1] rfl rfl) ?_; intro a hF
        refine h_val 12 #[true, true, true, true, true, true, true, true, true, true, true, true, true, false] rfl (by kernel_rfl) hF rfl rfl rfl (fun w hS => e_add hF rfl rfl) (hM.pick [0, 1] rfl rfl) ?_; intro a hF
        refine h_val 13 #[true, true, true, true, true, true, true, true, true, true, true, true, true, true] rfl (by kernel_rfl) hF rfl rfl rfl (fun w hS => e_assign hF rfl) (hM.pick [0, 1] rfl rfl) ?_; intro a hF
        refine h_done rfl ?_
        refine blk_n ?_
        refine then_n ?_
        refine s_region ?_
        refine s_val hF rfl rfl rfl (e_move hF rfl) ?_; intro a hF
        refine s_val hF rfl rfl rfl (e_add hF rfl rfl) ?_; intro a hF
        refine s_val hF rfl rfl rfl (e_assign hF rfl) ?_; intro a hF
        refine s_nil ?_
        refine then_n ?_
        exact ⟨(wrap64 (x17 + (wrap64 ((wrap64 (x18 * (t3.getD (x18 : Int).toNat (0 : Int)))) * t21)))), (wrap64 (x18 + 1)), H, hF.sub _ ⟨rfl, rfl, rfl, rfl, rfl, trivial⟩, hM.pick [0, 1] rfl rfl⟩
      ·
        refine s_cond_f hF rfl (decide_eq_false c19) ?_
        refine wp_exit ?_
        refine then_x ?_
        refine then_x ?_
        exact ⟨rfl, x17, some_some H, hF.sub _ ⟨rfl, rfl, rfl, trivial⟩, hM.pick [0] rfl rfl⟩
  · rintro e a w ⟨rfl, x16, rfl, hF, hM⟩
    skip
    refine blk_x ?_
    refine then_n ?_
    refine wp_seq ?_
    obtain ⟨t26, h27, H⟩ := bind_some H
    obtain ⟨t28, h29, H⟩ := bind_some H
    refine s_region ?_
    refine s_val hF rfl rfl rfl (e_move hF rfl) ?_; intro a hF
    refine s_val hF rfl rfl rfl (e_move hF rfl) ?_; intro a hF
    refine s_call hF rfl rfl rfl Try.call60 (spec_l2All.calls K a1 t26 h27) ?_; intro a w v hF hf hR
    subst hR; have hM := hM.grow hf
    refine s_call hF rfl rfl rfl Try.call61 (spec_l2Cut.calls K x16 t26 t28 h29) ?_; intro a w v hF hf hR
    subst hR; have hM := hM.grow hf
    refine s_stw (i := 0) (ps' := [Pt.ar t28]) hF hM rfl rfl rfl rfl rfl rfl Try.sizeOf33 rfl ?_; intro a w hF hM
    refine s_nil ?_
    refine then_n ?_
    refine wp_ret ?_
    obtain rfl := some_some H
    refine s_ret [ag [Pt.ar t28]] hF Try.results67 ⟨⟨_, rfl, rv_box hM (i := 0) rfl Try.isAgg33 Try.sizeOf33 rfl⟩, trivial⟩ ?_
    exact ⟨_, rfl, hM.frm, rfl⟩

/-! ### loop.example/g01210/spec.l2Less: function 74 -/
def spec_l2Less.f (K : Nat) (a0 : (Ar 2)) (a1 : (Ar 2)) : Option Bool := some (decide ((wrap64 ((a0.get 0) * (a1.get 1))) < (wrap64 ((a1.get 0) * (a0.get 1)))))
set_option maxRecDepth 100000 in
set_option maxHeartbeats 4000000 in
theorem spec_l2Less.calls {w0 : World} (K : Nat) (a0 : (Ar 2)) (a1 : (Ar 2)) (r : Bool) (H : spec_l2Less.f K a0 a1 = some r) : Calls Try.prog 74 [ag [Pt.ar a0], ag [Pt.ar a1]].toArray w0 (Post w0 fun w v => v = Value.bool r) := by
  rw [spec_l2Less.f] at H
  refine s_start Try.func74 rfl Try.ntmps74 rfl ?_
  intro a hF
  have hM := Ms.start w0
  skip
  refine wp_seq ?_
  refine s_region ?_
  refine s_box (ps := [Pt.ar a0]) hF hM rfl rfl rfl rfl ?_; intro a w b1 hF hM
  refine s_box (ps := [Pt.ar a1]) hF hM rfl rfl rfl rfl ?_; intro a w b2 hF hM
  refine s_val hF rfl rfl rfl (e_assign hF rfl) ?_; intro a hF
  refine s_nil ?_
  refine then_n ?_
  refine wp_seq ?_
  refine s_region ?_
  refine s_val hF rfl rfl rfl (e_ia hF rfl rfl Try.underlying33 Try.sizeOf3 (by decide) (by decide)) ?_; intro a hF
  refine s_val hF rfl rfl rfl (e_ldi (i := 1) (k := 0) hF hM rfl rfl rfl rfl rfl Try.isAgg3 (by decide) (by decide)) ?_; intro a hF
  refine s_val hF rfl rfl rfl (e_ia hF rfl rfl Try.underlying33 Try.sizeOf3 (by decide) (by decide)) ?_; intro a hF
  refine s_val hF rfl rfl rfl (e_ldi (i := 0) (k := 0) hF hM rfl rfl rfl rfl rfl Try.isAgg3 (by decide) (by decide)) ?_; intro a hF
  refine s_val hF rfl rfl rfl (e_mul hF rfl rfl) ?_; intro a hF
  refine s_val hF rfl rfl rfl (e_ia hF rfl rfl Try.underlying33 Try.sizeOf3 (by decide) (by decide)) ?_; intro a hF
  refine s_val hF rfl rfl rfl (e_ldi (i := 0) (k := 0) hF hM rfl rfl rfl rfl rfl Try.isAgg3 (by decide) (by decide)) ?_; intro a hF
  refine s_val hF rfl rfl rfl (e_ia hF rfl rfl Try.underlying33 Try.sizeOf3 (by decide) (by decide)) ?_; intro a hF
  refine s_val hF rfl rfl rfl (e_ldi (i := 1) (k := 0) hF hM rfl rfl rfl rfl rfl Try.isAgg3 (by decide) (by decide)) ?_; intro a hF
  refine s_val hF rfl rfl rfl (e_mul hF rfl rfl) ?_; intro a hF
  refine s_val hF rfl rfl rfl (e_lss hF rfl rfl) ?_; intro a hF
  refine s_val hF rfl rfl rfl (e_assign hF rfl) ?_; intro a hF
  refine s_nil ?_
  refine then_n ?_
  refine wp_ret ?_
  obtain rfl := some_some H
  refine s_ret [Value.bool (decide ((wrap64 ((a0.get 0) * (a1.get 1))) < (wrap64 ((a1.get 0) * (a0.get 1)))))] hF Try.results74 ⟨rfl, trivial⟩ ?_
  exact ⟨_, rfl, hM.frm, rfl⟩

/-! ### loop.example/g01210/spec.BestRunner: function 48 -/
def spec_BestRunner.l0 (K : Nat) (l0 : (List (Ar 6))) (a1 : Int) : Nat → Int → Int → (Ar 2) → Option (Sum (Int × (Ar 2)) (Int × (Ar 2) × Bool))
  | 0, _, _, _ => none
  | k + 1, x48, x49, x50 => if x49 < (l0.length : Int) then (if (0 : Int) ≤ x49 ∧ x49 < (l0.length : Int) then ((spec_l7Die.f K (l0.getD (x49 : Int).toNat (Ar.zero 6))).bind fun t53 => if t53 = true then ((spec_l7Mean.f K (l0.getD (x49 : Int).toNat (Ar.zero 6)) a1).bind fun t56 => if x49 = 0 then (spec_BestRunner.l0 K l0 a1 k x49 (wrap64 (x49 + 1)) t56) else ((spec_l2Less.f K t56 x50).bind fun t60 => if t60 = true then (spec_BestRunner.l0 K l0 a1 k x49 (wrap64 (x49 + 1)) t56) else (spec_BestRunner.l0 K l0 a1 k x48 (wrap64 (x49 + 1)) x50))) else (some (Sum.inr (0, (⟨[0, 0], rfl⟩ : Ar 2), false)))) else none) else (some (Sum.inl (x48, x50)))
def spec_BestRunner.f (K : Nat) (l0 : (List (Ar 6))) (a1 : Int) : Option (Int × (Ar 2) × Bool) := (spec_l3Row.f K l0).bind fun t2 => if t2 = true then ((spec_l7Goal.f K a1).bind fun t5 => if t5 = true then ((spec_BestRunner.l0 K l0 a1 K 0 0 (⟨[0, 0], rfl⟩ : Ar 2)).bind fun o63 => (match o63 with | .inl (x46, x47) => some (x46, x47, true) | .inr r65 => some (r65.1, r65.2.1, r65.2.2))) else (some (0, (⟨[0, 0], rfl⟩ : Ar 2), false))) else (some (0, (⟨[0, 0], rfl⟩ : Ar 2), false))
set_option maxRecDepth 100000 in
set_option maxHeartbeats 4000000 in
theorem spec_BestRunner.calls {w0 : World} (K : Nat) (l0 : (List (Ar 6))) (u0 : Value) (q0 : SlR cd22 w0 u0 l0) (a1 : Int) (r : (Int × (Ar 2) × Bool)) (H : spec_BestRunner.f K l0 a1 = some r) : Calls Try.prog 48 [u0, Value.int .i64 a1].toArray w0 (Post w0 fun w v => v = Value.tuple #[Value.int .i64 r.1, ag [Pt.ar r.2.1], Value.bool r.2.2]) := by
  rw [spec_BestRunner.f] at H
  refine s_start Try.func48 rfl Try.ntmps48 rfl ?_
  intro a hF
  have hM := Ms.start w0
  skip
  refine wp_seq ?_
  refine s_region ?_
  refine s_val hF rfl rfl rfl (e_assign hF rfl) ?_; intro a hF
  refine s_alloc (ps := [Pt.ar (Ar.zero 2)]) hF hM rfl rfl zv33 rfl ?_; intro a w b1 hF hM
  refine s_val hF rfl rfl rfl (e_assign hF rfl) ?_; intro a hF
  refine s_nil ?_
  refine then_n ?_
  refine wp_seq ?_
  refine wp_seq ?_
  obtain ⟨t2, h3, H⟩ := bind_some H
  rcases ite_cases H with ⟨c4, H⟩ | ⟨c4, H⟩
  ·
    obtain ⟨t5, h6, H⟩ := bind_some H
    refine s_region ?_
    refine s_val hF rfl rfl rfl (e_move hF rfl) ?_; intro a hF
    refine s_call hF rfl rfl rfl Try.call77 (spec_l3Row.calls K l0 u0 (q0.frm hM.frm) t2 h3) ?_; intro a w v hF hf hR
    subst hR; have hM := hM.grow hf
    refine s_val hF rfl rfl rfl (e_not hF rfl) ?_; intro a hF
    refine s_val hF rfl rfl rfl (e_move hF rfl) ?_; intro a hF
    have hF := hF.topb (congrArg Bool.not c4)
    refine s_val hF rfl rfl rfl (e_move hF rfl) ?_; intro a hF
    refine s_call hF rfl rfl rfl Try.call53 (spec_l7Goal.calls K a1 t5 h6) ?_; intro a w v hF hf hR
    subst hR; have hM := hM.grow hf
    refine s_val hF rfl rfl rfl (e_not hF rfl) ?_; intro a hF
    refine s_val hF rfl rfl rfl (e_pick_f hF rfl rfl) ?_; intro a hF
    refine s_nil ?_
    refine then_n ?_
    rcases ite_cases H with ⟨c7, H⟩ | ⟨c7, H⟩
    ·
      refine s_cond_f hF rfl (congrArg Bool.not c7) ?_
      refine wp_skip ?_
      refine then_n ?_
      refine wp_seq ?_
      refine s_region ?_
      refine s_val hF rfl rfl rfl (e_build' (cells := cat [Pt.ar (⟨[0, 0], rfl⟩ : Ar 2)]) hF rfl (by kernel_rfl)) ?_; intro a hF
      refine s_alloc (ps := [Pt.ar (Ar.zero 2)]) hF hM rfl rfl zv33 rfl ?_; intro a w b8 hF hM
      refine s_val hF rfl rfl rfl (e_assign hF rfl) ?_; intro a hF
      refine s_stw (i := 0) (ps' := [Pt.ar (⟨[0, 0], rfl⟩ : Ar 2)]) hF hM rfl rfl rfl rfl rfl rfl Try.sizeOf33 rfl ?_; intro a w hF hM
      refine s_nil ?_
      refine then_n ?_
      refine wp_seq ?_
      refine wp_seq ?_
      refine s_region ?_
      refine s_val hF rfl rfl rfl (e_assign hF rfl) ?_; intro a hF
      refine s_nil ?_
      refine then_n ?_
      refine wp_block ?_
      obtain ⟨o63, h64, H⟩ := bind_some H
      refine wp_mono (Q := fun e a w => (e = Exit.exit 0 ∧ ∃ x46 : Int, ∃ x47 : (Ar 2), Sum.inl (x46, x47) = o63 ∧ Fr 51 a [(5, pt b1 0), (7, Value.int .i64 x46), (8, pt b8 0)] ∧ Ms [] w0 w [boxR b1 [Pt.ar (Ar.zero 2)] 33, boxR b8 [Pt.ar x47] 33]) ∨ (e = Exit.ret ∧ ∃ b66 : Nat, ∃ r65 : (Int × (Ar 2) × Bool), Sum.inr r65 = o63 ∧ Fr 51 a [(4, Value.int .i64 r65.1), (5, pt b66 0), (6, Value.bool r65.2.2)] ∧ Ms [] w0 w [boxR b66 [Pt.ar r65.2.1] 33])) ?_ ?_
      · refine s_loop (fun kq a w => ∃ x48 : Int, ∃ x49 : Int, ∃ x50 : (Ar 2), spec_BestRunner.l0 K l0 a1 kq x48 x49 x50 = some o63 ∧ Fr 51 a [(0, u0), (1, Value.int .i64 a1), (5, pt b1 0), (7, Value.int .i64 x48), (8, pt b8 0), (9, Value.int .i64 x49)] ∧ Ms [] w0 w [boxR b1 [Pt.ar (Ar.zero 2)] 33, boxR b8 [Pt.ar x50] 33]) K ⟨0, 0, (⟨[0, 0], rfl⟩ : Ar 2), h64, hF.sub _ ⟨rfl, rfl, rfl, rfl, rfl, rfl, trivial⟩, hM.pick [1, 0] rfl rfl⟩ ?_ ?_
        · rintro a w ⟨_, _, _, H, _⟩; exact none_some H
        · rintro k a w ⟨x48, x49, x50, H, hF, hM⟩; rw [spec_BestRunner.l0] at H
          refine wp_seq ?_
          refine wp_seq ?_
          refine s_region ?_
          refine s_val hF rfl rfl rfl (e_move hF rfl) ?_; intro a hF
          refine s_val hF rfl rfl rfl (e_move hF rfl) ?_; intro a hF
          refine s_val hF rfl rfl rfl (e_len hF rfl (q0.frm hM.frm).toF Try.underlying54) ?_; intro a hF
          refine s_val hF rfl rfl rfl (e_lss hF rfl rfl) ?_; intro a hF
          refine s_nil ?_
          refine then_n ?_
          rcases ite_cases H with ⟨c51, H⟩ | ⟨c51, H⟩
          ·
            refine s_cond_t hF rfl (decide_eq_true c51) ?_
            refine wp_skip ?_
            refine then_n ?_
            refine wp_seq ?_
            refine wp_block ?_
            refine wp_seq ?_
            refine wp_seq ?_
            obtain ⟨c52, H⟩ := ite_some H
            obtain ⟨t53, h54, H⟩ := bind_some H
            refine s_region ?_
            refine s_val hF rfl rfl rfl (e_move hF rfl) ?_; intro a hF
            refine s_val hF rfl rfl rfl (e_move hF rfl) ?_; intro a hF
            refine s_val hF rfl rfl rfl (e_ias cd22 hF rfl rfl (q0.frm hM.frm).toF Try.underlying54 Try.sizeOf22 c52.1 c52.2) ?_; intro a hF
            refine s_val hF rfl rfl rfl (e_ldsa (m := x49) hF rfl (q0.frm hM.frm) (getD_some (z := (Ar.zero 6)) c52.1 c52.2) Try.isAgg22 Try.sizeOf22) ?_; intro a hF
            refine s_call hF rfl rfl rfl Try.call52 (spec_l7Die.calls K (l0.getD (x49 : Int).toNat (Ar.zero 6)) t53 h54) ?_; intro a w v hF hf hR
            subst hR; have hM := hM.grow hf
            refine s_val hF rfl rfl rfl (e_not hF rfl) ?_; intro a hF
            refine s_nil ?_
            refine then_n ?_
            rcases ite_cases H with ⟨c55, H⟩ | ⟨c55, H⟩
            ·
              refine s_cond_f hF rfl (congrArg Bool.not c55) ?_
              refine wp_skip ?_
              refine then_n ?_
              refine wp_seq ?_
              obtain ⟨t56, h57, H⟩ := bind_some H
              refine s_region ?_
              refine s_val hF rfl rfl rfl (e_move hF rfl) ?_; intro a hF
              refine s_val hF rfl rfl rfl (e_move hF rfl) ?_; intro a hF
              refine s_val hF rfl rfl rfl (e_ias cd22 hF rfl rfl (q0.frm hM.frm).toF Try.underlying54 Try.sizeOf22 c52.1 c52.2) ?_; intro a hF
              refine s_val hF rfl rfl rfl (e_ldsa (m := x49) hF rfl (q0.frm hM.frm) (getD_some (z := (Ar.zero 6)) c52.1 c52.2) Try.isAgg22 Try.sizeOf22) ?_; intro a hF
              refine s_val hF rfl rfl rfl (e_move hF rfl) ?_; intro a hF
              refine s_call hF rfl rfl rfl Try.call67 (spec_l7Mean.calls K (l0.getD (x49 : Int).toNat (Ar.zero 6)) a1 t56 h57) ?_; intro a w v hF hf hR
              subst hR; have hM := hM.grow hf
              refine s_alloc (ps := [Pt.ar (Ar.zero 2)]) hF hM rfl rfl zv33 rfl ?_; intro a w b58 hF hM
              refine s_stw (i := 0) (ps' := [Pt.ar t56]) hF hM rfl rfl rfl rfl rfl rfl Try.sizeOf33 rfl ?_; intro a w hF hM
              refine s_nil ?_
              refine then_n ?_
              refine wp_seq ?_
              rcases ite_cases H with ⟨c59, H⟩ | ⟨c59, H⟩
              ·
                refine s_region ?_
                refine s_val hF rfl rfl rfl (e_move hF rfl) ?_; intro a hF
                refine s_val hF rfl rfl rfl (e_eql hF rfl rfl) ?_; intro a hF
                refine s_val hF rfl rfl rfl (e_move hF rfl) ?_; intro a hF
                have hF := hF.topb (decide_eq_true c59)
                refine s_skip hF rfl rfl rfl ?_; intro a hF
                refine s_skip hF rfl rfl rfl ?_; intro a hF
                refine s_skip hF rfl rfl rfl ?_; intro a hF
                refine s_val hF rfl rfl rfl (e_pick_t hF rfl rfl) ?_; intro a hF
                refine s_nil ?_
                refine then_n ?_
                refine s_cond_t hF rfl rfl ?_
                refine wp_seq ?_
                refine s_region ?_
                refine s_val hF rfl rfl rfl (e_move hF rfl) ?_; intro a hF
                refine s_val hF rfl rfl rfl (e_assign hF rfl) ?_; intro a hF
                refine s_nil ?_
                refine then_n ?_
                refine s_region ?_
                refine s_val hF rfl rfl rfl (e_lda (i := 0) 0 1 hF hM rfl rfl rfl rfl Try.isAgg33 Try.sizeOf33 rfl) ?_; intro a hF
                refine s_stw (i := 2) (ps' := [Pt.ar t56]) hF hM rfl rfl rfl rfl rfl rfl Try.sizeOf33 rfl ?_; intro a w hF hM
                refine s_nil ?_
                refine blk_n ?_
                refine then_n ?_
                refine s_region ?_
                refine s_val hF rfl rfl rfl (e_move hF rfl) ?_; intro a hF
                refine s_val hF rfl rfl rfl (e_add hF rfl rfl) ?_; intro a hF
                refine s_val hF rfl rfl rfl (e_assign hF rfl) ?_; intro a hF
                refine s_nil ?_
                refine then_n ?_
                exact ⟨x49, (wrap64 (x49 + 1)), t56, H, hF.sub _ ⟨rfl, rfl, rfl, rfl, rfl, rfl, trivial⟩, hM.pick [1, 2] rfl rfl⟩
              ·
                obtain ⟨t60, h61, H⟩ := bind_some H
                refine s_region ?_
                refine s_val hF rfl rfl rfl (e_move hF rfl) ?_; intro a hF
                refine s_val hF rfl rfl rfl (e_eql hF rfl rfl) ?_; intro a hF
                refine s_val hF rfl rfl rfl (e_move hF rfl) ?_; intro a hF
                have hF := hF.topb (decide_eq_false c59)
                refine s_val hF rfl rfl rfl (e_lda (i := 0) 0 1 hF hM rfl rfl rfl rfl Try.isAgg33 Try.sizeOf33 rfl) ?_; intro a hF
                refine s_val hF rfl rfl rfl (e_lda (i := 2) 0 1 hF hM rfl rfl rfl rfl Try.isAgg33 Try.sizeOf33 rfl) ?_; intro a hF
                refine s_call hF rfl rfl rfl Try.call74 (spec_l2Less.calls K t56 x50 t60 h61) ?_; intro a w v hF hf hR
                subst hR; have hM := hM.grow hf
                refine s_val hF rfl rfl rfl (e_pick_f hF rfl rfl) ?_; intro a hF
                refine s_nil ?_
                refine then_n ?_
                rcases ite_cases H with ⟨c62, H⟩ | ⟨c62, H⟩
                ·
                  refine s_cond_t hF rfl c62 ?_
                  refine wp_seq ?_
                  refine s_region ?_
                  refine s_val hF rfl rfl rfl (e_move hF rfl) ?_; intro a hF
                  refine s_val hF rfl rfl rfl (e_assign hF rfl) ?_; intro a hF
                  refine s_nil ?_
                  refine then_n ?_
                  refine s_region ?_
                  refine s_val hF rfl rfl rfl (e_lda (i := 0) 0 1 hF hM rfl rfl rfl rfl Try.isAgg33 Try.sizeOf33 rfl) ?_; intro a hF
                  refine s_stw (i := 2) (ps' := [Pt.ar t56]) hF hM rfl rfl rfl rfl rfl rfl Try.sizeOf33 rfl ?_; intro a w hF hM
                  refine s_nil ?_
                  refine blk_n ?_
                  refine then_n ?_
                  refine s_region ?_
                  refine s_val hF rfl rfl rfl (e_move hF rfl) ?_; intro a hF
                  refine s_val hF rfl rfl rfl (e_add hF rfl rfl) ?_; intro a hF
                  refine s_val hF rfl rfl rfl (e_assign hF rfl) ?_; intro a hF
                  refine s_nil ?_
                  refine then_n ?_
                  exact ⟨x49, (wrap64 (x49 + 1)), t56, H, hF.sub _ ⟨rfl, rfl, rfl, rfl, rfl, rfl, trivial⟩, hM.pick [1, 2] rfl rfl⟩
                ·
                  refine s_cond_f hF rfl (bf c62) ?_
                  refine wp_skip ?_
                  refine blk_n ?_
                  refine then_n ?_
                  refine s_region ?_
                  refine s_val hF rfl rfl rfl (e_move hF rfl) ?_; intro a hF
                  refine s_val hF rfl rfl rfl (e_add hF rfl rfl) ?_; intro a hF
                  refine s_val hF rfl rfl rfl (e_assign hF rfl) ?_; intro a hF
                  refine s_nil ?_
                  refine then_n ?_
                  exact ⟨x48, (wrap64 (x49 + 1)), x50, H, hF.sub _ ⟨rfl, rfl, rfl, rfl, rfl, rfl, trivial⟩, hM.pick [1, 2] rfl rfl⟩
            ·
              refine s_cond_t hF rfl (congrArg Bool.not (bf c55)) ?_
              refine wp_seq ?_
              refine s_region ?_
              refine s_val hF rfl rfl rfl (e_build' (cells := cat [Pt.ar (⟨[0, 0], rfl⟩ : Ar 2)]) hF rfl (by kernel_rfl)) ?_; intro a hF
              refine s_val hF rfl rfl rfl (e_assign hF rfl) ?_; intro a hF
              refine s_stw (i := 0) (ps' := [Pt.ar (⟨[0, 0], rfl⟩ : Ar 2)]) hF hM rfl rfl rfl rfl rfl rfl Try.sizeOf33 rfl ?_; intro a w hF hM
              refine s_val hF rfl rfl rfl (e_assign hF rfl) ?_; intro a hF
              refine s_nil ?_
              refine then_n ?_
              refine wp_ret ?_
              refine then_r ?_
              refine blk_r ?_
              refine then_r ?_
              refine then_r ?_
              exact Or.inr (⟨rfl, b1, (0, (⟨[0, 0], rfl⟩ : Ar 2), false), some_some H, hF.sub _ ⟨rfl, rfl, rfl, trivial⟩, hM.pick [0] rfl rfl⟩)
          ·
            refine s_cond_f hF rfl (decide_eq_false c51) ?_
            refine wp_exit ?_
            refine then_x ?_
            refine then_x ?_
            exact Or.inl (⟨rfl, x48, x50, some_some H, hF.sub _ ⟨rfl, rfl, rfl, trivial⟩, hM.pick [0, 1] rfl rfl⟩)
      · rintro e a w (⟨rfl, x46, x47, rfl, hF, hM⟩ | ⟨rfl, b66, r65, rfl, hF, hM⟩)
        ·
          dsimp only at H
          refine blk_x ?_
          refine then_n ?_
          refine wp_seq ?_
          refine s_held (fun w => Ms [] w0 w [boxR b8 [Pt.ar x47] 33]) #[false, false, false, false, false] mixed rfl rfl hM ?_; intro w hf hM; clear hf
          refine h_val 0 #[true, false, false, false, false] rfl (by kernel_rfl) hF rfl rfl rfl (fun w hS => e_move hF rfl) (hM.pick [1] rfl rfl) ?_; intro a hF
          refine h_val 1 #[true, true, false, false, false] rfl (by kernel_rfl) hF rfl rfl rfl (fun w hS => e_lda (i := 0) 0 1 hF hS rfl rfl rfl rfl Try.isAgg33 Try.sizeOf33 rfl) (hM.pick [1] rfl rfl) ?_; intro a hF
          refine h_val 2 #[true, true, true, false, false] rfl (by kernel_rfl) hF rfl rfl rfl (fun w hS => e_assign hF rfl) (hM.pick [1] rfl rfl) ?_; intro a hF
          refine h_one 3 #[true, true, true, true, false] rfl (by kernel_rfl) ?_
          refine s_stw (i := 0) (ps' := [Pt.ar x47]) hF hM rfl rfl rfl rfl rfl rfl Try.sizeOf33 rfl ?_; intro a w hF hM
          refine s_nil ⟨rfl, (hM.pick [1] rfl rfl), ?_⟩
          refine h_val 4 #[true, true, true, true, true] rfl (by kernel_rfl) hF rfl rfl rfl (fun w hS => e_assign hF rfl) (hM.pick [1] rfl rfl) ?_; intro a hF
          refine h_done rfl ?_
          refine then_n ?_
          refine wp_ret ?_
          obtain rfl := some_some H
          refine s_ret [Value.int .i64 x46, ag [Pt.ar x47], Value.bool true] hF Try.results48 ⟨rfl, ⟨_, rfl, rv_box hM (i := 0) rfl Try.isAgg33 Try.sizeOf33 rfl⟩, rfl, trivial⟩ ?_
          exact ⟨_, rfl, hM.frm, rfl⟩
        ·
          dsimp only at H
          refine blk_r ?_
          refine then_r ?_
          obtain rfl := some_some H
          refine s_ret [Value.int .i64 r65.1, ag [Pt.ar r65.2.1], Value.bool r65.2.2] hF Try.results48 ⟨rfl, ⟨_, rfl, rv_box hM (i := 0) rfl Try.isAgg33 Try.sizeOf33 rfl⟩, rfl, trivial⟩ ?_
          exact ⟨_, rfl, hM.frm, rfl⟩
    ·
      refine s_cond_t hF rfl (congrArg Bool.not (bf c7)) ?_
      refine wp_seq ?_
      refine s_region ?_
      refine s_val hF rfl rfl rfl (e_build' (cells := cat [Pt.ar (⟨[0, 0], rfl⟩ : Ar 2)]) hF rfl (by kernel_rfl)) ?_; intro a hF
      refine s_val hF rfl rfl rfl (e_assign hF rfl) ?_; intro a hF
      refine s_stw (i := 0) (ps' := [Pt.ar (⟨[0, 0], rfl⟩ : Ar 2)]) hF hM rfl rfl rfl rfl rfl rfl Try.sizeOf33 rfl ?_; intro a w hF hM
      refine s_val hF rfl rfl rfl (e_assign hF rfl) ?_; intro a hF
      refine s_nil ?_
      refine then_n ?_
      refine wp_ret ?_
      refine then_r ?_
      obtain rfl := some_some H
      refine s_ret [Value.int .i64 0, ag [Pt.ar (⟨[0, 0], rfl⟩ : Ar 2)], Value.bool false] hF Try.results48 ⟨rfl, ⟨_, rfl, rv_box hM (i := 0) rfl Try.isAgg33 Try.sizeOf33 rfl⟩, rfl, trivial⟩ ?_
      exact ⟨_, rfl, hM.frm, rfl⟩
  ·
    refine s_region ?_
    refine s_val hF rfl rfl rfl (e_move hF rfl) ?_; intro a hF
    refine s_call hF rfl rfl rfl Try.call77 (spec_l3Row.calls K l0 u0 (q0.frm hM.frm) t2 h3) ?_; intro a w v hF hf hR
    subst hR; have hM := hM.grow hf
    refine s_val hF rfl rfl rfl (e_not hF rfl) ?_; intro a hF
    refine s_val hF rfl rfl rfl (e_move hF rfl) ?_; intro a hF
    have hF := hF.topb (congrArg Bool.not (bf c4))
    refine s_skip hF rfl rfl rfl ?_; intro a hF
    refine s_skip hF rfl rfl rfl ?_; intro a hF
    refine s_skip hF rfl rfl rfl ?_; intro a hF
    refine s_val hF rfl rfl rfl (e_pick_t hF rfl rfl) ?_; intro a hF
    refine s_nil ?_
    refine then_n ?_
    refine s_cond_t hF rfl rfl ?_
    refine wp_seq ?_
    refine s_region ?_
    refine s_val hF rfl rfl rfl (e_build' (cells := cat [Pt.ar (⟨[0, 0], rfl⟩ : Ar 2)]) hF rfl (by kernel_rfl)) ?_; intro a hF
    refine s_val hF rfl rfl rfl (e_assign hF rfl) ?_; intro a hF
    refine s_stw (i := 0) (ps' := [Pt.ar (⟨[0, 0], rfl⟩ : Ar 2)]) hF hM rfl rfl rfl rfl rfl rfl Try.sizeOf33 rfl ?_; intro a w hF hM
    refine s_val hF rfl rfl rfl (e_assign hF rfl) ?_; intro a hF
    refine s_nil ?_
    refine then_n ?_
    refine wp_ret ?_
    refine then_r ?_
    obtain rfl := some_some H
    refine s_ret [Value.int .i64 0, ag [Pt.ar (⟨[0, 0], rfl⟩ : Ar 2)], Value.bool false] hF Try.results48 ⟨rfl, ⟨_, rfl, rv_box hM (i := 0) rfl Try.isAgg33 Try.sizeOf33 rfl⟩, rfl, trivial⟩ ?_
    exact ⟨_, rfl, hM.frm, rfl⟩

/-! ### loop.example/g01210/impl.within: function 62 -/
def impl_within.f (K : Nat) (a0 : Int) (a1 : Int) (a2 : Int) : Option Bool := if a1 ≤ a0 then (some (decide (a0 ≤ a2))) else (some false)
set_option maxRecDepth 100000 in
set_option maxHeartbeats 4000000 in
theorem impl_within.calls {w0 : World} (K : Nat) (a0 : Int) (a1 : Int) (a2 : Int) (r : Bool) (H : impl_within.f K a0 a1 a2 = some r) : Calls Try.prog 62 [Value.int .i64 a0, Value.int .i64 a1, Value.int .i64 a2].toArray w0 (Post w0 fun w v => v = Value.bool r) := by
  rw [impl_within.f] at H
  refine s_start Try.func62 rfl Try.ntmps62 rfl ?_
  intro a hF
  have hM := Ms.start w0
  skip
  refine wp_seq ?_
  refine s_region ?_
  refine s_val hF rfl rfl rfl (e_assign hF rfl) ?_; intro a hF
  refine s_nil ?_
  refine then_n ?_
  refine wp_seq ?_
  rcases ite_cases H with ⟨c1, H⟩ | ⟨c1, H⟩
  ·
    refine s_region ?_
    refine s_val hF rfl rfl rfl (e_move hF rfl) ?_; intro a hF
    refine s_val hF rfl rfl rfl (e_move hF rfl) ?_; intro a hF
    refine s_val hF rfl rfl rfl (e_leq hF rfl rfl) ?_; intro a hF
    refine s_val hF rfl rfl rfl (e_move hF rfl) ?_; intro a hF
    have hF := hF.topb (decide_eq_true c1)
    refine s_val hF rfl rfl rfl (e_move hF rfl) ?_; intro a hF
    refine s_val hF rfl rfl rfl (e_move hF rfl) ?_; intro a hF
    refine s_val hF rfl rfl rfl (e_leq hF rfl rfl) ?_; intro a hF
    refine s_val hF rfl rfl rfl (e_pick_t hF rfl rfl) ?_; intro a hF
    refine s_val hF rfl rfl rfl (e_assign hF rfl) ?_; intro a hF
    refine s_nil ?_
    refine then_n ?_
    refine wp_ret ?_
    obtain rfl := some_some H
    refine s_ret [Value.bool (decide (a0 ≤ a2))] hF Try.results62 ⟨rfl, trivial⟩ ?_
    exact ⟨_, rfl, hM.frm, rfl⟩
  ·
    refine s_region ?_
    refine s_val hF rfl rfl rfl (e_move hF rfl) ?_; intro a hF
    refine s_val hF rfl rfl rfl (e_move hF rfl) ?_; intro a hF
    refine s_val hF rfl rfl rfl (e_leq hF rfl rfl) ?_; intro a hF
    refine s_val hF rfl rfl rfl (e_move hF rfl) ?_; intro a hF
    have hF := hF.topb (decide_eq_false c1)
    refine s_skip hF rfl rfl rfl ?_; intro a hF
    refine s_skip hF rfl rfl rfl ?_; intro a hF
    refine s_skip hF rfl rfl rfl ?_; intro a hF
    refine s_val hF rfl rfl rfl (e_pick_f hF rfl rfl) ?_; intro a hF
    refine s_val hF rfl rfl rfl (e_assign hF rfl) ?_; intro a hF
    refine s_nil ?_
    refine then_n ?_
    refine wp_ret ?_
    obtain rfl := some_some H
    refine s_ret [Value.bool false] hF Try.results62 ⟨rfl, trivial⟩ ?_
    exact ⟨_, rfl, hM.frm, rfl⟩

/-! ### loop.example/g01210/impl.isFace: function 87 -/
def impl_isFace.f (K : Nat) (a0 : Int) : Option Bool := (impl_within.f K a0 0 30).bind fun t1 => some t1
set_option maxRecDepth 100000 in
set_option maxHeartbeats 4000000 in
theorem impl_isFace.calls {w0 : World} (K : Nat) (a0 : Int) (r : Bool) (H : impl_isFace.f K a0 = some r) : Calls Try.prog 87 [Value.int .i64 a0].toArray w0 (Post w0 fun w v => v = Value.bool r) := by
  rw [impl_isFace.f] at H
  refine s_start Try.func87 rfl Try.ntmps87 rfl ?_
  intro a hF
  have hM := Ms.start w0
  skip
  refine wp_seq ?_
  refine s_region ?_
  refine s_val hF rfl rfl rfl (e_assign hF rfl) ?_; intro a hF
  refine s_nil ?_
  refine then_n ?_
  refine wp_seq ?_
  obtain ⟨t1, h2, H⟩ := bind_some H
  refine s_region ?_
  refine s_val hF rfl rfl rfl (e_move hF rfl) ?_; intro a hF
  refine s_call hF rfl rfl rfl Try.call62 (impl_within.calls K a0 0 30 t1 h2) ?_; intro a w v hF hf hR
  subst hR; have hM := hM.grow hf
  refine s_val hF rfl rfl rfl (e_assign hF rfl) ?_; intro a hF
  refine s_nil ?_
  refine then_n ?_
  refine wp_ret ?_
  obtain rfl := some_some H
  refine s_ret [Value.bool t1] hF Try.results87 ⟨rfl, trivial⟩ ?_
  exact ⟨_, rfl, hM.frm, rfl⟩

/-! ### loop.example/g01210/impl.areAll[int]$1: function 91 -/
def impl_areAll_int_1__isFace.f (K : Nat) (a0 : Int) : Option Bool := (impl_isFace.f K a0).bind fun t3 => some (!t3)
set_option maxRecDepth 100000 in
set_option maxHeartbeats 4000000 in
theorem impl_areAll_int_1__isFace.calls {w0 : World} (K : Nat) (a0 : Int) (b1 : Nat) (q2 : (boxR b1 [Pt.val (Value.func (.func 87) #[] #[]) rfl] 61).holds w0) (r : Bool) (H : impl_areAll_int_1__isFace.f K a0 = some r) : Calls Try.prog 91 [Value.int .i64 a0, pt b1 0].toArray w0 (Post w0 fun w v => v = Value.bool r) := by
  rw [impl_areAll_int_1__isFace.f] at H
  refine s_start Try.func91 rfl Try.ntmps91 rfl ?_
  intro a hF
  have hM := Ms.start w0
  skip
  refine wp_seq ?_
  refine s_region ?_
  refine s_val hF rfl rfl rfl (e_assign hF rfl) ?_; intro a hF
  refine s_nil ?_
  refine then_n ?_
  refine wp_seq ?_
  obtain ⟨t3, h4, H⟩ := bind_some H
  refine s_region ?_
  refine s_val hF rfl rfl rfl (e_ldb (k := 0) hF (box_frm q2 hM.frm) rfl rfl rfl Try.isAgg61 rfl) ?_; intro a hF
  refine s_val hF rfl rfl rfl (e_move hF rfl) ?_; intro a hF
  refine s_callv hF rfl rfl rfl rfl (callsV_of Try.call87 (impl_isFace.calls K a0 t3 h4)) ?_; intro a w v hF ⟨hf, hR⟩
  subst hR; have hM := hM.grow hf
  refine s_val hF rfl rfl rfl (e_not hF rfl) ?_; intro a hF
  refine s_val hF rfl rfl rfl (e_assign hF rfl) ?_; intro a hF
  refine s_nil ?_
  refine then_n ?_
  refine wp_ret ?_
  obtain rfl := some_some H
  refine s_ret [Value.bool (!t3)] hF Try.results91 ⟨rfl, trivial⟩ ?_
  exact ⟨_, rfl, hM.frm, rfl⟩

/-! ### slices.IndexFunc[[]int,int]: function 93 -/
def slices_IndexFunc_int_int__areAll_int_1_isFace.l0 (K : Nat) (l0 : (List Int)) : Nat → Int → Option (Sum Unit Int)
  | 0, _ => none
  | k + 1, x14 => if x14 < (l0.length : Int) then (if (0 : Int) ≤ x14 ∧ x14 < (l0.length : Int) then ((impl_areAll_int_1__isFace.f K (l0.getD (x14 : Int).toNat (0 : Int))).bind fun t17 => if t17 = true then (some (Sum.inr x14)) else (slices_IndexFunc_int_int__areAll_int_1_isFace.l0 K l0 k (wrap64 (x14 + 1)))) else none) else (some (Sum.inl ()))
def slices_IndexFunc_int_int__areAll_int_1_isFace.f (K : Nat) (l0 : (List Int)) : Option Int := (slices_IndexFunc_int_int__areAll_int_1_isFace.l0 K l0 K 0).bind fun o20 => (match o20 with | .inl () => some (-1) | .inr r22 => some r22)
set_option maxRecDepth 100000 in
set_option maxHeartbeats 4000000 in
theorem slices_IndexFunc_int_int__areAll_int_1_isFace.calls {w0 : World} (K : Nat) (l0 : (List Int)) (u0 : Value) (q0 : SlR cd3 w0 u0 l0) (b1 : Nat) (q2 : (boxR b1 [Pt.val (Value.func (.func 87) #[] #[]) rfl] 61).holds w0) (r : Int) (H : slices_IndexFunc_int_int__areAll_int_1_isFace.f K l0 = some r) : Calls Try.prog 93 [u0, Value.func (.func 91) #[] #[pt b1 0]].toArray w0 (Post w0 fun w v => v = Value.int .i64 r) := by
  rw [slices_IndexFunc_int_int__areAll_int_1_isFace.f] at H
  refine s_start Try.func93 rfl Try.ntmps93 rfl ?_
  intro a hF
  have hM := Ms.start w0
  skip
  refine wp_seq ?_
  refine s_region ?_
  refine s_val hF rfl rfl rfl (e_assign hF rfl) ?_; intro a hF
  refine s_nil ?_
  refine then_n ?_
  refine wp_seq ?_
  refine wp_seq ?_
  refine s_region ?_
  refine s_val hF rfl rfl rfl (e_move hF rfl) ?_; intro a hF
  refine s_val hF rfl rfl rfl (e_len hF rfl (q0.frm hM.frm).toF Try.underlying23) ?_; intro a hF
  refine s_val hF rfl rfl rfl (e_move hF rfl) ?_; intro a hF
  refine s_nil ?_
  refine then_n ?_
  refine wp_block ?_
  obtain ⟨o20, h21, H⟩ := bind_some H
  refine wp_mono (Q := fun e a w => (e = Exit.exit 0 ∧ Sum.inl () = o20 ∧ Fr 19 a [] ∧ Ms [] w0 w []) ∨ (e = Exit.ret ∧ ∃ r22 : Int, Sum.inr r22 = o20 ∧ Fr 19 a [(4, Value.int .i64 r22)] ∧ Ms [] w0 w [])) ?_ ?_
  · refine s_loop (fun kq a w => ∃ x14 : Int, slices_IndexFunc_int_int__areAll_int_1_isFace.l0 K l0 kq x14 = some o20 ∧ Fr 19 a [(0, u0), (1, Value.func (.func 91) #[] #[pt b1 0]), (7, Value.int .i64 (l0.length : Int)), (8, Value.int .i64 x14)] ∧ Ms [] w0 w []) K ⟨0, h21, hF.sub _ ⟨rfl, rfl, rfl, rfl, trivial⟩, hM.pick [] rfl rfl⟩ ?_ ?_
    · rintro a w ⟨_, H, _⟩; exact none_some H
    · rintro k a w ⟨x14, H, hF, hM⟩; rw [slices_IndexFunc_int_int__areAll_int_1_isFace.l0] at H
      refine wp_seq ?_
      refine s_region ?_
      refine s_val hF rfl rfl rfl (e_lss hF rfl rfl) ?_; intro a hF
      refine s_nil ?_
      refine then_n ?_
      refine wp_seq ?_
      rcases ite_cases H with ⟨c15, H⟩ | ⟨c15, H⟩
      ·
        refine s_cond_t hF rfl (decide_eq_true c15) ?_
        refine wp_skip ?_
        refine then_n ?_
        refine wp_seq ?_
        refine wp_block ?_
        refine wp_seq ?_
        refine s_region ?_
        refine s_val hF rfl rfl rfl (e_move hF rfl) ?_; intro a hF
        refine s_val hF rfl rfl rfl (e_assign hF rfl) ?_; intro a hF
        refine s_nil ?_
        refine then_n ?_
        refine wp_seq ?_
        obtain ⟨c16, H⟩ := ite_some H
        obtain ⟨t17, h18, H⟩ := bind_some H
        refine s_region ?_
        refine s_val hF rfl rfl rfl (e_move hF rfl) ?_; intro a hF
        refine s_val hF rfl rfl rfl (e_move hF rfl) ?_; intro a hF
        refine s_val hF rfl rfl rfl (e_move hF rfl) ?_; intro a hF
        refine s_val hF rfl rfl rfl (e_ias cd3 hF rfl rfl (q0.frm hM.frm).toF Try.underlying23 Try.sizeOf3 c16.1 c16.2) ?_; intro a hF
        refine s_val hF rfl rfl rfl (e_lds (m := x14) hF rfl (q0.frm hM.frm) (getD_some (z := (0 : Int)) c16.1 c16.2) rfl rfl Try.isAgg3) ?_; intro a hF
        refine s_callv hF rfl rfl rfl rfl (callsV_of Try.call91 (impl_areAll_int_1__isFace.calls K (l0.getD (x14 : Int).toNat (0 : Int)) b1 (box_frm q2 hM.frm) t17 h18)) ?_; intro a w v hF ⟨hf, hR⟩
        subst hR; have hM := hM.grow hf
        refine s_nil ?_
        refine then_n ?_
        rcases ite_cases H with ⟨c19, H⟩ | ⟨c19, H⟩
        ·
          refine s_cond_t hF rfl c19 ?_
          refine wp_seq ?_
          refine s_region ?_
          refine s_val hF rfl rfl rfl (e_move hF rfl) ?_; intro a hF
          refine s_val hF rfl rfl rfl (e_assign hF rfl) ?_; intro a hF
          refine s_nil ?_
          refine then_n ?_
          refine wp_ret ?_
          refine blk_r ?_
          refine then_r ?_
          refine then_r ?_
          exact Or.inr (⟨rfl, x14, some_some H, hF.sub _ ⟨rfl, trivial⟩, hM.pick [] rfl rfl⟩)
        ·
          refine s_cond_f hF rfl (bf c19) ?_
          refine wp_skip ?_
          refine blk_n ?_
          refine then_n ?_
          refine s_region ?_
          refine s_val hF rfl rfl rfl (e_add hF rfl rfl) ?_; intro a hF
          refine s_val hF rfl rfl rfl (e_move hF rfl) ?_; intro a hF
          refine s_nil ?_
          refine then_n ?_
          exact ⟨(wrap64 (x14 + 1)), H, hF.sub _ ⟨rfl, rfl, rfl, rfl, trivial⟩, hM.pick [] rfl rfl⟩
      ·
        refine s_cond_f hF rfl (decide_eq_false c15) ?_
        refine wp_exit ?_
        refine then_x ?_
        refine then_x ?_
        exact Or.inl (⟨rfl, some_some H, hF.sub _ trivial, hM.pick [] rfl rfl⟩)
  · rintro e a w (⟨rfl, rfl, hF, hM⟩ | ⟨rfl, r22, rfl, hF, hM⟩)
    ·
      dsimp only at H
      refine blk_x ?_
      refine then_n ?_
      refine wp_seq ?_
      refine s_region ?_
      refine s_val hF rfl rfl rfl (e_assign hF rfl) ?_; intro a hF
      refine s_nil ?_
      refine then_n ?_
      refine wp_ret ?_
      obtain rfl := some_some H
      refine s_ret [Value.int .i64 (-1)] hF Try.results93 ⟨rfl, trivial⟩ ?_
      exact ⟨_, rfl, hM.frm, rfl⟩
    ·
      dsimp only at H
      refine blk_r ?_
      refine then_r ?_
      obtain rfl := some_some H
      refine s_ret [Value.int .i64 r22] hF Try.results93 ⟨rfl, trivial⟩ ?_
      exact ⟨_, rfl, hM.frm, rfl⟩

/-! ### slices.ContainsFunc[[]int,int]: function 90 -/
def slices_ContainsFunc_int_int__areAll_int_1_isFace.f (K : Nat) (l0 : (List Int)) : Option Bool := (slices_IndexFunc_int_int__areAll_int_1_isFace.f K l0).bind fun t3 => some (decide (0 ≤ t3))
set_option maxRecDepth 100000 in
set_option maxHeartbeats 4000000 in
theorem slices_ContainsFunc_int_int__areAll_int_1_isFace.calls {w0 : World} (K : Nat) (l0 : (List Int)) (u0 : Value) (q0 : SlR cd3 w0 u0 l0) (b1 : Nat) (q2 : (boxR b1 [Pt.val (Value.func (.func 87) #[] #[]) rfl] 61).holds w0) (r : Bool) (H : slices_ContainsFunc_int_int__areAll_int_1_isFace.f K l0 = some r) : Calls Try.prog 90 [u0, Value.func (.func 91) #[] #[pt b1 0]].toArray w0 (Post w0 fun w v => v = Value.bool r) := by
  rw [slices_ContainsFunc_int_int__areAll_int_1_isFace.f] at H
  refine s_start Try.func90 rfl Try.ntmps90 rfl ?_
  intro a hF
  have hM := Ms.start w0
  skip
  refine wp_seq ?_
  refine s_region ?_
  refine s_val hF rfl rfl rfl (e_assign hF rfl) ?_; intro a hF
  refine s_nil ?_
  refine then_n ?_
  refine wp_seq ?_
  obtain ⟨t3, h4, H⟩ := bind_some H
  refine s_region ?_
  refine s_val hF rfl rfl rfl (e_move hF rfl) ?_; intro a hF
  refine s_val hF rfl rfl rfl (e_move hF rfl) ?_; intro a hF
  refine s_call hF rfl rfl rfl Try.call93 (slices_IndexFunc_int_int__areAll_int_1_isFace.calls K l0 u0 (q0.frm hM.frm) b1 (box_frm q2 hM.frm) t3 h4) ?_; intro a w v hF hf hR
  subst hR; have hM := hM.grow hf
  refine s_val hF rfl rfl rfl (e_geq hF rfl rfl) ?_; intro a hF
  refine s_val hF rfl rfl rfl (e_assign hF rfl) ?_; intro a hF
  refine s_nil ?_
  refine then_n ?_
  refine wp_ret ?_
  obtain rfl := some_some H
  refine s_ret [Value.bool (decide (0 ≤ t3))] hF Try.results90 ⟨rfl, trivial⟩ ?_
  exact ⟨_, rfl, hM.frm, rfl⟩

/-! ### loop.example/g01210/impl.areAll[int]: function 86 -/
def impl_areAll_int__isFace.f (K : Nat) (l0 : (List Int)) : Option Bool := (slices_ContainsFunc_int_int__areAll_int_1_isFace.f K l0).bind fun t2 => some (!t2)
set_option maxRecDepth 100000 in
set_option maxHeartbeats 4000000 in
theorem impl_areAll_int__isFace.calls {w0 : World} (K : Nat) (l0 : (List Int)) (u0 : Value) (q0 : SlR cd3 w0 u0 l0) (r : Bool) (H : impl_areAll_int__isFace.f K l0 = some r) : Calls Try.prog 86 [u0, Value.func (.func 87) #[] #[]].toArray w0 (Post w0 fun w v => v = Value.bool r) := by
  rw [impl_areAll_int__isFace.f] at H
  refine s_start Try.func86 rfl Try.ntmps86 rfl ?_
  intro a hF
  have hM := Ms.start w0
  skip
  refine wp_seq ?_
  refine s_region ?_
  refine s_box (ps := [Pt.val (Value.func (.func 87) #[] #[]) rfl]) hF hM rfl rfl rfl rfl ?_; intro a w b1 hF hM
  refine s_val hF rfl rfl rfl (e_assign hF rfl) ?_; intro a hF
  refine s_nil ?_
  refine then_n ?_
  refine wp_seq ?_
  obtain ⟨t2, h3, H⟩ := bind_some H
  refine s_region ?_
  refine s_val hF rfl rfl rfl (e_move hF rfl) ?_; intro a hF
  refine s_val hF rfl rfl rfl (e_mkfunc (hF.evs' rfl)) ?_; intro a hF
  refine s_call hF rfl rfl rfl Try.call90 (slices_ContainsFunc_int_int__areAll_int_1_isFace.calls K l0 u0 (q0.frm hM.frm) b1 (hM.get 0 rfl) t2 h3) ?_; intro a w v hF hf hR
  subst hR; have hM := hM.grow hf
  refine s_val hF rfl rfl rfl (e_not hF rfl) ?_; intro a hF
  refine s_val hF rfl rfl rfl (e_assign hF rfl) ?_; intro a hF
  refine s_nil ?_
  refine then_n ?_
  refine wp_ret ?_
  obtain rfl := some_some H
  refine s_ret [Value.bool (!t2)] hF Try.results86 ⟨rfl, trivial⟩ ?_
  exact ⟨_, rfl, hM.frm, rfl⟩

/-! ### cmp.isNaN[int]: function 94 -/
def cmp_isNaN_int.f (K : Nat) (a0 : Int) : Option Bool := some (!(decide (a0 = a0)))
set_option maxRecDepth 100000 in
set_option maxHeartbeats 4000000 in
theorem cmp_isNaN_int.calls {w0 : World} (K : Nat) (a0 : Int) (r : Bool) (H : cmp_isNaN_int.f K a0 = some r) : Calls Try.prog 94 [Value.int .i64 a0].toArray w0 (Post w0 fun w v => v = Value.bool r) := by
  rw [cmp_isNaN_int.f] at H
  refine s_start Try.func94 rfl Try.ntmps94 rfl ?_
  intro a hF
  have hM := Ms.start w0
  skip
  refine wp_seq ?_
  refine s_region ?_
  refine s_val hF rfl rfl rfl (e_assign hF rfl) ?_; intro a hF
  refine s_nil ?_
  refine then_n ?_
  refine wp_seq ?_
  refine s_region ?_
  refine s_val hF rfl rfl rfl (e_move hF rfl) ?_; intro a hF
  refine s_val hF rfl rfl rfl (e_move hF rfl) ?_; intro a hF
  refine s_val hF rfl rfl rfl (e_neq hF rfl rfl) ?_; intro a hF
  refine s_val hF rfl rfl rfl (e_assign hF rfl) ?_; intro a hF
  refine s_nil ?_
  refine then_n ?_
  refine wp_ret ?_
  obtain rfl := some_some H
  refine s_ret [Value.bool (!(decide (a0 = a0)))] hF Try.results94 ⟨rfl, trivial⟩ ?_
  exact ⟨_, rfl, hM.frm, rfl⟩

/-! ### cmp.Less[int]: function 92 -/
def cmp_Less_int.f (K : Nat) (a0 : Int) (a1 : Int) : Option Bool := (cmp_isNaN_int.f K a0).bind fun t1 => if t1 = true then ((cmp_isNaN_int.f K a1).bind fun t4 => if t4 = true then (some (decide (a0 < a1))) else (some true)) else (some (decide (a0 < a1)))
set_option maxRecDepth 100000 in
set_option maxHeartbeats 4000000 in
theorem cmp_Less_int.calls {w0 : World} (K : Nat) (a0 : Int) (a1 : Int) (r : Bool) (H : cmp_Less_int.f K a0 a1 = some r) : Calls Try.prog 92 [Value.int .i64 a0, Value.int .i64 a1].toArray w0 (Post w0 fun w v => v = Value.bool r) := by
  rw [cmp_Less_int.f] at H
  refine s_start Try.func92 rfl Try.ntmps92 rfl ?_
  intro a hF
  have hM := Ms.start w0
  skip
  refine wp_seq ?_
  refine s_region ?_
  refine s_val hF rfl rfl rfl (e_assign hF rfl) ?_; intro a hF
  refine s_nil ?_
  refine then_n ?_
  refine wp_seq ?_
  obtain ⟨t1, h2, H⟩ := bind_some H
  rcases ite_cases H with ⟨c3, H⟩ | ⟨c3, H⟩
  ·
    obtain ⟨t4, h5, H⟩ := bind_some H
    rcases ite_cases H with ⟨c6, H⟩ | ⟨c6, H⟩
    ·
      refine s_region ?_
      refine s_val hF rfl rfl rfl (e_move hF rfl) ?_; intro a hF
      refine s_call hF rfl rfl rfl Try.call94 (cmp_isNaN_int.calls K a0 t1 h2) ?_; intro a w v hF hf hR
      subst hR; have hM := hM.grow hf
      refine s_val hF rfl rfl rfl (e_move hF rfl) ?_; intro a hF
      have hF := hF.topb c3
      refine s_val hF rfl rfl rfl (e_move hF rfl) ?_; intro a hF
      refine s_call hF rfl rfl rfl Try.call94 (cmp_isNaN_int.calls K a1 t4 h5) ?_; intro a w v hF hf hR
      subst hR; have hM := hM.grow hf
      refine s_val hF rfl rfl rfl (e_not hF rfl) ?_; intro a hF
      refine s_val hF rfl rfl rfl (e_pick_t hF rfl rfl) ?_; intro a hF
      refine s_val hF rfl rfl rfl (e_move hF rfl) ?_; intro a hF
      have hF := hF.topb (congrArg Bool.not c6)
      refine s_val hF rfl rfl rfl (e_move hF rfl) ?_; intro a hF
      refine s_val hF rfl rfl rfl (e_move hF rfl) ?_; intro a hF
      refine s_val hF rfl rfl rfl (e_lss hF rfl rfl) ?_; intro a hF
      refine s_val hF rfl rfl rfl (e_pick_f hF rfl rfl) ?_; intro a hF
      refine s_val hF rfl rfl rfl (e_assign hF rfl) ?_; intro a hF
      refine s_nil ?_
      refine then_n ?_
      refine wp_ret ?_
      obtain rfl := some_some H
      refine s_ret [Value.bool (decide (a0 < a1))] hF Try.results92 ⟨rfl, trivial⟩ ?_
      exact ⟨_, rfl, hM.frm, rfl⟩
    ·
      refine s_region ?_
      refine s_val hF rfl rfl rfl (e_move hF rfl) ?_; intro a hF
      refine s_call hF rfl rfl rfl Try.call94 (cmp_isNaN_int.calls K a0 t1 h2) ?_; intro a w v hF hf hR
      subst hR; have hM := hM.grow hf
      refine s_val hF rfl rfl rfl (e_move hF rfl) ?_; intro a hF
      have hF := hF.topb c3
      refine s_val hF rfl rfl rfl (e_move hF rfl) ?_; intro a hF
      refine s_call hF rfl rfl rfl Try.call94 (cmp_isNaN_int.calls K a1 t4 h5) ?_; intro a w v hF hf hR
      subst hR; have hM := hM.grow hf
      refine s_val hF rfl rfl rfl (e_not hF rfl) ?_; intro a hF
      refine s_val hF rfl rfl rfl (e_pick_t hF rfl rfl) ?_; intro a hF
      refine s_val hF rfl rfl rfl (e_move hF rfl) ?_; intro a hF
      have hF := hF.topb (congrArg Bool.not (bf c6))
      refine s_skip hF rfl rfl rfl ?_; intro a hF
      refine s_skip hF rfl rfl rfl ?_; intro a hF
      refine s_skip hF rfl rfl rfl ?_; intro a hF
      refine s_val hF rfl rfl rfl (e_pick_t hF rfl rfl) ?_; intro a hF
      refine s_val hF rfl rfl rfl (e_assign hF rfl) ?_; intro a hF
      refine s_nil ?_
      refine then_n ?_
      refine wp_ret ?_
      obtain rfl := some_some H
      refine s_ret [Value.bool true] hF Try.results92 ⟨rfl, trivial⟩ ?_
      exact ⟨_, rfl, hM.frm, rfl⟩
  ·
    refine s_region ?_
    refine s_val hF rfl rfl rfl (e_move hF rfl) ?_; intro a hF
    refine s_call hF rfl rfl rfl Try.call94 (cmp_isNaN_int.calls K a0 t1 h2) ?_; intro a w v hF hf hR
    subst hR; have hM := hM.grow hf
    refine s_val hF rfl rfl rfl (e_move hF rfl) ?_; intro a hF
    have hF := hF.topb (bf c3)
    refine s_skip hF rfl rfl rfl ?_; intro a hF
    refine s_skip hF rfl rfl rfl ?_; intro a hF
    refine s_skip hF rfl rfl rfl ?_; intro a hF
    refine s_val hF rfl rfl rfl (e_pick_f hF rfl rfl) ?_; intro a hF
    refine s_val hF rfl rfl rfl (e_move hF rfl) ?_; intro a hF
    refine s_val hF rfl rfl rfl (e_move hF rfl) ?_; intro a hF
    refine s_val hF rfl rfl rfl (e_move hF rfl) ?_; intro a hF
    refine s_val hF rfl rfl rfl (e_lss hF rfl rfl) ?_; intro a hF
    refine s_val hF rfl rfl rfl (e_pick_f hF rfl rfl) ?_; intro a hF
    refine s_val hF rfl rfl rfl (e_assign hF rfl) ?_; intro a hF
    refine s_nil ?_
    refine then_n ?_
    refine wp_ret ?_
    obtain rfl := some_some H
    refine s_ret [Value.bool (decide (a0 < a1))] hF Try.results92 ⟨rfl, trivial⟩ ?_
    exact ⟨_, rfl, hM.frm, rfl⟩

/-! ### slices.IsSorted[[]int,int]: function 88 -/
def slices_IsSorted_int_int.l0 (K : Nat) (l0 : (List Int)) : Nat → Int → Option (Sum Unit Bool)
  | 0, _ => none
  | k + 1, x14 => if 0 < x14 then (if (0 : Int) ≤ x14 ∧ x14 < (l0.length : Int) then (if (0 : Int) ≤ (wrap64 (x14 - 1)) ∧ (wrap64 (x14 - 1)) < (l0.length : Int) then ((cmp_Less_int.f K (l0.getD (x14 : Int).toNat (0 : Int)) (l0.getD ((wrap64 (x14 - 1)) : Int).toNat (0 : Int))).bind fun t18 => if t18 = true then (some (Sum.inr false)) else (slices_IsSorted_int_int.l0 K l0 k (wrap64 (x14 - 1)))) else none) else none) else (some (Sum.inl ()))
def slices_IsSorted_int_int.f (K : Nat) (l0 : (List Int)) : Option Bool := (slices_IsSorted_int_int.l0 K l0 K (wrap64 ((l0.length : Int) - 1))).bind fun o23 => (match o23 with | .inl () => some true | .inr r25 => some r25)
set_option maxRecDepth 100000 in
set_option maxHeartbeats 4000000 in
theorem slices_IsSorted_int_int.calls {w0 : World} (K : Nat) (l0 : (List Int)) (u0 : Value) (q0 : SlR cd3 w0 u0 l0) (r : Bool) (H : slices_IsSorted_int_int.f K l0 = some r) : Calls Try.prog 88 [u0].toArray w0 (Post w0 fun w v => v = Value.bool r) := by
  rw [slices_IsSorted_int_int.f] at H
  refine s_start Try.func88 rfl Try.ntmps88 rfl ?_
  intro a hF
  have hM := Ms.start w0
  skip
  refine wp_seq ?_
  refine s_region ?_
  refine s_val hF rfl rfl rfl (e_assign hF rfl) ?_; intro a hF
  refine s_nil ?_
  refine then_n ?_
  refine wp_seq ?_
  refine wp_seq ?_
  refine s_region ?_
  refine s_val hF rfl rfl rfl (e_move hF rfl) ?_; intro a hF
  refine s_val hF rfl rfl rfl (e_len hF rfl (q0.frm hM.frm).toF Try.underlying23) ?_; intro a hF
  refine s_val hF rfl rfl rfl (e_sub hF rfl rfl) ?_; intro a hF
  refine s_val hF rfl rfl rfl (e_assign hF rfl) ?_; intro a hF
  refine s_nil ?_
  refine then_n ?_
  refine wp_block ?_
  obtain ⟨o23, h24, H⟩ := bind_some H
  refine wp_mono (Q := fun e a w => (e = Exit.exit 0 ∧ Sum.inl () = o23 ∧ Fr 21 a [] ∧ Ms [] w0 w []) ∨ (e = Exit.ret ∧ ∃ r25 : Bool, Sum.inr r25 = o23 ∧ Fr 21 a [(2, Value.bool r25)] ∧ Ms [] w0 w [])) ?_ ?_
  · refine s_loop (fun kq a w => ∃ x14 : Int, slices_IsSorted_int_int.l0 K l0 kq x14 = some o23 ∧ Fr 21 a [(0, u0), (3, Value.int .i64 x14)] ∧ Ms [] w0 w []) K ⟨(wrap64 ((l0.length : Int) - 1)), h24, hF.sub _ ⟨rfl, rfl, trivial⟩, hM.pick [] rfl rfl⟩ ?_ ?_
    · rintro a w ⟨_, H, _⟩; exact none_some H
    · rintro k a w ⟨x14, H, hF, hM⟩; rw [slices_IsSorted_int_int.l0] at H
      refine wp_seq ?_
      refine wp_seq ?_
      refine s_region ?_
      refine s_val hF rfl rfl rfl (e_move hF rfl) ?_; intro a hF
      refine s_val hF rfl rfl rfl (e_gtr hF rfl rfl) ?_; intro a hF
      refine s_nil ?_
      refine then_n ?_
      rcases ite_cases H with ⟨c15, H⟩ | ⟨c15, H⟩
      ·
        refine s_cond_t hF rfl (decide_eq_true c15) ?_
        refine wp_skip ?_
        refine then_n ?_
        refine wp_seq ?_
        refine wp_block ?_
        refine wp_seq ?_
        obtain ⟨c16, H⟩ := ite_some H
        obtain ⟨c17, H⟩ := ite_some H
        obtain ⟨t18, h19, H⟩ := bind_some H
        refine s_held (fun w => Ms [] w0 w []) #[false, false, false, false, false, false, false, false, false, false] mixed rfl rfl hM ?_; intro w hf hM; clear hf
        refine h_val 0 #[true, false, false, false, false, false, false, false, false, false] rfl (by kernel_rfl) hF rfl rfl rfl (fun w hS => e_move hF rfl) (hM.pick [] rfl rfl) ?_; intro a hF
        refine h_val 1 #[true, true, false, false, false, false, false, false, false, false] rfl (by kernel_rfl) hF rfl rfl rfl (fun w hS => e_move hF rfl) (hM.pick [] rfl rfl) ?_; intro a hF
        have f20 := (q0.frm hM.frm).toF
        refine h_val 2 #[true, true, true, false, false, false, false, false, false, false] rfl (by kernel_rfl) hF rfl rfl rfl (fun w hS => e_ias cd3 hF rfl rfl f20 Try.underlying23 Try.sizeOf3 c16.1 c16.2) (hM.pick [] rfl rfl) ?_; intro a hF
        refine h_val 3 #[true, true, true, true, false, false, false, false, false, false] rfl (by kernel_rfl) hF rfl rfl rfl (fun w hS => e_lds (m := x14) hF rfl (q0.frm hS.frm) (getD_some (z := (0 : Int)) c16.1 c16.2) rfl rfl Try.isAgg3) (hM.pick [] rfl rfl) ?_; intro a hF
        refine h_val 4 #[true, true, true, true, true, false, false, false, false, false] rfl (by kernel_rfl) hF rfl rfl rfl (fun w hS => e_move hF rfl) (hM.pick [] rfl rfl) ?_; intro a hF
        refine h_val 5 #[true, true, true, true, true, true, false, false, false, false] rfl (by kernel_rfl) hF rfl rfl rfl (fun w hS => e_move hF rfl) (hM.pick [] rfl rfl) ?_; intro a hF
        refine h_val 6 #[true, true, true, true, true, true, true, false, false, false] rfl (by kernel_rfl) hF rfl rfl rfl (fun w hS => e_sub hF rfl rfl) (hM.pick [] rfl rfl) ?_; intro a hF
        have f21 := (q0.frm hM.frm).toF
        refine h_val 7 #[true, true, true, true, true, true, true, true, false, false] rfl (by kernel_rfl) hF rfl rfl rfl (fun w hS => e_ias cd3 hF rfl rfl f21 Try.underlying23 Try.sizeOf3 c17.1 c17.2) (hM.pick [] rfl rfl) ?_; intro a hF
        refine h_val 8 #[true, true, true, true, true, true, true, true, true, false] rfl (by kernel_rfl) hF rfl rfl rfl (fun w hS => e_lds (m := (wrap64 (x14 - 1))) hF rfl (q0.frm hS.frm) (getD_some (z := (0 : Int)) c17.1 c17.2) rfl rfl Try.isAgg3) (hM.pick [] rfl rfl) ?_; intro a hF
        refine h_one 9 #[true, true, true, true, true, true, true, true, true, true] rfl (by kernel_rfl) ?_
        refine s_call hF rfl rfl rfl Try.call92 (cmp_Less_int.calls K (l0.getD (x14 : Int).toNat (0 : Int)) (l0.getD ((wrap64 (x14 - 1)) : Int).toNat (0 : Int)) t18 h19) ?_; intro a w v hF hf hR
        subst hR; have hM := hM.grow hf
        refine s_nil ⟨rfl, (hM.pick [] rfl rfl), ?_⟩
        refine h_done rfl ?_
        refine then_n ?_
        rcases ite_cases H with ⟨c22, H⟩ | ⟨c22, H⟩
        ·
          refine s_cond_t hF rfl c22 ?_
          refine wp_seq ?_
          refine s_region ?_
          refine s_val hF rfl rfl rfl (e_assign hF rfl) ?_; intro a hF
          refine s_nil ?_
          refine then_n ?_
          refine wp_ret ?_
          refine blk_r ?_
          refine then_r ?_
          refine then_r ?_
          exact Or.inr (⟨rfl, false, some_some H, hF.sub _ ⟨rfl, trivial⟩, hM.pick [] rfl rfl⟩)
        ·
          refine s_cond_f hF rfl (bf c22) ?_
          refine wp_skip ?_
          refine blk_n ?_
          refine then_n ?_
          refine s_region ?_
          refine s_val hF rfl rfl rfl (e_move hF rfl) ?_; intro a hF
          refine s_val hF rfl rfl rfl (e_sub hF rfl rfl) ?_; intro a hF
          refine s_val hF rfl rfl rfl (e_assign hF rfl) ?_; intro a hF
          refine s_nil ?_
          refine then_n ?_
          exact ⟨(wrap64 (x14 - 1)), H, hF.sub _ ⟨rfl, rfl, trivial⟩, hM.pick [] rfl rfl⟩
      ·
        refine s_cond_f hF rfl (decide_eq_false c15) ?_
        refine wp_exit ?_
        refine then_x ?_
        refine then_x ?_
        exact Or.inl (⟨rfl, some_some H, hF.sub _ trivial, hM.pick [] rfl rfl⟩)
  · rintro e a w (⟨rfl, rfl, hF, hM⟩ | ⟨rfl, r25, rfl, hF, hM⟩)
    ·
      dsimp only at H
      refine blk_x ?_
      refine then_n ?_
      refine wp_seq ?_
      refine s_region ?_
      refine s_val hF rfl rfl rfl (e_assign hF rfl) ?_; intro a hF
      refine s_nil ?_
      refine then_n ?_
      refine wp_ret ?_
      obtain rfl := some_some H
      refine s_ret [Value.bool true] hF Try.results88 ⟨rfl, trivial⟩ ?_
      exact ⟨_, rfl, hM.frm, rfl⟩
    ·
      dsimp only at H
      refine blk_r ?_
      refine then_r ?_
      obtain rfl := some_some H
      refine s_ret [Value.bool r25] hF Try.results88 ⟨rfl, trivial⟩ ?_
      exact ⟨_, rfl, hM.frm, rfl⟩

/-! ### loop.example/g01210/impl.IsDie: function 82 -/
def impl_IsDie.f (K : Nat) (a0 : (Ar 6)) : Option Bool := (impl_areAll_int__isFace.f K a0.l).bind fun t2 => if t2 = true then ((slices_IsSorted_int_int.f K a0.l).bind fun t5 => some t5) else (some false)
set_option maxRecDepth 100000 in
set_option maxHeartbeats 4000000 in
theorem impl_IsDie.calls {w0 : World} (K : Nat) (a0 : (Ar 6)) (r : Bool) (H : impl_IsDie.f K a0 = some r) : Calls Try.prog 82 [ag [Pt.ar a0]].toArray w0 (Post w0 fun w v => v = Value.bool r) := by
  rw [impl_IsDie.f] at H
  refine s_start Try.func82 rfl Try.ntmps82 rfl ?_
  intro a hF
  have hM := Ms.start w0
  skip
  refine wp_seq ?_
  refine s_region ?_
  refine s_box (ps := [Pt.ar a0]) hF hM rfl rfl rfl rfl ?_; intro a w b1 hF hM
  refine s_val hF rfl rfl rfl (e_assign hF rfl) ?_; intro a hF
  refine s_nil ?_
  refine then_n ?_
  refine wp_seq ?_
  obtain ⟨t2, h3, H⟩ := bind_some H
  rcases ite_cases H with ⟨c4, H⟩ | ⟨c4, H⟩
  ·
    obtain ⟨t5, h6, H⟩ := bind_some H
    refine s_region ?_
    refine s_val hF rfl rfl rfl (e_slA0 hF rfl Try.underlying22 Try.sizeOf3) ?_; intro a hF
    refine s_call hF rfl rfl rfl Try.call86 (impl_areAll_int__isFace.calls K a0.l (Value.slice (some ⟨b1, 0, none⟩) 6 6) (hM.boxSl (k := 0) (m := 6) 0 rfl rfl rfl cd3 (fun _ => rfl) 6 (by decide)) t2 h3) ?_; intro a w v hF hf hR
    subst hR; have hM := hM.grow hf
    refine s_val hF rfl rfl rfl (e_move hF rfl) ?_; intro a hF
    have hF := hF.topb c4
    refine s_val hF rfl rfl rfl (e_slA0 hF rfl Try.underlying22 Try.sizeOf3) ?_; intro a hF
    refine s_call hF rfl rfl rfl Try.call88 (slices_IsSorted_int_int.calls K a0.l (Value.slice (some ⟨b1, 0, none⟩) 6 6) (hM.boxSl (k := 0) (m := 6) 0 rfl rfl rfl cd3 (fun _ => rfl) 6 (by decide)) t5 h6) ?_; intro a w v hF hf hR
    subst hR; have hM := hM.grow hf
    refine s_val hF rfl rfl rfl (e_pick_t hF rfl rfl) ?_; intro a hF
    refine s_val hF rfl rfl rfl (e_assign hF rfl) ?_; intro a hF
    refine s_nil ?_
    refine then_n ?_
    refine wp_ret ?_
    obtain rfl := some_some H
    refine s_ret [Value.bool t5] hF Try.results82 ⟨rfl, trivial⟩ ?_
    exact ⟨_, rfl, hM.frm, rfl⟩
  ·
    refine s_region ?_
    refine s_val hF rfl rfl rfl (e_slA0 hF rfl Try.underlying22 Try.sizeOf3) ?_; intro a hF
    refine s_call hF rfl rfl rfl Try.call86 (impl_areAll_int__isFace.calls K a0.l (Value.slice (some ⟨b1, 0, none⟩) 6 6) (hM.boxSl (k := 0) (m := 6) 0 rfl rfl rfl cd3 (fun _ => rfl) 6 (by decide)) t2 h3) ?_; intro a w v hF hf hR
    subst hR; have hM := hM.grow hf
    refine s_val hF rfl rfl rfl (e_move hF rfl) ?_; intro a hF
    have hF := hF.topb (bf c4)
    refine s_skip hF rfl rfl rfl ?_; intro a hF
    refine s_skip hF rfl rfl rfl ?_; intro a hF
    refine s_val hF rfl rfl rfl (e_pick_f hF rfl rfl) ?_; intro a hF
    refine s_val hF rfl rfl rfl (e_assign hF rfl) ?_; intro a hF
    refine s_nil ?_
    refine then_n ?_
    refine wp_ret ?_
    obtain rfl := some_some H
    refine s_ret [Value.bool false] hF Try.results82 ⟨rfl, trivial⟩ ?_
    exact ⟨_, rfl, hM.frm, rfl⟩

/-! ### loop.example/g01210/impl.areAll[[6]int]$1: function 85 -/
def impl_areAll_6_int_1__IsDie.f (K : Nat) (a0 : (Ar 6)) : Option Bool := (impl_IsDie.f K a0).bind fun t4 => some (!t4)
set_option maxRecDepth 100000 in
set_option maxHeartbeats 4000000 in
theorem impl_areAll_6_int_1__IsDie.calls {w0 : World} (K : Nat) (a0 : (Ar 6)) (b1 : Nat) (q2 : (boxR b1 [Pt.val (Value.func (.func 82) #[] #[]) rfl] 60).holds w0) (r : Bool) (H : impl_areAll_6_int_1__IsDie.f K a0 = some r) : Calls Try.prog 85 [ag [Pt.ar a0], pt b1 0].toArray w0 (Post w0 fun w v => v = Value.bool r) := by
  rw [impl_areAll_6_int_1__IsDie.f] at H
  refine s_start Try.func85 rfl Try.ntmps85 rfl ?_
  intro a hF
  have hM := Ms.start w0
  skip
  refine wp_seq ?_
  refine s_region ?_
  refine s_box (ps := [Pt.ar a0]) hF hM rfl rfl rfl rfl ?_; intro a w b3 hF hM
  refine s_val hF rfl rfl rfl (e_assign hF rfl) ?_; intro a hF
  refine s_nil ?_
  refine then_n ?_
  refine wp_seq ?_
  obtain ⟨t4, h5, H⟩ := bind_some H
  refine s_region ?_
  refine s_val hF rfl rfl rfl (e_ldb (k := 0) hF (box_frm q2 hM.frm) rfl rfl rfl Try.isAgg60 rfl) ?_; intro a hF
  refine s_val hF rfl rfl rfl (e_lda (i := 0) 0 1 hF hM rfl rfl rfl rfl Try.isAgg22 Try.sizeOf22 rfl) ?_; intro a hF
  refine s_callv hF rfl rfl rfl rfl (callsV_of Try.call82 (impl_IsDie.calls K a0 t4 h5)) ?_; intro a w v hF ⟨hf, hR⟩
  subst hR; have hM := hM.grow hf
  refine s_val hF rfl rfl rfl (e_not hF rfl) ?_; intro a hF
  refine s_val hF rfl rfl rfl (e_assign hF rfl) ?_; intro a hF
  refine s_nil ?_
  refine then_n ?_
  refine wp_ret ?_
  obtain rfl := some_some H
  refine s_ret [Value.bool (!t4)] hF Try.results85 ⟨rfl, trivial⟩ ?_
  exact ⟨_, rfl, hM.frm, rfl⟩

/-! ### slices.IndexFunc[[][6]int,[6]int]: function 89 -/
def slices_IndexFunc_6_int_6_int__areAll_6_int_1_IsDie.l0 (K : Nat) (l0 : (List (Ar 6))) : Nat → Int → Option (Sum Unit Int)
  | 0, _ => none
  | k + 1, x14 => if x14 < (l0.length : Int) then (if (0 : Int) ≤ x14 ∧ x14 < (l0.length : Int) then ((impl_areAll_6_int_1__IsDie.f K (l0.getD (x14 : Int).toNat (Ar.zero 6))).bind fun t17 => if t17 = true then (some (Sum.inr x14)) else (slices_IndexFunc_6_int_6_int__areAll_6_int_1_IsDie.l0 K l0 k (wrap64 (x14 + 1)))) else none) else (some (Sum.inl ()))
def slices_IndexFunc_6_int_6_int__areAll_6_int_1_IsDie.f (K : Nat) (l0 : (List (Ar 6))) : Option Int := (slices_IndexFunc_6_int_6_int__areAll_6_int_1_IsDie.l0 K l0 K 0).bind fun o20 => (match o20 with | .inl () => some (-1) | .inr r22 => some r22)
set_option maxRecDepth 100000 in
set_option maxHeartbeats 4000000 in
theorem slices_IndexFunc_6_int_6_int__areAll_6_int_1_IsDie.calls {w0 : World} (K : Nat) (l0 : (List (Ar 6))) (u0 : Value) (q0 : SlR cd22 w0 u0 l0) (b1 : Nat) (q2 : (boxR b1 [Pt.val (Value.func (.func 82) #[] #[]) rfl] 60).holds w0) (r : Int) (H : slices_IndexFunc_6_int_6_int__areAll_6_int_1_IsDie.f K l0 = some r) : Calls Try.prog 89 [u0, Value.func (.func 85) #[] #[pt b1 0]].toArray w0 (Post w0 fun w v => v = Value.int .i64 r) := by
  rw [slices_IndexFunc_6_int_6_int__areAll_6_int_1_IsDie.f] at H
  refine s_start Try.func89 rfl Try.ntmps89 rfl ?_
  intro a hF
  have hM := Ms.start w0
  skip
  refine wp_seq ?_
  refine s_region ?_
  refine s_val hF rfl rfl rfl (e_assign hF rfl) ?_; intro a hF
  refine s_nil ?_
  refine then_n ?_
  refine wp_seq ?_
  refine wp_seq ?_
  refine s_region ?_
  refine s_val hF rfl rfl rfl (e_move hF rfl) ?_; intro a hF
  refine s_val hF rfl rfl rfl (e_len hF rfl (q0.frm hM.frm).toF Try.underlying54) ?_; intro a hF
  refine s_val hF rfl rfl rfl (e_move hF rfl) ?_; intro a hF
  refine s_nil ?_
  refine then_n ?_
  refine wp_block ?_
  obtain ⟨o20, h21, H⟩ := bind_some H
  refine wp_mono (Q := fun e a w => (e = Exit.exit 0 ∧ Sum.inl () = o20 ∧ Fr 19 a [] ∧ Ms [] w0 w []) ∨ (e = Exit.ret ∧ ∃ r22 : Int, Sum.inr r22 = o20 ∧ Fr 19 a [(4, Value.int .i64 r22)] ∧ Ms [] w0 w [])) ?_ ?_
  · refine s_loop (fun kq a w => ∃ x14 : Int, slices_IndexFunc_6_int_6_int__areAll_6_int_1_IsDie.l0 K l0 kq x14 = some o20 ∧ Fr 19 a [(0, u0), (1, Value.func (.func 85) #[] #[pt b1 0]), (7, Value.int .i64 (l0.length : Int)), (8, Value.int .i64 x14)] ∧ Ms [] w0 w []) K ⟨0, h21, hF.sub _ ⟨rfl, rfl, rfl, rfl, trivial⟩, hM.pick [] rfl rfl⟩ ?_ ?_
    · rintro a w ⟨_, H, _⟩; exact none_some H
    · rintro k a w ⟨x14, H, hF, hM⟩; rw [slices_IndexFunc_6_int_6_int__areAll_6_int_1_IsDie.l0] at H
      refine wp_seq ?_
      refine s_region ?_
      refine s_val hF rfl rfl rfl (e_lss hF rfl rfl) ?_; intro a hF
      refine s_nil ?_
      refine then_n ?_
      refine wp_seq ?_
      rcases ite_cases H with ⟨c15, H⟩ | ⟨c15, H⟩
      ·
        refine s_cond_t hF rfl (decide_eq_true c15) ?_
        refine wp_skip ?_
        refine then_n ?_
        refine wp_seq ?_
        refine wp_block ?_
        refine wp_seq ?_
        refine s_region ?_
        refine s_val hF rfl rfl rfl (e_move hF rfl) ?_; intro a hF
        refine s_val hF rfl rfl rfl (e_assign hF rfl) ?_; intro a hF
        refine s_nil ?_
        refine then_n ?_
        refine wp_seq ?_
        obtain ⟨c16, H⟩ := ite_some H
        obtain ⟨t17, h18, H⟩ := bind_some H
        refine s_region ?_
        refine s_val hF rfl rfl rfl (e_move hF rfl) ?_; intro a hF
        refine s_val hF rfl rfl rfl (e_move hF rfl) ?_; intro a hF
        refine s_val hF rfl rfl rfl (e_move hF rfl) ?_; intro a hF
        refine s_val hF rfl rfl rfl (e_ias cd22 hF rfl rfl (q0.frm hM.frm).toF Try.underlying54 Try.sizeOf22 c16.1 c16.2) ?_; intro a hF
        refine s_val hF rfl rfl rfl (e_ldsa (m := x14) hF rfl (q0.frm hM.frm) (getD_some (z := (Ar.zero 6)) c16.1 c16.2) Try.isAgg22 Try.sizeOf22) ?_; intro a hF
        refine s_callv hF rfl rfl rfl rfl (callsV_of Try.call85 (impl_areAll_6_int_1__IsDie.calls K (l0.getD (x14 : Int).toNat (Ar.zero 6)) b1 (box_frm q2 hM.frm) t17 h18)) ?_; intro a w v hF ⟨hf, hR⟩
        subst hR; have hM := hM.grow hf
        refine s_nil ?_
        refine then_n ?_
        rcases ite_cases H with ⟨c19, H⟩ | ⟨c19, H⟩
        ·
          refine s_cond_t hF rfl c19 ?_
          refine wp_seq ?_
          refine s_region ?_
          refine s_val hF rfl rfl rfl (e_move hF rfl) ?_; intro a hF
          refine s_val hF rfl rfl rfl (e_assign hF rfl) ?_; intro a hF
          refine s_nil ?_
          refine then_n ?_
          refine wp_ret ?_
          refine blk_r ?_
          refine then_r ?_
          refine then_r ?_
          exact Or.inr (⟨rfl, x14, some_some H, hF.sub _ ⟨rfl, trivial⟩, hM.pick [] rfl rfl⟩)
        ·
          refine s_cond_f hF rfl (bf c19) ?_
          refine wp_skip ?_
          refine blk_n ?_
          refine then_n ?_
          refine s_region ?_
          refine s_val hF rfl rfl rfl (e_add hF rfl rfl) ?_; intro a hF
          refine s_val hF rfl rfl rfl (e_move hF rfl) ?_; intro a hF
          refine s_nil ?_
          refine then_n ?_
          exact ⟨(wrap64 (x14 + 1)), H, hF.sub _ ⟨rfl, rfl, rfl, rfl, trivial⟩, hM.pick [] rfl rfl⟩
      ·
        refine s_cond_f hF rfl (decide_eq_false c15) ?_
        refine wp_exit ?_
        refine then_x ?_
        refine then_x ?_
        exact Or.inl (⟨rfl, some_some H, hF.sub _ trivial, hM.pick [] rfl rfl⟩)
  · rintro e a w (⟨rfl, rfl, hF, hM⟩ | ⟨rfl, r22, rfl, hF, hM⟩)
    ·
      dsimp only at H
      refine blk_x ?_
      refine then_n ?_
      refine wp_seq ?_
      refine s_region ?_
      refine s_val hF rfl rfl rfl (e_assign hF rfl) ?_; intro a hF
      refine s_nil ?_
      refine then_n ?_
      refine wp_ret ?_
      obtain rfl := some_some H
      refine s_ret [Value.int .i64 (-1)] hF Try.results89 ⟨rfl, trivial⟩ ?_
      exact ⟨_, rfl, hM.frm, rfl⟩
    ·
      dsimp only at H
      refine blk_r ?_
      refine then_r ?_
      obtain rfl := some_some H
      refine s_ret [Value.int .i64 r22] hF Try.results89 ⟨rfl, trivial⟩ ?_
      exact ⟨_, rfl, hM.frm, rfl⟩

/-! ### slices.ContainsFunc[[][6]int,[6]int]: function 84 -/
def slices_ContainsFunc_6_int_6_int__areAll_6_int_1_IsDie.f (K : Nat) (l0 : (List (Ar 6))) : Option Bool := (slices_IndexFunc_6_int_6_int__areAll_6_int_1_IsDie.f K l0).bind fun t3 => some (decide (0 ≤ t3))
set_option maxRecDepth 100000 in
set_option maxHeartbeats 4000000 in
theorem slices_ContainsFunc_6_int_6_int__areAll_6_int_1_IsDie.calls {w0 : World} (K : Nat) (l0 : (List (Ar 6))) (u0 : Value) (q0 : SlR cd22 w0 u0 l0) (b1 : Nat) (q2 : (boxR b1 [Pt.val (Value.func (.func 82) #[] #[]) rfl] 60).holds w0) (r : Bool) (H : slices_ContainsFunc_6_int_6_int__areAll_6_int_1_IsDie.f K l0 = some r) : Calls Try.prog 84 [u0, Value.func (.func 85) #[] #[pt b1 0]].toArray w0 (Post w0 fun w v => v = Value.bool r) := by
  rw [slices_ContainsFunc_6_int_6_int__areAll_6_int_1_IsDie.f] at H
  refine s_start Try.func84 rfl Try.ntmps84 rfl ?_
  intro a hF
  have hM := Ms.start w0
  skip
  refine wp_seq ?_
  refine s_region ?_
  refine s_val hF rfl rfl rfl (e_assign hF rfl) ?_; intro a hF
  refine s_nil ?_
  refine then_n ?_
  refine wp_seq ?_
  obtain ⟨t3, h4, H⟩ := bind_some H
  refine s_region ?_
  refine s_val hF rfl rfl rfl (e_move hF rfl) ?_; intro a hF
  refine s_val hF rfl rfl rfl (e_move hF rfl) ?_; intro a hF
  refine s_call hF rfl rfl rfl Try.call89 (slices_IndexFunc_6_int_6_int__areAll_6_int_1_IsDie.calls K l0 u0 (q0.frm hM.frm) b1 (box_frm q2 hM.frm) t3 h4) ?_; intro a w v hF hf hR
  subst hR; have hM := hM.grow hf
  refine s_val hF rfl rfl rfl (e_geq hF rfl rfl) ?_; intro a hF
  refine s_val hF rfl rfl rfl (e_assign hF rfl) ?_; intro a hF
  refine s_nil ?_
  refine then_n ?_
  refine wp_ret ?_
  obtain rfl := some_some H
  refine s_ret [Value.bool (decide (0 ≤ t3))] hF Try.results84 ⟨rfl, trivial⟩ ?_
  exact ⟨_, rfl, hM.frm, rfl⟩

/-! ### loop.example/g01210/impl.areAll[[6]int]: function 79 -/
def impl_areAll_6_int__IsDie.f (K : Nat) (l0 : (List (Ar 6))) : Option Bool := (slices_ContainsFunc_6_int_6_int__areAll_6_int_1_IsDie.f K l0).bind fun t2 => some (!t2)
set_option maxRecDepth 100000 in
set_option maxHeartbeats 4000000 in
theorem impl_areAll_6_int__IsDie.calls {w0 : World} (K : Nat) (l0 : (List (Ar 6))) (u0 : Value) (q0 : SlR cd22 w0 u0 l0) (r : Bool) (H : impl_areAll_6_int__IsDie.f K l0 = some r) : Calls Try.prog 79 [u0, Value.func (.func 82) #[] #[]].toArray w0 (Post w0 fun w v => v = Value.bool r) := by
  rw [impl_areAll_6_int__IsDie.f] at H
  refine s_start Try.func79 rfl Try.ntmps79 rfl ?_
  intro a hF
  have hM := Ms.start w0
  skip
  refine wp_seq ?_
  refine s_region ?_
  refine s_box (ps := [Pt.val (Value.func (.func 82) #[] #[]) rfl]) hF hM rfl rfl rfl rfl ?_; intro a w b1 hF hM
  refine s_val hF rfl rfl rfl (e_assign hF rfl) ?_; intro a hF
  refine s_nil ?_
  refine then_n ?_
  refine wp_seq ?_
  obtain ⟨t2, h3, H⟩ := bind_some H
  refine s_region ?_
  refine s_val hF rfl rfl rfl (e_move hF rfl) ?_; intro a hF
  refine s_val hF rfl rfl rfl (e_mkfunc (hF.evs' rfl)) ?_; intro a hF
  refine s_call hF rfl rfl rfl Try.call84 (slices_ContainsFunc_6_int_6_int__areAll_6_int_1_IsDie.calls K l0 u0 (q0.frm hM.frm) b1 (hM.get 0 rfl) t2 h3) ?_; intro a w v hF hf hR
  subst hR; have hM := hM.grow hf
  refine s_val hF rfl rfl rfl (e_not hF rfl) ?_; intro a hF
  refine s_val hF rfl rfl rfl (e_assign hF rfl) ?_; intro a hF
  refine s_nil ?_
  refine then_n ?_
  refine wp_ret ?_
  obtain rfl := some_some H
  refine s_ret [Value.bool (!t2)] hF Try.results79 ⟨rfl, trivial⟩ ?_
  exact ⟨_, rfl, hM.frm, rfl⟩

/-! ### loop.example/g01210/impl.isRow: function 78 -/
def impl_isRow.f (K : Nat) (l0 : (List (Ar 6))) : Option Bool := (impl_within.f K (l0.length : Int) 1 6).bind fun t1 => if t1 = true then ((impl_areAll_6_int__IsDie.f K l0).bind fun t4 => some t4) else (some false)
set_option maxRecDepth 100000 in
set_option maxHeartbeats 4000000 in
theorem impl_isRow.calls {w0 : World} (K : Nat) (l0 : (List (Ar 6))) (u0 : Value) (q0 : SlR cd22 w0 u0 l0) (r : Bool) (H : impl_isRow.f K l0 = some r) : Calls Try.prog 78 [u0].toArray w0 (Post w0 fun w v => v = Value.bool r) := by
  rw [impl_isRow.f] at H
  refine s_start Try.func78 rfl Try.ntmps78 rfl ?_
  intro a hF
  have hM := Ms.start w0
  skip
  refine wp_seq ?_
  refine s_region ?_
  refine s_val hF rfl rfl rfl (e_assign hF rfl) ?_; intro a hF
  refine s_nil ?_
  refine then_n ?_
  refine wp_seq ?_
  obtain ⟨t1, h2, H⟩ := bind_some H
  rcases ite_cases H with ⟨c3, H⟩ | ⟨c3, H⟩
  ·
    obtain ⟨t4, h5, H⟩ := bind_some H
    refine s_region ?_
    refine s_val hF rfl rfl rfl (e_move hF rfl) ?_; intro a hF
    refine s_val hF rfl rfl rfl (e_len hF rfl (q0.frm hM.frm).toF Try.underlying54) ?_; intro a hF
    refine s_call hF rfl rfl rfl Try.call62 (impl_within.calls K (l0.length : Int) 1 6 t1 h2) ?_; intro a w v hF hf hR
    subst hR; have hM := hM.grow hf
    refine s_val hF rfl rfl rfl (e_move hF rfl) ?_; intro a hF
    have hF := hF.topb c3
    refine s_val hF rfl rfl rfl (e_move hF rfl) ?_; intro a hF
    refine s_call hF rfl rfl rfl Try.call79 (impl_areAll_6_int__IsDie.calls K l0 u0 (q0.frm hM.frm) t4 h5) ?_; intro a w v hF hf hR
    subst hR; have hM := hM.grow hf
    refine s_val hF rfl rfl rfl (e_pick_t hF rfl rfl) ?_; intro a hF
    refine s_val hF rfl rfl rfl (e_assign hF rfl) ?_; intro a hF
    refine s_nil ?_
    refine then_n ?_
    refine wp_ret ?_
    obtain rfl := some_some H
    refine s_ret [Value.bool t4] hF Try.results78 ⟨rfl, trivial⟩ ?_
    exact ⟨_, rfl, hM.frm, rfl⟩
  ·
    refine s_region ?_
    refine s_val hF rfl rfl rfl (e_move hF rfl) ?_; intro a hF
    refine s_val hF rfl rfl rfl (e_len hF rfl (q0.frm hM.frm).toF Try.underlying54) ?_; intro a hF
    refine s_call hF rfl rfl rfl Try.call62 (impl_within.calls K (l0.length : Int) 1 6 t1 h2) ?_; intro a w v hF hf hR
    subst hR; have hM := hM.grow hf
    refine s_val hF rfl rfl rfl (e_move hF rfl) ?_; intro a hF
    have hF := hF.topb (bf c3)
    refine s_skip hF rfl rfl rfl ?_; intro a hF
    refine s_skip hF rfl rfl rfl ?_; intro a hF
    refine s_val hF rfl rfl rfl (e_pick_f hF rfl rfl) ?_; intro a hF
    refine s_val hF rfl rfl rfl (e_assign hF rfl) ?_; intro a hF
    refine s_nil ?_
    refine then_n ?_
    refine wp_ret ?_
    obtain rfl := some_some H
    refine s_ret [Value.bool false] hF Try.results78 ⟨rfl, trivial⟩ ?_
    exact ⟨_, rfl, hM.frm, rfl⟩

/-! ### loop.example/g01210/impl.isRunner: function 55 -/
def impl_isRunner.f (K : Nat) (a0 : (Ar 6)) : Option Bool := (impl_IsDie.f K a0).bind fun t2 => if t2 = true then (some (decide (0 < (a0.get 0)))) else (some false)
set_option maxRecDepth 100000 in
set_option maxHeartbeats 4000000 in
theorem impl_isRunner.calls {w0 : World} (K : Nat) (a0 : (Ar 6)) (r : Bool) (H : impl_isRunner.f K a0 = some r) : Calls Try.prog 55 [ag [Pt.ar a0]].toArray w0 (Post w0 fun w v => v = Value.bool r) := by
  rw [impl_isRunner.f] at H
  refine s_start Try.func55 rfl Try.ntmps55 rfl ?_
  intro a hF
  have hM := Ms.start w0
  skip
  refine wp_seq ?_
  refine s_region ?_
  refine s_box (ps := [Pt.ar a0]) hF hM rfl rfl rfl rfl ?_; intro a w b1 hF hM
  refine s_val hF rfl rfl rfl (e_assign hF rfl) ?_; intro a hF
  refine s_nil ?_
  refine then_n ?_
  refine wp_seq ?_
  obtain ⟨t2, h3, H⟩ := bind_some H
  rcases ite_cases H with ⟨c4, H⟩ | ⟨c4, H⟩
  ·
    refine s_region ?_
    refine s_val hF rfl rfl rfl (e_lda (i := 0) 0 1 hF hM rfl rfl rfl rfl Try.isAgg22 Try.sizeOf22 rfl) ?_; intro a hF
    refine s_call hF rfl rfl rfl Try.call82 (impl_IsDie.calls K a0 t2 h3) ?_; intro a w v hF hf hR
    subst hR; have hM := hM.grow hf
    refine s_val hF rfl rfl rfl (e_move hF rfl) ?_; intro a hF
    have hF := hF.topb c4
    refine s_val hF rfl rfl rfl (e_ia hF rfl rfl Try.underlying22 Try.sizeOf3 (by decide) (by decide)) ?_; intro a hF
    refine s_val hF rfl rfl rfl (e_ldi (i := 0) (k := 0) hF hM rfl rfl rfl rfl rfl Try.isAgg3 (by decide) (by decide)) ?_; intro a hF
    refine s_val hF rfl rfl rfl (e_gtr hF rfl rfl) ?_; intro a hF
    refine s_val hF rfl rfl rfl (e_pick_t hF rfl rfl) ?_; intro a hF
    refine s_val hF rfl rfl rfl (e_assign hF rfl) ?_; intro a hF
    refine s_nil ?_
    refine then_n ?_
    refine wp_ret ?_
    obtain rfl := some_some H
    refine s_ret [Value.bool (decide (0 < (a0.get 0)))] hF Try.results55 ⟨rfl, trivial⟩ ?_
    exact ⟨_, rfl, hM.frm, rfl⟩
  ·
    refine s_region ?_
    refine s_val hF rfl rfl rfl (e_lda (i := 0) 0 1 hF hM rfl rfl rfl rfl Try.isAgg22 Try.sizeOf22 rfl) ?_; intro a hF
    refine s_call hF rfl rfl rfl Try.call82 (impl_IsDie.calls K a0 t2 h3) ?_; intro a w v hF hf hR
    subst hR; have hM := hM.grow hf
    refine s_val hF rfl rfl rfl (e_move hF rfl) ?_; intro a hF
    have hF := hF.topb (bf c4)
    refine s_skip hF rfl rfl rfl ?_; intro a hF
    refine s_skip hF rfl rfl rfl ?_; intro a hF
    refine s_skip hF rfl rfl rfl ?_; intro a hF
    refine s_val hF rfl rfl rfl (e_pick_f hF rfl rfl) ?_; intro a hF
    refine s_val hF rfl rfl rfl (e_assign hF rfl) ?_; intro a hF
    refine s_nil ?_
    refine then_n ?_
    refine wp_ret ?_
    obtain rfl := some_some H
    refine s_ret [Value.bool false] hF Try.results55 ⟨rfl, trivial⟩ ?_
    exact ⟨_, rfl, hM.frm, rfl⟩

/-! ### loop.example/g01210/impl.areAll[[6]int]$1: function 85 -/
def impl_areAll_6_int_1__isRunner.f (K : Nat) (a0 : (Ar 6)) : Option Bool := (impl_isRunner.f K a0).bind fun t4 => some (!t4)
set_option maxRecDepth 100000 in
set_option maxHeartbeats 4000000 in
theorem impl_areAll_6_int_1__isRunner.calls {w0 : World} (K : Nat) (a0 : (Ar 6)) (b1 : Nat) (q2 : (boxR b1 [Pt.val (Value.func (.func 55) #[] #[]) rfl] 60).holds w0) (r : Bool) (H : impl_areAll_6_int_1__isRunner.f K a0 = some r) : Calls Try.prog 85 [ag [Pt.ar a0], pt b1 0].toArray w0 (Post w0 fun w v => v = Value.bool r) := by
  rw [impl_areAll_6_int_1__isRunner.f] at H
  refine s_start Try.func85 rfl Try.ntmps85 rfl ?_
  intro a hF
  have hM := Ms.start w0
  skip
  refine wp_seq ?_
  refine s_region ?_
  refine s_box (ps := [Pt.ar a0]) hF hM rfl rfl rfl rfl ?_; intro a w b3 hF hM
  refine s_val hF rfl rfl rfl (e_assign hF rfl) ?_; intro a hF
  refine s_nil ?_
  refine then_n ?_
  refine wp_seq ?_
  obtain ⟨t4, h5, H⟩ := bind_some H
  refine s_region ?_
  refine s_val hF rfl rfl rfl (e_ldb (k := 0) hF (box_frm q2 hM.frm) rfl rfl rfl Try.isAgg60 rfl) ?_; intro a hF
  refine s_val hF rfl rfl rfl (e_lda (i := 0) 0 1 hF hM rfl rfl rfl rfl Try.isAgg22 Try.sizeOf22 rfl) ?_; intro a hF
  refine s_callv hF rfl rfl rfl rfl (callsV_of Try.call55 (impl_isRunner.calls K a0 t4 h5)) ?_; intro a w v hF ⟨hf, hR⟩
  subst hR; have hM := hM.grow hf
  refine s_val hF rfl rfl rfl (e_not hF rfl) ?_; intro a hF
  refine s_val hF rfl rfl rfl (e_assign hF rfl) ?_; intro a hF
  refine s_nil ?_
  refine then_n ?_
  refine wp_ret ?_
  obtain rfl := some_some H
  refine s_ret [Value.bool (!t4)] hF Try.results85 ⟨rfl, trivial⟩ ?_
  exact ⟨_, rfl, hM.frm, rfl⟩

/-! ### slices.IndexFunc[[][6]int,[6]int]: function 89 -/
def slices_IndexFunc_6_int_6_int__areAll_6_int_1_isRunner.l0 (K : Nat) (l0 : (List (Ar 6))) : Nat → Int → Option (Sum Unit Int)
  | 0, _ => none
  | k + 1, x14 => if x14 < (l0.length : Int) then (if (0 : Int) ≤ x14 ∧ x14 < (l0.length : Int) then ((impl_areAll_6_int_1__isRunner.f K (l0.getD (x14 : Int).toNat (Ar.zero 6))).bind fun t17 => if t17 = true then (some (Sum.inr x14)) else (slices_IndexFunc_6_int_6_int__areAll_6_int_1_isRunner.l0 K l0 k (wrap64 (x14 + 1)))) else none) else (some (Sum.inl ()))
def slices_IndexFunc_6_int_6_int__areAll_6_int_1_isRunner.f (K : Nat) (l0 : (List (Ar 6))) : Option Int := (slices_IndexFunc_6_int_6_int__areAll_6_int_1_isRunner.l0 K l0 K 0).bind fun o20 => (match o20 with | .inl () => some (-1) | .inr r22 => some r22)
set_option maxRecDepth 100000 in
set_option maxHeartbeats 4000000 in
theorem slices_IndexFunc_6_int_6_int__areAll_6_int_1_isRunner.calls {w0 : World} (K : Nat) (l0 : (List (Ar 6))) (u0 : Value) (q0 : SlR cd22 w0 u0 l0) (b1 : Nat) (q2 : (boxR b1 [Pt.val (Value.func (.func 55) #[] #[]) rfl] 60).holds w0) (r : Int) (H : slices_IndexFunc_6_int_6_int__areAll_6_int_1_isRunner.f K l0 = some r) : Calls Try.prog 89 [u0, Value.func (.func 85) #[] #[pt b1 0]].toArray w0 (Post w0 fun w v => v = Value.int .i64 r) := by
  rw [slices_IndexFunc_6_int_6_int__areAll_6_int_1_isRunner.f] at H
  refine s_start Try.func89 rfl Try.ntmps89 rfl ?_
  intro a hF
  have hM := Ms.start w0
  skip
  refine wp_seq ?_
  refine s_region ?_
  refine s_val hF rfl rfl rfl (e_assign hF rfl) ?_; intro a hF
  refine s_nil ?_
  refine then_n ?_
  refine wp_seq ?_
  refine wp_seq ?_
  refine s_region ?_
  refine s_val hF rfl rfl rfl (e_move hF rfl) ?_; intro a hF
  refine s_val hF rfl rfl rfl (e_len hF rfl (q0.frm hM.frm).toF Try.underlying54) ?_; intro a hF
  refine s_val hF rfl rfl rfl (e_move hF rfl) ?_; intro a hF
  refine s_nil ?_
  refine then_n ?_
  refine wp_block ?_
  obtain ⟨o20, h21, H⟩ := bind_some H
  refine wp_mono (Q := fun e a w => (e = Exit.exit 0 ∧ Sum.inl () = o20 ∧ Fr 19 a [] ∧ Ms [] w0 w []) ∨ (e = Exit.ret ∧ ∃ r22 : Int, Sum.inr r22 = o20 ∧ Fr 19 a [(4, Value.int .i64 r22)] ∧ Ms [] w0 w [])) ?_ ?_
  · refine s_loop (fun kq a w => ∃ x14 : Int, slices_IndexFunc_6_int_6_int__areAll_6_int_1_isRunner.l0 K l0 kq x14 = some o20 ∧ Fr 19 a [(0, u0), (1, Value.func (.func 85) #[] #[pt b1 0]), (7, Value.int .i64 (l0.length : Int)), (8, Value.int .i64 x14)] ∧ Ms [] w0 w []) K ⟨0, h21, hF.sub _ ⟨rfl, rfl, rfl, rfl, trivial⟩, hM.pick [] rfl rfl⟩ ?_ ?_
    · rintro a w ⟨_, H, _⟩; exact none_some H
    · rintro k a w ⟨x14, H, hF, hM⟩; rw [slices_IndexFunc_6_int_6_int__areAll_6_int_1_isRunner.l0] at H
      refine wp_seq ?_
      refine s_region ?_
      refine s_val hF rfl rfl rfl (e_lss hF rfl rfl) ?_; intro a hF
      refine s_nil ?_
      refine then_n ?_
      refine wp_seq ?_
      rcases ite_cases H with ⟨c15, H⟩ | ⟨c15, H⟩
      ·
        refine s_cond_t hF rfl (decide_eq_true c15) ?_
        refine wp_skip ?_
        refine then_n ?_
        refine wp_seq ?_
        refine wp_block ?_
        refine wp_seq ?_
        refine s_region ?_
        refine s_val hF rfl rfl rfl (e_move hF rfl) ?_; intro a hF
        refine s_val hF rfl rfl rfl (e_assign hF rfl) ?_; intro a hF
        refine s_nil ?_
        refine then_n ?_
        refine wp_seq ?_
        obtain ⟨c16, H⟩ := ite_some H
        obtain ⟨t17, h18, H⟩ := bind_some H
        refine s_region ?_
        refine s_val hF rfl rfl rfl (e_move hF rfl) ?_; intro a hF
        refine s_val hF rfl rfl rfl (e_move hF rfl) ?_; intro a hF
        refine s_val hF rfl rfl rfl (e_move hF rfl) ?_; intro a hF
        refine s_val hF rfl rfl rfl (e_ias cd22 hF rfl rfl (q0.frm hM.frm).toF Try.underlying54 Try.sizeOf22 c16.1 c16.2) ?_; intro a hF
        refine s_val hF rfl rfl rfl (e_ldsa (m := x14) hF rfl (q0.frm hM.frm) (getD_some (z := (Ar.zero 6)) c16.1 c16.2) Try.isAgg22 Try.sizeOf22) ?_; intro a hF
        refine s_callv hF rfl rfl rfl rfl (callsV_of Try.call85 (impl_areAll_6_int_1__isRunner.calls K (l0.getD (x14 : Int).toNat (Ar.zero 6)) b1 (box_frm q2 hM.frm) t17 h18)) ?_; intro a w v hF ⟨hf, hR⟩
        subst hR; have hM := hM.grow hf
        refine s_nil ?_
        refine then_n ?_
        rcases ite_cases H with ⟨c19, H⟩ | ⟨c19, H⟩
        ·
          refine s_cond_t hF rfl c19 ?_
          refine wp_seq ?_
          refine s_region ?_
          refine s_val hF rfl rfl rfl (e_move hF rfl) ?_; intro a hF
          refine s_val hF rfl rfl rfl (e_assign hF rfl) ?_; intro a hF
          refine s_nil ?_
          refine then_n ?_
          refine wp_ret ?_
          refine blk_r ?_
          refine then_r ?_
          refine then_r ?_
          exact Or.inr (⟨rfl, x14, some_some H, hF.sub _ ⟨rfl, trivial⟩, hM.pick [] rfl rfl⟩)
        ·
          refine s_cond_f hF rfl (bf c19) ?_
          refine wp_skip ?_
          refine blk_n ?_
          refine then_n ?_
          refine s_region ?_
          refine s_val hF rfl rfl rfl (e_add hF rfl rfl) ?_; intro a hF
          refine s_val hF rfl rfl rfl (e_move hF rfl) ?_; intro a hF
          refine s_nil ?_
          refine then_n ?_
          exact ⟨(wrap64 (x14 + 1)), H, hF.sub _ ⟨rfl, rfl, rfl, rfl, trivial⟩, hM.pick [] rfl rfl⟩
      ·
        refine s_cond_f hF rfl (decide_eq_false c15) ?_
        refine wp_exit ?_
        refine then_x ?_
        refine then_x ?_
        exact Or.inl (⟨rfl, some_some H, hF.sub _ trivial, hM.pick [] rfl rfl⟩)
  · rintro e a w (⟨rfl, rfl, hF, hM⟩ | ⟨rfl, r22, rfl, hF, hM⟩)
    ·
      dsimp only at H
      refine blk_x ?_
      refine then_n ?_
      refine wp_seq ?_
      refine s_region ?_
      refine s_val hF rfl rfl rfl (e_assign hF rfl) ?_; intro a hF
      refine s_nil ?_
      refine then_n ?_
      refine wp_ret ?_
      obtain rfl := some_some H
      refine s_ret [Value.int .i64 (-1)] hF Try.results89 ⟨rfl, trivial⟩ ?_
      exact ⟨_, rfl, hM.frm, rfl⟩
    ·
      dsimp only at H
      refine blk_r ?_
      refine then_r ?_
      obtain rfl := some_some H
      refine s_ret [Value.int .i64 r22] hF Try.results89 ⟨rfl, trivial⟩ ?_
      exact ⟨_, rfl, hM.frm, rfl⟩

/-! ### slices.ContainsFunc[[][6]int,[6]int]: function 84 -/
def slices_ContainsFunc_6_int_6_int__areAll_6_int_1_isRunner.f (K : Nat) (l0 : (List (Ar 6))) : Option Bool := (slices_IndexFunc_6_int_6_int__areAll_6_int_1_isRunner.f K l0).bind fun t3 => some (decide (0 ≤ t3))
set_option maxRecDepth 100000 in
set_option maxHeartbeats 4000000 in
theorem slices_ContainsFunc_6_int_6_int__areAll_6_int_1_isRunner.calls {w0 : World} (K : Nat) (l0 : (List (Ar 6))) (u0 : Value) (q0 : SlR cd22 w0 u0 l0) (b1 : Nat) (q2 : (boxR b1 [Pt.val (Value.func (.func 55) #[] #[]) rfl] 60).holds w0) (r : Bool) (H : slices_ContainsFunc_6_int_6_int__areAll_6_int_1_isRunner.f K l0 = some r) : Calls Try.prog 84 [u0, Value.func (.func 85) #[] #[pt b1 0]].toArray w0 (Post w0 fun w v => v = Value.bool r) := by
  rw [slices_ContainsFunc_6_int_6_int__areAll_6_int_1_isRunner.f] at H
  refine s_start Try.func84 rfl Try.ntmps84 rfl ?_
  intro a hF
  have hM := Ms.start w0
  skip
  refine wp_seq ?_
  refine s_region ?_
  refine s_val hF rfl rfl rfl (e_assign hF rfl) ?_; intro a hF
  refine s_nil ?_
  refine then_n ?_
  refine wp_seq ?_
  obtain ⟨t3, h4, H⟩ := bind_some H
  refine s_region ?_
  refine s_val hF rfl rfl rfl (e_move hF rfl) ?_; intro a hF
  refine s_val hF rfl rfl rfl (e_move hF rfl) ?_; intro a hF
  refine s_call hF rfl rfl rfl Try.call89 (slices_IndexFunc_6_int_6_int__areAll_6_int_1_isRunner.calls K l0 u0 (q0.frm hM.frm) b1 (box_frm q2 hM.frm) t3 h4) ?_; intro a w v hF hf hR
  subst hR; have hM := hM.grow hf
  refine s_val hF rfl rfl rfl (e_geq hF rfl rfl) ?_; intro a hF
  refine s_val hF rfl rfl rfl (e_assign hF rfl) ?_; intro a hF
  refine s_nil ?_
  refine then_n ?_
  refine wp_ret ?_
  obtain rfl := some_some H
  refine s_ret [Value.bool (decide (0 ≤ t3))] hF Try.results84 ⟨rfl, trivial⟩ ?_
  exact ⟨_, rfl, hM.frm, rfl⟩

/-! ### loop.example/g01210/impl.areAll[[6]int]: function 79 -/
def impl_areAll_6_int__isRunner.f (K : Nat) (l0 : (List (Ar 6))) : Option Bool := (slices_ContainsFunc_6_int_6_int__areAll_6_int_1_isRunner.f K l0).bind fun t2 => some (!t2)
set_option maxRecDepth 100000 in
set_option maxHeartbeats 4000000 in
theorem impl_areAll_6_int__isRunner.calls {w0 : World} (K : Nat) (l0 : (List (Ar 6))) (u0 : Value) (q0 : SlR cd22 w0 u0 l0) (r : Bool) (H : impl_areAll_6_int__isRunner.f K l0 = some r) : Calls Try.prog 79 [u0, Value.func (.func 55) #[] #[]].toArray w0 (Post w0 fun w v => v = Value.bool r) := by
  rw [impl_areAll_6_int__isRunner.f] at H
  refine s_start Try.func79 rfl Try.ntmps79 rfl ?_
  intro a hF
  have hM := Ms.start w0
  skip
  refine wp_seq ?_
  refine s_region ?_
  refine s_box (ps := [Pt.val (Value.func (.func 55) #[] #[]) rfl]) hF hM rfl rfl rfl rfl ?_; intro a w b1 hF hM
  refine s_val hF rfl rfl rfl (e_assign hF rfl) ?_; intro a hF
  refine s_nil ?_
  refine then_n ?_
  refine wp_seq ?_
  obtain ⟨t2, h3, H⟩ := bind_some H
  refine s_region ?_
  refine s_val hF rfl rfl rfl (e_move hF rfl) ?_; intro a hF
  refine s_val hF rfl rfl rfl (e_mkfunc (hF.evs' rfl)) ?_; intro a hF
  refine s_call hF rfl rfl rfl Try.call84 (slices_ContainsFunc_6_int_6_int__areAll_6_int_1_isRunner.calls K l0 u0 (q0.frm hM.frm) b1 (hM.get 0 rfl) t2 h3) ?_; intro a w v hF hf hR
  subst hR; have hM := hM.grow hf
  refine s_val hF rfl rfl rfl (e_not hF rfl) ?_; intro a hF
  refine s_val hF rfl rfl rfl (e_assign hF rfl) ?_; intro a hF
  refine s_nil ?_
  refine then_n ?_
  refine wp_ret ?_
  obtain rfl := some_some H
  refine s_ret [Value.bool (!t2)] hF Try.results79 ⟨rfl, trivial⟩ ?_
  exact ⟨_, rfl, hM.frm, rfl⟩

/-! ### loop.example/g01210/impl.isGoal: function 56 -/
def impl_isGoal.f (K : Nat) (a0 : Int) : Option Bool := (impl_within.f K a0 1 8).bind fun t1 => some t1
set_option maxRecDepth 100000 in
set_option maxHeartbeats 4000000 in
theorem impl_isGoal.calls {w0 : World} (K : Nat) (a0 : Int) (r : Bool) (H : impl_isGoal.f K a0 = some r) : Calls Try.prog 56 [Value.int .i64 a0].toArray w0 (Post w0 fun w v => v = Value.bool r) := by
  rw [impl_isGoal.f] at H
  refine s_start Try.func56 rfl Try.ntmps56 rfl ?_
  intro a hF
  have hM := Ms.start w0
  skip
  refine wp_seq ?_
  refine s_region ?_
  refine s_val hF rfl rfl rfl (e_assign hF rfl) ?_; intro a hF
  refine s_nil ?_
  refine then_n ?_
  refine wp_seq ?_
  obtain ⟨t1, h2, H⟩ := bind_some H
  refine s_region ?_
  refine s_val hF rfl rfl rfl (e_move hF rfl) ?_; intro a hF
  refine s_call hF rfl rfl rfl Try.call62 (impl_within.calls K a0 1 8 t1 h2) ?_; intro a w v hF hf hR
  subst hR; have hM := hM.grow hf
  refine s_val hF rfl rfl rfl (e_assign hF rfl) ?_; intro a hF
  refine s_nil ?_
  refine then_n ?_
  refine wp_ret ?_
  obtain rfl := some_some H
  refine s_ret [Value.bool t1] hF Try.results56 ⟨rfl, trivial⟩ ?_
  exact ⟨_, rfl, hM.frm, rfl⟩

/-! ### loop.example/g01210/impl.power: function 63 -/
def impl_power.l0 (K : Nat) (a0 : Int) : Nat → Int → Int → Option Int
  | 0, _, _ => none
  | k + 1, x6, x7 => if x7 < a0 then (impl_power.l0 K a0 k (wrap64 (x6 * 6)) (wrap64 (x7 + 1))) else (some x6)
def impl_power.f (K : Nat) (a0 : Int) : Option Int := (impl_power.l0 K a0 K 1 0).bind fun x5 => some x5
set_option maxRecDepth 100000 in
set_option maxHeartbeats 4000000 in
theorem impl_power.calls {w0 : World} (K : Nat) (a0 : Int) (r : Int) (H : impl_power.f K a0 = some r) : Calls Try.prog 63 [Value.int .i64 a0].toArray w0 (Post w0 fun w v => v = Value.int .i64 r) := by
  rw [impl_power.f] at H
  refine s_start Try.func63 rfl Try.ntmps63 rfl ?_
  intro a hF
  have hM := Ms.start w0
  skip
  refine wp_seq ?_
  refine s_region ?_
  refine s_val hF rfl rfl rfl (e_assign hF rfl) ?_; intro a hF
  refine s_nil ?_
  refine then_n ?_
  refine wp_seq ?_
  refine s_region ?_
  refine s_val hF rfl rfl rfl (e_assign hF rfl) ?_; intro a hF
  refine s_nil ?_
  refine then_n ?_
  refine wp_seq ?_
  refine wp_seq ?_
  refine s_region ?_
  refine s_val hF rfl rfl rfl (e_move hF rfl) ?_; intro a hF
  refine s_val hF rfl rfl rfl (e_move hF rfl) ?_; intro a hF
  refine s_nil ?_
  refine then_n ?_
  refine wp_block ?_
  obtain ⟨o9, h10, H⟩ := bind_some H
  refine wp_mono (Q := fun e a w => (e = Exit.exit 0 ∧ ∃ x5 : Int, x5 = o9 ∧ Fr 11 a [(3, Value.int .i64 x5)] ∧ Ms [] w0 w [])) ?_ ?_
  · refine s_loop (fun kq a w => ∃ x6 : Int, ∃ x7 : Int, impl_power.l0 K a0 kq x6 x7 = some o9 ∧ Fr 11 a [(3, Value.int .i64 x6), (4, Value.int .i64 a0), (5, Value.int .i64 x7)] ∧ Ms [] w0 w []) K ⟨1, 0, h10, hF.sub _ ⟨rfl, rfl, rfl, trivial⟩, hM.pick [] rfl rfl⟩ ?_ ?_
    · rintro a w ⟨_, _, H, _⟩; exact none_some H
    · rintro k a w ⟨x6, x7, H, hF, hM⟩; rw [impl_power.l0] at H
      refine wp_seq ?_
      refine s_region ?_
      refine s_val hF rfl rfl rfl (e_lss hF rfl rfl) ?_; intro a hF
      refine s_nil ?_
      refine then_n ?_
      refine wp_seq ?_
      rcases ite_cases H with ⟨c8, H⟩ | ⟨c8, H⟩
      ·
        refine s_cond_t hF rfl (decide_eq_true c8) ?_
        refine wp_skip ?_
        refine then_n ?_
        refine wp_seq ?_
        refine wp_block ?_
        refine s_region ?_
        refine s_val hF rfl rfl rfl (e_move hF rfl) ?_; intro a hF
        refine s_val hF rfl rfl rfl (e_mul hF rfl rfl) ?_; intro a hF
        refine s_val hF rfl rfl rfl (e_assign hF rfl) ?_; intro a hF
        refine s_nil ?_
        refine blk_n ?_
        refine then_n ?_
        refine s_region ?_
        refine s_val hF rfl rfl rfl (e_add hF rfl rfl) ?_; intro a hF
        refine s_val hF rfl rfl rfl (e_move hF rfl) ?_; intro a hF
        refine s_nil ?_
        refine then_n ?_
        exact ⟨(wrap64 (x6 * 6)), (wrap64 (x7 + 1)), H, hF.sub _ ⟨rfl, rfl, rfl, trivial⟩, hM.pick [] rfl rfl⟩
      ·
        refine s_cond_f hF rfl (decide_eq_false c8) ?_
        refine wp_exit ?_
        refine then_x ?_
        refine then_x ?_
        exact ⟨rfl, x6, some_some H, hF.sub _ ⟨rfl, trivial⟩, hM.pick [] rfl rfl⟩
  · rintro e a w ⟨rfl, x5, rfl, hF, hM⟩
    skip
    refine blk_x ?_
    refine then_n ?_
    refine wp_seq ?_
    refine s_region ?_
    refine s_val hF rfl rfl rfl (e_move hF rfl) ?_; intro a hF
    refine s_val hF rfl rfl rfl (e_assign hF rfl) ?_; intro a hF
    refine s_nil ?_
    refine then_n ?_
    refine wp_ret ?_
    obtain rfl := some_some H
    refine s_ret [Value.int .i64 x5] hF Try.results63 ⟨rfl, trivial⟩ ?_
    exact ⟨_, rfl, hM.frm, rfl⟩

/-! ### loop.example/g01210/impl.runs: function 70 -/
def impl_runs.l16 (K : Nat) (a0 : (Ar 6)) (a1 : Int) (x266 : (List Int)) (x321 : Int) : Nat → Int → Int → (List Int) → Option (Int × (List Int))
  | 0, _, _, _ => none
  | k + 1, x336, x337, x338 => if x337 < 6 then (if (0 : Int) ≤ x337 ∧ x337 < 6 then (if a1 ≤ (wrap64 (x321 + (a0.get x337))) then (impl_runs.l16 K a0 a1 x266 x321 k (wrap64 (x336 + (x266.getD (x321 : Int).toNat (0 : Int)))) (wrap64 (x337 + 1)) x338) else (if (0 : Int) ≤ (wrap64 (x321 + (a0.get x337))) ∧ (wrap64 (x321 + (a0.get x337))) < (x338.length : Int) then (impl_runs.l16 K a0 a1 x266 x321 k x336 (wrap64 (x337 + 1)) (x338.set ((wrap64 (x321 + (a0.get x337))) : Int).toNat (wrap64 ((x338.getD ((wrap64 (x321 + (a0.get x337))) : Int).toNat (0 : Int)) + (x266.getD (x321 : Int).toNat (0 : Int)))))) else none)) else none) else (some (x336, x338))
def impl_runs.l15 (K : Nat) (a0 : (Ar 6)) (a1 : Int) (x266 : (List Int)) : Nat → Int → Int → (List Int) → Option (Int × (List Int))
  | 0, _, _, _ => none
  | k + 1, x320, x321, x322 => if x321 < (x266.length : Int) then (if (0 : Int) ≤ x321 ∧ x321 < (x266.length : Int) then ((impl_runs.l16 K a0 a1 x266 x321 K x320 0 x322).bind fun (x334, x335) => impl_runs.l15 K a0 a1 x266 k x334 (wrap64 (x321 + 1)) x335) else none) else (some (x320, x322))
def impl_runs.l12 (K : Nat) (a0 : (Ar 6)) (a1 : Int) : Nat → Int → (List Int) → (List Int) → Option (List Int)
  | 0, _, _, _ => none
  | k + 1, x264, x266, x268 => if x264 ≤ a1 then ((impl_runs.l15 K a0 a1 x266 K 0 0 (List.replicate a1.toNat (0 : Int))).bind fun (x318, x319) => (impl_power.f K (wrap64 (a1 - x264))).bind fun t347 => if x268.length + [(wrap64 (x318 * t347))].length ≤ 1073741824 then (impl_runs.l12 K a0 a1 k (wrap64 (x264 + 1)) x319 (x268 ++ [(wrap64 (x318 * t347))])) else none) else (some x268)
def impl_runs.f (K : Nat) (a0 : (Ar 6)) (a1 : Int) : Option (List Int) := if (0 : Int) ≤ a1 ∧ a1 ≤ 1073741824 then (if (0 : Int) ≤ 0 ∧ 0 < ((List.replicate a1.toNat (0 : Int)).length : Int) then ((impl_runs.l12 K a0 a1 K 1 ((List.replicate a1.toNat (0 : Int)).set (0 : Int).toNat 1) ([] : List Int)).bind fun x263 => some x263) else none) else none
set_option maxRecDepth 100000 in
set_option maxHeartbeats 4000000 in
theorem impl_runs.calls {w0 : World} (K : Nat) (a0 : (Ar 6)) (a1 : Int) (r : (List Int)) (H : impl_runs.f K a0 a1 = some r) : Calls Try.prog 70 [ag [Pt.ar a0], Value.int .i64 a1].toArray w0 (Post w0 fun w v => Fresh cd3 w0.heap.size w v r) := by
  rw [impl_runs.f] at H
  refine s_start Try.func70 rfl Try.ntmps70 rfl ?_
  intro a hF
  have hM := Ms.start w0
  skip
  refine wp_seq ?_
  refine s_region ?_
  refine s_box (ps := [Pt.ar a0]) hF hM rfl rfl rfl rfl ?_; intro a w b1 hF hM
  refine s_val hF rfl rfl rfl (e_assign hF rfl) ?_; intro a hF
  refine s_nil ?_
  refine then_n ?_
  refine wp_seq ?_
  obtain ⟨c3, H⟩ := ite_some H
  refine s_region ?_
  refine s_val hF rfl rfl rfl (e_move hF rfl) ?_; intro a hF
  refine s_make (C := cd3) cdok3 hF hM rfl rfl rfl rfl Try.underlying23 c3.1 c3.2 ?_; intro a w v2 hF hM
  refine s_val hF rfl rfl rfl (e_assign hF rfl) ?_; intro a hF
  refine s_nil ?_
  refine then_n ?_
  refine wp_seq ?_
  obtain ⟨c4, H⟩ := ite_some H
  refine s_region ?_
  refine s_val hF rfl rfl rfl (e_move hF rfl) ?_; intro a hF
  refine s_val hF rfl rfl rfl (e_ias cd3 hF rfl rfl (hM.sl 0 rfl).toF Try.underlying23 Try.sizeOf3 c4.1 c4.2) ?_; intro a hF
  refine s_sts (i := 0) 1 hF hM rfl rfl rfl rfl rfl c4.1 c4.2 Try.sizeOf3 ?_; intro a w hF hM
  refine s_nil ?_
  refine then_n ?_
  refine wp_seq ?_
  refine s_region ?_
  refine s_val hF rfl rfl rfl (e_assign hF rfl) ?_; intro a hF
  refine s_nil ?_
  refine then_n ?_
  refine wp_seq ?_
  refine wp_seq ?_
  refine s_region ?_
  refine s_val hF rfl rfl rfl (e_assign hF rfl) ?_; intro a hF
  refine s_nil ?_
  refine then_n ?_
  refine wp_block ?_
  have hM := hM.nilRow cd3
  obtain ⟨o352, h353, H⟩ := bind_some H
  refine wp_mono (Q := fun e a w => (e = Exit.exit 0 ∧ ∃ v262 : Value, ∃ x263 : (List Int), x263 = o352 ∧ Fr 66 a [(6, v262)] ∧ Ms [] w0 w [rowR cd3 v262 x263])) ?_ ?_
  · refine s_loop (fun kq a w => ∃ v265 : Value, ∃ v267 : Value, ∃ x264 : Int, ∃ x266 : (List Int), ∃ x268 : (List Int), impl_runs.l12 K a0 a1 kq x264 x266 x268 = some o352 ∧ Fr 66 a [(1, Value.int .i64 a1), (2, pt b1 0), (5, v265), (6, v267), (7, Value.int .i64 x264)] ∧ Ms [] w0 w [boxR b1 [Pt.ar a0] 22, rowR cd3 v265 x266, rowR cd3 v267 x268]) K ⟨v2, (Value.slice none 0 0), 1, ((List.replicate a1.toNat (0 : Int)).set (0 : Int).toNat 1), ([] : List Int), h353, hF.sub _ ⟨rfl, rfl, rfl, rfl, rfl, trivial⟩, hM.pick [2, 1, 0] rfl rfl⟩ ?_ ?_
    · rintro a w ⟨_, _, _, _, _, H, _⟩; exact none_some H
    · rintro k a w ⟨v265, v267, x264, x266, x268, H, hF, hM⟩; rw [impl_runs.l12] at H
      refine wp_seq ?_
      refine wp_seq ?_
      refine s_region ?_
      refine s_val hF rfl rfl rfl (e_move hF rfl) ?_; intro a hF
      refine s_val hF rfl rfl rfl (e_move hF rfl) ?_; intro a hF
      refine s_val hF rfl rfl rfl (e_leq hF rfl rfl) ?_; intro a hF
      refine s_nil ?_
      refine then_n ?_
      rcases ite_cases H with ⟨c269, H⟩ | ⟨c269, H⟩
      ·
        refine s_cond_t hF rfl (decide_eq_true c269) ?_
        refine wp_skip ?_
        refine then_n ?_
        refine wp_seq ?_
        refine wp_block ?_
        refine wp_seq ?_
        refine s_region ?_
        refine s_val hF rfl rfl rfl (e_move hF rfl) ?_; intro a hF
        refine s_make (C := cd3) cdok3 hF hM rfl rfl rfl rfl Try.underlying23 c3.1 c3.2 ?_; intro a w v270 hF hM
        refine s_val hF rfl rfl rfl (e_assign hF rfl) ?_; intro a hF
        refine s_val hF rfl rfl rfl (e_assign hF rfl) ?_; intro a hF
        refine s_nil ?_
        refine then_n ?_
        refine wp_seq ?_
        refine wp_seq ?_
        refine s_region ?_
        refine s_val hF rfl rfl rfl (e_move hF rfl) ?_; intro a hF
        refine s_val hF rfl rfl rfl (e_len hF rfl (hM.sl 2 rfl).toF Try.underlying23) ?_; intro a hF
        refine s_val hF rfl rfl rfl (e_move hF rfl) ?_; intro a hF
        refine s_nil ?_
        refine then_n ?_
        refine wp_block ?_
        obtain ⟨o345, h346, H⟩ := bind_some H
        refine wp_mono (Q := fun e a w => (e = Exit.exit 2 ∧ ∃ x318 : Int, ∃ x319 : (List Int), (x318, x319) = o345 ∧ Fr 66 a [(1, Value.int .i64 a1), (2, pt b1 0), (6, v267), (7, Value.int .i64 x264), (8, v270), (9, Value.int .i64 x318)] ∧ Ms [] w0 w [boxR b1 [Pt.ar a0] 22, rowR cd3 v267 x268, rowR cd3 v270 x319])) ?_ ?_
        · refine s_loop (fun kq a w => ∃ x320 : Int, ∃ x321 : Int, ∃ x322 : (List Int), impl_runs.l15 K a0 a1 x266 kq x320 x321 x322 = some o345 ∧ Fr 66 a [(1, Value.int .i64 a1), (2, pt b1 0), (6, v267), (7, Value.int .i64 x264), (8, v270), (9, Value.int .i64 x320), (25, v265), (26, Value.int .i64 (x266.length : Int)), (27, Value.int .i64 x321)] ∧ Ms [] w0 w [boxR b1 [Pt.ar a0] 22, rowR cd3 v267 x268, rowR cd3 v270 x322, rowR cd3 v265 x266]) K ⟨0, 0, (List.replicate a1.toNat (0 : Int)), h346, hF.sub _ ⟨rfl, rfl, rfl, rfl, rfl, rfl, rfl, rfl, rfl, trivial⟩, hM.pick [1, 3, 0, 2] rfl rfl⟩ ?_ ?_
          · rintro a w ⟨_, _, _, H, _⟩; exact none_some H
          · rintro k a w ⟨x320, x321, x322, H, hF, hM⟩; rw [impl_runs.l15] at H
            refine wp_seq ?_
            refine s_region ?_
            refine s_val hF rfl rfl rfl (e_lss hF rfl rfl) ?_; intro a hF
            refine s_nil ?_
            refine then_n ?_
            refine wp_seq ?_
            rcases ite_cases H with ⟨c323, H⟩ | ⟨c323, H⟩
            ·
              refine s_cond_t hF rfl (decide_eq_true c323) ?_
              refine wp_skip ?_
              refine then_n ?_
              refine wp_seq ?_
              refine wp_block ?_
              refine wp_seq ?_
              obtain ⟨c324, H⟩ := ite_some H
              refine s_region ?_
              refine s_val hF rfl rfl rfl (e_move hF rfl) ?_; intro a hF
              refine s_val hF rfl rfl rfl (e_ias cd3 hF rfl rfl (hM.sl 3 rfl).toF Try.underlying23 Try.sizeOf3 c324.1 c324.2) ?_; intro a hF
              refine s_val hF rfl rfl rfl (e_lds (m := x321) hF rfl (hM.sl 3 rfl) (getD_some (z := (0 : Int)) c324.1 c324.2) rfl rfl Try.isAgg3) ?_; intro a hF
              refine s_val hF rfl rfl rfl (e_assign hF rfl) ?_; intro a hF
              refine s_val hF rfl rfl rfl (e_assign hF rfl) ?_; intro a hF
              refine s_nil ?_
              refine then_n ?_
              refine wp_seq ?_
              refine s_region ?_
              refine s_val hF rfl rfl rfl (e_lda (i := 0) 0 1 hF hM rfl rfl rfl rfl Try.isAgg22 Try.sizeOf22 rfl) ?_; intro a hF
              refine s_val hF rfl rfl rfl (e_move hF rfl) ?_; intro a hF
              refine s_nil ?_
              refine then_n ?_
              refine wp_block ?_
              obtain ⟨o343, h344, H⟩ := bind_some H
              refine wp_mono (Q := fun e a w => (e = Exit.exit 4 ∧ ∃ x334 : Int, ∃ x335 : (List Int), (x334, x335) = o343 ∧ Fr 66 a [(1, Value.int .i64 a1), (2, pt b1 0), (6, v267), (7, Value.int .i64 x264), (8, v270), (9, Value.int .i64 x334), (25, v265), (26, Value.int .i64 (x266.length : Int)), (27, Value.int .i64 x321)] ∧ Ms [] w0 w [boxR b1 [Pt.ar a0] 22, rowR cd3 v267 x268, rowR cd3 v270 x335, rowR cd3 v265 x266])) ?_ ?_
              · refine s_loop (fun kq a w => ∃ x336 : Int, ∃ x337 : Int, ∃ x338 : (List Int), impl_runs.l16 K a0 a1 x266 x321 kq x336 x337 x338 = some o343 ∧ Fr 66 a [(1, Value.int .i64 a1), (2, pt b1 0), (6, v267), (7, Value.int .i64 x264), (8, v270), (9, Value.int .i64 x336), (10, Value.int .i64 x321), (11, Value.int .i64 (x266.getD (x321 : Int).toNat (0 : Int))), (25, v265), (26, Value.int .i64 (x266.length : Int)), (27, Value.int .i64 x321), (32, ag [Pt.ar a0]), (33, Value.int .i64 x337)] ∧ Ms [] w0 w [boxR b1 [Pt.ar a0] 22, rowR cd3 v267 x268, rowR cd3 v270 x338, rowR cd3 v265 x266]) K ⟨x320, 0, x322, h344, hF.sub _ ⟨rfl, rfl, rfl, rfl, rfl, rfl, rfl, rfl, rfl, rfl, rfl, rfl, rfl, trivial⟩, hM.pick [0, 1, 2, 3] rfl rfl⟩ ?_ ?_
                · rintro a w ⟨_, _, _, H, _⟩; exact none_some H
                · rintro k a w ⟨x336, x337, x338, H, hF, hM⟩; rw [impl_runs.l16] at H
                  refine wp_seq ?_
                  refine s_region ?_
                  refine s_val hF rfl rfl rfl (e_lss hF rfl rfl) ?_; intro a hF
                  refine s_nil ?_
                  refine then_n ?_
                  refine wp_seq ?_
                  rcases ite_cases H with ⟨c339, H⟩ | ⟨c339, H⟩
                  ·
                    refine s_cond_t hF rfl (decide_eq_true c339) ?_
                    refine wp_skip ?_
                    refine then_n ?_
                    refine wp_seq ?_
                    refine wp_block ?_
                    refine wp_seq ?_
                    obtain ⟨c340, H⟩ := ite_some H
                    refine s_region ?_
                    refine s_val hF rfl rfl rfl (e_ix hF rfl rfl Try.underlying22 Try.sizeOf3 Try.isAgg3 c340.1 c340.2) ?_; intro a hF
                    refine s_val hF rfl rfl rfl (e_assign hF rfl) ?_; intro a hF
                    refine s_nil ?_
                    refine then_n ?_
                    refine wp_seq ?_
                    refine s_region ?_
                    refine s_val hF rfl rfl rfl (e_move hF rfl) ?_; intro a hF
                    refine s_val hF rfl rfl rfl (e_move hF rfl) ?_; intro a hF
                    refine s_val hF rfl rfl rfl (e_add hF rfl rfl) ?_; intro a hF
                    refine s_val hF rfl rfl rfl (e_move hF rfl) ?_; intro a hF
                    refine s_val hF rfl rfl rfl (e_geq hF rfl rfl) ?_; intro a hF
                    refine s_nil ?_
                    refine then_n ?_
                    rcases ite_cases H with ⟨c341, H⟩ | ⟨c341, H⟩
                    ·
                      refine s_cond_t hF rfl (decide_eq_true c341) ?_
                      refine s_region ?_
                      refine s_val hF rfl rfl rfl (e_move hF rfl) ?_; intro a hF
                      refine s_val hF rfl rfl rfl (e_move hF rfl) ?_; intro a hF
                      refine s_val hF rfl rfl rfl (e_add hF rfl rfl) ?_; intro a hF
                      refine s_val hF rfl rfl rfl (e_assign hF rfl) ?_; intro a hF
                      refine s_nil ?_
                      refine blk_n ?_
                      refine then_n ?_
                      refine s_region ?_
                      refine s_val hF rfl rfl rfl (e_add hF rfl rfl) ?_; intro a hF
                      refine s_val hF rfl rfl rfl (e_move hF rfl) ?_; intro a hF
                      refine s_nil ?_
                      refine then_n ?_
                      exact ⟨(wrap64 (x336 + (x266.getD (x321 : Int).toNat (0 : Int)))), (wrap64 (x337 + 1)), x338, H, hF.sub _ ⟨rfl, rfl, rfl, rfl, rfl, rfl, rfl, rfl, rfl, rfl, rfl, rfl, rfl, trivial⟩, hM.pick [0, 1, 2, 3] rfl rfl⟩
                    ·
                      refine s_cond_f hF rfl (decide_eq_false c341) ?_
                      obtain ⟨c342, H⟩ := ite_some H
                      refine s_region ?_
                      refine s_val hF rfl rfl rfl (e_move hF rfl) ?_; intro a hF
                      refine s_val hF rfl rfl rfl (e_move hF rfl) ?_; intro a hF
                      refine s_val hF rfl rfl rfl (e_move hF rfl) ?_; intro a hF
                      refine s_val hF rfl rfl rfl (e_add hF rfl rfl) ?_; intro a hF
                      refine s_val hF rfl rfl rfl (e_ias cd3 hF rfl rfl (hM.sl 2 rfl).toF Try.underlying23 Try.sizeOf3 c342.1 c342.2) ?_; intro a hF
                      refine s_val hF rfl rfl rfl (e_lds (m := (wrap64 (x321 + (a0.get x337)))) hF rfl (hM.sl 2 rfl) (getD_some (z := (0 : Int)) c342.1 c342.2) rfl rfl Try.isAgg3) ?_; intro a hF
                      refine s_val hF rfl rfl rfl (e_move hF rfl) ?_; intro a hF
                      refine s_val hF rfl rfl rfl (e_add hF rfl rfl) ?_; intro a hF
                      refine s_val hF rfl rfl rfl (e_ias cd3 hF rfl rfl (hM.sl 2 rfl).toF Try.underlying23 Try.sizeOf3 c342.1 c342.2) ?_; intro a hF
                      refine s_sts (i := 2) (wrap64 ((x338.getD ((wrap64 (x321 + (a0.get x337))) : Int).toNat (0 : Int)) + (x266.getD (x321 : Int).toNat (0 : Int)))) hF hM rfl rfl rfl rfl rfl c342.1 c342.2 Try.sizeOf3 ?_; intro a w hF hM
                      refine s_nil ?_
                      refine blk_n ?_
                      refine then_n ?_
                      refine s_region ?_
                      refine s_val hF rfl rfl rfl (e_add hF rfl rfl) ?_; intro a hF
                      refine s_val hF rfl rfl rfl (e_move hF rfl) ?_; intro a hF
                      refine s_nil ?_
                      refine then_n ?_
                      exact ⟨x336, (wrap64 (x337 + 1)), (x338.set ((wrap64 (x321 + (a0.get x337))) : Int).toNat (wrap64 ((x338.getD ((wrap64 (x321 + (a0.get x337))) : Int).toNat (0 : Int)) + (x266.getD (x321 : Int).toNat (0 : Int))))), H, hF.sub _ ⟨rfl, rfl, rfl, rfl, rfl, rfl, rfl, rfl, rfl, rfl, rfl, rfl, rfl, trivial⟩, hM.pick [0, 1, 2, 3] rfl rfl⟩
                  ·
                    refine s_cond_f hF rfl (decide_eq_false c339) ?_
                    refine wp_exit ?_
                    refine then_x ?_
                    refine then_x ?_
                    exact ⟨rfl, x336, x338, some_some H, hF.sub _ ⟨rfl, rfl, rfl, rfl, rfl, rfl, rfl, rfl, rfl, trivial⟩, hM.pick [0, 1, 2, 3] rfl rfl⟩
              · rintro e a w ⟨rfl, x334, x335, rfl, hF, hM⟩
                skip
                refine blk_x ?_
                refine blk_n ?_
                refine then_n ?_
                refine s_region ?_
                refine s_val hF rfl rfl rfl (e_add hF rfl rfl) ?_; intro a hF
                refine s_val hF rfl rfl rfl (e_move hF rfl) ?_; intro a hF
                refine s_nil ?_
                refine then_n ?_
                exact ⟨x334, (wrap64 (x321 + 1)), x335, H, hF.sub _ ⟨rfl, rfl, rfl, rfl, rfl, rfl, rfl, rfl, rfl, trivial⟩, hM.pick [0, 1, 2, 3] rfl rfl⟩
            ·
              refine s_cond_f hF rfl (decide_eq_false c323) ?_
              refine wp_exit ?_
              refine then_x ?_
              refine then_x ?_
              exact ⟨rfl, x320, x322, some_some H, hF.sub _ ⟨rfl, rfl, rfl, rfl, rfl, rfl, trivial⟩, hM.pick [0, 1, 2] rfl rfl⟩
        · rintro e a w ⟨rfl, x318, x319, rfl, hF, hM⟩
          skip
          refine blk_x ?_
          refine then_n ?_
          refine wp_seq ?_
          obtain ⟨t347, h348, H⟩ := bind_some H
          obtain ⟨c351, H⟩ := ite_some H
          refine s_region ?_
          refine s_val hF rfl rfl rfl (e_move hF rfl) ?_; intro a hF
          refine s_val hF rfl rfl rfl (e_move hF rfl) ?_; intro a hF
          refine s_val hF rfl rfl rfl (e_move hF rfl) ?_; intro a hF
          refine s_val hF rfl rfl rfl (e_move hF rfl) ?_; intro a hF
          refine s_val hF rfl rfl rfl (e_sub hF rfl rfl) ?_; intro a hF
          refine s_call hF rfl rfl rfl Try.call63 (impl_power.calls K (wrap64 (a1 - x264)) t347 h348) ?_; intro a w v hF hf hR
          subst hR; have hM := hM.grow hf
          refine s_val hF rfl rfl rfl (e_mul hF rfl rfl) ?_; intro a hF
          refine s_bsl (C := cd3) [(wrap64 (x318 * t347))] cdok3 hF hM rfl rfl rfl rfl Try.underlying23 rfl ?_; intro a w v349 hF hM
          refine s_append (i := 2) cdok3 hF hM rfl rfl rfl rfl rfl (hM.sl 0 rfl) Try.underlying23 c351 ?_; intro a w v350 hF hM
          refine s_val hF rfl rfl rfl (e_assign hF rfl) ?_; intro a hF
          refine s_nil ?_
          refine then_n ?_
          refine s_region ?_
          refine s_val hF rfl rfl rfl (e_move hF rfl) ?_; intro a hF
          refine s_val hF rfl rfl rfl (e_assign hF rfl) ?_; intro a hF
          refine s_nil ?_
          refine blk_n ?_
          refine then_n ?_
          refine s_region ?_
          refine s_val hF rfl rfl rfl (e_move hF rfl) ?_; intro a hF
          refine s_val hF rfl rfl rfl (e_add hF rfl rfl) ?_; intro a hF
          refine s_val hF rfl rfl rfl (e_assign hF rfl) ?_; intro a hF
          refine s_nil ?_
          refine then_n ?_
          exact ⟨v270, v350, (wrap64 (x264 + 1)), x319, (x268 ++ [(wrap64 (x318 * t347))]), H, hF.sub _ ⟨rfl, rfl, rfl, rfl, rfl, trivial⟩, hM.pick [1, 3, 2] rfl rfl⟩
      ·
        refine s_cond_f hF rfl (decide_eq_false c269) ?_
        refine wp_exit ?_
        refine then_x ?_
        refine then_x ?_
        exact ⟨rfl, v267, x268, some_some H, hF.sub _ ⟨rfl, trivial⟩, hM.pick [2] rfl rfl⟩
  · rintro e a w ⟨rfl, v262, x263, rfl, hF, hM⟩
    skip
    refine blk_x ?_
    refine then_n ?_
    refine wp_seq ?_
    refine s_region ?_
    refine s_val hF rfl rfl rfl (e_move hF rfl) ?_; intro a hF
    refine s_val hF rfl rfl rfl (e_assign hF rfl) ?_; intro a hF
    refine s_nil ?_
    refine then_n ?_
    refine wp_ret ?_
    obtain rfl := some_some H
    refine s_ret [v262] hF Try.results70 ⟨rfl, trivial⟩ ?_
    exact ⟨_, rfl, hM.frm, hM.give 0 rfl⟩

/-! ### loop.example/g01210/impl.meanRun: function 68 -/
def impl_meanRun.l0 (K : Nat) (t2 : (List Int)) : Nat → Int → Int → Option Int
  | 0, _, _ => none
  | k + 1, x12, x13 => if x13 < (t2.length : Int) then (if (0 : Int) ≤ x13 ∧ x13 < (t2.length : Int) then (impl_meanRun.l0 K t2 k (wrap64 (x12 + (wrap64 ((wrap64 (x13 + 1)) * (t2.getD (x13 : Int).toNat (0 : Int)))))) (wrap64 (x13 + 1))) else none) else (some x12)
def impl_meanRun.f (K : Nat) (a0 : (Ar 6)) (a1 : Int) : Option Int := (impl_runs.f K a0 a1).bind fun t2 => (impl_meanRun.l0 K t2 K 0 0).bind fun x11 => some x11
set_option maxRecDepth 100000 in
set_option maxHeartbeats 4000000 in
theorem impl_meanRun.calls {w0 : World} (K : Nat) (a0 : (Ar 6)) (a1 : Int) (r : Int) (H : impl_meanRun.f K a0 a1 = some r) : Calls Try.prog 68 [ag [Pt.ar a0], Value.int .i64 a1].toArray w0 (Post w0 fun w v => v = Value.int .i64 r) := by
  rw [impl_meanRun.f] at H
  refine s_start Try.func68 rfl Try.ntmps68 rfl ?_
  intro a hF
  have hM := Ms.start w0
  skip
  refine wp_seq ?_
  refine s_region ?_
  refine s_box (ps := [Pt.ar a0]) hF hM rfl rfl rfl rfl ?_; intro a w b1 hF hM
  refine s_val hF rfl rfl rfl (e_assign hF rfl) ?_; intro a hF
  refine s_nil ?_
  refine then_n ?_
  refine wp_seq ?_
  refine s_region ?_
  refine s_val hF rfl rfl rfl (e_assign hF rfl) ?_; intro a hF
  refine s_nil ?_
  refine then_n ?_
  refine wp_seq ?_
  refine wp_seq ?_
  obtain ⟨t2, h3, H⟩ := bind_some H
  refine s_region ?_
  refine s_val hF rfl rfl rfl (e_lda (i := 0) 0 1 hF hM rfl rfl rfl rfl Try.isAgg22 Try.sizeOf22 rfl) ?_; intro a hF
  refine s_val hF rfl rfl rfl (e_move hF rfl) ?_; intro a hF
  refine s_call hF rfl rfl rfl Try.call70 (impl_runs.calls K a0 a1 t2 h3) ?_; intro a w v4 hF hf hR
  have hM := hM.fresh hf hR
  refine s_val hF rfl rfl rfl (e_len hF rfl (hM.sl 0 rfl).toF Try.underlying23) ?_; intro a hF
  refine s_val hF rfl rfl rfl (e_move hF rfl) ?_; intro a hF
  refine s_nil ?_
  refine then_n ?_
  refine wp_block ?_
  obtain ⟨o16, h17, H⟩ := bind_some H
  refine wp_mono (Q := fun e a w => (e = Exit.exit 0 ∧ ∃ x11 : Int, x11 = o16 ∧ Fr 25 a [(5, Value.int .i64 x11)] ∧ Ms [] w0 w [])) ?_ ?_
  · refine s_loop (fun kq a w => ∃ x12 : Int, ∃ x13 : Int, impl_meanRun.l0 K t2 kq x12 x13 = some o16 ∧ Fr 25 a [(5, Value.int .i64 x12), (10, v4), (11, Value.int .i64 (t2.length : Int)), (12, Value.int .i64 x13)] ∧ Ms [] w0 w [rowR cd3 v4 t2]) K ⟨0, 0, h17, hF.sub _ ⟨rfl, rfl, rfl, rfl, trivial⟩, hM.pick [0] rfl rfl⟩ ?_ ?_
    · rintro a w ⟨_, _, H, _⟩; exact none_some H
    · rintro k a w ⟨x12, x13, H, hF, hM⟩; rw [impl_meanRun.l0] at H
      refine wp_seq ?_
      refine s_region ?_
      refine s_val hF rfl rfl rfl (e_lss hF rfl rfl) ?_; intro a hF
      refine s_nil ?_
      refine then_n ?_
      refine wp_seq ?_
      rcases ite_cases H with ⟨c14, H⟩ | ⟨c14, H⟩
      ·
        refine s_cond_t hF rfl (decide_eq_true c14) ?_
        refine wp_skip ?_
        refine then_n ?_
        refine wp_seq ?_
        refine wp_block ?_
        refine wp_seq ?_
        obtain ⟨c15, H⟩ := ite_some H
        refine s_region ?_
        refine s_val hF rfl rfl rfl (e_move hF rfl) ?_; intro a hF
        refine s_val hF rfl rfl rfl (e_ias cd3 hF rfl rfl (hM.sl 0 rfl).toF Try.underlying23 Try.sizeOf3 c15.1 c15.2) ?_; intro a hF
        refine s_val hF rfl rfl rfl (e_lds (m := x13) hF rfl (hM.sl 0 rfl) (getD_some (z := (0 : Int)) c15.1 c15.2) rfl rfl Try.isAgg3) ?_; intro a hF
        refine s_val hF rfl rfl rfl (e_assign hF rfl) ?_; intro a hF
        refine s_val hF rfl rfl rfl (e_assign hF rfl) ?_; intro a hF
        refine s_nil ?_
        refine then_n ?_
        refine s_region ?_
        refine s_val hF rfl rfl rfl (e_move hF rfl) ?_; intro a hF
        refine s_val hF rfl rfl rfl (e_move hF rfl) ?_; intro a hF
        refine s_val hF rfl rfl rfl (e_add hF rfl rfl) ?_; intro a hF
        refine s_val hF rfl rfl rfl (e_move hF rfl) ?_; intro a hF
        refine s_val hF rfl rfl rfl (e_mul hF rfl rfl) ?_; intro a hF
        refine s_val hF rfl rfl rfl (e_add hF rfl rfl) ?_; intro a hF
        refine s_val hF rfl rfl rfl (e_assign hF rfl) ?_; intro a hF
        refine s_nil ?_
        refine blk_n ?_
        refine then_n ?_
        refine s_region ?_
        refine s_val hF rfl rfl rfl (e_add hF rfl rfl) ?_; intro a hF
        refine s_val hF rfl rfl rfl (e_move hF rfl) ?_; intro a hF
        refine s_nil ?_
        refine then_n ?_
        exact ⟨(wrap64 (x12 + (wrap64 ((wrap64 (x13 + 1)) * (t2.getD (x13 : Int).toNat (0 : Int)))))), (wrap64 (x13 + 1)), H, hF.sub _ ⟨rfl, rfl, rfl, rfl, trivial⟩, hM.pick [0] rfl rfl⟩
      ·
        refine s_cond_f hF rfl (decide_eq_false c14) ?_
        refine wp_exit ?_
        refine then_x ?_
        refine then_x ?_
        exact ⟨rfl, x12, some_some H, hF.sub _ ⟨rfl, trivial⟩, hM.pick [] rfl rfl⟩
  · rintro e a w ⟨rfl, x11, rfl, hF, hM⟩
    skip
    refine blk_x ?_
    refine then_n ?_
    refine wp_seq ?_
    refine s_region ?_
    refine s_val hF rfl rfl rfl (e_move hF rfl) ?_; intro a hF
    refine s_val hF rfl rfl rfl (e_assign hF rfl) ?_; intro a hF
    refine s_nil ?_
    refine then_n ?_
    refine wp_ret ?_
    obtain rfl := some_some H
    refine s_ret [Value.int .i64 x11] hF Try.results68 ⟨rfl, trivial⟩ ?_
    exact ⟨_, rfl, hM.frm, rfl⟩

/-! ### loop.example/g01210/impl.fraction: function 64 -/
def impl_fraction.l0 (K : Nat) : Nat → Int → Int → Option Int
  | 0, _, _ => none
  | k + 1, x9, x10 => if x10 = 0 then (some x9) else (if x10 ≠ 0 then (impl_fraction.l0 K k x10 (x9.tmod x10)) else none)
def impl_fraction.f (K : Nat) (a0 : Int) (a1 : Int) : Option (Ar 2) := (impl_fraction.l0 K K a0 a1).bind fun x8 => if x8 ≠ 0 then (some (⟨[(wrap64 (a0.tdiv x8)), (wrap64 (a1.tdiv x8))], rfl⟩ : Ar 2)) else none
set_option maxRecDepth 100000 in
set_option maxHeartbeats 4000000 in
theorem impl_fraction.calls {w0 : World} (K : Nat) (a0 : Int) (a1 : Int) (r : (Ar 2)) (H : impl_fraction.f K a0 a1 = some r) : Calls Try.prog 64 [Value.int .i64 a0, Value.int .i64 a1].toArray w0 (Post w0 fun w v => v = ag [Pt.ar r]) := by
  rw [impl_fraction.f] at H
  refine s_start Try.func64 rfl Try.ntmps64 rfl ?_
  intro a hF
  have hM := Ms.start w0
  skip
  refine wp_seq ?_
  refine s_region ?_
  refine s_alloc (ps := [Pt.ar (Ar.zero 2)]) hF hM rfl rfl zv33 rfl ?_; intro a w b1 hF hM
  refine s_nil ?_
  refine then_n ?_
  refine wp_seq ?_
  refine s_region ?_
  refine s_val hF rfl rfl rfl (e_move hF rfl) ?_; intro a hF
  refine s_val hF rfl rfl rfl (e_move hF rfl) ?_; intro a hF
  refine s_val hF rfl rfl rfl (e_assign hF rfl) ?_; intro a hF
  refine s_val hF rfl rfl rfl (e_assign hF rfl) ?_; intro a hF
  refine s_nil ?_
  refine then_n ?_
  refine wp_seq ?_
  refine wp_block ?_
  obtain ⟨o13, h14, H⟩ := bind_some H
  refine wp_mono (Q := fun e a w => (e = Exit.exit 0 ∧ ∃ x8 : Int, x8 = o13 ∧ Fr 22 a [(0, Value.int .i64 a0), (1, Value.int .i64 a1), (4, pt b1 0), (5, Value.int .i64 x8)] ∧ Ms [] w0 w [boxR b1 [Pt.ar (Ar.zero 2)] 33])) ?_ ?_
  · refine s_loop (fun kq a w => ∃ x9 : Int, ∃ x10 : Int, impl_fraction.l0 K kq x9 x10 = some o13 ∧ Fr 22 a [(0, Value.int .i64 a0), (1, Value.int .i64 a1), (4, pt b1 0), (5, Value.int .i64 x9), (6, Value.int .i64 x10)] ∧ Ms [] w0 w [boxR b1 [Pt.ar (Ar.zero 2)] 33]) K ⟨a0, a1, h14, hF.sub _ ⟨rfl, rfl, rfl, rfl, rfl, trivial⟩, hM.pick [0] rfl rfl⟩ ?_ ?_
    · rintro a w ⟨_, _, H, _⟩; exact none_some H
    · rintro k a w ⟨x9, x10, H, hF, hM⟩; rw [impl_fraction.l0] at H
      refine wp_seq ?_
      refine wp_seq ?_
      refine s_region ?_
      refine s_val hF rfl rfl rfl (e_move hF rfl) ?_; intro a hF
      refine s_val hF rfl rfl rfl (e_neq hF rfl rfl) ?_; intro a hF
      refine s_nil ?_
      refine then_n ?_
      rcases ite_cases H with ⟨c11, H⟩ | ⟨c11, H⟩
      ·
        refine s_cond_f hF rfl (congrArg Bool.not (decide_eq_true c11)) ?_
        refine wp_exit ?_
        refine then_x ?_
        refine then_x ?_
        exact ⟨rfl, x9, some_some H, hF.sub _ ⟨rfl, rfl, rfl, rfl, trivial⟩, hM.pick [0] rfl rfl⟩
      ·
        refine s_cond_t hF rfl (congrArg Bool.not (decide_eq_false c11)) ?_
        refine wp_skip ?_
        refine then_n ?_
        refine wp_block ?_
        obtain ⟨c12, H⟩ := ite_some H
        refine s_held (fun w => Ms [] w0 w [boxR b1 [Pt.ar (Ar.zero 2)] 33]) #[false, false, false, false, false, false] mixed rfl rfl hM ?_; intro w hf hM; clear hf
        refine h_val 0 #[true, false, false, false, false, false] rfl (by kernel_rfl) hF rfl rfl rfl (fun w hS => e_move hF rfl) (hM.pick [0] rfl rfl) ?_; intro a hF
        refine h_val 1 #[true, true, false, false, false, false] rfl (by kernel_rfl) hF rfl rfl rfl (fun w hS => e_move hF rfl) (hM.pick [0] rfl rfl) ?_; intro a hF
        refine h_val 2 #[true, true, true, false, false, false] rfl (by kernel_rfl) hF rfl rfl rfl (fun w hS => e_move hF rfl) (hM.pick [0] rfl rfl) ?_; intro a hF
        refine h_val 3 #[true, true, true, true, false, false] rfl (by kernel_rfl) hF rfl rfl rfl (fun w hS => e_rem hF rfl rfl c12) (hM.pick [0] rfl rfl) ?_; intro a hF
        refine h_val 4 #[true, true, true, true, true, false] rfl (by kernel_rfl) hF rfl rfl rfl (fun w hS => e_assign hF rfl) (hM.pick [0] rfl rfl) ?_; intro a hF
        refine h_val 5 #[true, true, true, true, true, true] rfl (by kernel_rfl) hF rfl rfl rfl (fun w hS => e_assign hF rfl) (hM.pick [0] rfl rfl) ?_; intro a hF
        refine h_done rfl ?_
        refine blk_n ?_
        refine then_n ?_
        exact ⟨x10, (x9.tmod x10), H, hF.sub _ ⟨rfl, rfl, rfl, rfl, rfl, trivial⟩, hM.pick [0] rfl rfl⟩
  · rintro e a w ⟨rfl, x8, rfl, hF, hM⟩
    skip
    refine blk_x ?_
    refine then_n ?_
    refine wp_seq ?_
    obtain ⟨c15, H⟩ := ite_some H
    refine s_held (fun w => Ms [] w0 w []) #[false, false, false, false, false, false, false, false] mixed rfl rfl hM ?_; intro w hf hM; clear hf
    refine h_val 0 #[true, false, false, false, false, false, false, false] rfl (by kernel_rfl) hF rfl rfl rfl (fun w hS => e_move hF rfl) (hM.pick [] rfl rfl) ?_; intro a hF
    refine h_val 1 #[true, true, false, false, false, false, false, false] rfl (by kernel_rfl) hF rfl rfl rfl (fun w hS => e_move hF rfl) (hM.pick [] rfl rfl) ?_; intro a hF
    refine h_val 2 #[true, true, true, false, false, false, false, false] rfl (by kernel_rfl) hF rfl rfl rfl (fun w hS => e_quo hF rfl rfl c15) (hM.pick [] rfl rfl) ?_; intro a hF
    refine h_val 3 #[true, true, true, true, false, false, false, false] rfl (by kernel_rfl) hF rfl rfl rfl (fun w hS => e_move hF rfl) (hM.pick [] rfl rfl) ?_; intro a hF
    refine h_val 4 #[true, true, true, true, true, false, false, false] rfl (by kernel_rfl) hF rfl rfl rfl (fun w hS => e_move hF rfl) (hM.pick [] rfl rfl) ?_; intro a hF
    refine h_val 5 #[true, true, true, true, true, true, false, false] rfl (by kernel_rfl) hF rfl rfl rfl (fun w hS => e_quo hF rfl rfl c15) (hM.pick [] rfl rfl) ?_; intro a hF
    refine h_val 6 #[true, true, true, true, true, true, true, false] rfl (by kernel_rfl) hF rfl rfl rfl (fun w hS => e_build' (cells := cat [Pt.ar (⟨[(wrap64 (a0.tdiv x8)), (wrap64 (a1.tdiv x8))], rfl⟩ : Ar 2)]) hF rfl (by kernel_rfl)) (hM.pick [] rfl rfl) ?_; intro a hF
    refine h_one 7 #[true, true, true, true, true, true, true, true] rfl (by kernel_rfl) ?_
    refine s_stw (i := 0) (ps' := [Pt.ar (⟨[(wrap64 (a0.tdiv x8)), (wrap64 (a1.tdiv x8))], rfl⟩ : Ar 2)]) hF hM rfl rfl rfl rfl rfl rfl Try.sizeOf33 rfl ?_; intro a w hF hM
    refine s_nil ⟨rfl, (hM.pick [] rfl rfl), ?_⟩
    refine h_done rfl ?_
    refine then_n ?_
    refine wp_ret ?_
    obtain rfl := some_some H
    refine s_ret [ag [Pt.ar (⟨[(wrap64 (a0.tdiv x8)), (wrap64 (a1.tdiv x8))], rfl⟩ : Ar 2)]] hF Try.results64 ⟨⟨_, rfl, rv_box hM (i := 0) rfl Try.isAgg33 Try.sizeOf33 rfl⟩, trivial⟩ ?_
    exact ⟨_, rfl, hM.frm, rfl⟩

/-! ### loop.example/g01210/impl.BestRunner: function 50 -/
def impl_BestRunner.l0 (K : Nat) (l0 : (List (Ar 6))) (a1 : Int) : Nat → Int → Int → Option Int
  | 0, _, _ => none
  | k + 1, x41, x42 => if x42 < (l0.length : Int) then (if (0 : Int) ≤ x42 ∧ x42 < (l0.length : Int) then ((impl_meanRun.f K (l0.getD (x42 : Int).toNat (Ar.zero 6)) a1).bind fun t46 => if (0 : Int) ≤ x41 ∧ x41 < (l0.length : Int) then ((impl_meanRun.f K (l0.getD (x41 : Int).toNat (Ar.zero 6)) a1).bind fun t49 => if t46 < t49 then (impl_BestRunner.l0 K l0 a1 k x42 (wrap64 (x42 + 1))) else (impl_BestRunner.l0 K l0 a1 k x41 (wrap64 (x42 + 1)))) else none) else none) else (some x41)
def impl_BestRunner.f (K : Nat) (l0 : (List (Ar 6))) (a1 : Int) : Option (Int × (Ar 2) × Bool) := (impl_isRow.f K l0).bind fun t2 => if t2 = true then ((impl_areAll_6_int__isRunner.f K l0).bind fun t5 => if t5 = true then ((impl_isGoal.f K a1).bind fun t8 => if t8 = true then ((impl_BestRunner.l0 K l0 a1 K 0 0).bind fun x40 => if (0 : Int) ≤ x40 ∧ x40 < (l0.length : Int) then ((impl_meanRun.f K (l0.getD (x40 : Int).toNat (Ar.zero 6)) a1).bind fun t56 => (impl_power.f K a1).bind fun t58 => (impl_fraction.f K t56 t58).bind fun t60 => some (x40, t60, true)) else none) else (some (0, (⟨[0, 0], rfl⟩ : Ar 2), false))) else (some (0, (⟨[0, 0], rfl⟩ : Ar 2), false))) else (some (0, (⟨[0, 0], rfl⟩ : Ar 2), false))
set_option maxRecDepth 100000 in
set_option maxHeartbeats 4000000 in
theorem impl_BestRunner.calls {w0 : World} (K : Nat) (l0 : (List (Ar 6))) (u0 : Value) (q0 : SlR cd22 w0 u0 l0) (a1 : Int) (r : (Int × (Ar 2) × Bool)) (H : impl_BestRunner.f K l0 a1 = some r) : Calls Try.prog 50 [u0, Value.int .i64 a1].toArray w0 (Post w0 fun w v => v = Value.tuple #[Value.int .i64 r.1, ag [Pt.ar r.2.1], Value.bool r.2.2]) := by
  rw [impl_BestRunner.f] at H
  refine s_start Try.func50 rfl Try.ntmps50 rfl ?_
  intro a hF
  have hM := Ms.start w0
  skip
  refine wp_seq ?_
  refine s_region ?_
  refine s_val hF rfl rfl rfl (e_assign hF rfl) ?_; intro a hF
  refine s_alloc (ps := [Pt.ar (Ar.zero 2)]) hF hM rfl rfl zv33 rfl ?_; intro a w b1 hF hM
  refine s_val hF rfl rfl rfl (e_assign hF rfl) ?_; intro a hF
  refine s_nil ?_
  refine then_n ?_
  refine wp_seq ?_
  refine wp_seq ?_
  obtain ⟨t2, h3, H⟩ := bind_some H
  rcases ite_cases H with ⟨c4, H⟩ | ⟨c4, H⟩
  ·
    obtain ⟨t5, h6, H⟩ := bind_some H
    rcases ite_cases H with ⟨c7, H⟩ | ⟨c7, H⟩
    ·
      obtain ⟨t8, h9, H⟩ := bind_some H
      refine s_region ?_
      refine s_val hF rfl rfl rfl (e_move hF rfl) ?_; intro a hF
      refine s_call hF rfl rfl rfl Try.call78 (impl_isRow.calls K l0 u0 (q0.frm hM.frm) t2 h3) ?_; intro a w v hF hf hR
      subst hR; have hM := hM.grow hf
      refine s_val hF rfl rfl rfl (e_not hF rfl) ?_; intro a hF
      refine s_val hF rfl rfl rfl (e_move hF rfl) ?_; intro a hF
      have hF := hF.topb (congrArg Bool.not c4)
      refine s_val hF rfl rfl rfl (e_move hF rfl) ?_; intro a hF
      refine s_call hF rfl rfl rfl Try.call79 (impl_areAll_6_int__isRunner.calls K l0 u0 (q0.frm hM.frm) t5 h6) ?_; intro a w v hF hf hR
      subst hR; have hM := hM.grow hf
      refine s_val hF rfl rfl rfl (e_not hF rfl) ?_; intro a hF
      refine s_val hF rfl rfl rfl (e_pick_f hF rfl rfl) ?_; intro a hF
      refine s_val hF rfl rfl rfl (e_move hF rfl) ?_; intro a hF
      have hF := hF.topb (congrArg Bool.not c7)
      refine s_val hF rfl rfl rfl (e_move hF rfl) ?_; intro a hF
      refine s_call hF rfl rfl rfl Try.call56 (impl_isGoal.calls K a1 t8 h9) ?_; intro a w v hF hf hR
      subst hR; have hM := hM.grow hf
      refine s_val hF rfl rfl rfl (e_not hF rfl) ?_; intro a hF
      refine s_val hF rfl rfl rfl (e_pick_f hF rfl rfl) ?_; intro a hF
      refine s_nil ?_
      refine then_n ?_
      rcases ite_cases H with ⟨c10, H⟩ | ⟨c10, H⟩
      ·
        refine s_cond_f hF rfl (congrArg Bool.not c10) ?_
        refine wp_skip ?_
        refine then_n ?_
        refine wp_seq ?_
        refine s_region ?_
        refine s_val hF rfl rfl rfl (e_assign hF rfl) ?_; intro a hF
        refine s_nil ?_
        refine then_n ?_
        refine wp_seq ?_
        refine wp_seq ?_
        refine s_region ?_
        refine s_val hF rfl rfl rfl (e_move hF rfl) ?_; intro a hF
        refine s_val hF rfl rfl rfl (e_len hF rfl (q0.frm hM.frm).toF Try.underlying54) ?_; intro a hF
        refine s_val hF rfl rfl rfl (e_move hF rfl) ?_; intro a hF
        refine s_nil ?_
        refine then_n ?_
        refine wp_block ?_
        obtain ⟨o53, h54, H⟩ := bind_some H
        refine wp_mono (Q := fun e a w => (e = Exit.exit 0 ∧ ∃ x40 : Int, x40 = o53 ∧ Fr 53 a [(0, u0), (1, Value.int .i64 a1), (5, pt b1 0), (7, Value.int .i64 x40)] ∧ Ms [] w0 w [boxR b1 [Pt.ar (Ar.zero 2)] 33])) ?_ ?_
        · refine s_loop (fun kq a w => ∃ x41 : Int, ∃ x42 : Int, impl_BestRunner.l0 K l0 a1 kq x41 x42 = some o53 ∧ Fr 53 a [(0, u0), (1, Value.int .i64 a1), (5, pt b1 0), (7, Value.int .i64 x41), (24, u0), (25, Value.int .i64 (l0.length : Int)), (26, Value.int .i64 x42)] ∧ Ms [] w0 w [boxR b1 [Pt.ar (Ar.zero 2)] 33]) K ⟨0, 0, h54, hF.sub _ ⟨rfl, rfl, rfl, rfl, rfl, rfl, rfl, trivial⟩, hM.pick [0] rfl rfl⟩ ?_ ?_
          · rintro a w ⟨_, _, H, _⟩; exact none_some H
          · rintro k a w ⟨x41, x42, H, hF, hM⟩; rw [impl_BestRunner.l0] at H
            refine wp_seq ?_
            refine s_region ?_
            refine s_val hF rfl rfl rfl (e_lss hF rfl rfl) ?_; intro a hF
            refine s_nil ?_
            refine then_n ?_
            refine wp_seq ?_
            rcases ite_cases H with ⟨c43, H⟩ | ⟨c43, H⟩
            ·
              refine s_cond_t hF rfl (decide_eq_true c43) ?_
              refine wp_skip ?_
              refine then_n ?_
              refine wp_seq ?_
              refine wp_block ?_
              refine wp_seq ?_
              obtain ⟨c44, H⟩ := ite_some H
              refine s_region ?_
              refine s_val hF rfl rfl rfl (e_move hF rfl) ?_; intro a hF
              refine s_val hF rfl rfl rfl (e_ias cd22 hF rfl rfl (q0.frm hM.frm).toF Try.underlying54 Try.sizeOf22 c44.1 c44.2) ?_; intro a hF
              refine s_val hF rfl rfl rfl (e_ldsa (m := x42) hF rfl (q0.frm hM.frm) (getD_some (z := (Ar.zero 6)) c44.1 c44.2) Try.isAgg22 Try.sizeOf22) ?_; intro a hF
              refine s_alloc (ps := [Pt.ar (Ar.zero 6)]) hF hM rfl rfl zv22 rfl ?_; intro a w b45 hF hM
              refine s_val hF rfl rfl rfl (e_assign hF rfl) ?_; intro a hF
              refine s_stw (i := 0) (ps' := [Pt.ar (l0.getD (x42 : Int).toNat (Ar.zero 6))]) hF hM rfl rfl rfl rfl rfl rfl Try.sizeOf22 rfl ?_; intro a w hF hM
              refine s_nil ?_
              refine then_n ?_
              refine wp_seq ?_
              obtain ⟨t46, h47, H⟩ := bind_some H
              obtain ⟨c48, H⟩ := ite_some H
              obtain ⟨t49, h50, H⟩ := bind_some H
              refine s_held (fun w => Ms [] w0 w [boxR b45 [Pt.ar (l0.getD (x42 : Int).toNat (Ar.zero 6))] 22, boxR b1 [Pt.ar (Ar.zero 2)] 33]) #[false, false, false, false, false, false, false, false, false, false] mixed rfl rfl hM ?_; intro w hf hM; clear hf
              refine h_val 0 #[true, false, false, false, false, false, false, false, false, false] rfl (by kernel_rfl) hF rfl rfl rfl (fun w hS => e_lda (i := 0) 0 1 hF hS rfl rfl rfl rfl Try.isAgg22 Try.sizeOf22 rfl) (hM.pick [0, 1] rfl rfl) ?_; intro a hF
              refine h_val 1 #[true, true, false, false, false, false, false, false, false, false] rfl (by kernel_rfl) hF rfl rfl rfl (fun w hS => e_move hF rfl) (hM.pick [0, 1] rfl rfl) ?_; intro a hF
              refine h_val 3 #[true, true, false, true, false, false, false, false, false, false] rfl (by kernel_rfl) hF rfl rfl rfl (fun w hS => e_move hF rfl) (hM.pick [0, 1] rfl rfl) ?_; intro a hF
              refine h_val 4 #[true, true, false, true, true, false, false, false, false, false] rfl (by kernel_rfl) hF rfl rfl rfl (fun w hS => e_move hF rfl) (hM.pick [0, 1] rfl rfl) ?_; intro a hF
              have f51 := (q0.frm hM.frm).toF
              refine h_val 5 #[true, true, false, true, true, true, false, false, false, false] rfl (by kernel_rfl) hF rfl rfl rfl (fun w hS => e_ias cd22 hF rfl rfl f51 Try.underlying54 Try.sizeOf22 c48.1 c48.2) (hM.pick [0, 1] rfl rfl) ?_; intro a hF
              refine h_val 6 #[true, true, false, true, true, true, true, false, false, false] rfl (by kernel_rfl) hF rfl rfl rfl (fun w hS => e_ldsa (m := x41) hF rfl (q0.frm hS.frm) (getD_some (z := (Ar.zero 6)) c48.1 c48.2) Try.isAgg22 Try.sizeOf22) (hM.pick [0, 1] rfl rfl) ?_; intro a hF
              refine h_val 7 #[true, true, false, true, true, true, true, true, false, false] rfl (by kernel_rfl) hF rfl rfl rfl (fun w hS => e_move hF rfl) (hM.pick [0, 1] rfl rfl) ?_; intro a hF
              refine h_one 2 #[true, true, true, true, true, true, true, true, false, false] rfl (by kernel_rfl) ?_
              refine s_call hF rfl rfl rfl Try.call68 (impl_meanRun.calls K (l0.getD (x42 : Int).toNat (Ar.zero 6)) a1 t46 h47) ?_; intro a w v hF hf hR
              subst hR; have hM := hM.grow hf
              refine s_nil ⟨rfl, (hM.pick [0, 1] rfl rfl), ?_⟩
              refine h_one 8 #[true, true, true, true, true, true, true, true, true, false] rfl (by kernel_rfl) ?_
              refine s_call hF rfl rfl rfl Try.call68 (impl_meanRun.calls K (l0.getD (x41 : Int).toNat (Ar.zero 6)) a1 t49 h50) ?_; intro a w v hF hf hR
              subst hR; have hM := hM.grow hf
              refine s_nil ⟨rfl, (hM.pick [0, 1] rfl rfl), ?_⟩
              refine h_val 9 #[true, true, true, true, true, true, true, true, true, true] rfl (by kernel_rfl) hF rfl rfl rfl (fun w hS => e_lss hF rfl rfl) (hM.pick [0, 1] rfl rfl) ?_; intro a hF
              refine h_done rfl ?_
              refine then_n ?_
              rcases ite_cases H with ⟨c52, H⟩ | ⟨c52, H⟩
              ·
                refine s_cond_t hF rfl (decide_eq_true c52) ?_
                refine s_region ?_
                refine s_val hF rfl rfl rfl (e_move hF rfl) ?_; intro a hF
                refine s_val hF rfl rfl rfl (e_assign hF rfl) ?_; intro a hF
                refine s_nil ?_
                refine blk_n ?_
                refine then_n ?_
                refine s_region ?_
                refine s_val hF rfl rfl rfl (e_add hF rfl rfl) ?_; intro a hF
                refine s_val hF rfl rfl rfl (e_move hF rfl) ?_; intro a hF
                refine s_nil ?_
                refine then_n ?_
                exact ⟨x42, (wrap64 (x42 + 1)), H, hF.sub _ ⟨rfl, rfl, rfl, rfl, rfl, rfl, rfl, trivial⟩, hM.pick [1] rfl rfl⟩
              ·
                refine s_cond_f hF rfl (decide_eq_false c52) ?_
                refine wp_skip ?_
                refine blk_n ?_
                refine then_n ?_
                refine s_region ?_
                refine s_val hF rfl rfl rfl (e_add hF rfl rfl) ?_; intro a hF
                refine s_val hF rfl rfl rfl (e_move hF rfl) ?_; intro a hF
                refine s_nil ?_
                refine then_n ?_
                exact ⟨x41, (wrap64 (x42 + 1)), H, hF.sub _ ⟨rfl, rfl, rfl, rfl, rfl, rfl, rfl, trivial⟩, hM.pick [1] rfl rfl⟩
            ·
              refine s_cond_f hF rfl (decide_eq_false c43) ?_
              refine wp_exit ?_
              refine then_x ?_
              refine then_x ?_
              exact ⟨rfl, x41, some_some H, hF.sub _ ⟨rfl, rfl, rfl, rfl, trivial⟩, hM.pick [0] rfl rfl⟩
        · rintro e a w ⟨rfl, x40, rfl, hF, hM⟩
          skip
          refine blk_x ?_
          refine then_n ?_
          refine wp_seq ?_
          obtain ⟨c55, H⟩ := ite_some H
          obtain ⟨t56, h57, H⟩ := bind_some H
          obtain ⟨t58, h59, H⟩ := bind_some H
          obtain ⟨t60, h61, H⟩ := bind_some H
          refine s_region ?_
          refine s_val hF rfl rfl rfl (e_move hF rfl) ?_; intro a hF
          refine s_val hF rfl rfl rfl (e_move hF rfl) ?_; intro a hF
          refine s_val hF rfl rfl rfl (e_move hF rfl) ?_; intro a hF
          refine s_val hF rfl rfl rfl (e_ias cd22 hF rfl rfl (q0.frm hM.frm).toF Try.underlying54 Try.sizeOf22 c55.1 c55.2) ?_; intro a hF
          refine s_val hF rfl rfl rfl (e_ldsa (m := x40) hF rfl (q0.frm hM.frm) (getD_some (z := (Ar.zero 6)) c55.1 c55.2) Try.isAgg22 Try.sizeOf22) ?_; intro a hF
          refine s_val hF rfl rfl rfl (e_move hF rfl) ?_; intro a hF
          refine s_call hF rfl rfl rfl Try.call68 (impl_meanRun.calls K (l0.getD (x40 : Int).toNat (Ar.zero 6)) a1 t56 h57) ?_; intro a w v hF hf hR
          subst hR; have hM := hM.grow hf
          refine s_val hF rfl rfl rfl (e_move hF rfl) ?_; intro a hF
          refine s_call hF rfl rfl rfl Try.call63 (impl_power.calls K a1 t58 h59) ?_; intro a w v hF hf hR
          subst hR; have hM := hM.grow hf
          refine s_call hF rfl rfl rfl Try.call64 (impl_fraction.calls K t56 t58 t60 h61) ?_; intro a w v hF hf hR
          subst hR; have hM := hM.grow hf
          refine s_val hF rfl rfl rfl (e_assign hF rfl) ?_; intro a hF
          refine s_stw (i := 0) (ps' := [Pt.ar t60]) hF hM rfl rfl rfl rfl rfl rfl Try.sizeOf33 rfl ?_; intro a w hF hM
          refine s_val hF rfl rfl rfl (e_assign hF rfl) ?_; intro a hF
          refine s_nil ?_
          refine then_n ?_
          refine wp_ret ?_
          obtain rfl := some_some H
          refine s_ret [Value.int .i64 x40, ag [Pt.ar t60], Value.bool true] hF Try.results50 ⟨rfl, ⟨_, rfl, rv_box hM (i := 0) rfl Try.isAgg33 Try.sizeOf33 rfl⟩, rfl, trivial⟩ ?_
          exact ⟨_, rfl, hM.frm, rfl⟩
      ·
        refine s_cond_t hF rfl (congrArg Bool.not (bf c10)) ?_
        refine wp_seq ?_
        refine s_region ?_
        refine s_val hF rfl rfl rfl (e_build' (cells := cat [Pt.ar (⟨[0, 0], rfl⟩ : Ar 2)]) hF rfl (by kernel_rfl)) ?_; intro a hF
        refine s_val hF rfl rfl rfl (e_assign hF rfl) ?_; intro a hF
        refine s_stw (i := 0) (ps' := [Pt.ar (⟨[0, 0], rfl⟩ : Ar 2)]) hF hM rfl rfl rfl rfl rfl rfl Try.sizeOf33 rfl ?_; intro a w hF hM
        refine s_val hF rfl rfl rfl (e_assign hF rfl) ?_; intro a hF
        refine s_nil ?_
        refine then_n ?_
        refine wp_ret ?_
        refine then_r ?_
        obtain rfl := some_some H
        refine s_ret [Value.int .i64 0, ag [Pt.ar (⟨[0, 0], rfl⟩ : Ar 2)], Value.bool false] hF Try.results50 ⟨rfl, ⟨_, rfl, rv_box hM (i := 0) rfl Try.isAgg33 Try.sizeOf33 rfl⟩, rfl, trivial⟩ ?_
        exact ⟨_, rfl, hM.frm, rfl⟩
    ·
      refine s_region ?_
      refine s_val hF rfl rfl rfl (e_move hF rfl) ?_; intro a hF
      refine s_call hF rfl rfl rfl Try.call78 (impl_isRow.calls K l0 u0 (q0.frm hM.frm) t2 h3) ?_; intro a w v hF hf hR
      subst hR; have hM := hM.grow hf
      refine s_val hF rfl rfl rfl (e_not hF rfl) ?_; intro a hF
      refine s_val hF rfl rfl rfl (e_move hF rfl) ?_; intro a hF
      have hF := hF.topb (congrArg Bool.not c4)
      refine s_val hF rfl rfl rfl (e_move hF rfl) ?_; intro a hF
      refine s_call hF rfl rfl rfl Try.call79 (impl_areAll_6_int__isRunner.calls K l0 u0 (q0.frm hM.frm) t5 h6) ?_; intro a w v hF hf hR
      subst hR; have hM := hM.grow hf
      refine s_val hF rfl rfl rfl (e_not hF rfl) ?_; intro a hF
      refine s_val hF rfl rfl rfl (e_pick_f hF rfl rfl) ?_; intro a hF
      refine s_val hF rfl rfl rfl (e_move hF rfl) ?_; intro a hF
      have hF := hF.topb (congrArg Bool.not (bf c7))
      refine s_skip hF rfl rfl rfl ?_; intro a hF
      refine s_skip hF rfl rfl rfl ?_; intro a hF
      refine s_skip hF rfl rfl rfl ?_; intro a hF
      refine s_val hF rfl rfl rfl (e_pick_t hF rfl rfl) ?_; intro a hF
      refine s_nil ?_
      refine then_n ?_
      refine s_cond_t hF rfl rfl ?_
      refine wp_seq ?_
      refine s_region ?_
      refine s_val hF rfl rfl rfl (e_build' (cells := cat [Pt.ar (⟨[0, 0], rfl⟩ : Ar 2)]) hF rfl (by kernel_rfl)) ?_; intro a hF
      refine s_val hF rfl rfl rfl (e_assign hF rfl) ?_; intro a hF
      refine s_stw (i := 0) (ps' := [Pt.ar (⟨[0, 0], rfl⟩ : Ar 2)]) hF hM rfl rfl rfl rfl rfl rfl Try.sizeOf33 rfl ?_; intro a w hF hM
      refine s_val hF rfl rfl rfl (e_assign hF rfl) ?_; intro a hF
      refine s_nil ?_
      refine then_n ?_
      refine wp_ret ?_
      refine then_r ?_
      obtain rfl := some_some H
      refine s_ret [Value.int .i64 0, ag [Pt.ar (⟨[0, 0], rfl⟩ : Ar 2)], Value.bool false] hF Try.results50 ⟨rfl, ⟨_, rfl, rv_box hM (i := 0) rfl Try.isAgg33 Try.sizeOf33 rfl⟩, rfl, trivial⟩ ?_
      exact ⟨_, rfl, hM.frm, rfl⟩
  ·
    refine s_region ?_
    refine s_val hF rfl rfl rfl (e_move hF rfl) ?_; intro a hF
    refine s_call hF rfl rfl rfl Try.call78 (impl_isRow.calls K l0 u0 (q0.frm hM.frm) t2 h3) ?_; intro a w v hF hf hR
    subst hR; have hM := hM.grow hf
    refine s_val hF rfl rfl rfl (e_not hF rfl) ?_; intro a hF
    refine s_val hF rfl rfl rfl (e_move hF rfl) ?_; intro a hF
    have hF := hF.topb (congrArg Bool.not (bf c4))
    refine s_skip hF rfl rfl rfl ?_; intro a hF
    refine s_skip hF rfl rfl rfl ?_; intro a hF
    refine s_skip hF rfl rfl rfl ?_; intro a hF
    refine s_val hF rfl rfl rfl (e_pick_t hF rfl rfl) ?_; intro a hF
    refine s_val hF rfl rfl rfl (e_move hF rfl) ?_; intro a hF
    refine s_skip hF rfl rfl rfl ?_; intro a hF
    refine s_skip hF rfl rfl rfl ?_; intro a hF
    refine s_skip hF rfl rfl rfl ?_; intro a hF
    refine s_val hF rfl rfl rfl (e_pick_t hF rfl rfl) ?_; intro a hF
    refine s_nil ?_
    refine then_n ?_
    refine s_cond_t hF rfl rfl ?_
    refine wp_seq ?_
    refine s_region ?_
    refine s_val hF rfl rfl rfl (e_build' (cells := cat [Pt.ar (⟨[0, 0], rfl⟩ : Ar 2)]) hF rfl (by kernel_rfl)) ?_; intro a hF
    refine s_val hF rfl rfl rfl (e_assign hF rfl) ?_; intro a hF
    refine s_stw (i := 0) (ps' := [Pt.ar (⟨[0, 0], rfl⟩ : Ar 2)]) hF hM rfl rfl rfl rfl rfl rfl Try.sizeOf33 rfl ?_; intro a w hF hM
    refine s_val hF rfl rfl rfl (e_assign hF rfl) ?_; intro a hF
    refine s_nil ?_
    refine then_n ?_
    refine wp_ret ?_
    refine then_r ?_
    obtain rfl := some_some H
    refine s_ret [Value.int .i64 0, ag [Pt.ar (⟨[0, 0], rfl⟩ : Ar 2)], Value.bool false] hF Try.results50 ⟨rfl, ⟨_, rfl, rv_box hM (i := 0) rfl Try.isAgg33 Try.sizeOf33 rfl⟩, rfl, trivial⟩ ?_
    exact ⟨_, rfl, hM.frm, rfl⟩

/-! ### loop.example/g01210/laws.eqIntA2: function 24 -/
def laws_eqIntA2.l0 (K : Nat) (a0 : (Ar 2)) (a1 : (Ar 2)) : Nat → Int → Option (Sum Unit Bool)
  | 0, _ => none
  | k + 1, x8 => if x8 < 2 then (if (0 : Int) ≤ x8 ∧ x8 < 2 then (if (a0.get x8) = (a1.get x8) then (laws_eqIntA2.l0 K a0 a1 k (wrap64 (x8 + 1))) else (some (Sum.inr false))) else none) else (some (Sum.inl ()))
def laws_eqIntA2.f (K : Nat) (a0 : (Ar 2)) (a1 : (Ar 2)) : Option Bool := (laws_eqIntA2.l0 K a0 a1 K 0).bind fun o12 => (match o12 with | .inl () => some true | .inr r14 => some r14)
set_option maxRecDepth 100000 in
set_option maxHeartbeats 4000000 in
theorem laws_eqIntA2.calls {w0 : World} (K : Nat) (a0 : (Ar 2)) (a1 : (Ar 2)) (r : Bool) (H : laws_eqIntA2.f K a0 a1 = some r) : Calls Try.prog 24 [ag [Pt.ar a0], ag [Pt.ar a1]].toArray w0 (Post w0 fun w v => v = Value.bool r) := by
  rw [laws_eqIntA2.f] at H
  refine s_start Try.func24 rfl Try.ntmps24 rfl ?_
  intro a hF
  have hM := Ms.start w0
  skip
  refine wp_seq ?_
  refine s_region ?_
  refine s_box (ps := [Pt.ar a0]) hF hM rfl rfl rfl rfl ?_; intro a w b1 hF hM
  refine s_box (ps := [Pt.ar a1]) hF hM rfl rfl rfl rfl ?_; intro a w b2 hF hM
  refine s_val hF rfl rfl rfl (e_assign hF rfl) ?_; intro a hF
  refine s_nil ?_
  refine then_n ?_
  refine wp_seq ?_
  refine wp_seq ?_
  refine s_region ?_
  refine s_val hF rfl rfl rfl (e_assign hF rfl) ?_; intro a hF
  refine s_nil ?_
  refine then_n ?_
  refine wp_block ?_
  obtain ⟨o12, h13, H⟩ := bind_some H
  refine wp_mono (Q := fun e a w => (e = Exit.exit 0 ∧ Sum.inl () = o12 ∧ Fr 17 a [] ∧ Ms [] w0 w []) ∨ (e = Exit.ret ∧ ∃ r14 : Bool, Sum.inr r14 = o12 ∧ Fr 17 a [(4, Value.bool r14)] ∧ Ms [] w0 w [])) ?_ ?_
  · refine s_loop (fun kq a w => ∃ x8 : Int, laws_eqIntA2.l0 K a0 a1 kq x8 = some o12 ∧ Fr 17 a [(2, pt b1 0), (3, pt b2 0), (5, Value.int .i64 x8)] ∧ Ms [] w0 w [boxR b1 [Pt.ar a0] 33, boxR b2 [Pt.ar a1] 33]) K ⟨0, h13, hF.sub _ ⟨rfl, rfl, rfl, trivial⟩, hM.pick [1, 0] rfl rfl⟩ ?_ ?_
    · rintro a w ⟨_, H, _⟩; exact none_some H
    · rintro k a w ⟨x8, H, hF, hM⟩; rw [laws_eqIntA2.l0] at H
      refine wp_seq ?_
      refine wp_seq ?_
      refine s_region ?_
      refine s_val hF rfl rfl rfl (e_move hF rfl) ?_; intro a hF
      refine s_val hF rfl rfl rfl (e_lss hF rfl rfl) ?_; intro a hF
      refine s_nil ?_
      refine then_n ?_
      rcases ite_cases H with ⟨c9, H⟩ | ⟨c9, H⟩
      ·
        refine s_cond_t hF rfl (decide_eq_true c9) ?_
        refine wp_skip ?_
        refine then_n ?_
        refine wp_seq ?_
        refine wp_block ?_
        refine wp_seq ?_
        obtain ⟨c10, H⟩ := ite_some H
        refine s_held (fun w => Ms [] w0 w [boxR b1 [Pt.ar a0] 33, boxR b2 [Pt.ar a1] 33]) #[false, false, false, false, false, false, false] mixed rfl rfl hM ?_; intro w hf hM; clear hf
        refine h_val 0 #[true, false, false, false, false, false, false] rfl (by kernel_rfl) hF rfl rfl rfl (fun w hS => e_move hF rfl) (hM.pick [0, 1] rfl rfl) ?_; intro a hF
        refine h_val 1 #[true, true, false, false, false, false, false] rfl (by kernel_rfl) hF rfl rfl rfl (fun w hS => e_ia hF rfl rfl Try.underlying33 Try.sizeOf3 c10.1 c10.2) (hM.pick [0, 1] rfl rfl) ?_; intro a hF
        refine h_val 2 #[true, true, true, false, false, false, false] rfl (by kernel_rfl) hF rfl rfl rfl (fun w hS => e_ldi (i := 0) (k := 0) hF hS rfl rfl rfl rfl rfl Try.isAgg3 c10.1 c10.2) (hM.pick [0, 1] rfl rfl) ?_; intro a hF
        refine h_val 3 #[true, true, true, true, false, false, false] rfl (by kernel_rfl) hF rfl rfl rfl (fun w hS => e_move hF rfl) (hM.pick [0, 1] rfl rfl) ?_; intro a hF
        refine h_val 4 #[true, true, true, true, true, false, false] rfl (by kernel_rfl) hF rfl rfl rfl (fun w hS => e_ia hF rfl rfl Try.underlying33 Try.sizeOf3 c10.1 c10.2) (hM.pick [0, 1] rfl rfl) ?_; intro a hF
        refine h_val 5 #[true, true, true, true, true, true, false] rfl (by kernel_rfl) hF rfl rfl rfl (fun w hS => e_ldi (i := 1) (k := 0) hF hS rfl rfl rfl rfl rfl Try.isAgg3 c10.1 c10.2) (hM.pick [0, 1] rfl rfl) ?_; intro a hF
        refine h_val 6 #[true, true, true, true, true, true, true] rfl (by kernel_rfl) hF rfl rfl rfl (fun w hS => e_neq hF rfl rfl) (hM.pick [0, 1] rfl rfl) ?_; intro a hF
        refine h_done rfl ?_
        refine then_n ?_
        rcases ite_cases H with ⟨c11, H⟩ | ⟨c11, H⟩
        ·
          refine s_cond_f hF rfl (congrArg Bool.not (decide_eq_true c11)) ?_
          refine wp_skip ?_
          refine blk_n ?_
          refine then_n ?_
          refine s_region ?_
          refine s_val hF rfl rfl rfl (e_move hF rfl) ?_; intro a hF
          refine s_val hF rfl rfl rfl (e_add hF rfl rfl) ?_; intro a hF
          refine s_val hF rfl rfl rfl (e_assign hF rfl) ?_; intro a hF
          refine s_nil ?_
          refine then_n ?_
          exact ⟨(wrap64 (x8 + 1)), H, hF.sub _ ⟨rfl, rfl, rfl, trivial⟩, hM.pick [0, 1] rfl rfl⟩
        ·
          refine s_cond_t hF rfl (congrArg Bool.not (decide_eq_false c11)) ?_
          refine wp_seq ?_
          refine s_region ?_
          refine s_val hF rfl rfl rfl (e_assign hF rfl) ?_; intro a hF
          refine s_nil ?_
          refine then_n ?_
          refine wp_ret ?_
          refine blk_r ?_
          refine then_r ?_
          refine then_r ?_
          exact Or.inr (⟨rfl, false, some_some H, hF.sub _ ⟨rfl, trivial⟩, hM.pick [] rfl rfl⟩)
      ·
        refine s_cond_f hF rfl (decide_eq_false c9) ?_
        refine wp_exit ?_
        refine then_x ?_
        refine then_x ?_
        exact Or.inl (⟨rfl, some_some H, hF.sub _ trivial, hM.pick [] rfl rfl⟩)
  · rintro e a w (⟨rfl, rfl, hF, hM⟩ | ⟨rfl, r14, rfl, hF, hM⟩)
    ·
      dsimp only at H
      refine blk_x ?_
      refine then_n ?_
      refine wp_seq ?_
      refine s_region ?_
      refine s_val hF rfl rfl rfl (e_assign hF rfl) ?_; intro a hF
      refine s_nil ?_
      refine then_n ?_
      refine wp_ret ?_
      obtain rfl := some_some H
      refine s_ret [Value.bool true] hF Try.results24 ⟨rfl, trivial⟩ ?_
      exact ⟨_, rfl, hM.frm, rfl⟩
    ·
      dsimp only at H
      refine blk_r ?_
      refine then_r ?_
      obtain rfl := some_some H
      refine s_ret [Value.bool r14] hF Try.results24 ⟨rfl, trivial⟩ ?_
      exact ⟨_, rfl, hM.frm, rfl⟩

/-! ### loop.example/g01210/laws.eqIntA6: function 80 -/
def laws_eqIntA6.l0 (K : Nat) (a0 : (Ar 6)) (a1 : (Ar 6)) : Nat → Int → Option (Sum Unit Bool)
  | 0, _ => none
  | k + 1, x8 => if x8 < 6 then (if (0 : Int) ≤ x8 ∧ x8 < 6 then (if (a0.get x8) = (a1.get x8) then (laws_eqIntA6.l0 K a0 a1 k (wrap64 (x8 + 1))) else (some (Sum.inr false))) else none) else (some (Sum.inl ()))
def laws_eqIntA6.f (K : Nat) (a0 : (Ar 6)) (a1 : (Ar 6)) : Option Bool := (laws_eqIntA6.l0 K a0 a1 K 0).bind fun o12 => (match o12 with | .inl () => some true | .inr r14 => some r14)
set_option maxRecDepth 100000 in
set_option maxHeartbeats 4000000 in
theorem laws_eqIntA6.calls {w0 : World} (K : Nat) (a0 : (Ar 6)) (a1 : (Ar 6)) (r : Bool) (H : laws_eqIntA6.f K a0 a1 = some r) : Calls Try.prog 80 [ag [Pt.ar a0], ag [Pt.ar a1]].toArray w0 (Post w0 fun w v => v = Value.bool r) := by
  rw [laws_eqIntA6.f] at H
  refine s_start Try.func80 rfl Try.ntmps80 rfl ?_
  intro a hF
  have hM := Ms.start w0
  skip
  refine wp_seq ?_
  refine s_region ?_
  refine s_box (ps := [Pt.ar a0]) hF hM rfl rfl rfl rfl ?_; intro a w b1 hF hM
  refine s_box (ps := [Pt.ar a1]) hF hM rfl rfl rfl rfl ?_; intro a w b2 hF hM
  refine s_val hF rfl rfl rfl (e_assign hF rfl) ?_; intro a hF
  refine s_nil ?_
  refine then_n ?_
  refine wp_seq ?_
  refine wp_seq ?_
  refine s_region ?_
  refine s_val hF rfl rfl rfl (e_assign hF rfl) ?_; intro a hF
  refine s_nil ?_
  refine then_n ?_
  refine wp_block ?_
  obtain ⟨o12, h13, H⟩ := bind_some H
  refine wp_mono (Q := fun e a w => (e = Exit.exit 0 ∧ Sum.inl () = o12 ∧ Fr 17 a [] ∧ Ms [] w0 w []) ∨ (e = Exit.ret ∧ ∃ r14 : Bool, Sum.inr r14 = o12 ∧ Fr 17 a [(4, Value.bool r14)] ∧ Ms [] w0 w [])) ?_ ?_
  · refine s_loop (fun kq a w => ∃ x8 : Int, laws_eqIntA6.l0 K a0 a1 kq x8 = some o12 ∧ Fr 17 a [(2, pt b1 0), (3, pt b2 0), (5, Value.int .i64 x8)] ∧ Ms [] w0 w [boxR b1 [Pt.ar a0] 22, boxR b2 [Pt.ar a1] 22]) K ⟨0, h13, hF.sub _ ⟨rfl, rfl, rfl, trivial⟩, hM.pick [1, 0] rfl rfl⟩ ?_ ?_
    · rintro a w ⟨_, H, _⟩; exact none_some H
    · rintro k a w ⟨x8, H, hF, hM⟩; rw [laws_eqIntA6.l0] at H
      refine wp_seq ?_
      refine wp_seq ?_
      refine s_region ?_
      refine s_val hF rfl rfl rfl (e_move hF rfl) ?_; intro a hF
      refine s_val hF rfl rfl rfl (e_lss hF rfl rfl) ?_; intro a hF
      refine s_nil ?_
      refine then_n ?_
      rcases ite_cases H with ⟨c9, H⟩ | ⟨c9, H⟩
      ·
        refine s_cond_t hF rfl (decide_eq_true c9) ?_
        refine wp_skip ?_
        refine then_n ?_
        refine wp_seq ?_
        refine wp_block ?_
        refine wp_seq ?_
        obtain ⟨c10, H⟩ := ite_some H
        refine s_held (fun w => Ms [] w0 w [boxR b1 [Pt.ar a0] 22, boxR b2 [Pt.ar a1] 22]) #[false, false, false, false, false, false, false] mixed rfl rfl hM ?_; intro w hf hM; clear hf
        refine h_val 0 #[true, false, false, false, false, false, false] rfl (by kernel_rfl) hF rfl rfl rfl (fun w hS => e_move hF rfl) (hM.pick [0, 1] rfl rfl) ?_; intro a hF
        refine h_val 1 #[true, true, false, false, false, false, false] rfl (by kernel_rfl) hF rfl rfl rfl (fun w hS => e_ia hF rfl rfl Try.underlying22 Try.sizeOf3 c10.1 c10.2) (hM.pick [0, 1] rfl rfl) ?_; intro a hF
        refine h_val 2 #[true, true, true, false, false, false, false] rfl (by kernel_rfl) hF rfl rfl rfl (fun w hS => e_ldi (i := 0) (k := 0) hF hS rfl rfl rfl rfl rfl Try.isAgg3 c10.1 c10.2) (hM.pick [0, 1] rfl rfl) ?_; intro a hF
        refine h_val 3 #[true, true, true, true, false, false, false] rfl (by kernel_rfl) hF rfl rfl rfl (fun w hS => e_move hF rfl) (hM.pick [0, 1] rfl rfl) ?_; intro a hF
        refine h_val 4 #[true, true, true, true, true, false, false] rfl (by kernel_rfl) hF rfl rfl rfl (fun w hS => e_ia hF rfl rfl Try.underlying22 Try.sizeOf3 c10.1 c10.2) (hM.pick [0, 1] rfl rfl) ?_; intro a hF
        refine h_val 5 #[true, true, true, true, true, true, false] rfl (by kernel_rfl) hF rfl rfl rfl (fun w hS => e_ldi (i := 1) (k := 0) hF hS rfl rfl rfl rfl rfl Try.isAgg3 c10.1 c10.2) (hM.pick [0, 1] rfl rfl) ?_; intro a hF
        refine h_val 6 #[true, true, true, true, true, true, true] rfl (by kernel_rfl) hF rfl rfl rfl (fun w hS => e_neq hF rfl rfl) (hM.pick [0, 1] rfl rfl) ?_; intro a hF
        refine h_done rfl ?_
        refine then_n ?_
        rcases ite_cases H with ⟨c11, H⟩ | ⟨c11, H⟩
        ·
          refine s_cond_f hF rfl (congrArg Bool.not (decide_eq_true c11)) ?_
          refine wp_skip ?_
          refine blk_n ?_
          refine then_n ?_
          refine s_region ?_
          refine s_val hF rfl rfl rfl (e_move hF rfl) ?_; intro a hF
          refine s_val hF rfl rfl rfl (e_add hF rfl rfl) ?_; intro a hF
          refine s_val hF rfl rfl rfl (e_assign hF rfl) ?_; intro a hF
          refine s_nil ?_
          refine then_n ?_
          exact ⟨(wrap64 (x8 + 1)), H, hF.sub _ ⟨rfl, rfl, rfl, trivial⟩, hM.pick [0, 1] rfl rfl⟩
        ·
          refine s_cond_t hF rfl (congrArg Bool.not (decide_eq_false c11)) ?_
          refine wp_seq ?_
          refine s_region ?_
          refine s_val hF rfl rfl rfl (e_assign hF rfl) ?_; intro a hF
          refine s_nil ?_
          refine then_n ?_
          refine wp_ret ?_
          refine blk_r ?_
          refine then_r ?_
          refine then_r ?_
          exact Or.inr (⟨rfl, false, some_some H, hF.sub _ ⟨rfl, trivial⟩, hM.pick [] rfl rfl⟩)
      ·
        refine s_cond_f hF rfl (decide_eq_false c9) ?_
        refine wp_exit ?_
        refine then_x ?_
        refine then_x ?_
        exact Or.inl (⟨rfl, some_some H, hF.sub _ trivial, hM.pick [] rfl rfl⟩)
  · rintro e a w (⟨rfl, rfl, hF, hM⟩ | ⟨rfl, r14, rfl, hF, hM⟩)
    ·
      dsimp only at H
      refine blk_x ?_
      refine then_n ?_
      refine wp_seq ?_
      refine s_region ?_
      refine s_val hF rfl rfl rfl (e_assign hF rfl) ?_; intro a hF
      refine s_nil ?_
      refine then_n ?_
      refine wp_ret ?_
      obtain rfl := some_some H
      refine s_ret [Value.bool true] hF Try.results80 ⟨rfl, trivial⟩ ?_
      exact ⟨_, rfl, hM.frm, rfl⟩
    ·
      dsimp only at H
      refine blk_r ?_
      refine then_r ?_
      obtain rfl := some_some H
      refine s_ret [Value.bool r14] hF Try.results80 ⟨rfl, trivial⟩ ?_
      exact ⟨_, rfl, hM.frm, rfl⟩

/-! ### loop.example/g01210/laws.eqIntA6S: function 51 -/
def laws_eqIntA6S.l0 (K : Nat) (l0 : (List (Ar 6))) (l1 : (List (Ar 6))) : Nat → Int → Option (Sum Unit Bool)
  | 0, _ => none
  | k + 1, x15 => if x15 < (l0.length : Int) then (if (0 : Int) ≤ x15 ∧ x15 < (l0.length : Int) then (if (0 : Int) ≤ x15 ∧ x15 < (l1.length : Int) then ((laws_eqIntA6.f K (l0.getD (x15 : Int).toNat (Ar.zero 6)) (l1.getD (x15 : Int).toNat (Ar.zero 6))).bind fun t19 => if t19 = true then (laws_eqIntA6S.l0 K l0 l1 k (wrap64 (x15 + 1))) else (some (Sum.inr false))) else none) else none) else (some (Sum.inl ()))
def laws_eqIntA6S.f (K : Nat) (l0 : (List (Ar 6))) (l1 : (List (Ar 6))) : Option Bool := if (l0.length : Int) = (l1.length : Int) then ((laws_eqIntA6S.l0 K l0 l1 K 0).bind fun o24 => (match o24 with | .inl () => some true | .inr r26 => some r26)) else (some false)
set_option maxRecDepth 100000 in
set_option maxHeartbeats 4000000 in
theorem laws_eqIntA6S.calls {w0 : World} (K : Nat) (l0 : (List (Ar 6))) (u0 : Value) (q0 : SlR cd22 w0 u0 l0) (l1 : (List (Ar 6))) (u1 : Value) (q1 : SlR cd22 w0 u1 l1) (r : Bool) (H : laws_eqIntA6S.f K l0 l1 = some r) : Calls Try.prog 51 [u0, u1].toArray w0 (Post w0 fun w v => v = Value.bool r) := by
  rw [laws_eqIntA6S.f] at H
  refine s_start Try.func51 rfl Try.ntmps51 rfl ?_
  intro a hF
  have hM := Ms.start w0
  skip
  refine wp_seq ?_
  refine s_region ?_
  refine s_val hF rfl rfl rfl (e_assign hF rfl) ?_; intro a hF
  refine s_nil ?_
  refine then_n ?_
  refine wp_seq ?_
  refine wp_seq ?_
  refine s_region ?_
  refine s_val hF rfl rfl rfl (e_move hF rfl) ?_; intro a hF
  refine s_val hF rfl rfl rfl (e_len hF rfl (q0.frm hM.frm).toF Try.underlying54) ?_; intro a hF
  refine s_val hF rfl rfl rfl (e_move hF rfl) ?_; intro a hF
  refine s_val hF rfl rfl rfl (e_len hF rfl (q1.frm hM.frm).toF Try.underlying54) ?_; intro a hF
  refine s_val hF rfl rfl rfl (e_neq hF rfl rfl) ?_; intro a hF
  refine s_nil ?_
  refine then_n ?_
  rcases ite_cases H with ⟨c1, H⟩ | ⟨c1, H⟩
  ·
    refine s_cond_f hF rfl (congrArg Bool.not (decide_eq_true c1)) ?_
    refine wp_skip ?_
    refine then_n ?_
    refine wp_seq ?_
    refine wp_seq ?_
    refine s_region ?_
    refine s_val hF rfl rfl rfl (e_assign hF rfl) ?_; intro a hF
    refine s_nil ?_
    refine then_n ?_
    refine wp_block ?_
    obtain ⟨o24, h25, H⟩ := bind_some H
    refine wp_mono (Q := fun e a w => (e = Exit.exit 0 ∧ Sum.inl () = o24 ∧ Fr 27 a [] ∧ Ms [] w0 w []) ∨ (e = Exit.ret ∧ ∃ r26 : Bool, Sum.inr r26 = o24 ∧ Fr 27 a [(4, Value.bool r26)] ∧ Ms [] w0 w [])) ?_ ?_
    · refine s_loop (fun kq a w => ∃ x15 : Int, laws_eqIntA6S.l0 K l0 l1 kq x15 = some o24 ∧ Fr 27 a [(0, u0), (1, u1), (5, Value.int .i64 x15)] ∧ Ms [] w0 w []) K ⟨0, h25, hF.sub _ ⟨rfl, rfl, rfl, trivial⟩, hM.pick [] rfl rfl⟩ ?_ ?_
      · rintro a w ⟨_, H, _⟩; exact none_some H
      · rintro k a w ⟨x15, H, hF, hM⟩; rw [laws_eqIntA6S.l0] at H
        refine wp_seq ?_
        refine wp_seq ?_
        refine s_region ?_
        refine s_val hF rfl rfl rfl (e_move hF rfl) ?_; intro a hF
        refine s_val hF rfl rfl rfl (e_move hF rfl) ?_; intro a hF
        refine s_val hF rfl rfl rfl (e_len hF rfl (q0.frm hM.frm).toF Try.underlying54) ?_; intro a hF
        refine s_val hF rfl rfl rfl (e_lss hF rfl rfl) ?_; intro a hF
        refine s_nil ?_
        refine then_n ?_
        rcases ite_cases H with ⟨c16, H⟩ | ⟨c16, H⟩
        ·
          refine s_cond_t hF rfl (decide_eq_true c16) ?_
          refine wp_skip ?_
          refine then_n ?_
          refine wp_seq ?_
          refine wp_block ?_
          refine wp_seq ?_
          obtain ⟨c17, H⟩ := ite_some H
          obtain ⟨c18, H⟩ := ite_some H
          obtain ⟨t19, h20, H⟩ := bind_some H
          refine s_held (fun w => Ms [] w0 w []) #[false, false, false, false, false, false, false, false, false, false] mixed rfl rfl hM ?_; intro w hf hM; clear hf
          refine h_val 0 #[true, false, false, false, false, false, false, false, false, false] rfl (by kernel_rfl) hF rfl rfl rfl (fun w hS => e_move hF rfl) (hM.pick [] rfl rfl) ?_; intro a hF
          refine h_val 1 #[true, true, false, false, false, false, false, false, false, false] rfl (by kernel_rfl) hF rfl rfl rfl (fun w hS => e_move hF rfl) (hM.pick [] rfl rfl) ?_; intro a hF
          have f21 := (q0.frm hM.frm).toF
          refine h_val 2 #[true, true, true, false, false, false, false, false, false, false] rfl (by kernel_rfl) hF rfl rfl rfl (fun w hS => e_ias cd22 hF rfl rfl f21 Try.underlying54 Try.sizeOf22 c17.1 c17.2) (hM.pick [] rfl rfl) ?_; intro a hF
          refine h_val 3 #[true, true, true, true, false, false, false, false, false, false] rfl (by kernel_rfl) hF rfl rfl rfl (fun w hS => e_ldsa (m := x15) hF rfl (q0.frm hS.frm) (getD_some (z := (Ar.zero 6)) c17.1 c17.2) Try.isAgg22 Try.sizeOf22) (hM.pick [] rfl rfl) ?_; intro a hF
          refine h_val 4 #[true, true, true, true, true, false, false, false, false, false] rfl (by kernel_rfl) hF rfl rfl rfl (fun w hS => e_move hF rfl) (hM.pick [] rfl rfl) ?_; intro a hF
          refine h_val 5 #[true, true, true, true, true, true, false, false, false, false] rfl (by kernel_rfl) hF rfl rfl rfl (fun w hS => e_move hF rfl) (hM.pick [] rfl rfl) ?_; intro a hF
          have f22 := (q1.frm hM.frm).toF
          refine h_val 6 #[true, true, true, true, true, true, true, false, false, false] rfl (by kernel_rfl) hF rfl rfl rfl (fun w hS => e_ias cd22 hF rfl rfl f22 Try.underlying54 Try.sizeOf22 c18.1 c18.2) (hM.pick [] rfl rfl) ?_; intro a hF
          refine h_val 7 #[true, true, true, true, true, true, true, true, false, false] rfl (by kernel_rfl) hF rfl rfl rfl (fun w hS => e_ldsa (m := x15) hF rfl (q1.frm hS.frm) (getD_some (z := (Ar.zero 6)) c18.1 c18.2) Try.isAgg22 Try.sizeOf22) (hM.pick [] rfl rfl) ?_; intro a hF
          refine h_one 8 #[true, true, true, true, true, true, true, true, true, false] rfl (by kernel_rfl) ?_
          refine s_call hF rfl rfl rfl Try.call80 (laws_eqIntA6.calls K (l0.getD (x15 : Int).toNat (Ar.zero 6)) (l1.getD (x15 : Int).toNat (Ar.zero 6)) t19 h20) ?_; intro a w v hF hf hR
          subst hR; have hM := hM.grow hf
          refine s_nil ⟨rfl, (hM.pick [] rfl rfl), ?_⟩
          refine h_val 9 #[true, true, true, true, true, true, true, true, true, true] rfl (by kernel_rfl) hF rfl rfl rfl (fun w hS => e_not hF rfl) (hM.pick [] rfl rfl) ?_; intro a hF
          refine h_done rfl ?_
          refine then_n ?_
          rcases ite_cases H with ⟨c23, H⟩ | ⟨c23, H⟩
          ·
            refine s_cond_f hF rfl (congrArg Bool.not c23) ?_
            refine wp_skip ?_
            refine blk_n ?_
            refine then_n ?_
            refine s_region ?_
            refine s_val hF rfl rfl rfl (e_move hF rfl) ?_; intro a hF
            refine s_val hF rfl rfl rfl (e_add hF rfl rfl) ?_; intro a hF
            refine s_val hF rfl rfl rfl (e_assign hF rfl) ?_; intro a hF
            refine s_nil ?_
            refine then_n ?_
            exact ⟨(wrap64 (x15 + 1)), H, hF.sub _ ⟨rfl, rfl, rfl, trivial⟩, hM.pick [] rfl rfl⟩
          ·
            refine s_cond_t hF rfl (congrArg Bool.not (bf c23)) ?_
            refine wp_seq ?_
            refine s_region ?_
            refine s_val hF rfl rfl rfl (e_assign hF rfl) ?_; intro a hF
            refine s_nil ?_
            refine then_n ?_
            refine wp_ret ?_
            refine blk_r ?_
            refine then_r ?_
            refine then_r ?_
            exact Or.inr (⟨rfl, false, some_some H, hF.sub _ ⟨rfl, trivial⟩, hM.pick [] rfl rfl⟩)
        ·
          refine s_cond_f hF rfl (decide_eq_false c16) ?_
          refine wp_exit ?_
          refine then_x ?_
          refine then_x ?_
          exact Or.inl (⟨rfl, some_some H, hF.sub _ trivial, hM.pick [] rfl rfl⟩)
    · rintro e a w (⟨rfl, rfl, hF, hM⟩ | ⟨rfl, r26, rfl, hF, hM⟩)
      ·
        dsimp only at H
        refine blk_x ?_
        refine then_n ?_
        refine wp_seq ?_
        refine s_region ?_
        refine s_val hF rfl rfl rfl (e_assign hF rfl) ?_; intro a hF
        refine s_nil ?_
        refine then_n ?_
        refine wp_ret ?_
        obtain rfl := some_some H
        refine s_ret [Value.bool true] hF Try.results51 ⟨rfl, trivial⟩ ?_
        exact ⟨_, rfl, hM.frm, rfl⟩
      ·
        dsimp only at H
        refine blk_r ?_
        refine then_r ?_
        obtain rfl := some_some H
        refine s_ret [Value.bool r26] hF Try.results51 ⟨rfl, trivial⟩ ?_
        exact ⟨_, rfl, hM.frm, rfl⟩
  ·
    refine s_cond_t hF rfl (congrArg Bool.not (decide_eq_false c1)) ?_
    refine wp_seq ?_
    refine s_region ?_
    refine s_val hF rfl rfl rfl (e_assign hF rfl) ?_; intro a hF
    refine s_nil ?_
    refine then_n ?_
    refine wp_ret ?_
    refine then_r ?_
    obtain rfl := some_some H
    refine s_ret [Value.bool false] hF Try.results51 ⟨rfl, trivial⟩ ?_
    exact ⟨_, rfl, hM.frm, rfl⟩

/-! ### loop.example/g01210/laws.FnExactBestRunner: function 14 -/
def laws_FnExactBestRunner.f (K : Nat) (l0 : (List (Ar 6))) (a1 : Int) : Option Bool := (laws_szIntA6S.f K l0 1048576).bind fun t1 => if t1 < 0 then (some true) else ((laws_toIntA6S.f K l0).bind fun t4 => (spec_BestRunner.f K t4 a1).bind fun t7 => (laws_toIntA6S.f K l0).bind fun t10 => (impl_BestRunner.f K t10 a1).bind fun t13 => if t13.1 = t7.1 then ((laws_eqIntA2.f K t13.2.1 t7.2.1).bind fun t17 => if t17 = true then (if (t13.2.2 == t7.2.2) = true then ((laws_toIntA6S.f K l0).bind fun t21 => (laws_eqIntA6S.f K t10 t21).bind fun t24 => if t24 = true then (some true) else (some false)) else (some false)) else (some false)) else (some false))
set_option maxRecDepth 100000 in
set_option maxHeartbeats 4000000 in
theorem laws_FnExactBestRunner.calls {w0 : World} (K : Nat) (l0 : (List (Ar 6))) (u0 : Value) (q0 : SlR cd22 w0 u0 l0) (a1 : Int) (r : Bool) (H : laws_FnExactBestRunner.f K l0 a1 = some r) : Calls Try.prog 14 [u0, Value.int .i64 a1].toArray w0 (Post w0 fun w v => v = Value.bool r) := by
  rw [laws_FnExactBestRunner.f] at H
  refine s_start Try.func14 rfl Try.ntmps14 rfl ?_
  intro a hF
  have hM := Ms.start w0
  skip
  refine wp_seq ?_
  refine s_region ?_
  refine s_val hF rfl rfl rfl (e_assign hF rfl) ?_; intro a hF
  refine s_nil ?_
  refine then_n ?_
  refine wp_seq ?_
  refine s_region ?_
  refine s_val hF rfl rfl rfl (e_assign hF rfl) ?_; intro a hF
  refine s_nil ?_
  refine then_n ?_
  refine wp_seq ?_
  obtain ⟨t1, h2, H⟩ := bind_some H
  refine s_region ?_
  refine s_val hF rfl rfl rfl (e_move hF rfl) ?_; intro a hF
  refine s_val hF rfl rfl rfl (e_move hF rfl) ?_; intro a hF
  refine s_call hF rfl rfl rfl Try.call47 (laws_szIntA6S.calls K l0 u0 (q0.frm hM.frm) 1048576 t1 h2) ?_; intro a w v hF hf hR
  subst hR; have hM := hM.grow hf
  refine s_val hF rfl rfl rfl (e_assign hF rfl) ?_; intro a hF
  refine s_nil ?_
  refine then_n ?_
  refine wp_seq ?_
  refine wp_seq ?_
  refine s_region ?_
  refine s_val hF rfl rfl rfl (e_move hF rfl) ?_; intro a hF
  refine s_val hF rfl rfl rfl (e_lss hF rfl rfl) ?_; intro a hF
  refine s_nil ?_
  refine then_n ?_
  rcases ite_cases H with ⟨c3, H⟩ | ⟨c3, H⟩
  ·
    refine s_cond_t hF rfl (decide_eq_true c3) ?_
    refine wp_seq ?_
    refine s_region ?_
    refine s_val hF rfl rfl rfl (e_assign hF rfl) ?_; intro a hF
    refine s_nil ?_
    refine then_n ?_
    refine wp_ret ?_
    refine then_r ?_
    obtain rfl := some_some H
    refine s_ret [Value.bool true] hF Try.results14 ⟨rfl, trivial⟩ ?_
    exact ⟨_, rfl, hM.frm, rfl⟩
  ·
    refine s_cond_f hF rfl (decide_eq_false c3) ?_
    refine wp_skip ?_
    refine then_n ?_
    refine wp_seq ?_
    obtain ⟨t4, h5, H⟩ := bind_some H
    obtain ⟨t7, h8, H⟩ := bind_some H
    refine s_region ?_
    refine s_val hF rfl rfl rfl (e_move hF rfl) ?_; intro a hF
    refine s_call hF rfl rfl rfl Try.call49 (laws_toIntA6S.calls K l0 u0 (q0.frm hM.frm) t4 h5) ?_; intro a w v6 hF hf hR
    have hM := hM.fresh hf hR
    refine s_val hF rfl rfl rfl (e_move hF rfl) ?_; intro a hF
    refine s_call hF rfl rfl rfl Try.call48 (spec_BestRunner.calls K t4 v6 (hM.sl 0 rfl) a1 t7 h8) ?_; intro a w v hF hf hR
    subst hR; have hM := hM.grow hf
    refine s_val hF rfl rfl rfl (e_move hF rfl) ?_; intro a hF
    refine s_val hF rfl rfl rfl (e_extract hF rfl rfl) ?_; intro a hF
    refine s_val hF rfl rfl rfl (e_extract hF rfl rfl) ?_; intro a hF
    refine s_val hF rfl rfl rfl (e_extract hF rfl rfl) ?_; intro a hF
    refine s_alloc (ps := [Pt.ar (Ar.zero 2)]) hF hM rfl rfl zv33 rfl ?_; intro a w b9 hF hM
    refine s_val hF rfl rfl rfl (e_assign hF rfl) ?_; intro a hF
    refine s_stw (i := 0) (ps' := [Pt.ar t7.2.1]) hF hM rfl rfl rfl rfl rfl rfl Try.sizeOf33 rfl ?_; intro a w hF hM
    refine s_val hF rfl rfl rfl (e_assign hF rfl) ?_; intro a hF
    refine s_nil ?_
    refine then_n ?_
    refine wp_seq ?_
    obtain ⟨t10, h11, H⟩ := bind_some H
    refine s_region ?_
    refine s_val hF rfl rfl rfl (e_move hF rfl) ?_; intro a hF
    refine s_call hF rfl rfl rfl Try.call49 (laws_toIntA6S.calls K l0 u0 (q0.frm hM.frm) t10 h11) ?_; intro a w v12 hF hf hR
    have hM := hM.fresh hf hR
    refine s_val hF rfl rfl rfl (e_assign hF rfl) ?_; intro a hF
    refine s_nil ?_
    refine then_n ?_
    refine wp_seq ?_
    obtain ⟨t13, h14, H⟩ := bind_some H
    refine s_region ?_
    refine s_val hF rfl rfl rfl (e_move hF rfl) ?_; intro a hF
    refine s_val hF rfl rfl rfl (e_move hF rfl) ?_; intro a hF
    refine s_call hF rfl rfl rfl Try.call50 (impl_BestRunner.calls K t10 v12 (hM.sl 0 rfl) a1 t13 h14) ?_; intro a w v hF hf hR
    subst hR; have hM := hM.grow hf
    refine s_val hF rfl rfl rfl (e_move hF rfl) ?_; intro a hF
    refine s_val hF rfl rfl rfl (e_extract hF rfl rfl) ?_; intro a hF
    refine s_val hF rfl rfl rfl (e_extract hF rfl rfl) ?_; intro a hF
    refine s_val hF rfl rfl rfl (e_extract hF rfl rfl) ?_; intro a hF
    refine s_alloc (ps := [Pt.ar (Ar.zero 2)]) hF hM rfl rfl zv33 rfl ?_; intro a w b15 hF hM
    refine s_val hF rfl rfl rfl (e_assign hF rfl) ?_; intro a hF
    refine s_stw (i := 0) (ps' := [Pt.ar t13.2.1]) hF hM rfl rfl rfl rfl rfl rfl Try.sizeOf33 rfl ?_; intro a w hF hM
    refine s_val hF rfl rfl rfl (e_assign hF rfl) ?_; intro a hF
    refine s_nil ?_
    refine then_n ?_
    refine wp_seq ?_
    refine wp_seq ?_
    rcases ite_cases H with ⟨c16, H⟩ | ⟨c16, H⟩
    ·
      obtain ⟨t17, h18, H⟩ := bind_some H
      rcases ite_cases H with ⟨c19, H⟩ | ⟨c19, H⟩
      ·
        refine s_region ?_
        refine s_val hF rfl rfl rfl (e_move hF rfl) ?_; intro a hF
        refine s_val hF rfl rfl rfl (e_move hF rfl) ?_; intro a hF
        refine s_val hF rfl rfl rfl (e_neq hF rfl rfl) ?_; intro a hF
        refine s_val hF rfl rfl rfl (e_move hF rfl) ?_; intro a hF
        have hF := hF.topb (congrArg Bool.not (decide_eq_true c16))
        refine s_val hF rfl rfl rfl (e_lda (i := 0) 0 1 hF hM rfl rfl rfl rfl Try.isAgg33 Try.sizeOf33 rfl) ?_; intro a hF
        refine s_val hF rfl rfl rfl (e_lda (i := 2) 0 1 hF hM rfl rfl rfl rfl Try.isAgg33 Try.sizeOf33 rfl) ?_; intro a hF
        refine s_call hF rfl rfl rfl Try.call24 (laws_eqIntA2.calls K t13.2.1 t7.2.1 t17 h18) ?_; intro a w v hF hf hR
        subst hR; have hM := hM.grow hf
        refine s_val hF rfl rfl rfl (e_not hF rfl) ?_; intro a hF
        refine s_val hF rfl rfl rfl (e_pick_f hF rfl rfl) ?_; intro a hF
        refine s_val hF rfl rfl rfl (e_move hF rfl) ?_; intro a hF
        have hF := hF.topb (congrArg Bool.not c19)
        refine s_val hF rfl rfl rfl (e_move hF rfl) ?_; intro a hF
        refine s_val hF rfl rfl rfl (e_move hF rfl) ?_; intro a hF
        refine s_val hF rfl rfl rfl (e_bneq hF rfl rfl Try.underlying4) ?_; intro a hF
        refine s_val hF rfl rfl rfl (e_pick_f hF rfl rfl) ?_; intro a hF
        refine s_nil ?_
        refine then_n ?_
        rcases ite_cases H with ⟨c20, H⟩ | ⟨c20, H⟩
        ·
          refine s_cond_f hF rfl (congrArg Bool.not c20) ?_
          refine wp_skip ?_
          refine then_n ?_
          refine wp_seq ?_
          refine wp_seq ?_
          obtain ⟨t21, h22, H⟩ := bind_some H
          obtain ⟨t24, h25, H⟩ := bind_some H
          refine s_region ?_
          refine s_val hF rfl rfl rfl (e_move hF rfl) ?_; intro a hF
          refine s_val hF rfl rfl rfl (e_move hF rfl) ?_; intro a hF
          refine s_call hF rfl rfl rfl Try.call49 (laws_toIntA6S.calls K l0 u0 (q0.frm hM.frm) t21 h22) ?_; intro a w v23 hF hf hR
          have hM := hM.fresh hf hR
          refine s_call hF rfl rfl rfl Try.call51 (laws_eqIntA6S.calls K t10 v12 (hM.sl 2 rfl) t21 v23 (hM.sl 0 rfl) t24 h25) ?_; intro a w v hF hf hR
          subst hR; have hM := hM.grow hf
          refine s_val hF rfl rfl rfl (e_not hF rfl) ?_; intro a hF
          refine s_nil ?_
          refine then_n ?_
          rcases ite_cases H with ⟨c26, H⟩ | ⟨c26, H⟩
          ·
            refine s_cond_f hF rfl (congrArg Bool.not c26) ?_
            refine wp_skip ?_
            refine then_n ?_
            refine wp_seq ?_
            refine s_region ?_
            refine s_val hF rfl rfl rfl (e_assign hF rfl) ?_; intro a hF
            refine s_nil ?_
            refine then_n ?_
            refine wp_ret ?_
            obtain rfl := some_some H
            refine s_ret [Value.bool true] hF Try.results14 ⟨rfl, trivial⟩ ?_
            exact ⟨_, rfl, hM.frm, rfl⟩
          ·
            refine s_cond_t hF rfl (congrArg Bool.not (bf c26)) ?_
            refine wp_seq ?_
            refine s_region ?_
            refine s_val hF rfl rfl rfl (e_assign hF rfl) ?_; intro a hF
            refine s_nil ?_
            refine then_n ?_
            refine wp_ret ?_
            refine then_r ?_
            obtain rfl := some_some H
            refine s_ret [Value.bool false] hF Try.results14 ⟨rfl, trivial⟩ ?_
            exact ⟨_, rfl, hM.frm, rfl⟩
        ·
          refine s_cond_t hF rfl (congrArg Bool.not (bf c20)) ?_
          refine wp_seq ?_
          refine s_region ?_
          refine s_val hF rfl rfl rfl (e_assign hF rfl) ?_; intro a hF
          refine s_nil ?_
          refine then_n ?_
          refine wp_ret ?_
          refine then_r ?_
          obtain rfl := some_some H
          refine s_ret [Value.bool false] hF Try.results14 ⟨rfl, trivial⟩ ?_
          exact ⟨_, rfl, hM.frm, rfl⟩
      ·
        refine s_region ?_
        refine s_val hF rfl rfl rfl (e_move hF rfl) ?_; intro a hF
        refine s_val hF rfl rfl rfl (e_move hF rfl) ?_; intro a hF
        refine s_val hF rfl rfl rfl (e_neq hF rfl rfl) ?_; intro a hF
        refine s_val hF rfl rfl rfl (e_move hF rfl) ?_; intro a hF
        have hF := hF.topb (congrArg Bool.not (decide_eq_true c16))
        refine s_val hF rfl rfl rfl (e_lda (i := 0) 0 1 hF hM rfl rfl rfl rfl Try.isAgg33 Try.sizeOf33 rfl) ?_; intro a hF
        refine s_val hF rfl rfl rfl (e_lda (i := 2) 0 1 hF hM rfl rfl rfl rfl Try.isAgg33 Try.sizeOf33 rfl) ?_; intro a hF
        refine s_call hF rfl rfl rfl Try.call24 (laws_eqIntA2.calls K t13.2.1 t7.2.1 t17 h18) ?_; intro a w v hF hf hR
        subst hR; have hM := hM.grow hf
        refine s_val hF rfl rfl rfl (e_not hF rfl) ?_; intro a hF
        refine s_val hF rfl rfl rfl (e_pick_f hF rfl rfl) ?_; intro a hF
        refine s_val hF rfl rfl rfl (e_move hF rfl) ?_; intro a hF
        have hF := hF.topb (congrArg Bool.not (bf c19))
        refine s_skip hF rfl rfl rfl ?_; intro a hF
        refine s_skip hF rfl rfl rfl ?_; intro a hF
        refine s_skip hF rfl rfl rfl ?_; intro a hF
        refine s_val hF rfl rfl rfl (e_pick_t hF rfl rfl) ?_; intro a hF
        refine s_nil ?_
        refine then_n ?_
        refine s_cond_t hF rfl rfl ?_
        refine wp_seq ?_
        refine s_region ?_
        refine s_val hF rfl rfl rfl (e_assign hF rfl) ?_; intro a hF
        refine s_nil ?_
        refine then_n ?_
        refine wp_ret ?_
        refine then_r ?_
        obtain rfl := some_some H
        refine s_ret [Value.bool false] hF Try.results14 ⟨rfl, trivial⟩ ?_
        exact ⟨_, rfl, hM.frm, rfl⟩
    ·
      refine s_region ?_
      refine s_val hF rfl rfl rfl (e_move hF rfl) ?_; intro a hF
      refine s_val hF rfl rfl rfl (e_move hF rfl) ?_; intro a hF
      refine s_val hF rfl rfl rfl (e_neq hF rfl rfl) ?_; intro a hF
      refine s_val hF rfl rfl rfl (e_move hF rfl) ?_; intro a hF
      have hF := hF.topb (congrArg Bool.not (decide_eq_false c16))
      refine s_skip hF rfl rfl rfl ?_; intro a hF
      refine s_skip hF rfl rfl rfl ?_; intro a hF
      refine s_skip hF rfl rfl rfl ?_; intro a hF
      refine s_skip hF rfl rfl rfl ?_; intro a hF
      refine s_val hF rfl rfl rfl (e_pick_t hF rfl rfl) ?_; intro a hF
      refine s_val hF rfl rfl rfl (e_move hF rfl) ?_; intro a hF
      refine s_skip hF rfl rfl rfl ?_; intro a hF
      refine s_skip hF rfl rfl rfl ?_; intro a hF
      refine s_skip hF rfl rfl rfl ?_; intro a hF
      refine s_val hF rfl rfl rfl (e_pick_t hF rfl rfl) ?_; intro a hF
      refine s_nil ?_
      refine then_n ?_
      refine s_cond_t hF rfl rfl ?_
      refine wp_seq ?_
      refine s_region ?_
      refine s_val hF rfl rfl rfl (e_assign hF rfl) ?_; intro a hF
      refine s_nil ?_
      refine then_n ?_
      refine wp_ret ?_
      refine then_r ?_
      obtain rfl := some_some H
      refine s_ret [Value.bool false] hF Try.results14 ⟨rfl, trivial⟩ ?_
      exact ⟨_, rfl, hM.frm, rfl⟩

end Go.Proofs.Ytgmalhohckcogaa.WBestRunner

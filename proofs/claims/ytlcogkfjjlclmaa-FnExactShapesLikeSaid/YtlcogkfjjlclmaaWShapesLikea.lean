/- The walk through the code that the statement reaches: what each function computes. Conditions: none but those in each line. -/
import Derived.Test.YtlcogkfjjlclmaaProg
import Derived.Test.YtlcogkfjjlclmaaK
namespace Go.Proofs.Ytlcogkfjjlclmaa.WShapesLike
open Go.K Go.RowKit
set_option linter.unusedVariables false
set_option linter.unusedSimpArgs false

def cd3 : Cd Int := ⟨3, 1, 8, fun x => [Pt.int x], fun x => Value.int .i64 x, (0 : Int), fun _ => rfl, fun _ => rfl, by decide⟩
theorem cdok3 : CdOk Try.prog cd3 := by
  obtain ⟨i, h1, h2, h3, h4⟩ := info_parts (by kernel_rfl : (Try.prog.info? 3).map (fun i => (i.zero, i.size, i.bytes)) = some (some (cd3.v cd3.z), 1, 8))
  exact ⟨⟨i, h1, h3, h4, h2⟩, by decide⟩
def cd31 : Cd (Ar 6) := ⟨31, 6, 48, fun x => [Pt.ar x], fun x => ag [Pt.ar x], (Ar.zero 6), fun _ => rfl, fun _ => rfl, by decide⟩
theorem cdok31 : CdOk Try.prog cd31 := by
  obtain ⟨i, h1, h2, h3, h4⟩ := info_parts (by kernel_rfl : (Try.prog.info? 31).map (fun i => (i.zero, i.size, i.bytes)) = some (some (cd31.v cd31.z), 6, 48))
  exact ⟨⟨i, h1, h3, h4, h2⟩, by decide⟩
def cd50 : Cd ((Ar 6) × (Ar 6)) := ⟨50, 12, 96, fun x => [Pt.ar x.1, Pt.ar x.2], fun x => ag [Pt.ar x.1, Pt.ar x.2], ((Ar.zero 6), (Ar.zero 6)), fun _ => rfl, fun _ => rfl, by decide⟩
theorem cdok50 : CdOk Try.prog cd50 := by
  obtain ⟨i, h1, h2, h3, h4⟩ := info_parts (by kernel_rfl : (Try.prog.info? 50).map (fun i => (i.zero, i.size, i.bytes)) = some (some (cd50.v cd50.z), 12, 96))
  exact ⟨⟨i, h1, h3, h4, h2⟩, by decide⟩
theorem agg75_  : Try.prog.built 75 [] = some (cat [Pt.ar (Ar.zero 121), Pt.ar (Ar.zero 31), Pt.ar (Ar.zero 31), Pt.int (0 : Int), Pt.int (0 : Int), Pt.any (Value.slice none 0 0)]).toArray := by
  kernel_rfl
theorem zv31 (w : World) : (zeroValue 31).run Try.prog w = .ok (ag [Pt.ar (Ar.zero 6)]) w := by kernel_rfl
theorem zv43 (w : World) : (zeroValue 43).run Try.prog w = .ok (ag [Pt.ar (Ar.zero 121)]) w := by kernel_rfl
theorem zv50 (w : World) : (zeroValue 50).run Try.prog w = .ok (ag [Pt.ar (((Ar.zero 6), (Ar.zero 6)).1), Pt.ar (((Ar.zero 6), (Ar.zero 6)).2)]) w := by kernel_rfl
theorem bld50 (A0 : (Ar 6)) (A1 : (Ar 6)) : Try.prog.built 50 [(0, ag [Pt.ar A0]), (1, ag [Pt.ar A1])] = some (cat [Pt.ar A0, Pt.ar A1]).toArray := by
  obtain ⟨A0_0, A0_1, A0_2, A0_3, A0_4, A0_5, rfl⟩ := Ar.cases6 A0
  obtain ⟨A1_0, A1_1, A1_2, A1_3, A1_4, A1_5, rfl⟩ := Ar.cases6 A1
  kernel_rfl
theorem mixed : Try.prog.follows .mixedOrders = true := by kernel_rfl

/-! ### loop.example/g01210/laws.szIntA6S: function 8 -/
def laws_szIntA6S.f (K : Nat) (l0 : (List (Ar 6))) (a1 : Int) : Option Int := if (wrap64 (a1 - (l0.length : Int))) < 0 then (some (-1)) else (some (wrap64 (a1 - (l0.length : Int))))
set_option maxRecDepth 100000 in
set_option maxHeartbeats 4000000 in
theorem laws_szIntA6S.calls {w0 : World} (K : Nat) (l0 : (List (Ar 6))) (u0 : Value) (q0 : SlR cd31 w0 u0 l0) (a1 : Int) (r : Int) (H : laws_szIntA6S.f K l0 a1 = some r) : Calls Try.prog 8 [u0, Value.int .i64 a1].toArray w0 (Post w0 fun w v => v = Value.int .i64 r) := by
  rw [laws_szIntA6S.f] at H
  refine s_start Try.func8 rfl Try.ntmps8 rfl ?_
  intro a hF
  have hM := Ms.start w0
  skip
  refine wp_seq ?_
  refine s_region ?_
  refine s_val hF rfl rfl rfl (e_assign hF rfl) ?_; intro a hF
  refine s_nil ?_
  refine then_n ?_
  refine wp_seq ?_
  refine s_region ?_
  refine s_val hF rfl rfl rfl (e_move hF rfl) ?_; intro a hF
  refine s_val hF rfl rfl rfl (e_move hF rfl) ?_; intro a hF
  refine s_val hF rfl rfl rfl (e_len hF rfl (q0.frm hM.frm).toF Try.underlying22) ?_; intro a hF
  refine s_val hF rfl rfl rfl (e_sub hF rfl rfl) ?_; intro a hF
  refine s_val hF rfl rfl rfl (e_assign hF rfl) ?_; intro a hF
  refine s_nil ?_
  refine then_n ?_
  refine wp_seq ?_
  refine wp_seq ?_
  refine s_region ?_
  refine s_val hF rfl rfl rfl (e_move hF rfl) ?_; intro a hF
  refine s_val hF rfl rfl rfl (e_lss hF rfl rfl) ?_; intro a hF
  refine s_nil ?_
  refine then_n ?_
  rcases ite_cases H with ⟨c1, H⟩ | ⟨c1, H⟩
  ·
    refine s_cond_t hF rfl (decide_eq_true c1) ?_
    refine wp_seq ?_
    refine s_region ?_
    refine s_val hF rfl rfl rfl (e_assign hF rfl) ?_; intro a hF
    refine s_nil ?_
    refine then_n ?_
    refine wp_ret ?_
    refine then_r ?_
    obtain rfl := some_some H
    refine s_ret [Value.int .i64 (-1)] hF Try.results8 ⟨rfl, trivial⟩ ?_
    exact ⟨_, rfl, hM.frm, rfl⟩
  ·
    refine s_cond_f hF rfl (decide_eq_false c1) ?_
    refine wp_skip ?_
    refine then_n ?_
    refine wp_seq ?_
    refine s_region ?_
    refine s_val hF rfl rfl rfl (e_move hF rfl) ?_; intro a hF
    refine s_val hF rfl rfl rfl (e_assign hF rfl) ?_; intro a hF
    refine s_nil ?_
    refine then_n ?_
    refine wp_ret ?_
    obtain rfl := some_some H
    refine s_ret [Value.int .i64 (wrap64 (a1 - (l0.length : Int)))] hF Try.results8 ⟨rfl, trivial⟩ ?_
    exact ⟨_, rfl, hM.frm, rfl⟩

/-! ### loop.example/g01210/laws.toIntA6: function 15 -/
def laws_toIntA6.l0 (K : Nat) (a0 : (Ar 6)) : Nat → Int → (Ar 6) → Option (Ar 6)
  | 0, _, _ => none
  | k + 1, x9, x10 => if x9 < 6 then (if (0 : Int) ≤ x9 ∧ x9 < 6 then (laws_toIntA6.l0 K a0 k (wrap64 (x9 + 1)) (x10.set x9 (a0.get x9))) else none) else (some x10)
def laws_toIntA6.f (K : Nat) (a0 : (Ar 6)) : Option (Ar 6) := (laws_toIntA6.l0 K a0 K 0 (Ar.zero 6)).bind fun x8 => some x8
set_option maxRecDepth 100000 in
set_option maxHeartbeats 4000000 in
theorem laws_toIntA6.calls {w0 : World} (K : Nat) (a0 : (Ar 6)) (r : (Ar 6)) (H : laws_toIntA6.f K a0 = some r) : Calls Try.prog 15 [ag [Pt.ar a0]].toArray w0 (Post w0 fun w v => v = ag [Pt.ar r]) := by
  rw [laws_toIntA6.f] at H
  refine s_start Try.func15 rfl Try.ntmps15 rfl ?_
  intro a hF
  have hM := Ms.start w0
  skip
  refine wp_seq ?_
  refine s_region ?_
  refine s_box (ps := [Pt.ar a0]) hF hM rfl rfl rfl rfl ?_; intro a w b1 hF hM
  refine s_alloc (ps := [Pt.ar (Ar.zero 6)]) hF hM rfl rfl zv31 rfl ?_; intro a w b2 hF hM
  refine s_nil ?_
  refine then_n ?_
  refine wp_seq ?_
  refine s_region ?_
  refine s_alloc (ps := [Pt.ar (Ar.zero 6)]) hF hM rfl rfl zv31 rfl ?_; intro a w b3 hF hM
  refine s_nil ?_
  refine then_n ?_
  refine wp_seq ?_
  refine wp_seq ?_
  refine s_region ?_
  refine s_val hF rfl rfl rfl (e_assign hF rfl) ?_; intro a hF
  refine s_nil ?_
  refine then_n ?_
  refine wp_block ?_
  obtain ⟨o13, h14, H⟩ := bind_some H
  refine wp_mono (Q := fun e a w => (e = Exit.exit 0 ∧ ∃ x8 : (Ar 6), x8 = o13 ∧ Fr 15 a [(2, pt b2 0), (3, pt b3 0)] ∧ Ms [] w0 w [boxR b2 [Pt.ar (Ar.zero 6)] 31, boxR b3 [Pt.ar x8] 31])) ?_ ?_
  · refine s_loop (fun kq a w => ∃ x9 : Int, ∃ x10 : (Ar 6), laws_toIntA6.l0 K a0 kq x9 x10 = some o13 ∧ Fr 15 a [(1, pt b1 0), (2, pt b2 0), (3, pt b3 0), (4, Value.int .i64 x9)] ∧ Ms [] w0 w [boxR b1 [Pt.ar a0] 31, boxR b2 [Pt.ar (Ar.zero 6)] 31, boxR b3 [Pt.ar x10] 31]) K ⟨0, (Ar.zero 6), h14, hF.sub _ ⟨rfl, rfl, rfl, rfl, trivial⟩, hM.pick [2, 1, 0] rfl rfl⟩ ?_ ?_
    · rintro a w ⟨_, _, H, _⟩; exact none_some H
    · rintro k a w ⟨x9, x10, H, hF, hM⟩; rw [laws_toIntA6.l0] at H
      refine wp_seq ?_
      refine wp_seq ?_
      refine s_region ?_
      refine s_val hF rfl rfl rfl (e_move hF rfl) ?_; intro a hF
      refine s_val hF rfl rfl rfl (e_lss hF rfl rfl) ?_; intro a hF
      refine s_nil ?_
      refine then_n ?_
      rcases ite_cases H with ⟨c11, H⟩ | ⟨c11, H⟩
      ·
        refine s_cond_t hF rfl (decide_eq_true c11) ?_
        refine wp_skip ?_
        refine then_n ?_
        refine wp_seq ?_
        refine wp_block ?_
        obtain ⟨c12, H⟩ := ite_some H
        refine s_region ?_
        refine s_val hF rfl rfl rfl (e_move hF rfl) ?_; intro a hF
        refine s_val hF rfl rfl rfl (e_move hF rfl) ?_; intro a hF
        refine s_val hF rfl rfl rfl (e_ia hF rfl rfl Try.underlying31 Try.sizeOf3 c12.1 c12.2) ?_; intro a hF
        refine s_val hF rfl rfl rfl (e_ldi (i := 0) (k := 0) hF hM rfl rfl rfl rfl rfl Try.isAgg3 c12.1 c12.2) ?_; intro a hF
        refine s_val hF rfl rfl rfl (e_ia hF rfl rfl Try.underlying31 Try.sizeOf3 c12.1 c12.2) ?_; intro a hF
        refine s_sti (i := 2) (k := 0) hF hM rfl rfl rfl rfl rfl rfl rfl Try.sizeOf3 c12.1 c12.2 ?_; intro a w hF hM
        refine s_nil ?_
        refine blk_n ?_
        refine then_n ?_
        refine s_region ?_
        refine s_val hF rfl rfl rfl (e_move hF rfl) ?_; intro a hF
        refine s_val hF rfl rfl rfl (e_add hF rfl rfl) ?_; intro a hF
        refine s_val hF rfl rfl rfl (e_assign hF rfl) ?_; intro a hF
        refine s_nil ?_
        refine then_n ?_
        exact ⟨(wrap64 (x9 + 1)), (x10.set x9 (a0.get x9)), H, hF.sub _ ⟨rfl, rfl, rfl, rfl, trivial⟩, hM.pick [0, 1, 2] rfl rfl⟩
      ·
        refine s_cond_f hF rfl (decide_eq_false c11) ?_
        refine wp_exit ?_
        refine then_x ?_
        refine then_x ?_
        exact ⟨rfl, x10, some_some H, hF.sub _ ⟨rfl, rfl, trivial⟩, hM.pick [1, 2] rfl rfl⟩
  · rintro e a w ⟨rfl, x8, rfl, hF, hM⟩
    skip
    refine blk_x ?_
    refine then_n ?_
    refine wp_seq ?_
    refine s_region ?_
    refine s_val hF rfl rfl rfl (e_lda (i := 1) 0 1 hF hM rfl rfl rfl rfl Try.isAgg31 Try.sizeOf31 rfl) ?_; intro a hF
    refine s_stw (i := 0) (ps' := [Pt.ar x8]) hF hM rfl rfl rfl rfl rfl rfl Try.sizeOf31 rfl ?_; intro a w hF hM
    refine s_nil ?_
    refine then_n ?_
    refine wp_ret ?_
    obtain rfl := some_some H
    refine s_ret [ag [Pt.ar x8]] hF Try.results15 ⟨⟨_, rfl, rv_box hM (i := 0) rfl Try.isAgg31 Try.sizeOf31 rfl⟩, trivial⟩ ?_
    exact ⟨_, rfl, hM.frm, rfl⟩

/-! ### loop.example/g01210/laws.toIntA6S: function 10 -/
def laws_toIntA6S.l0 (K : Nat) (l0 : (List (Ar 6))) : Nat → Int → (List (Ar 6)) → Option (List (Ar 6))
  | 0, _, _ => none
  | k + 1, x16, x17 => if x16 < (l0.length : Int) then (if (0 : Int) ≤ x16 ∧ x16 < (l0.length : Int) then ((laws_toIntA6.f K (l0.getD (x16 : Int).toNat (Ar.zero 6))).bind fun t20 => if (0 : Int) ≤ x16 ∧ x16 < (x17.length : Int) then (laws_toIntA6S.l0 K l0 k (wrap64 (x16 + 1)) (x17.set (x16 : Int).toNat t20)) else none) else none) else (some x17)
def laws_toIntA6S.f (K : Nat) (l0 : (List (Ar 6))) : Option (List (Ar 6)) := if (0 : Int) ≤ (l0.length : Int) ∧ (l0.length : Int) ≤ 1073741824 then ((laws_toIntA6S.l0 K l0 K 0 (List.replicate (l0.length : Int).toNat (Ar.zero 6))).bind fun x15 => some x15) else none
set_option maxRecDepth 100000 in
set_option maxHeartbeats 4000000 in
theorem laws_toIntA6S.calls {w0 : World} (K : Nat) (l0 : (List (Ar 6))) (u0 : Value) (q0 : SlR cd31 w0 u0 l0) (r : (List (Ar 6))) (H : laws_toIntA6S.f K l0 = some r) : Calls Try.prog 10 [u0].toArray w0 (Post w0 fun w v => Fresh cd31 w0.heap.size w v r) := by
  rw [laws_toIntA6S.f] at H
  refine s_start Try.func10 rfl Try.ntmps10 rfl ?_
  intro a hF
  have hM := Ms.start w0
  skip
  refine wp_seq ?_
  refine s_region ?_
  refine s_val hF rfl rfl rfl (e_assign hF rfl) ?_; intro a hF
  refine s_nil ?_
  refine then_n ?_
  refine wp_seq ?_
  obtain ⟨c2, H⟩ := ite_some H
  refine s_region ?_
  refine s_val hF rfl rfl rfl (e_move hF rfl) ?_; intro a hF
  refine s_val hF rfl rfl rfl (e_len hF rfl (q0.frm hM.frm).toF Try.underlying22) ?_; intro a hF
  refine s_make (C := cd31) cdok31 hF hM rfl rfl rfl rfl Try.underlying22 c2.1 c2.2 ?_; intro a w v1 hF hM
  refine s_val hF rfl rfl rfl (e_assign hF rfl) ?_; intro a hF
  refine s_nil ?_
  refine then_n ?_
  refine wp_seq ?_
  refine wp_seq ?_
  refine s_region ?_
  refine s_val hF rfl rfl rfl (e_assign hF rfl) ?_; intro a hF
  refine s_nil ?_
  refine then_n ?_
  refine wp_block ?_
  obtain ⟨o23, h24, H⟩ := bind_some H
  refine wp_mono (Q := fun e a w => (e = Exit.exit 0 ∧ ∃ x15 : (List (Ar 6)), x15 = o23 ∧ Fr 23 a [(3, v1)] ∧ Ms [] w0 w [rowR cd31 v1 x15])) ?_ ?_
  · refine s_loop (fun kq a w => ∃ x16 : Int, ∃ x17 : (List (Ar 6)), laws_toIntA6S.l0 K l0 kq x16 x17 = some o23 ∧ Fr 23 a [(0, u0), (3, v1), (4, Value.int .i64 x16)] ∧ Ms [] w0 w [rowR cd31 v1 x17]) K ⟨0, (List.replicate (l0.length : Int).toNat (Ar.zero 6)), h24, hF.sub _ ⟨rfl, rfl, rfl, trivial⟩, hM.pick [0] rfl rfl⟩ ?_ ?_
    · rintro a w ⟨_, _, H, _⟩; exact none_some H
    · rintro k a w ⟨x16, x17, H, hF, hM⟩; rw [laws_toIntA6S.l0] at H
      refine wp_seq ?_
      refine wp_seq ?_
      refine s_region ?_
      refine s_val hF rfl rfl rfl (e_move hF rfl) ?_; intro a hF
      refine s_val hF rfl rfl rfl (e_move hF rfl) ?_; intro a hF
      refine s_val hF rfl rfl rfl (e_len hF rfl (q0.frm hM.frm).toF Try.underlying22) ?_; intro a hF
      refine s_val hF rfl rfl rfl (e_lss hF rfl rfl) ?_; intro a hF
      refine s_nil ?_
      refine then_n ?_
      rcases ite_cases H with ⟨c18, H⟩ | ⟨c18, H⟩
      ·
        refine s_cond_t hF rfl (decide_eq_true c18) ?_
        refine wp_skip ?_
        refine then_n ?_
        refine wp_seq ?_
        refine wp_block ?_
        obtain ⟨c19, H⟩ := ite_some H
        obtain ⟨t20, h21, H⟩ := bind_some H
        obtain ⟨c22, H⟩ := ite_some H
        refine s_region ?_
        refine s_val hF rfl rfl rfl (e_move hF rfl) ?_; intro a hF
        refine s_val hF rfl rfl rfl (e_move hF rfl) ?_; intro a hF
        refine s_val hF rfl rfl rfl (e_move hF rfl) ?_; intro a hF
        refine s_val hF rfl rfl rfl (e_move hF rfl) ?_; intro a hF
        refine s_val hF rfl rfl rfl (e_ias cd31 hF rfl rfl (q0.frm hM.frm).toF Try.underlying22 Try.sizeOf31 c19.1 c19.2) ?_; intro a hF
        refine s_val hF rfl rfl rfl (e_ldsa (m := x16) hF rfl (q0.frm hM.frm) (getD_some (z := (Ar.zero 6)) c19.1 c19.2) Try.isAgg31 Try.sizeOf31) ?_; intro a hF
        refine s_call hF rfl rfl rfl Try.call15 (laws_toIntA6.calls K (l0.getD (x16 : Int).toNat (Ar.zero 6)) t20 h21) ?_; intro a w v hF hf hR
        subst hR; have hM := hM.grow hf
        refine s_val hF rfl rfl rfl (e_ias cd31 hF rfl rfl (hM.sl 0 rfl).toF Try.underlying22 Try.sizeOf31 c22.1 c22.2) ?_; intro a hF
        refine s_sts (i := 0) t20 hF hM rfl rfl rfl rfl rfl c22.1 c22.2 Try.sizeOf31 ?_; intro a w hF hM
        refine s_nil ?_
        refine blk_n ?_
        refine then_n ?_
        refine s_region ?_
        refine s_val hF rfl rfl rfl (e_move hF rfl) ?_; intro a hF
        refine s_val hF rfl rfl rfl (e_add hF rfl rfl) ?_; intro a hF
        refine s_val hF rfl rfl rfl (e_assign hF rfl) ?_; intro a hF
        refine s_nil ?_
        refine then_n ?_
        exact ⟨(wrap64 (x16 + 1)), (x17.set (x16 : Int).toNat t20), H, hF.sub _ ⟨rfl, rfl, rfl, trivial⟩, hM.pick [0] rfl rfl⟩
      ·
        refine s_cond_f hF rfl (decide_eq_false c18) ?_
        refine wp_exit ?_
        refine then_x ?_
        refine then_x ?_
        exact ⟨rfl, x17, some_some H, hF.sub _ ⟨rfl, trivial⟩, hM.pick [0] rfl rfl⟩
  · rintro e a w ⟨rfl, x15, rfl, hF, hM⟩
    skip
    refine blk_x ?_
    refine then_n ?_
    refine wp_seq ?_
    refine s_region ?_
    refine s_val hF rfl rfl rfl (e_move hF rfl) ?_; intro a hF
    refine s_val hF rfl rfl rfl (e_assign hF rfl) ?_; intro a hF
    refine s_nil ?_
    refine then_n ?_
    refine wp_ret ?_
    obtain rfl := some_some H
    refine s_ret [v1] hF Try.results10 ⟨rfl, trivial⟩ ?_
    exact ⟨_, rfl, hM.frm, hM.give 0 rfl⟩

/-! ### loop.example/g01210/spec.l1In: function 49 -/
def spec_l1In.f (K : Nat) (a0 : Int) (a1 : Int) (a2 : Int) : Option Bool := if a1 ≤ a0 then (some (decide (a0 ≤ a2))) else (some false)
set_option maxRecDepth 100000 in
set_option maxHeartbeats 4000000 in
theorem spec_l1In.calls {w0 : World} (K : Nat) (a0 : Int) (a1 : Int) (a2 : Int) (r : Bool) (H : spec_l1In.f K a0 a1 a2 = some r) : Calls Try.prog 49 [Value.int .i64 a0, Value.int .i64 a1, Value.int .i64 a2].toArray w0 (Post w0 fun w v => v = Value.bool r) := by
  rw [spec_l1In.f] at H
  refine s_start Try.func49 rfl Try.ntmps49 rfl ?_
  intro a hF
  have hM := Ms.start w0
  skip
  refine wp_seq ?_
  refine s_region ?_
  refine s_val hF rfl rfl rfl (e_assign hF rfl) ?_; intro a hF
  refine s_nil ?_
  refine then_n ?_
  refine wp_seq ?_
  rcases ite_cases H with ⟨c1, H⟩ | ⟨c1, H⟩
  ·
    refine s_region ?_
    refine s_val hF rfl rfl rfl (e_move hF rfl) ?_; intro a hF
    refine s_val hF rfl rfl rfl (e_move hF rfl) ?_; intro a hF
    refine s_val hF rfl rfl rfl (e_geq hF rfl rfl) ?_; intro a hF
    refine s_val hF rfl rfl rfl (e_move hF rfl) ?_; intro a hF
    have hF := hF.topb (decide_eq_true c1)
    refine s_val hF rfl rfl rfl (e_move hF rfl) ?_; intro a hF
    refine s_val hF rfl rfl rfl (e_move hF rfl) ?_; intro a hF
    refine s_val hF rfl rfl rfl (e_leq hF rfl rfl) ?_; intro a hF
    refine s_val hF rfl rfl rfl (e_pick_t hF rfl rfl) ?_; intro a hF
    refine s_val hF rfl rfl rfl (e_assign hF rfl) ?_; intro a hF
    refine s_nil ?_
    refine then_n ?_
    refine wp_ret ?_
    obtain rfl := some_some H
    refine s_ret [Value.bool (decide (a0 ≤ a2))] hF Try.results49 ⟨rfl, trivial⟩ ?_
    exact ⟨_, rfl, hM.frm, rfl⟩
  ·
    refine s_region ?_
    refine s_val hF rfl rfl rfl (e_move hF rfl) ?_; intro a hF
    refine s_val hF rfl rfl rfl (e_move hF rfl) ?_; intro a hF
    refine s_val hF rfl rfl rfl (e_geq hF rfl rfl) ?_; intro a hF
    refine s_val hF rfl rfl rfl (e_move hF rfl) ?_; intro a hF
    have hF := hF.topb (decide_eq_false c1)
    refine s_skip hF rfl rfl rfl ?_; intro a hF
    refine s_skip hF rfl rfl rfl ?_; intro a hF
    refine s_skip hF rfl rfl rfl ?_; intro a hF
    refine s_val hF rfl rfl rfl (e_pick_f hF rfl rfl) ?_; intro a hF
    refine s_val hF rfl rfl rfl (e_assign hF rfl) ?_; intro a hF
    refine s_nil ?_
    refine then_n ?_
    refine wp_ret ?_
    obtain rfl := some_some H
    refine s_ret [Value.bool false] hF Try.results49 ⟨rfl, trivial⟩ ?_
    exact ⟨_, rfl, hM.frm, rfl⟩

/-! ### loop.example/g01210/spec.l2Die: function 36 -/
def spec_l2Die.l0 (K : Nat) (a0 : (Ar 6)) : Nat → Int → Option (Sum Unit Bool)
  | 0, _ => none
  | k + 1, x14 => if x14 < 6 then (if (0 : Int) ≤ x14 ∧ x14 < 6 then ((spec_l1In.f K (a0.get x14) 0 30).bind fun t17 => if t17 = true then (if 0 < x14 then (if (0 : Int) ≤ (wrap64 (x14 - 1)) ∧ (wrap64 (x14 - 1)) < 6 then (if (a0.get x14) < (a0.get (wrap64 (x14 - 1))) then (some (Sum.inr false)) else (spec_l2Die.l0 K a0 k (wrap64 (x14 + 1)))) else none) else (spec_l2Die.l0 K a0 k (wrap64 (x14 + 1)))) else (some (Sum.inr false))) else none) else (some (Sum.inl ()))
def spec_l2Die.f (K : Nat) (a0 : (Ar 6)) : Option Bool := (spec_l2Die.l0 K a0 K 0).bind fun o23 => (match o23 with | .inl () => some true | .inr r25 => some r25)
set_option maxRecDepth 100000 in
set_option maxHeartbeats 4000000 in
theorem spec_l2Die.calls {w0 : World} (K : Nat) (a0 : (Ar 6)) (r : Bool) (H : spec_l2Die.f K a0 = some r) : Calls Try.prog 36 [ag [Pt.ar a0]].toArray w0 (Post w0 fun w v => v = Value.bool r) := by
  rw [spec_l2Die.f] at H
  refine s_start Try.func36 rfl Try.ntmps36 rfl ?_
  intro a hF
  have hM := Ms.start w0
  skip
  refine wp_seq ?_
  refine s_region ?_
  refine s_box (ps := [Pt.ar a0]) hF hM rfl rfl rfl rfl ?_; intro a w b1 hF hM
  refine s_val hF rfl rfl rfl (e_assign hF rfl) ?_; intro a hF
  refine s_nil ?_
  refine then_n ?_
  refine wp_seq ?_
  refine wp_seq ?_
  refine s_region ?_
  refine s_val hF rfl rfl rfl (e_assign hF rfl) ?_; intro a hF
  refine s_nil ?_
  refine then_n ?_
  refine wp_block ?_
  obtain ⟨o23, h24, H⟩ := bind_some H
  refine wp_mono (Q := fun e a w => (e = Exit.exit 0 ∧ Sum.inl () = o23 ∧ Fr 27 a [] ∧ Ms [] w0 w []) ∨ (e = Exit.ret ∧ ∃ r25 : Bool, Sum.inr r25 = o23 ∧ Fr 27 a [(2, Value.bool r25)] ∧ Ms [] w0 w [])) ?_ ?_
  · refine s_loop (fun kq a w => ∃ x14 : Int, spec_l2Die.l0 K a0 kq x14 = some o23 ∧ Fr 27 a [(1, pt b1 0), (3, Value.int .i64 x14)] ∧ Ms [] w0 w [boxR b1 [Pt.ar a0] 31]) K ⟨0, h24, hF.sub _ ⟨rfl, rfl, trivial⟩, hM.pick [0] rfl rfl⟩ ?_ ?_
    · rintro a w ⟨_, H, _⟩; exact none_some H
    · rintro k a w ⟨x14, H, hF, hM⟩; rw [spec_l2Die.l0] at H
      refine wp_seq ?_
      refine wp_seq ?_
      refine s_region ?_
      refine s_val hF rfl rfl rfl (e_move hF rfl) ?_; intro a hF
      refine s_val hF rfl rfl rfl (e_lss hF rfl rfl) ?_; intro a hF
      refine s_nil ?_
      refine then_n ?_
      rcases ite_cases H with ⟨c15, H⟩ | ⟨c15, H⟩
      ·
        refine s_cond_t hF rfl (decide_eq_true c15) ?_
        refine wp_skip ?_
        refine then_n ?_
        refine wp_seq ?_
        refine wp_block ?_
        refine wp_seq ?_
        obtain ⟨c16, H⟩ := ite_some H
        obtain ⟨t17, h18, H⟩ := bind_some H
        rcases ite_cases H with ⟨c19, H⟩ | ⟨c19, H⟩
        ·
          rcases ite_cases H with ⟨c20, H⟩ | ⟨c20, H⟩
          ·
            obtain ⟨c21, H⟩ := ite_some H
            refine s_held (fun w => Ms [] w0 w [boxR b1 [Pt.ar a0] 31]) #[false, false, false, false, false, false, false, false, false, false, false, false, false, false, false, false, false, false, false] mixed rfl rfl hM ?_; intro w hf hM; clear hf
            refine h_val 0 #[true, false, false, false, false, false, false, false, false, false, false, false, false, false, false, false, false, false, false] rfl (by kernel_rfl) hF rfl rfl rfl (fun w hS => e_move hF rfl) (hM.pick [0] rfl rfl) ?_; intro a hF
            refine h_val 1 #[true, true, false, false, false, false, false, false, false, false, false, false, false, false, false, false, false, false, false] rfl (by kernel_rfl) hF rfl rfl rfl (fun w hS => e_ia hF rfl rfl Try.underlying31 Try.sizeOf3 c16.1 c16.2) (hM.pick [0] rfl rfl) ?_; intro a hF
            refine h_val 2 #[true, true, true, false, false, false, false, false, false, false, false, false, false, false, false, false, false, false, false] rfl (by kernel_rfl) hF rfl rfl rfl (fun w hS => e_ldi (i := 0) (k := 0) hF hS rfl rfl rfl rfl rfl Try.isAgg3 c16.1 c16.2) (hM.pick [0] rfl rfl) ?_; intro a hF
            refine h_one 3 #[true, true, true, true, false, false, false, false, false, false, false, false, false, false, false, false, false, false, false] rfl (by kernel_rfl) ?_
            refine s_call hF rfl rfl rfl Try.call49 (spec_l1In.calls K (a0.get x14) 0 30 t17 h18) ?_; intro a w v hF hf hR
            subst hR; have hM := hM.grow hf
            refine s_nil ⟨rfl, (hM.pick [0] rfl rfl), ?_⟩
            refine h_val 4 #[true, true, true, true, true, false, false, false, false, false, false, false, false, false, false, false, false, false, false] rfl (by kernel_rfl) hF rfl rfl rfl (fun w hS => e_not hF rfl) (hM.pick [0] rfl rfl) ?_; intro a hF
            refine h_val 5 #[true, true, true, true, true, true, false, false, false, false, false, false, false, false, false, false, false, false, false] rfl (by kernel_rfl) hF rfl rfl rfl (fun w hS => e_move hF rfl) (hM.pick [0] rfl rfl) ?_; intro a hF
            have hF := hF.topb (congrArg Bool.not c19)
            refine h_val 6 #[true, true, true, true, true, true, true, false, false, false, false, false, false, false, false, false, false, false, false] rfl (by kernel_rfl) hF rfl rfl rfl (fun w hS => e_move hF rfl) (hM.pick [0] rfl rfl) ?_; intro a hF
            refine h_val 7 #[true, true, true, true, true, true, true, true, false, false, false, false, false, false, false, false, false, false, false] rfl (by kernel_rfl) hF rfl rfl rfl (fun w hS => e_gtr hF rfl rfl) (hM.pick [0] rfl rfl) ?_; intro a hF
            refine h_val 8 #[true, true, true, true, true, true, true, true, true, false, false, false, false, false, false, false, false, false, false] rfl (by kernel_rfl) hF rfl rfl rfl (fun w hS => e_move hF rfl) (hM.pick [0] rfl rfl) ?_; intro a hF
            have hF := hF.topb (decide_eq_true c20)
            refine h_val 9 #[true, true, true, true, true, true, true, true, true, true, false, false, false, false, false, false, false, false, false] rfl (by kernel_rfl) hF rfl rfl rfl (fun w hS => e_move hF rfl) (hM.pick [0] rfl rfl) ?_; intro a hF
            refine h_val 10 #[true, true, true, true, true, true, true, true, true, true, true, false, false, false, false, false, false, false, false] rfl (by kernel_rfl) hF rfl rfl rfl (fun w hS => e_ia hF rfl rfl Try.underlying31 Try.sizeOf3 c16.1 c16.2) (hM.pick [0] rfl rfl) ?_; intro a hF
            refine h_val 11 #[true, true, true, true, true, true, true, true, true, true, true, true, false, false, false, false, false, false, false] rfl (by kernel_rfl) hF rfl rfl rfl (fun w hS => e_ldi (i := 0) (k := 0) hF hS rfl rfl rfl rfl rfl Try.isAgg3 c16.1 c16.2) (hM.pick [0] rfl rfl) ?_; intro a hF
            refine h_val 12 #[true, true, true, true, true, true, true, true, true, true, true, true, true, false, false, false, false, false, false] rfl (by kernel_rfl) hF rfl rfl rfl (fun w hS => e_move hF rfl) (hM.pick [0] rfl rfl) ?_; intro a hF
            refine h_val 13 #[true, true, true, true, true, true, true, true, true, true, true, true, true, true, false, false, false, false, false] rfl (by kernel_rfl) hF rfl rfl rfl (fun w hS => e_sub hF rfl rfl) (hM.pick [0] rfl rfl) ?_; intro a hF
            refine h_val 14 #[true, true, true, true, true, true, true, true, true, true, true, true, true, true, true, false, false, false, false] rfl (by kernel_rfl) hF rfl rfl rfl (fun w hS => e_ia hF rfl rfl Try.underlying31 Try.sizeOf3 c21.1 c21.2) (hM.pick [0] rfl rfl) ?_; intro a hF
            refine h_val 15 #[true, true, true, true, true, true, true, true, true, true, true, true, true, true, true, true, false, false, false] rfl (by kernel_rfl) hF rfl rfl rfl (fun w hS => e_ldi (i := 0) (k := 0) hF hS rfl rfl rfl rfl rfl Try.isAgg3 c21.1 c21.2) (hM.pick [0] rfl rfl) ?_; intro a hF
            refine h_val 16 #[true, true, true, true, true, true, true, true, true, true, true, true, true, true, true, true, true, false, false] rfl (by kernel_rfl) hF rfl rfl rfl (fun w hS => e_lss hF rfl rfl) (hM.pick [0] rfl rfl) ?_; intro a hF
            refine h_val 17 #[true, true, true, true, true, true, true, true, true, true, true, true, true, true, true, true, true, true, false] rfl (by kernel_rfl) hF rfl rfl rfl (fun w hS => e_pick_t hF rfl rfl) (hM.pick [0] rfl rfl) ?_; intro a hF
            refine h_val 18 #[true, true, true, true, true, true, true, true, true, true, true, true, true, true, true, true, true, true, true] rfl (by kernel_rfl) hF rfl rfl rfl (fun w hS => e_pick_f hF rfl rfl) (hM.pick [0] rfl rfl) ?_; intro a hF
            refine h_done rfl ?_
            refine then_n ?_
            rcases ite_cases H with ⟨c22, H⟩ | ⟨c22, H⟩
            ·
              refine s_cond_t hF rfl (decide_eq_true c22) ?_
              refine wp_seq ?_
              refine s_region ?_
              refine s_val hF rfl rfl rfl (e_assign hF rfl) ?_; intro a hF
              refine s_nil ?_
              refine then_n ?_
              refine wp_ret ?_
              refine blk_r ?_
              refine then_r ?_
              refine then_r ?_
              exact Or.inr (⟨rfl, false, some_some H, hF.sub _ ⟨rfl, trivial⟩, hM.pick [] rfl rfl⟩)
            ·
              refine s_cond_f hF rfl (decide_eq_false c22) ?_
              refine wp_skip ?_
              refine blk_n ?_
              refine then_n ?_
              refine s_region ?_
              refine s_val hF rfl rfl rfl (e_move hF rfl) ?_; intro a hF
              refine s_val hF rfl rfl rfl (e_add hF rfl rfl) ?_; intro a hF
              refine s_val hF rfl rfl rfl (e_assign hF rfl) ?_; intro a hF
              refine s_nil ?_
              refine then_n ?_
              exact ⟨(wrap64 (x14 + 1)), H, hF.sub _ ⟨rfl, rfl, trivial⟩, hM.pick [0] rfl rfl⟩
          ·
            refine s_held (fun w => Ms [] w0 w [boxR b1 [Pt.ar a0] 31]) #[false, false, false, false, false, false, false, false, false, false, false, false, false, false, false, false, false, false, false] mixed rfl rfl hM ?_; intro w hf hM; clear hf
            refine h_val 0 #[true, false, false, false, false, false, false, false, false, false, false, false, false, false, false, false, false, false, false] rfl (by kernel_rfl) hF rfl rfl rfl (fun w hS => e_move hF rfl) (hM.pick [0] rfl rfl) ?_; intro a hF
            refine h_val 1 #[true, true, false, false, false, false, false, false, false, false, false, false, false, false, false, false, false, false, false] rfl (by kernel_rfl) hF rfl rfl rfl (fun w hS => e_ia hF rfl rfl Try.underlying31 Try.sizeOf3 c16.1 c16.2) (hM.pick [0] rfl rfl) ?_; intro a hF
            refine h_val 2 #[true, true, true, false, false, false, false, false, false, false, false, false, false, false, false, false, false, false, false] rfl (by kernel_rfl) hF rfl rfl rfl (fun w hS => e_ldi (i := 0) (k := 0) hF hS rfl rfl rfl rfl rfl Try.isAgg3 c16.1 c16.2) (hM.pick [0] rfl rfl) ?_; intro a hF
            refine h_one 3 #[true, true, true, true, false, false, false, false, false, false, false, false, false, false, false, false, false, false, false] rfl (by kernel_rfl) ?_
            refine s_call hF rfl rfl rfl Try.call49 (spec_l1In.calls K (a0.get x14) 0 30 t17 h18) ?_; intro a w v hF hf hR
            subst hR; have hM := hM.grow hf
            refine s_nil ⟨rfl, (hM.pick [0] rfl rfl), ?_⟩
            refine h_val 4 #[true, true, true, true, true, false, false, false, false, false, false, false, false, false, false, false, false, false, false] rfl (by kernel_rfl) hF rfl rfl rfl (fun w hS => e_not hF rfl) (hM.pick [0] rfl rfl) ?_; intro a hF
            refine h_val 5 #[true, true, true, true, true, true, false, false, false, false, false, false, false, false, false, false, false, false, false] rfl (by kernel_rfl) hF rfl rfl rfl (fun w hS => e_move hF rfl) (hM.pick [0] rfl rfl) ?_; intro a hF
            have hF := hF.topb (congrArg Bool.not c19)
            refine h_val 6 #[true, true, true, true, true, true, true, false, false, false, false, false, false, false, false, false, false, false, false] rfl (by kernel_rfl) hF rfl rfl rfl (fun w hS => e_move hF rfl) (hM.pick [0] rfl rfl) ?_; intro a hF
            refine h_val 7 #[true, true, true, true, true, true, true, true, false, false, false, false, false, false, false, false, false, false, false] rfl (by kernel_rfl) hF rfl rfl rfl (fun w hS => e_gtr hF rfl rfl) (hM.pick [0] rfl rfl) ?_; intro a hF
            refine h_val 8 #[true, true, true, true, true, true, true, true, true, false, false, false, false, false, false, false, false, false, false] rfl (by kernel_rfl) hF rfl rfl rfl (fun w hS => e_move hF rfl) (hM.pick [0] rfl rfl) ?_; intro a hF
            have hF := hF.topb (decide_eq_false c20)
            refine h_skip 9 #[true, true, true, true, true, true, true, true, true, true, false, false, false, false, false, false, false, false, false] rfl (by kernel_rfl) hF rfl rfl rfl (hM.pick [0] rfl rfl) ?_; intro a hF
            refine h_skip 10 #[true, true, true, true, true, true, true, true, true, true, true, false, false, false, false, false, false, false, false] rfl (by kernel_rfl) hF rfl rfl rfl (hM.pick [0] rfl rfl) ?_; intro a hF
            refine h_skip 11 #[true, true, true, true, true, true, true, true, true, true, true, true, false, false, false, false, false, false, false] rfl (by kernel_rfl) hF rfl rfl rfl (hM.pick [0] rfl rfl) ?_; intro a hF
            refine h_skip 12 #[true, true, true, true, true, true, true, true, true, true, true, true, true, false, false, false, false, false, false] rfl (by kernel_rfl) hF rfl rfl rfl (hM.pick [0] rfl rfl) ?_; intro a hF
            refine h_skip 13 #[true, true, true, true, true, true, true, true, true, true, true, true, true, true, false, false, false, false, false] rfl (by kernel_rfl) hF rfl rfl rfl (hM.pick [0] rfl rfl) ?_; intro a hF
            refine h_skip 14 #[true, true, true, true, true, true, true, true, true, true, true, true, true, true, true, false, false, false, false] rfl (by kernel_rfl) hF rfl rfl rfl (hM.pick [0] rfl rfl) ?_; intro a hF
            refine h_skip 15 #[true, true, true, true, true, true, true, true, true, true, true, true, true, true, true, true, false, false, false] rfl (by kernel_rfl) hF rfl rfl rfl (hM.pick [0] rfl rfl) ?_; intro a hF
            refine h_skip 16 #[true, true, true, true, true, true, true, true, true, true, true, true, true, true, true, true, true, false, false] rfl (by kernel_rfl) hF rfl rfl rfl (hM.pick [0] rfl rfl) ?_; intro a hF
            refine h_val 17 #[true, true, true, true, true, true, true, true, true, true, true, true, true, true, true, true, true, true, false] rfl (by kernel_rfl) hF rfl rfl rfl (fun w hS => e_pick_f hF rfl rfl) (hM.pick [0] rfl rfl) ?_; intro a hF
            refine h_val 18 #[true, true, true, true, true, true, true, true, true, true, true, true, true, true, true, true, true, true, true] rfl (by kernel_rfl) hF rfl rfl rfl (fun w hS => e_pick_f hF rfl rfl) (hM.pick [0] rfl rfl) ?_; intro a hF
            refine h_done rfl ?_
            refine then_n ?_
            refine s_cond_f hF rfl rfl ?_
            refine wp_skip ?_
            refine blk_n ?_
            refine then_n ?_
            refine s_region ?_
            refine s_val hF rfl rfl rfl (e_move hF rfl) ?_; intro a hF
            refine s_val hF rfl rfl rfl (e_add hF rfl rfl) ?_; intro a hF
            refine s_val hF rfl rfl rfl (e_assign hF rfl) ?_; intro a hF
            refine s_nil ?_
            refine then_n ?_
            exact ⟨(wrap64 (x14 + 1)), H, hF.sub _ ⟨rfl, rfl, trivial⟩, hM.pick [0] rfl rfl⟩
        ·
          refine s_held (fun w => Ms [] w0 w [boxR b1 [Pt.ar a0] 31]) #[false, false, false, false, false, false, false, false, false, false, false, false, false, false, false, false, false, false, false] mixed rfl rfl hM ?_; intro w hf hM; clear hf
          refine h_val 0 #[true, false, false, false, false, false, false, false, false, false, false, false, false, false, false, false, false, false, false] rfl (by kernel_rfl) hF rfl rfl rfl (fun w hS => e_move hF rfl) (hM.pick [0] rfl rfl) ?_; intro a hF
          refine h_val 1 #[true, true, false, false, false, false, false, false, false, false, false, false, false, false, false, false, false, false, false] rfl (by kernel_rfl) hF rfl rfl rfl (fun w hS => e_ia hF rfl rfl Try.underlying31 Try.sizeOf3 c16.1 c16.2) (hM.pick [0] rfl rfl) ?_; intro a hF
          refine h_val 2 #[true, true, true, false, false, false, false, false, false, false, false, false, false, false, false, false, false, false, false] rfl (by kernel_rfl) hF rfl rfl rfl (fun w hS => e_ldi (i := 0) (k := 0) hF hS rfl rfl rfl rfl rfl Try.isAgg3 c16.1 c16.2) (hM.pick [0] rfl rfl) ?_; intro a hF
          refine h_one 3 #[true, true, true, true, false, false, false, false, false, false, false, false, false, false, false, false, false, false, false] rfl (by kernel_rfl) ?_
          refine s_call hF rfl rfl rfl Try.call49 (spec_l1In.calls K (a0.get x14) 0 30 t17 h18) ?_; intro a w v hF hf hR
          subst hR; have hM := hM.grow hf
          refine s_nil ⟨rfl, (hM.pick [0] rfl rfl), ?_⟩
          refine h_val 4 #[true, true, true, true, true, false, false, false, false, false, false, false, false, false, false, false, false, false, false] rfl (by kernel_rfl) hF rfl rfl rfl (fun w hS => e_not hF rfl) (hM.pick [0] rfl rfl) ?_; intro a hF
          refine h_val 5 #[true, true, true, true, true, true, false, false, false, false, false, false, false, false, false, false, false, false, false] rfl (by kernel_rfl) hF rfl rfl rfl (fun w hS => e_move hF rfl) (hM.pick [0] rfl rfl) ?_; intro a hF
          have hF := hF.topb (congrArg Bool.not (bf c19))
          refine h_skip 6 #[true, true, true, true, true, true, true, false, false, false, false, false, false, false, false, false, false, false, false] rfl (by kernel_rfl) hF rfl rfl rfl (hM.pick [0] rfl rfl) ?_; intro a hF
          refine h_skip 7 #[true, true, true, true, true, true, true, true, false, false, false, false, false, false, false, false, false, false, false] rfl (by kernel_rfl) hF rfl rfl rfl (hM.pick [0] rfl rfl) ?_; intro a hF
          refine h_skip 8 #[true, true, true, true, true, true, true, true, true, false, false, false, false, false, false, false, false, false, false] rfl (by kernel_rfl) hF rfl rfl rfl (hM.pick [0] rfl rfl) ?_; intro a hF
          refine h_skip 9 #[true, true, true, true, true, true, true, true, true, true, false, false, false, false, false, false, false, false, false] rfl (by kernel_rfl) hF rfl rfl rfl (hM.pick [0] rfl rfl) ?_; intro a hF
          refine h_skip 10 #[true, true, true, true, true, true, true, true, true, true, true, false, false, false, false, false, false, false, false] rfl (by kernel_rfl) hF rfl rfl rfl (hM.pick [0] rfl rfl) ?_; intro a hF
          refine h_skip 11 #[true, true, true, true, true, true, true, true, true, true, true, true, false, false, false, false, false, false, false] rfl (by kernel_rfl) hF rfl rfl rfl (hM.pick [0] rfl rfl) ?_; intro a hF
          refine h_skip 12 #[true, true, true, true, true, true, true, true, true, true, true, true, true, false, false, false, false, false, false] rfl (by kernel_rfl) hF rfl rfl rfl (hM.pick [0] rfl rfl) ?_; intro a hF
          refine h_skip 13 #[true, true, true, true, true, true, true, true, true, true, true, true, true, true, false, false, false, false, false] rfl (by kernel_rfl) hF rfl rfl rfl (hM.pick [0] rfl rfl) ?_; intro a hF
          refine h_skip 14 #[true, true, true, true, true, true, true, true, true, true, true, true, true, true, true, false, false, false, false] rfl (by kernel_rfl) hF rfl rfl rfl (hM.pick [0] rfl rfl) ?_; intro a hF
          refine h_skip 15 #[true, true, true, true, true, true, true, true, true, true, true, true, true, true, true, true, false, false, false] rfl (by kernel_rfl) hF rfl rfl rfl (hM.pick [0] rfl rfl) ?_; intro a hF
          refine h_skip 16 #[true, true, true, true, true, true, true, true, true, true, true, true, true, true, true, true, true, false, false] rfl (by kernel_rfl) hF rfl rfl rfl (hM.pick [0] rfl rfl) ?_; intro a hF
          refine h_skip 17 #[true, true, true, true, true, true, true, true, true, true, true, true, true, true, true, true, true, true, false] rfl (by kernel_rfl) hF rfl rfl rfl (hM.pick [0] rfl rfl) ?_; intro a hF
          refine h_val 18 #[true, true, true, true, true, true, true, true, true, true, true, true, true, true, true, true, true, true, true] rfl (by kernel_rfl) hF rfl rfl rfl (fun w hS => e_pick_t hF rfl rfl) (hM.pick [0] rfl rfl) ?_; intro a hF
          refine h_done rfl ?_
          refine then_n ?_
          refine s_cond_t hF rfl rfl ?_
          refine wp_seq ?_
          refine s_region ?_
          refine s_val hF rfl rfl rfl (e_assign hF rfl) ?_; intro a hF
          refine s_nil ?_
          refine then_n ?_
          refine wp_ret ?_
          refine blk_r ?_
          refine then_r ?_
          refine then_r ?_
          exact Or.inr (⟨rfl, false, some_some H, hF.sub _ ⟨rfl, trivial⟩, hM.pick [] rfl rfl⟩)
      ·
        refine s_cond_f hF rfl (decide_eq_false c15) ?_
        refine wp_exit ?_
        refine then_x ?_
        refine then_x ?_
        exact Or.inl (⟨rfl, some_some H, hF.sub _ trivial, hM.pick [] rfl rfl⟩)
  · rintro e a w (⟨rfl, rfl, hF, hM⟩ | ⟨rfl, r25, rfl, hF, hM⟩)
    ·
      dsimp only at H
      refine blk_x ?_
      refine then_n ?_
      refine wp_seq ?_
      refine s_region ?_
      refine s_val hF rfl rfl rfl (e_assign hF rfl) ?_; intro a hF
      refine s_nil ?_
      refine then_n ?_
      refine wp_ret ?_
      obtain rfl := some_some H
      refine s_ret [Value.bool true] hF Try.results36 ⟨rfl, trivial⟩ ?_
      exact ⟨_, rfl, hM.frm, rfl⟩
    ·
      dsimp only at H
      refine blk_r ?_
      refine then_r ?_
      obtain rfl := some_some H
      refine s_ret [Value.bool r25] hF Try.results36 ⟨rfl, trivial⟩ ?_
      exact ⟨_, rfl, hM.frm, rfl⟩

/-! ### loop.example/g01210/spec.l2Pool: function 28 -/
def spec_l2Pool.l0 (K : Nat) (l0 : (List (Ar 6))) : Nat → Int → Option (Sum Unit Bool)
  | 0, _ => none
  | k + 1, x13 => if x13 < (l0.length : Int) then (if x13 ≤ 4 then (if (0 : Int) ≤ x13 ∧ x13 < (l0.length : Int) then ((spec_l2Die.f K (l0.getD (x13 : Int).toNat (Ar.zero 6))).bind fun t17 => if t17 = true then (spec_l2Pool.l0 K l0 k (wrap64 (x13 + 1))) else (some (Sum.inr false))) else none) else (some (Sum.inl ()))) else (some (Sum.inl ()))
def spec_l2Pool.f (K : Nat) (l0 : (List (Ar 6))) : Option Bool := (spec_l2Pool.l0 K l0 K 0).bind fun o20 => (match o20 with | .inl () => (spec_l1In.f K (l0.length : Int) 1 4).bind fun t23 => some t23 | .inr r22 => some r22)
set_option maxRecDepth 100000 in
set_option maxHeartbeats 4000000 in
theorem spec_l2Pool.calls {w0 : World} (K : Nat) (l0 : (List (Ar 6))) (u0 : Value) (q0 : SlR cd31 w0 u0 l0) (r : Bool) (H : spec_l2Pool.f K l0 = some r) : Calls Try.prog 28 [u0].toArray w0 (Post w0 fun w v => v = Value.bool r) := by
  rw [spec_l2Pool.f] at H
  refine s_start Try.func28 rfl Try.ntmps28 rfl ?_
  intro a hF
  have hM := Ms.start w0
  skip
  refine wp_seq ?_
  refine s_region ?_
  refine s_val hF rfl rfl rfl (e_assign hF rfl) ?_; intro a hF
  refine s_nil ?_
  refine then_n ?_
  refine wp_seq ?_
  refine wp_seq ?_
  refine s_region ?_
  refine s_val hF rfl rfl rfl (e_assign hF rfl) ?_; intro a hF
  refine s_nil ?_
  refine then_n ?_
  refine wp_block ?_
  obtain ⟨o20, h21, H⟩ := bind_some H
  refine wp_mono (Q := fun e a w => (e = Exit.exit 0 ∧ Sum.inl () = o20 ∧ Fr 23 a [(0, u0)] ∧ Ms [] w0 w []) ∨ (e = Exit.ret ∧ ∃ r22 : Bool, Sum.inr r22 = o20 ∧ Fr 23 a [(2, Value.bool r22)] ∧ Ms [] w0 w [])) ?_ ?_
  · refine s_loop (fun kq a w => ∃ x13 : Int, spec_l2Pool.l0 K l0 kq x13 = some o20 ∧ Fr 23 a [(0, u0), (3, Value.int .i64 x13)] ∧ Ms [] w0 w []) K ⟨0, h21, hF.sub _ ⟨rfl, rfl, trivial⟩, hM.pick [] rfl rfl⟩ ?_ ?_
    · rintro a w ⟨_, H, _⟩; exact none_some H
    · rintro k a w ⟨x13, H, hF, hM⟩; rw [spec_l2Pool.l0] at H
      refine wp_seq ?_
      refine wp_seq ?_
      rcases ite_cases H with ⟨c14, H⟩ | ⟨c14, H⟩
      ·
        refine s_region ?_
        refine s_val hF rfl rfl rfl (e_move hF rfl) ?_; intro a hF
        refine s_val hF rfl rfl rfl (e_move hF rfl) ?_; intro a hF
        refine s_val hF rfl rfl rfl (e_len hF rfl (q0.frm hM.frm).toF Try.underlying22) ?_; intro a hF
        refine s_val hF rfl rfl rfl (e_lss hF rfl rfl) ?_; intro a hF
        refine s_val hF rfl rfl rfl (e_move hF rfl) ?_; intro a hF
        have hF := hF.topb (decide_eq_true c14)
        refine s_val hF rfl rfl rfl (e_move hF rfl) ?_; intro a hF
        refine s_val hF rfl rfl rfl (e_leq hF rfl rfl) ?_; intro a hF
        refine s_val hF rfl rfl rfl (e_pick_t hF rfl rfl) ?_; intro a hF
        refine s_nil ?_
        refine then_n ?_
        rcases ite_cases H with ⟨c15, H⟩ | ⟨c15, H⟩
        ·
          refine s_cond_t hF rfl (decide_eq_true c15) ?_
          refine wp_skip ?_
          refine then_n ?_
          refine wp_seq ?_
          refine wp_block ?_
          refine wp_seq ?_
          obtain ⟨c16, H⟩ := ite_some H
          obtain ⟨t17, h18, H⟩ := bind_some H
          refine s_region ?_
          refine s_val hF rfl rfl rfl (e_move hF rfl) ?_; intro a hF
          refine s_val hF rfl rfl rfl (e_move hF rfl) ?_; intro a hF
          refine s_val hF rfl rfl rfl (e_ias cd31 hF rfl rfl (q0.frm hM.frm).toF Try.underlying22 Try.sizeOf31 c16.1 c16.2) ?_; intro a hF
          refine s_val hF rfl rfl rfl (e_ldsa (m := x13) hF rfl (q0.frm hM.frm) (getD_some (z := (Ar.zero 6)) c16.1 c16.2) Try.isAgg31 Try.sizeOf31) ?_; intro a hF
          refine s_call hF rfl rfl rfl Try.call36 (spec_l2Die.calls K (l0.getD (x13 : Int).toNat (Ar.zero 6)) t17 h18) ?_; intro a w v hF hf hR
          subst hR; have hM := hM.grow hf
          refine s_val hF rfl rfl rfl (e_not hF rfl) ?_; intro a hF
          refine s_nil ?_
          refine then_n ?_
          rcases ite_cases H with ⟨c19, H⟩ | ⟨c19, H⟩
          ·
            refine s_cond_f hF rfl (congrArg Bool.not c19) ?_
            refine wp_skip ?_
            refine blk_n ?_
            refine then_n ?_
            refine s_region ?_
            refine s_val hF rfl rfl rfl (e_move hF rfl) ?_; intro a hF
            refine s_val hF rfl rfl rfl (e_add hF rfl rfl) ?_; intro a hF
            refine s_val hF rfl rfl rfl (e_assign hF rfl) ?_; intro a hF
            refine s_nil ?_
            refine then_n ?_
            exact ⟨(wrap64 (x13 + 1)), H, hF.sub _ ⟨rfl, rfl, trivial⟩, hM.pick [] rfl rfl⟩
          ·
            refine s_cond_t hF rfl (congrArg Bool.not (bf c19)) ?_
            refine wp_seq ?_
            refine s_region ?_
            refine s_val hF rfl rfl rfl (e_assign hF rfl) ?_; intro a hF
            refine s_nil ?_
            refine then_n ?_
            refine wp_ret ?_
            refine blk_r ?_
            refine then_r ?_
            refine then_r ?_
            exact Or.inr (⟨rfl, false, some_some H, hF.sub _ ⟨rfl, trivial⟩, hM.pick [] rfl rfl⟩)
        ·
          refine s_cond_f hF rfl (decide_eq_false c15) ?_
          refine wp_exit ?_
          refine then_x ?_
          refine then_x ?_
          exact Or.inl (⟨rfl, some_some H, hF.sub _ ⟨rfl, trivial⟩, hM.pick [] rfl rfl⟩)
      ·
        refine s_region ?_
        refine s_val hF rfl rfl rfl (e_move hF rfl) ?_; intro a hF
        refine s_val hF rfl rfl rfl (e_move hF rfl) ?_; intro a hF
        refine s_val hF rfl rfl rfl (e_len hF rfl (q0.frm hM.frm).toF Try.underlying22) ?_; intro a hF
        refine s_val hF rfl rfl rfl (e_lss hF rfl rfl) ?_; intro a hF
        refine s_val hF rfl rfl rfl (e_move hF rfl) ?_; intro a hF
        have hF := hF.topb (decide_eq_false c14)
        refine s_skip hF rfl rfl rfl ?_; intro a hF
        refine s_skip hF rfl rfl rfl ?_; intro a hF
        refine s_val hF rfl rfl rfl (e_pick_f hF rfl rfl) ?_; intro a hF
        refine s_nil ?_
        refine then_n ?_
        refine s_cond_f hF rfl rfl ?_
        refine wp_exit ?_
        refine then_x ?_
        refine then_x ?_
        exact Or.inl (⟨rfl, some_some H, hF.sub _ ⟨rfl, trivial⟩, hM.pick [] rfl rfl⟩)
  · rintro e a w (⟨rfl, rfl, hF, hM⟩ | ⟨rfl, r22, rfl, hF, hM⟩)
    ·
      dsimp only at H
      refine blk_x ?_
      refine then_n ?_
      refine wp_seq ?_
      obtain ⟨t23, h24, H⟩ := bind_some H
      refine s_region ?_
      refine s_val hF rfl rfl rfl (e_move hF rfl) ?_; intro a hF
      refine s_val hF rfl rfl rfl (e_len hF rfl (q0.frm hM.frm).toF Try.underlying22) ?_; intro a hF
      refine s_call hF rfl rfl rfl Try.call49 (spec_l1In.calls K (l0.length : Int) 1 4 t23 h24) ?_; intro a w v hF hf hR
      subst hR; have hM := hM.grow hf
      refine s_val hF rfl rfl rfl (e_assign hF rfl) ?_; intro a hF
      refine s_nil ?_
      refine then_n ?_
      refine wp_ret ?_
      obtain rfl := some_some H
      refine s_ret [Value.bool t23] hF Try.results28 ⟨rfl, trivial⟩ ?_
      exact ⟨_, rfl, hM.frm, rfl⟩
    ·
      dsimp only at H
      refine blk_r ?_
      refine then_r ?_
      obtain rfl := some_some H
      refine s_ret [Value.bool r22] hF Try.results28 ⟨rfl, trivial⟩ ?_
      exact ⟨_, rfl, hM.frm, rfl⟩

/-! ### loop.example/g01210/spec.l5Two: function 37 -/
def spec_l5Two.f (K : Nat) (l0 : (List (Ar 6))) : Option Bool := (spec_l2Pool.f K l0).bind fun t1 => if t1 = true then (some (decide ((l0.length : Int) = 2))) else (some false)
set_option maxRecDepth 100000 in
set_option maxHeartbeats 4000000 in
theorem spec_l5Two.calls {w0 : World} (K : Nat) (l0 : (List (Ar 6))) (u0 : Value) (q0 : SlR cd31 w0 u0 l0) (r : Bool) (H : spec_l5Two.f K l0 = some r) : Calls Try.prog 37 [u0].toArray w0 (Post w0 fun w v => v = Value.bool r) := by
  rw [spec_l5Two.f] at H
  refine s_start Try.func37 rfl Try.ntmps37 rfl ?_
  intro a hF
  have hM := Ms.start w0
  skip
  refine wp_seq ?_
  refine s_region ?_
  refine s_val hF rfl rfl rfl (e_assign hF rfl) ?_; intro a hF
  refine s_nil ?_
  refine then_n ?_
  refine wp_seq ?_
  obtain ⟨t1, h2, H⟩ := bind_some H
  rcases ite_cases H with ⟨c3, H⟩ | ⟨c3, H⟩
  ·
    refine s_region ?_
    refine s_val hF rfl rfl rfl (e_move hF rfl) ?_; intro a hF
    refine s_call hF rfl rfl rfl Try.call28 (spec_l2Pool.calls K l0 u0 (q0.frm hM.frm) t1 h2) ?_; intro a w v hF hf hR
    subst hR; have hM := hM.grow hf
    refine s_val hF rfl rfl rfl (e_move hF rfl) ?_; intro a hF
    have hF := hF.topb c3
    refine s_val hF rfl rfl rfl (e_move hF rfl) ?_; intro a hF
    refine s_val hF rfl rfl rfl (e_len hF rfl (q0.frm hM.frm).toF Try.underlying22) ?_; intro a hF
    refine s_val hF rfl rfl rfl (e_eql hF rfl rfl) ?_; intro a hF
    refine s_val hF rfl rfl rfl (e_pick_t hF rfl rfl) ?_; intro a hF
    refine s_val hF rfl rfl rfl (e_assign hF rfl) ?_; intro a hF
    refine s_nil ?_
    refine then_n ?_
    refine wp_ret ?_
    obtain rfl := some_some H
    refine s_ret [Value.bool (decide ((l0.length : Int) = 2))] hF Try.results37 ⟨rfl, trivial⟩ ?_
    exact ⟨_, rfl, hM.frm, rfl⟩
  ·
    refine s_region ?_
    refine s_val hF rfl rfl rfl (e_move hF rfl) ?_; intro a hF
    refine s_call hF rfl rfl rfl Try.call28 (spec_l2Pool.calls K l0 u0 (q0.frm hM.frm) t1 h2) ?_; intro a w v hF hf hR
    subst hR; have hM := hM.grow hf
    refine s_val hF rfl rfl rfl (e_move hF rfl) ?_; intro a hF
    have hF := hF.topb (bf c3)
    refine s_skip hF rfl rfl rfl ?_; intro a hF
    refine s_skip hF rfl rfl rfl ?_; intro a hF
    refine s_skip hF rfl rfl rfl ?_; intro a hF
    refine s_val hF rfl rfl rfl (e_pick_f hF rfl rfl) ?_; intro a hF
    refine s_val hF rfl rfl rfl (e_assign hF rfl) ?_; intro a hF
    refine s_nil ?_
    refine then_n ?_
    refine wp_ret ?_
    obtain rfl := some_some H
    refine s_ret [Value.bool false] hF Try.results37 ⟨rfl, trivial⟩ ?_
    exact ⟨_, rfl, hM.frm, rfl⟩

/-! ### loop.example/g01210/spec.l2Table: function 29 -/
def spec_l2Table.l12 (K : Nat) (l0 : (List (Ar 6))) (x160 : Int) (x161 : (Ar 121)) (x211 : Int) : Nat → Int → (Ar 121) → Option (Ar 121)
  | 0, _, _ => none
  | k + 1, x227, x228 => if x227 < 6 then (if (0 : Int) ≤ x211 ∧ x211 < 121 then (if 0 < (x161.get x211) then (if (0 : Int) ≤ x160 ∧ x160 < (l0.length : Int) then (if (0 : Int) ≤ x227 ∧ x227 < 6 then (if (0 : Int) ≤ (wrap64 (x211 + ((l0.getD (x160 : Int).toNat (Ar.zero 6)).get x227))) ∧ (wrap64 (x211 + ((l0.getD (x160 : Int).toNat (Ar.zero 6)).get x227))) < 121 then (spec_l2Table.l12 K l0 x160 x161 x211 k (wrap64 (x227 + 1)) (x228.set (wrap64 (x211 + ((l0.getD (x160 : Int).toNat (Ar.zero 6)).get x227))) (wrap64 ((x228.get (wrap64 (x211 + ((l0.getD (x160 : Int).toNat (Ar.zero 6)).get x227)))) + (x161.get x211))))) else none) else none) else none) else (spec_l2Table.l12 K l0 x160 x161 x211 k (wrap64 (x227 + 1)) x228)) else none) else (some x228)
def spec_l2Table.l11 (K : Nat) (l0 : (List (Ar 6))) (x160 : Int) (x161 : (Ar 121)) : Nat → Int → (Ar 121) → Option (Ar 121)
  | 0, _, _ => none
  | k + 1, x211, x212 => if x211 < 121 then ((spec_l2Table.l12 K l0 x160 x161 x211 K 0 x212).bind fun x226 => spec_l2Table.l11 K l0 x160 x161 k (wrap64 (x211 + 1)) x226) else (some x212)
def spec_l2Table.l8 (K : Nat) (l0 : (List (Ar 6))) : Nat → Int → (Ar 121) → Option (Ar 121)
  | 0, _, _ => none
  | k + 1, x160, x161 => if x160 < (l0.length : Int) then ((spec_l2Table.l11 K l0 x160 x161 K 0 (Ar.zero 121)).bind fun x210 => spec_l2Table.l8 K l0 k (wrap64 (x160 + 1)) x210) else (some x161)
def spec_l2Table.f (K : Nat) (l0 : (List (Ar 6))) : Option (Ar 121) := (spec_l2Table.l8 K l0 K 0 ((Ar.zero 121).set 0 1)).bind fun x159 => some x159
set_option maxRecDepth 100000 in
set_option maxHeartbeats 4000000 in
theorem spec_l2Table.calls {w0 : World} (K : Nat) (l0 : (List (Ar 6))) (u0 : Value) (q0 : SlR cd31 w0 u0 l0) (r : (Ar 121)) (H : spec_l2Table.f K l0 = some r) : Calls Try.prog 29 [u0].toArray w0 (Post w0 fun w v => v = ag [Pt.ar r]) := by
  rw [spec_l2Table.f] at H
  refine s_start Try.func29 rfl Try.ntmps29 rfl ?_
  intro a hF
  have hM := Ms.start w0
  skip
  refine wp_seq ?_
  refine s_region ?_
  refine s_alloc (ps := [Pt.ar (Ar.zero 121)]) hF hM rfl rfl zv43 rfl ?_; intro a w b1 hF hM
  refine s_nil ?_
  refine then_n ?_
  refine wp_seq ?_
  refine s_region ?_
  refine s_val hF rfl rfl rfl (e_build' (cells := cat [Pt.ar ((Ar.zero 121).set 0 1)]) hF rfl (by kernel_rfl)) ?_; intro a hF
  refine s_alloc (ps := [Pt.ar (Ar.zero 121)]) hF hM rfl rfl zv43 rfl ?_; intro a w b2 hF hM
  refine s_stw (i := 0) (ps' := [Pt.ar ((Ar.zero 121).set 0 1)]) hF hM rfl rfl rfl rfl rfl rfl Try.sizeOf43 rfl ?_; intro a w hF hM
  refine s_nil ?_
  refine then_n ?_
  refine wp_seq ?_
  refine wp_seq ?_
  refine s_region ?_
  refine s_val hF rfl rfl rfl (e_assign hF rfl) ?_; intro a hF
  refine s_nil ?_
  refine then_n ?_
  refine wp_block ?_
  obtain ⟨o241, h242, H⟩ := bind_some H
  refine wp_mono (Q := fun e a w => (e = Exit.exit 0 ∧ ∃ x159 : (Ar 121), x159 = o241 ∧ Fr 53 a [(2, pt b1 0), (3, pt b2 0)] ∧ Ms [] w0 w [boxR b1 [Pt.ar (Ar.zero 121)] 43, boxR b2 [Pt.ar x159] 43])) ?_ ?_
  · refine s_loop (fun kq a w => ∃ x160 : Int, ∃ x161 : (Ar 121), spec_l2Table.l8 K l0 kq x160 x161 = some o241 ∧ Fr 53 a [(0, u0), (2, pt b1 0), (3, pt b2 0), (4, Value.int .i64 x160)] ∧ Ms [] w0 w [boxR b1 [Pt.ar (Ar.zero 121)] 43, boxR b2 [Pt.ar x161] 43]) K ⟨0, ((Ar.zero 121).set 0 1), h242, hF.sub _ ⟨rfl, rfl, rfl, rfl, trivial⟩, hM.pick [1, 0] rfl rfl⟩ ?_ ?_
    · rintro a w ⟨_, _, H, _⟩; exact none_some H
    · rintro k a w ⟨x160, x161, H, hF, hM⟩; rw [spec_l2Table.l8] at H
      refine wp_seq ?_
      refine wp_seq ?_
      refine s_region ?_
      refine s_val hF rfl rfl rfl (e_move hF rfl) ?_; intro a hF
      refine s_val hF rfl rfl rfl (e_move hF rfl) ?_; intro a hF
      refine s_val hF rfl rfl rfl (e_len hF rfl (q0.frm hM.frm).toF Try.underlying22) ?_; intro a hF
      refine s_val hF rfl rfl rfl (e_lss hF rfl rfl) ?_; intro a hF
      refine s_nil ?_
      refine then_n ?_
      rcases ite_cases H with ⟨c162, H⟩ | ⟨c162, H⟩
      ·
        refine s_cond_t hF rfl (decide_eq_true c162) ?_
        refine wp_skip ?_
        refine then_n ?_
        refine wp_seq ?_
        refine wp_block ?_
        refine wp_seq ?_
        refine s_region ?_
        refine s_val hF rfl rfl rfl (e_build' (cells := cat [Pt.ar (Ar.zero 121)]) hF rfl (by kernel_rfl)) ?_; intro a hF
        refine s_alloc (ps := [Pt.ar (Ar.zero 121)]) hF hM rfl rfl zv43 rfl ?_; intro a w b163 hF hM
        refine s_stw (i := 0) (ps' := [Pt.ar (Ar.zero 121)]) hF hM rfl rfl rfl rfl rfl rfl Try.sizeOf43 rfl ?_; intro a w hF hM
        refine s_nil ?_
        refine then_n ?_
        refine wp_seq ?_
        refine wp_seq ?_
        refine s_region ?_
        refine s_val hF rfl rfl rfl (e_assign hF rfl) ?_; intro a hF
        refine s_nil ?_
        refine then_n ?_
        refine wp_block ?_
        obtain ⟨o239, h240, H⟩ := bind_some H
        refine wp_mono (Q := fun e a w => (e = Exit.exit 2 ∧ ∃ x210 : (Ar 121), x210 = o239 ∧ Fr 53 a [(0, u0), (2, pt b1 0), (3, pt b2 0), (4, Value.int .i64 x160), (5, pt b163 0)] ∧ Ms [] w0 w [boxR b1 [Pt.ar (Ar.zero 121)] 43, boxR b2 [Pt.ar x161] 43, boxR b163 [Pt.ar x210] 43])) ?_ ?_
        · refine s_loop (fun kq a w => ∃ x211 : Int, ∃ x212 : (Ar 121), spec_l2Table.l11 K l0 x160 x161 kq x211 x212 = some o239 ∧ Fr 53 a [(0, u0), (2, pt b1 0), (3, pt b2 0), (4, Value.int .i64 x160), (5, pt b163 0), (6, Value.int .i64 x211)] ∧ Ms [] w0 w [boxR b1 [Pt.ar (Ar.zero 121)] 43, boxR b2 [Pt.ar x161] 43, boxR b163 [Pt.ar x212] 43]) K ⟨0, (Ar.zero 121), h240, hF.sub _ ⟨rfl, rfl, rfl, rfl, rfl, rfl, trivial⟩, hM.pick [1, 2, 0] rfl rfl⟩ ?_ ?_
          · rintro a w ⟨_, _, H, _⟩; exact none_some H
          · rintro k a w ⟨x211, x212, H, hF, hM⟩; rw [spec_l2Table.l11] at H
            refine wp_seq ?_
            refine wp_seq ?_
            refine s_region ?_
            refine s_val hF rfl rfl rfl (e_move hF rfl) ?_; intro a hF
            refine s_val hF rfl rfl rfl (e_lss hF rfl rfl) ?_; intro a hF
            refine s_nil ?_
            refine then_n ?_
            rcases ite_cases H with ⟨c213, H⟩ | ⟨c213, H⟩
            ·
              refine s_cond_t hF rfl (decide_eq_true c213) ?_
              refine wp_skip ?_
              refine then_n ?_
              refine wp_seq ?_
              refine wp_block ?_
              refine wp_seq ?_
              refine s_region ?_
              refine s_val hF rfl rfl rfl (e_assign hF rfl) ?_; intro a hF
              refine s_nil ?_
              refine then_n ?_
              refine wp_block ?_
              obtain ⟨o237, h238, H⟩ := bind_some H
              refine wp_mono (Q := fun e a w => (e = Exit.exit 4 ∧ ∃ x226 : (Ar 121), x226 = o237 ∧ Fr 53 a [(0, u0), (2, pt b1 0), (3, pt b2 0), (4, Value.int .i64 x160), (5, pt b163 0), (6, Value.int .i64 x211)] ∧ Ms [] w0 w [boxR b1 [Pt.ar (Ar.zero 121)] 43, boxR b2 [Pt.ar x161] 43, boxR b163 [Pt.ar x226] 43])) ?_ ?_
              · refine s_loop (fun kq a w => ∃ x227 : Int, ∃ x228 : (Ar 121), spec_l2Table.l12 K l0 x160 x161 x211 kq x227 x228 = some o237 ∧ Fr 53 a [(0, u0), (2, pt b1 0), (3, pt b2 0), (4, Value.int .i64 x160), (5, pt b163 0), (6, Value.int .i64 x211), (7, Value.int .i64 x227)] ∧ Ms [] w0 w [boxR b1 [Pt.ar (Ar.zero 121)] 43, boxR b2 [Pt.ar x161] 43, boxR b163 [Pt.ar x228] 43]) K ⟨0, x212, h238, hF.sub _ ⟨rfl, rfl, rfl, rfl, rfl, rfl, rfl, trivial⟩, hM.pick [0, 1, 2] rfl rfl⟩ ?_ ?_
                · rintro a w ⟨_, _, H, _⟩; exact none_some H
                · rintro k a w ⟨x227, x228, H, hF, hM⟩; rw [spec_l2Table.l12] at H
                  refine wp_seq ?_
                  refine wp_seq ?_
                  refine s_region ?_
                  refine s_val hF rfl rfl rfl (e_move hF rfl) ?_; intro a hF
                  refine s_val hF rfl rfl rfl (e_lss hF rfl rfl) ?_; intro a hF
                  refine s_nil ?_
                  refine then_n ?_
                  rcases ite_cases H with ⟨c229, H⟩ | ⟨c229, H⟩
                  ·
                    refine s_cond_t hF rfl (decide_eq_true c229) ?_
                    refine wp_skip ?_
                    refine then_n ?_
                    refine wp_seq ?_
                    refine wp_block ?_
                    refine wp_seq ?_
                    obtain ⟨c230, H⟩ := ite_some H
                    refine s_region ?_
                    refine s_val hF rfl rfl rfl (e_move hF rfl) ?_; intro a hF
                    refine s_val hF rfl rfl rfl (e_ia hF rfl rfl Try.underlying43 Try.sizeOf3 c230.1 c230.2) ?_; intro a hF
                    refine s_val hF rfl rfl rfl (e_ldi (i := 1) (k := 0) hF hM rfl rfl rfl rfl rfl Try.isAgg3 c230.1 c230.2) ?_; intro a hF
                    refine s_val hF rfl rfl rfl (e_gtr hF rfl rfl) ?_; intro a hF
                    refine s_nil ?_
                    refine then_n ?_
                    rcases ite_cases H with ⟨c231, H⟩ | ⟨c231, H⟩
                    ·
                      refine s_cond_t hF rfl (decide_eq_true c231) ?_
                      obtain ⟨c232, H⟩ := ite_some H
                      obtain ⟨c233, H⟩ := ite_some H
                      obtain ⟨c234, H⟩ := ite_some H
                      refine s_held (fun w => Ms [] w0 w [boxR b1 [Pt.ar (Ar.zero 121)] 43, boxR b2 [Pt.ar x161] 43]) #[false, false, false, false, false, false, false, false, false, false, false, false, false, false, false, false, false, false, false, false, false, false, false, false] mixed rfl rfl hM ?_; intro w hf hM; clear hf
                      refine h_val 0 #[true, false, false, false, false, false, false, false, false, false, false, false, false, false, false, false, false, false, false, false, false, false, false, false] rfl (by kernel_rfl) hF rfl rfl rfl (fun w hS => e_move hF rfl) (hM.pick [0, 1] rfl rfl) ?_; intro a hF
                      refine h_val 1 #[true, true, false, false, false, false, false, false, false, false, false, false, false, false, false, false, false, false, false, false, false, false, false, false] rfl (by kernel_rfl) hF rfl rfl rfl (fun w hS => e_move hF rfl) (hM.pick [0, 1] rfl rfl) ?_; intro a hF
                      refine h_val 2 #[true, true, true, false, false, false, false, false, false, false, false, false, false, false, false, false, false, false, false, false, false, false, false, false] rfl (by kernel_rfl) hF rfl rfl rfl (fun w hS => e_move hF rfl) (hM.pick [0, 1] rfl rfl) ?_; intro a hF
                      refine h_val 3 #[true, true, true, true, false, false, false, false, false, false, false, false, false, false, false, false, false, false, false, false, false, false, false, false] rfl (by kernel_rfl) hF rfl rfl rfl (fun w hS => e_move hF rfl) (hM.pick [0, 1] rfl rfl) ?_; intro a hF
                      have f235 := (q0.frm hM.frm).toF
                      refine h_val 4 #[true, true, true, true, true, false, false, false, false, false, false, false, false, false, false, false, false, false, false, false, false, false, false, false] rfl (by kernel_rfl) hF rfl rfl rfl (fun w hS => e_ias cd31 hF rfl rfl f235 Try.underlying22 Try.sizeOf31 c232.1 c232.2) (hM.pick [0, 1] rfl rfl) ?_; intro a hF
                      refine h_val 5 #[true, true, true, true, true, true, false, false, false, false, false, false, false, false, false, false, false, false, false, false, false, false, false, false] rfl (by kernel_rfl) hF rfl rfl rfl (fun w hS => e_ia hF rfl rfl Try.underlying31 Try.sizeOf3 c233.1 c233.2) (hM.pick [0, 1] rfl rfl) ?_; intro a hF
                      refine h_val 6 #[true, true, true, true, true, true, true, false, false, false, false, false, false, false, false, false, false, false, false, false, false, false, false, false] rfl (by kernel_rfl) hF rfl rfl rfl (fun w hS => e_ldsi (m := x160) (p := x227) (o := 0) (k := 0) hF rfl (q0.frm hS.frm) (getD_some (z := (Ar.zero 6)) c232.1 c232.2) rfl rfl Try.isAgg3 c233.1 c233.2) (hM.pick [0, 1] rfl rfl) ?_; intro a hF
                      refine h_val 7 #[true, true, true, true, true, true, true, true, false, false, false, false, false, false, false, false, false, false, false, false, false, false, false, false] rfl (by kernel_rfl) hF rfl rfl rfl (fun w hS => e_add hF rfl rfl) (hM.pick [0, 1] rfl rfl) ?_; intro a hF
                      refine h_val 8 #[true, true, true, true, true, true, true, true, true, false, false, false, false, false, false, false, false, false, false, false, false, false, false, false] rfl (by kernel_rfl) hF rfl rfl rfl (fun w hS => e_move hF rfl) (hM.pick [0, 1] rfl rfl) ?_; intro a hF
                      refine h_val 9 #[true, true, true, true, true, true, true, true, true, true, false, false, false, false, false, false, false, false, false, false, false, false, false, false] rfl (by kernel_rfl) hF rfl rfl rfl (fun w hS => e_move hF rfl) (hM.pick [0, 1] rfl rfl) ?_; intro a hF
                      refine h_val 10 #[true, true, true, true, true, true, true, true, true, true, true, false, false, false, false, false, false, false, false, false, false, false, false, false] rfl (by kernel_rfl) hF rfl rfl rfl (fun w hS => e_move hF rfl) (hM.pick [0, 1] rfl rfl) ?_; intro a hF
                      refine h_val 11 #[true, true, true, true, true, true, true, true, true, true, true, true, false, false, false, false, false, false, false, false, false, false, false, false] rfl (by kernel_rfl) hF rfl rfl rfl (fun w hS => e_move hF rfl) (hM.pick [0, 1] rfl rfl) ?_; intro a hF
                      have f236 := (q0.frm hM.frm).toF
                      refine h_val 12 #[true, true, true, true, true, true, true, true, true, true, true, true, true, false, false, false, false, false, false, false, false, false, false, false] rfl (by kernel_rfl) hF rfl rfl rfl (fun w hS => e_ias cd31 hF rfl rfl f236 Try.underlying22 Try.sizeOf31 c232.1 c232.2) (hM.pick [0, 1] rfl rfl) ?_; intro a hF
                      refine h_val 13 #[true, true, true, true, true, true, true, true, true, true, true, true, true, true, false, false, false, false, false, false, false, false, false, false] rfl (by kernel_rfl) hF rfl rfl rfl (fun w hS => e_ia hF rfl rfl Try.underlying31 Try.sizeOf3 c233.1 c233.2) (hM.pick [0, 1] rfl rfl) ?_; intro a hF
                      refine h_val 14 #[true, true, true, true, true, true, true, true, true, true, true, true, true, true, true, false, false, false, false, false, false, false, false, false] rfl (by kernel_rfl) hF rfl rfl rfl (fun w hS => e_ldsi (m := x160) (p := x227) (o := 0) (k := 0) hF rfl (q0.frm hS.frm) (getD_some (z := (Ar.zero 6)) c232.1 c232.2) rfl rfl Try.isAgg3 c233.1 c233.2) (hM.pick [0, 1] rfl rfl) ?_; intro a hF
                      refine h_val 15 #[true, true, true, true, true, true, true, true, true, true, true, true, true, true, true, true, false, false, false, false, false, false, false, false] rfl (by kernel_rfl) hF rfl rfl rfl (fun w hS => e_add hF rfl rfl) (hM.pick [0, 1] rfl rfl) ?_; intro a hF
                      refine h_val 16 #[true, true, true, true, true, true, true, true, true, true, true, true, true, true, true, true, true, false, false, false, false, false, false, false] rfl (by kernel_rfl) hF rfl rfl rfl (fun w hS => e_ia hF rfl rfl Try.underlying43 Try.sizeOf3 c234.1 c234.2) (hM.pick [0, 1] rfl rfl) ?_; intro a hF
                      refine h_val 18 #[true, true, true, true, true, true, true, true, true, true, true, true, true, true, true, true, true, false, true, false, false, false, false, false] rfl (by kernel_rfl) hF rfl rfl rfl (fun w hS => e_move hF rfl) (hM.pick [0, 1] rfl rfl) ?_; intro a hF
                      refine h_val 19 #[true, true, true, true, true, true, true, true, true, true, true, true, true, true, true, true, true, false, true, true, false, false, false, false] rfl (by kernel_rfl) hF rfl rfl rfl (fun w hS => e_ia hF rfl rfl Try.underlying43 Try.sizeOf3 c230.1 c230.2) (hM.pick [0, 1] rfl rfl) ?_; intro a hF
                      refine h_val 20 #[true, true, true, true, true, true, true, true, true, true, true, true, true, true, true, true, true, false, true, true, true, false, false, false] rfl (by kernel_rfl) hF rfl rfl rfl (fun w hS => e_ldi (i := 1) (k := 0) hF hS rfl rfl rfl rfl rfl Try.isAgg3 c230.1 c230.2) (hM.pick [0, 1] rfl rfl) ?_; intro a hF
                      refine h_one 17 #[true, true, true, true, true, true, true, true, true, true, true, true, true, true, true, true, true, true, true, true, true, false, false, false] rfl (by kernel_rfl) ?_
                      refine s_val hF rfl rfl rfl (e_ldi (i := 2) (k := 0) hF hM rfl rfl rfl rfl rfl Try.isAgg3 c234.1 c234.2) ?_; intro a hF
                      refine s_nil ⟨rfl, (hM.pick [0, 1] rfl rfl), ?_⟩
                      refine h_val 21 #[true, true, true, true, true, true, true, true, true, true, true, true, true, true, true, true, true, true, true, true, true, true, false, false] rfl (by kernel_rfl) hF rfl rfl rfl (fun w hS => e_add hF rfl rfl) (hM.pick [0, 1] rfl rfl) ?_; intro a hF
                      refine h_val 22 #[true, true, true, true, true, true, true, true, true, true, true, true, true, true, true, true, true, true, true, true, true, true, true, false] rfl (by kernel_rfl) hF rfl rfl rfl (fun w hS => e_ia hF rfl rfl Try.underlying43 Try.sizeOf3 c234.1 c234.2) (hM.pick [0, 1] rfl rfl) ?_; intro a hF
                      refine h_one 23 #[true, true, true, true, true, true, true, true, true, true, true, true, true, true, true, true, true, true, true, true, true, true, true, true] rfl (by kernel_rfl) ?_
                      refine s_sti (i := 2) (k := 0) hF hM rfl rfl rfl rfl rfl rfl rfl Try.sizeOf3 c234.1 c234.2 ?_; intro a w hF hM
                      refine s_nil ⟨rfl, (hM.pick [0, 1] rfl rfl), ?_⟩
                      refine h_done rfl ?_
                      refine blk_n ?_
                      refine then_n ?_
                      refine s_region ?_
                      refine s_val hF rfl rfl rfl (e_move hF rfl) ?_; intro a hF
                      refine s_val hF rfl rfl rfl (e_add hF rfl rfl) ?_; intro a hF
                      refine s_val hF rfl rfl rfl (e_assign hF rfl) ?_; intro a hF
                      refine s_nil ?_
                      refine then_n ?_
                      exact ⟨(wrap64 (x227 + 1)), (x228.set (wrap64 (x211 + ((l0.getD (x160 : Int).toNat (Ar.zero 6)).get x227))) (wrap64 ((x228.get (wrap64 (x211 + ((l0.getD (x160 : Int).toNat (Ar.zero 6)).get x227)))) + (x161.get x211)))), H, hF.sub _ ⟨rfl, rfl, rfl, rfl, rfl, rfl, rfl, trivial⟩, hM.pick [0, 1, 2] rfl rfl⟩
                    ·
                      refine s_cond_f hF rfl (decide_eq_false c231) ?_
                      refine wp_skip ?_
                      refine blk_n ?_
                      refine then_n ?_
                      refine s_region ?_
                      refine s_val hF rfl rfl rfl (e_move hF rfl) ?_; intro a hF
                      refine s_val hF rfl rfl rfl (e_add hF rfl rfl) ?_; intro a hF
                      refine s_val hF rfl rfl rfl (e_assign hF rfl) ?_; intro a hF
                      refine s_nil ?_
                      refine then_n ?_
                      exact ⟨(wrap64 (x227 + 1)), x228, H, hF.sub _ ⟨rfl, rfl, rfl, rfl, rfl, rfl, rfl, trivial⟩, hM.pick [0, 1, 2] rfl rfl⟩
                  ·
                    refine s_cond_f hF rfl (decide_eq_false c229) ?_
                    refine wp_exit ?_
                    refine then_x ?_
                    refine then_x ?_
                    exact ⟨rfl, x228, some_some H, hF.sub _ ⟨rfl, rfl, rfl, rfl, rfl, rfl, trivial⟩, hM.pick [0, 1, 2] rfl rfl⟩
              · rintro e a w ⟨rfl, x226, rfl, hF, hM⟩
                skip
                refine blk_x ?_
                refine blk_n ?_
                refine then_n ?_
                refine s_region ?_
                refine s_val hF rfl rfl rfl (e_move hF rfl) ?_; intro a hF
                refine s_val hF rfl rfl rfl (e_add hF rfl rfl) ?_; intro a hF
                refine s_val hF rfl rfl rfl (e_assign hF rfl) ?_; intro a hF
                refine s_nil ?_
                refine then_n ?_
                exact ⟨(wrap64 (x211 + 1)), x226, H, hF.sub _ ⟨rfl, rfl, rfl, rfl, rfl, rfl, trivial⟩, hM.pick [0, 1, 2] rfl rfl⟩
            ·
              refine s_cond_f hF rfl (decide_eq_false c213) ?_
              refine wp_exit ?_
              refine then_x ?_
              refine then_x ?_
              exact ⟨rfl, x212, some_some H, hF.sub _ ⟨rfl, rfl, rfl, rfl, rfl, trivial⟩, hM.pick [0, 1, 2] rfl rfl⟩
        · rintro e a w ⟨rfl, x210, rfl, hF, hM⟩
          skip
          refine blk_x ?_
          refine then_n ?_
          refine s_region ?_
          refine s_val hF rfl rfl rfl (e_lda (i := 2) 0 1 hF hM rfl rfl rfl rfl Try.isAgg43 Try.sizeOf43 rfl) ?_; intro a hF
          refine s_stw (i := 1) (ps' := [Pt.ar x210]) hF hM rfl rfl rfl rfl rfl rfl Try.sizeOf43 rfl ?_; intro a w hF hM
          refine s_nil ?_
          refine blk_n ?_
          refine then_n ?_
          refine s_region ?_
          refine s_val hF rfl rfl rfl (e_move hF rfl) ?_; intro a hF
          refine s_val hF rfl rfl rfl (e_add hF rfl rfl) ?_; intro a hF
          refine s_val hF rfl rfl rfl (e_assign hF rfl) ?_; intro a hF
          refine s_nil ?_
          refine then_n ?_
          exact ⟨(wrap64 (x160 + 1)), x210, H, hF.sub _ ⟨rfl, rfl, rfl, rfl, trivial⟩, hM.pick [0, 1] rfl rfl⟩
      ·
        refine s_cond_f hF rfl (decide_eq_false c162) ?_
        refine wp_exit ?_
        refine then_x ?_
        refine then_x ?_
        exact ⟨rfl, x161, some_some H, hF.sub _ ⟨rfl, rfl, trivial⟩, hM.pick [0, 1] rfl rfl⟩
  · rintro e a w ⟨rfl, x159, rfl, hF, hM⟩
    skip
    refine blk_x ?_
    refine then_n ?_
    refine wp_seq ?_
    refine s_region ?_
    refine s_val hF rfl rfl rfl (e_lda (i := 1) 0 1 hF hM rfl rfl rfl rfl Try.isAgg43 Try.sizeOf43 rfl) ?_; intro a hF
    refine s_stw (i := 0) (ps' := [Pt.ar x159]) hF hM rfl rfl rfl rfl rfl rfl Try.sizeOf43 rfl ?_; intro a w hF hM
    refine s_nil ?_
    refine then_n ?_
    refine wp_ret ?_
    obtain rfl := some_some H
    refine s_ret [ag [Pt.ar x159]] hF Try.results29 ⟨⟨_, rfl, rv_box hM (i := 0) rfl Try.isAgg43 Try.sizeOf43 rfl⟩, trivial⟩ ?_
    exact ⟨_, rfl, hM.frm, rfl⟩

/-! ### loop.example/g01210/spec.l5Array: function 68 -/
def spec_l5Array.f (K : Nat) (l0 : (List Int)) : Option (Ar 6) := if (0 : Int) ≤ 0 ∧ 0 < (l0.length : Int) then (if (0 : Int) ≤ 1 ∧ 1 < (l0.length : Int) then (if (0 : Int) ≤ 2 ∧ 2 < (l0.length : Int) then (if (0 : Int) ≤ 3 ∧ 3 < (l0.length : Int) then (if (0 : Int) ≤ 4 ∧ 4 < (l0.length : Int) then (if (0 : Int) ≤ 5 ∧ 5 < (l0.length : Int) then (some (⟨[(l0.getD (0 : Int).toNat (0 : Int)), (l0.getD (1 : Int).toNat (0 : Int)), (l0.getD (2 : Int).toNat (0 : Int)), (l0.getD (3 : Int).toNat (0 : Int)), (l0.getD (4 : Int).toNat (0 : Int)), (l0.getD (5 : Int).toNat (0 : Int))], rfl⟩ : Ar 6)) else none) else none) else none) else none) else none) else none
set_option maxRecDepth 100000 in
set_option maxHeartbeats 4000000 in
theorem spec_l5Array.calls {w0 : World} (K : Nat) (l0 : (List Int)) (u0 : Value) (q0 : SlR cd3 w0 u0 l0) (r : (Ar 6)) (H : spec_l5Array.f K l0 = some r) : Calls Try.prog 68 [u0].toArray w0 (Post w0 fun w v => v = ag [Pt.ar r]) := by
  rw [spec_l5Array.f] at H
  refine s_start Try.func68 rfl Try.ntmps68 rfl ?_
  intro a hF
  have hM := Ms.start w0
  skip
  refine wp_seq ?_
  refine s_region ?_
  refine s_alloc (ps := [Pt.ar (Ar.zero 6)]) hF hM rfl rfl zv31 rfl ?_; intro a w b1 hF hM
  refine s_nil ?_
  refine then_n ?_
  refine wp_seq ?_
  obtain ⟨c2, H⟩ := ite_some H
  obtain ⟨c3, H⟩ := ite_some H
  obtain ⟨c4, H⟩ := ite_some H
  obtain ⟨c5, H⟩ := ite_some H
  obtain ⟨c6, H⟩ := ite_some H
  obtain ⟨c7, H⟩ := ite_some H
  refine s_held (fun w => Ms [] w0 w []) #[false, false, false, false, false, false, false, false, false, false, false, false, false, false, false, false, false, false, false, false] mixed rfl rfl hM ?_; intro w hf hM; clear hf
  refine h_val 0 #[true, false, false, false, false, false, false, false, false, false, false, false, false, false, false, false, false, false, false, false] rfl (by kernel_rfl) hF rfl rfl rfl (fun w hS => e_move hF rfl) (hM.pick [] rfl rfl) ?_; intro a hF
  have f8 := (q0.frm hM.frm).toF
  refine h_val 1 #[true, true, false, false, false, false, false, false, false, false, false, false, false, false, false, false, false, false, false, false] rfl (by kernel_rfl) hF rfl rfl rfl (fun w hS => e_ias cd3 hF rfl rfl f8 Try.underlying59 Try.sizeOf3 c2.1 c2.2) (hM.pick [] rfl rfl) ?_; intro a hF
  refine h_val 2 #[true, true, true, false, false, false, false, false, false, false, false, false, false, false, false, false, false, false, false, false] rfl (by kernel_rfl) hF rfl rfl rfl (fun w hS => e_lds (m := 0) hF rfl (q0.frm hS.frm) (getD_some (z := (0 : Int)) c2.1 c2.2) rfl rfl Try.isAgg3) (hM.pick [] rfl rfl) ?_; intro a hF
  refine h_val 3 #[true, true, true, true, false, false, false, false, false, false, false, false, false, false, false, false, false, false, false, false] rfl (by kernel_rfl) hF rfl rfl rfl (fun w hS => e_move hF rfl) (hM.pick [] rfl rfl) ?_; intro a hF
  have f9 := (q0.frm hM.frm).toF
  refine h_val 4 #[true, true, true, true, true, false, false, false, false, false, false, false, false, false, false, false, false, false, false, false] rfl (by kernel_rfl) hF rfl rfl rfl (fun w hS => e_ias cd3 hF rfl rfl f9 Try.underlying59 Try.sizeOf3 c3.1 c3.2) (hM.pick [] rfl rfl) ?_; intro a hF
  refine h_val 5 #[true, true, true, true, true, true, false, false, false, false, false, false, false, false, false, false, false, false, false, false] rfl (by kernel_rfl) hF rfl rfl rfl (fun w hS => e_lds (m := 1) hF rfl (q0.frm hS.frm) (getD_some (z := (0 : Int)) c3.1 c3.2) rfl rfl Try.isAgg3) (hM.pick [] rfl rfl) ?_; intro a hF
  refine h_val 6 #[true, true, true, true, true, true, true, false, false, false, false, false, false, false, false, false, false, false, false, false] rfl (by kernel_rfl) hF rfl rfl rfl (fun w hS => e_move hF rfl) (hM.pick [] rfl rfl) ?_; intro a hF
  have f10 := (q0.frm hM.frm).toF
  refine h_val 7 #[true, true, true, true, true, true, true, true, false, false, false, false, false, false, false, false, false, false, false, false] rfl (by kernel_rfl) hF rfl rfl rfl (fun w hS => e_ias cd3 hF rfl rfl f10 Try.underlying59 Try.sizeOf3 c4.1 c4.2) (hM.pick [] rfl rfl) ?_; intro a hF
  refine h_val 8 #[true, true, true, true, true, true, true, true, true, false, false, false, false, false, false, false, false, false, false, false] rfl (by kernel_rfl) hF rfl rfl rfl (fun w hS => e_lds (m := 2) hF rfl (q0.frm hS.frm) (getD_some (z := (0 : Int)) c4.1 c4.2) rfl rfl Try.isAgg3) (hM.pick [] rfl rfl) ?_; intro a hF
  refine h_val 9 #[true, true, true, true, true, true, true, true, true, true, false, false, false, false, false, false, false, false, false, false] rfl (by kernel_rfl) hF rfl rfl rfl (fun w hS => e_move hF rfl) (hM.pick [] rfl rfl) ?_; intro a hF
  have f11 := (q0.frm hM.frm).toF
  refine h_val 10 #[true, true, true, true, true, true, true, true, true, true, true, false, false, false, false, false, false, false, false, false] rfl (by kernel_rfl) hF rfl rfl rfl (fun w hS => e_ias cd3 hF rfl rfl f11 Try.underlying59 Try.sizeOf3 c5.1 c5.2) (hM.pick [] rfl rfl) ?_; intro a hF
  refine h_val 11 #[true, true, true, true, true, true, true, true, true, true, true, true, false, false, false, false, false, false, false, false] rfl (by kernel_rfl) hF rfl rfl rfl (fun w hS => e_lds (m := 3) hF rfl (q0.frm hS.frm) (getD_some (z := (0 : Int)) c5.1 c5.2) rfl rfl Try.isAgg3) (hM.pick [] rfl rfl) ?_; intro a hF
  refine h_val 12 #[true, true, true, true, true, true, true, true, true, true, true, true, true, false, false, false, false, false, false, false] rfl (by kernel_rfl) hF rfl rfl rfl (fun w hS => e_move hF rfl) (hM.pick [] rfl rfl) ?_; intro a hF
  have f12 := (q0.frm hM.frm).toF
  refine h_val 13 #[true, true, true, true, true, true, true, true, true, true, true, true, true, true, false, false, false, false, false, false] rfl (by kernel_rfl) hF rfl rfl rfl (fun w hS => e_ias cd3 hF rfl rfl f12 Try.underlying59 Try.sizeOf3 c6.1 c6.2) (hM.pick [] rfl rfl) ?_; intro a hF
  refine h_val 14 #[true, true, true, true, true, true, true, true, true, true, true, true, true, true, true, false, false, false, false, false] rfl (by kernel_rfl) hF rfl rfl rfl (fun w hS => e_lds (m := 4) hF rfl (q0.frm hS.frm) (getD_some (z := (0 : Int)) c6.1 c6.2) rfl rfl Try.isAgg3) (hM.pick [] rfl rfl) ?_; intro a hF
  refine h_val 15 #[true, true, true, true, true, true, true, true, true, true, true, true, true, true, true, true, false, false, false, false] rfl (by kernel_rfl) hF rfl rfl rfl (fun w hS => e_move hF rfl) (hM.pick [] rfl rfl) ?_; intro a hF
  have f13 := (q0.frm hM.frm).toF
  refine h_val 16 #[true, true, true, true, true, true, true, true, true, true, true, true, true, true, true, true, true, false, false, false] rfl (by kernel_rfl) hF rfl rfl rfl (fun w hS => e_ias cd3 hF rfl rfl f13 Try.underlying59 Try.sizeOf3 c7.1 c7.2) (hM.pick [] rfl rfl) ?_; intro a hF
  refine h_val 17 #[true, true, true, true, true, true, true, true, true, true, true, true, true, true, true, true, true, true, false, false] rfl (by kernel_rfl) hF rfl rfl rfl (fun w hS => e_lds (m := 5) hF rfl (q0.frm hS.frm) (getD_some (z := (0 : Int)) c7.1 c7.2) rfl rfl Try.isAgg3) (hM.pick [] rfl rfl) ?_; intro a hF
  refine h_val 18 #[true, true, true, true, true, true, true, true, true, true, true, true, true, true, true, true, true, true, true, false] rfl (by kernel_rfl) hF rfl rfl rfl (fun w hS => e_build' (cells := cat [Pt.ar (⟨[(l0.getD (0 : Int).toNat (0 : Int)), (l0.getD (1 : Int).toNat (0 : Int)), (l0.getD (2 : Int).toNat (0 : Int)), (l0.getD (3 : Int).toNat (0 : Int)), (l0.getD (4 : Int).toNat (0 : Int)), (l0.getD (5 : Int).toNat (0 : Int))], rfl⟩ : Ar 6)]) hF rfl (by kernel_rfl)) (hM.pick [] rfl rfl) ?_; intro a hF
  refine h_one 19 #[true, true, true, true, true, true, true, true, true, true, true, true, true, true, true, true, true, true, true, true] rfl (by kernel_rfl) ?_
  refine s_stw (i := 0) (ps' := [Pt.ar (⟨[(l0.getD (0 : Int).toNat (0 : Int)), (l0.getD (1 : Int).toNat (0 : Int)), (l0.getD (2 : Int).toNat (0 : Int)), (l0.getD (3 : Int).toNat (0 : Int)), (l0.getD (4 : Int).toNat (0 : Int)), (l0.getD (5 : Int).toNat (0 : Int))], rfl⟩ : Ar 6)]) hF hM rfl rfl rfl rfl rfl rfl Try.sizeOf31 rfl ?_; intro a w hF hM
  refine s_nil ⟨rfl, (hM.pick [] rfl rfl), ?_⟩
  refine h_done rfl ?_
  refine then_n ?_
  refine wp_ret ?_
  obtain rfl := some_some H
  refine s_ret [ag [Pt.ar (⟨[(l0.getD (0 : Int).toNat (0 : Int)), (l0.getD (1 : Int).toNat (0 : Int)), (l0.getD (2 : Int).toNat (0 : Int)), (l0.getD (3 : Int).toNat (0 : Int)), (l0.getD (4 : Int).toNat (0 : Int)), (l0.getD (5 : Int).toNat (0 : Int))], rfl⟩ : Ar 6)]] hF Try.results68 ⟨⟨_, rfl, rv_box hM (i := 0) rfl Try.isAgg31 Try.sizeOf31 rfl⟩, trivial⟩ ?_
  exact ⟨_, rfl, hM.frm, rfl⟩

/-! ### loop.example/g01210/spec.l2Before: function 61 -/
def spec_l2Before.l0 (K : Nat) (a0 : (Ar 6)) (a1 : (Ar 6)) : Nat → Int → Option (Sum Unit Bool)
  | 0, _ => none
  | k + 1, x8 => if x8 < 6 then (if (0 : Int) ≤ x8 ∧ x8 < 6 then (if (a0.get x8) = (a1.get x8) then (spec_l2Before.l0 K a0 a1 k (wrap64 (x8 + 1))) else (some (Sum.inr (decide ((a0.get x8) < (a1.get x8)))))) else none) else (some (Sum.inl ()))
def spec_l2Before.f (K : Nat) (a0 : (Ar 6)) (a1 : (Ar 6)) : Option Bool := (spec_l2Before.l0 K a0 a1 K 0).bind fun o12 => (match o12 with | .inl () => some false | .inr r14 => some r14)
set_option maxRecDepth 100000 in
set_option maxHeartbeats 4000000 in
theorem spec_l2Before.calls {w0 : World} (K : Nat) (a0 : (Ar 6)) (a1 : (Ar 6)) (r : Bool) (H : spec_l2Before.f K a0 a1 = some r) : Calls Try.prog 61 [ag [Pt.ar a0], ag [Pt.ar a1]].toArray w0 (Post w0 fun w v => v = Value.bool r) := by
  rw [spec_l2Before.f] at H
  refine s_start Try.func61 rfl Try.ntmps61 rfl ?_
  intro a hF
  have hM := Ms.start w0
  skip
  refine wp_seq ?_
  refine s_region ?_
  refine s_box (ps := [Pt.ar a0]) hF hM rfl rfl rfl rfl ?_; intro a w b1 hF hM
  refine s_box (ps := [Pt.ar a1]) hF hM rfl rfl rfl rfl ?_; intro a w b2 hF hM
  refine s_val hF rfl rfl rfl (e_assign hF rfl) ?_; intro a hF
  refine s_nil ?_
  refine then_n ?_
  refine wp_seq ?_
  refine wp_seq ?_
  refine s_region ?_
  refine s_val hF rfl rfl rfl (e_assign hF rfl) ?_; intro a hF
  refine s_nil ?_
  refine then_n ?_
  refine wp_block ?_
  obtain ⟨o12, h13, H⟩ := bind_some H
  refine wp_mono (Q := fun e a w => (e = Exit.exit 0 ∧ Sum.inl () = o12 ∧ Fr 24 a [] ∧ Ms [] w0 w []) ∨ (e = Exit.ret ∧ ∃ r14 : Bool, Sum.inr r14 = o12 ∧ Fr 24 a [(4, Value.bool r14)] ∧ Ms [] w0 w [])) ?_ ?_
  · refine s_loop (fun kq a w => ∃ x8 : Int, spec_l2Before.l0 K a0 a1 kq x8 = some o12 ∧ Fr 24 a [(2, pt b1 0), (3, pt b2 0), (5, Value.int .i64 x8)] ∧ Ms [] w0 w [boxR b1 [Pt.ar a0] 31, boxR b2 [Pt.ar a1] 31]) K ⟨0, h13, hF.sub _ ⟨rfl, rfl, rfl, trivial⟩, hM.pick [1, 0] rfl rfl⟩ ?_ ?_
    · rintro a w ⟨_, H, _⟩; exact none_some H
    · rintro k a w ⟨x8, H, hF, hM⟩; rw [spec_l2Before.l0] at H
      refine wp_seq ?_
      refine wp_seq ?_
      refine s_region ?_
      refine s_val hF rfl rfl rfl (e_move hF rfl) ?_; intro a hF
      refine s_val hF rfl rfl rfl (e_lss hF rfl rfl) ?_; intro a hF
      refine s_nil ?_
      refine then_n ?_
      rcases ite_cases H with ⟨c9, H⟩ | ⟨c9, H⟩
      ·
        refine s_cond_t hF rfl (decide_eq_true c9) ?_
        refine wp_skip ?_
        refine then_n ?_
        refine wp_seq ?_
        refine wp_block ?_
        refine wp_seq ?_
        obtain ⟨c10, H⟩ := ite_some H
        refine s_held (fun w => Ms [] w0 w [boxR b1 [Pt.ar a0] 31, boxR b2 [Pt.ar a1] 31]) #[false, false, false, false, false, false, false] mixed rfl rfl hM ?_; intro w hf hM; clear hf
        refine h_val 0 #[true, false, false, false, false, false, false] rfl (by kernel_rfl) hF rfl rfl rfl (fun w hS => e_move hF rfl) (hM.pick [0, 1] rfl rfl) ?_; intro a hF
        refine h_val 1 #[true, true, false, false, false, false, false] rfl (by kernel_rfl) hF rfl rfl rfl (fun w hS => e_ia hF rfl rfl Try.underlying31 Try.sizeOf3 c10.1 c10.2) (hM.pick [0, 1] rfl rfl) ?_; intro a hF
        refine h_val 2 #[true, true, true, false, false, false, false] rfl (by kernel_rfl) hF rfl rfl rfl (fun w hS => e_ldi (i := 0) (k := 0) hF hS rfl rfl rfl rfl rfl Try.isAgg3 c10.1 c10.2) (hM.pick [0, 1] rfl rfl) ?_; intro a hF
        refine h_val 3 #[true, true, true, true, false, false, false] rfl (by kernel_rfl) hF rfl rfl rfl (fun w hS => e_move hF rfl) (hM.pick [0, 1] rfl rfl) ?_; intro a hF
        refine h_val 4 #[true, true, true, true, true, false, false] rfl (by kernel_rfl) hF rfl rfl rfl (fun w hS => e_ia hF rfl rfl Try.underlying31 Try.sizeOf3 c10.1 c10.2) (hM.pick [0, 1] rfl rfl) ?_; intro a hF
        refine h_val 5 #[true, true, true, true, true, true, false] rfl (by kernel_rfl) hF rfl rfl rfl (fun w hS => e_ldi (i := 1) (k := 0) hF hS rfl rfl rfl rfl rfl Try.isAgg3 c10.1 c10.2) (hM.pick [0, 1] rfl rfl) ?_; intro a hF
        refine h_val 6 #[true, true, true, true, true, true, true] rfl (by kernel_rfl) hF rfl rfl rfl (fun w hS => e_neq hF rfl rfl) (hM.pick [0, 1] rfl rfl) ?_; intro a hF
        refine h_done rfl ?_
        refine then_n ?_
        rcases ite_cases H with ⟨c11, H⟩ | ⟨c11, H⟩
        ·
          refine s_cond_f hF rfl (congrArg Bool.not (decide_eq_true c11)) ?_
          refine wp_skip ?_
          refine blk_n ?_
          refine then_n ?_
          refine s_region ?_
          refine s_val hF rfl rfl rfl (e_move hF rfl) ?_; intro a hF
          refine s_val hF rfl rfl rfl (e_add hF rfl rfl) ?_; intro a hF
          refine s_val hF rfl rfl rfl (e_assign hF rfl) ?_; intro a hF
          refine s_nil ?_
          refine then_n ?_
          exact ⟨(wrap64 (x8 + 1)), H, hF.sub _ ⟨rfl, rfl, rfl, trivial⟩, hM.pick [0, 1] rfl rfl⟩
        ·
          refine s_cond_t hF rfl (congrArg Bool.not (decide_eq_false c11)) ?_
          refine wp_seq ?_
          refine s_held (fun w => Ms [] w0 w [boxR b1 [Pt.ar a0] 31, boxR b2 [Pt.ar a1] 31]) #[false, false, false, false, false, false, false, false] mixed rfl rfl hM ?_; intro w hf hM; clear hf
          refine h_val 0 #[true, false, false, false, false, false, false, false] rfl (by kernel_rfl) hF rfl rfl rfl (fun w hS => e_move hF rfl) (hM.pick [0, 1] rfl rfl) ?_; intro a hF
          refine h_val 1 #[true, true, false, false, false, false, false, false] rfl (by kernel_rfl) hF rfl rfl rfl (fun w hS => e_ia hF rfl rfl Try.underlying31 Try.sizeOf3 c10.1 c10.2) (hM.pick [0, 1] rfl rfl) ?_; intro a hF
          refine h_val 2 #[true, true, true, false, false, false, false, false] rfl (by kernel_rfl) hF rfl rfl rfl (fun w hS => e_ldi (i := 0) (k := 0) hF hS rfl rfl rfl rfl rfl Try.isAgg3 c10.1 c10.2) (hM.pick [0, 1] rfl rfl) ?_; intro a hF
          refine h_val 3 #[true, true, true, true, false, false, false, false] rfl (by kernel_rfl) hF rfl rfl rfl (fun w hS => e_move hF rfl) (hM.pick [0, 1] rfl rfl) ?_; intro a hF
          refine h_val 4 #[true, true, true, true, true, false, false, false] rfl (by kernel_rfl) hF rfl rfl rfl (fun w hS => e_ia hF rfl rfl Try.underlying31 Try.sizeOf3 c10.1 c10.2) (hM.pick [0, 1] rfl rfl) ?_; intro a hF
          refine h_val 5 #[true, true, true, true, true, true, false, false] rfl (by kernel_rfl) hF rfl rfl rfl (fun w hS => e_ldi (i := 1) (k := 0) hF hS rfl rfl rfl rfl rfl Try.isAgg3 c10.1 c10.2) (hM.pick [0, 1] rfl rfl) ?_; intro a hF
          refine h_val 6 #[true, true, true, true, true, true, true, false] rfl (by kernel_rfl) hF rfl rfl rfl (fun w hS => e_lss hF rfl rfl) (hM.pick [0, 1] rfl rfl) ?_; intro a hF
          refine h_val 7 #[true, true, true, true, true, true, true, true] rfl (by kernel_rfl) hF rfl rfl rfl (fun w hS => e_assign hF rfl) (hM.pick [0, 1] rfl rfl) ?_; intro a hF
          refine h_done rfl ?_
          refine then_n ?_
          refine wp_ret ?_
          refine blk_r ?_
          refine then_r ?_
          refine then_r ?_
          exact Or.inr (⟨rfl, (decide ((a0.get x8) < (a1.get x8))), some_some H, hF.sub _ ⟨rfl, trivial⟩, hM.pick [] rfl rfl⟩)
      ·
        refine s_cond_f hF rfl (decide_eq_false c9) ?_
        refine wp_exit ?_
        refine then_x ?_
        refine then_x ?_
        exact Or.inl (⟨rfl, some_some H, hF.sub _ trivial, hM.pick [] rfl rfl⟩)
  · rintro e a w (⟨rfl, rfl, hF, hM⟩ | ⟨rfl, r14, rfl, hF, hM⟩)
    ·
      dsimp only at H
      refine blk_x ?_
      refine then_n ?_
      refine wp_seq ?_
      refine s_region ?_
      refine s_val hF rfl rfl rfl (e_assign hF rfl) ?_; intro a hF
      refine s_nil ?_
      refine then_n ?_
      refine wp_ret ?_
      obtain rfl := some_some H
      refine s_ret [Value.bool false] hF Try.results61 ⟨rfl, trivial⟩ ?_
      exact ⟨_, rfl, hM.frm, rfl⟩
    ·
      dsimp only at H
      refine blk_r ?_
      refine then_r ?_
      obtain rfl := some_some H
      refine s_ret [Value.bool r14] hF Try.results61 ⟨rfl, trivial⟩ ?_
      exact ⟨_, rfl, hM.frm, rfl⟩

/-! ### loop.example/g01210/spec.l5Pair: function 44 -/
def spec_l5Pair.f (K : Nat) (a0 : (Ar 6)) (a1 : (Ar 6)) : Option ((Ar 6) × (Ar 6)) := (spec_l2Before.f K a1 a0).bind fun t4 => if t4 = true then (some ((a1, a0).1, (a1, a0).2)) else (some ((a0, a1).1, (a0, a1).2))
set_option maxRecDepth 100000 in
set_option maxHeartbeats 4000000 in
theorem spec_l5Pair.calls {w0 : World} (K : Nat) (a0 : (Ar 6)) (a1 : (Ar 6)) (r : ((Ar 6) × (Ar 6))) (H : spec_l5Pair.f K a0 a1 = some r) : Calls Try.prog 44 [ag [Pt.ar a0], ag [Pt.ar a1]].toArray w0 (Post w0 fun w v => v = ag [Pt.ar r.1, Pt.ar r.2]) := by
  rw [spec_l5Pair.f] at H
  refine s_start Try.func44 rfl Try.ntmps44 rfl ?_
  intro a hF
  have hM := Ms.start w0
  skip
  refine wp_seq ?_
  refine s_region ?_
  refine s_box (ps := [Pt.ar a0]) hF hM rfl rfl rfl rfl ?_; intro a w b1 hF hM
  refine s_box (ps := [Pt.ar a1]) hF hM rfl rfl rfl rfl ?_; intro a w b2 hF hM
  refine s_alloc (ps := [Pt.ar (((Ar.zero 6), (Ar.zero 6)).1), Pt.ar (((Ar.zero 6), (Ar.zero 6)).2)]) hF hM rfl rfl zv50 rfl ?_; intro a w b3 hF hM
  refine s_nil ?_
  refine then_n ?_
  refine wp_seq ?_
  refine wp_seq ?_
  obtain ⟨t4, h5, H⟩ := bind_some H
  refine s_region ?_
  refine s_val hF rfl rfl rfl (e_lda (i := 1) 0 1 hF hM rfl rfl rfl rfl Try.isAgg31 Try.sizeOf31 rfl) ?_; intro a hF
  refine s_val hF rfl rfl rfl (e_lda (i := 2) 0 1 hF hM rfl rfl rfl rfl Try.isAgg31 Try.sizeOf31 rfl) ?_; intro a hF
  refine s_call hF rfl rfl rfl Try.call61 (spec_l2Before.calls K a1 a0 t4 h5) ?_; intro a w v hF hf hR
  subst hR; have hM := hM.grow hf
  refine s_nil ?_
  refine then_n ?_
  rcases ite_cases H with ⟨c6, H⟩ | ⟨c6, H⟩
  ·
    refine s_cond_t hF rfl c6 ?_
    refine wp_seq ?_
    refine s_region ?_
    refine s_val hF rfl rfl rfl (e_lda (i := 1) 0 1 hF hM rfl rfl rfl rfl Try.isAgg31 Try.sizeOf31 rfl) ?_; intro a hF
    refine s_val hF rfl rfl rfl (e_lda (i := 2) 0 1 hF hM rfl rfl rfl rfl Try.isAgg31 Try.sizeOf31 rfl) ?_; intro a hF
    refine s_val hF rfl rfl rfl (e_build' hF rfl (bld50 a1 a0)) ?_; intro a hF
    refine s_stw (i := 0) (ps' := [Pt.ar ((a1, a0).1), Pt.ar ((a1, a0).2)]) hF hM rfl rfl rfl rfl rfl rfl Try.sizeOf50 rfl ?_; intro a w hF hM
    refine s_nil ?_
    refine then_n ?_
    refine wp_ret ?_
    refine then_r ?_
    obtain rfl := some_some H
    refine s_ret [ag [Pt.ar (((a1, a0).1, (a1, a0).2).1), Pt.ar (((a1, a0).1, (a1, a0).2).2)]] hF Try.results44 ⟨⟨_, rfl, rv_box hM (i := 0) rfl Try.isAgg50 Try.sizeOf50 rfl⟩, trivial⟩ ?_
    exact ⟨_, rfl, hM.frm, rfl⟩
  ·
    refine s_cond_f hF rfl (bf c6) ?_
    refine wp_skip ?_
    refine then_n ?_
    refine wp_seq ?_
    refine s_region ?_
    refine s_val hF rfl rfl rfl (e_lda (i := 2) 0 1 hF hM rfl rfl rfl rfl Try.isAgg31 Try.sizeOf31 rfl) ?_; intro a hF
    refine s_val hF rfl rfl rfl (e_lda (i := 1) 0 1 hF hM rfl rfl rfl rfl Try.isAgg31 Try.sizeOf31 rfl) ?_; intro a hF
    refine s_val hF rfl rfl rfl (e_build' hF rfl (bld50 a0 a1)) ?_; intro a hF
    refine s_stw (i := 0) (ps' := [Pt.ar ((a0, a1).1), Pt.ar ((a0, a1).2)]) hF hM rfl rfl rfl rfl rfl rfl Try.sizeOf50 rfl ?_; intro a w hF hM
    refine s_nil ?_
    refine then_n ?_
    refine wp_ret ?_
    obtain rfl := some_some H
    refine s_ret [ag [Pt.ar (((a0, a1).1, (a0, a1).2).1), Pt.ar (((a0, a1).1, (a0, a1).2).2)]] hF Try.results44 ⟨⟨_, rfl, rv_box hM (i := 0) rfl Try.isAgg50 Try.sizeOf50 rfl⟩, trivial⟩ ?_
    exact ⟨_, rfl, hM.frm, rfl⟩

/-! ### loop.example/g01210/spec.l1Own: function 69 -/
def spec_l1Own.f (K : Nat) (l0 : (List Int)) : Option (List Int) := if ([] : List Int).length + l0.length ≤ 1073741824 then (some (([] : List Int) ++ l0)) else none
set_option maxRecDepth 100000 in
set_option maxHeartbeats 4000000 in
theorem spec_l1Own.calls {w0 : World} (K : Nat) (l0 : (List Int)) (u0 : Value) (q0 : SlR cd3 w0 u0 l0) (r : (List Int)) (H : spec_l1Own.f K l0 = some r) : Calls Try.prog 69 [u0].toArray w0 (Post w0 fun w v => Fresh cd3 w0.heap.size w v r) := by
  rw [spec_l1Own.f] at H
  refine s_start Try.func69 rfl Try.ntmps69 rfl ?_
  intro a hF
  have hM := Ms.start w0
  skip
  refine wp_seq ?_
  refine s_region ?_
  refine s_val hF rfl rfl rfl (e_assign hF rfl) ?_; intro a hF
  refine s_nil ?_
  refine then_n ?_
  refine wp_seq ?_
  obtain ⟨c3, H⟩ := ite_some H
  refine s_region ?_
  refine s_bsl (C := cd3) ([] : List Int) cdok3 hF hM rfl rfl rfl rfl Try.underlying59 rfl ?_; intro a w v1 hF hM
  refine s_val hF rfl rfl rfl (e_move hF rfl) ?_; intro a hF
  refine s_append (i := 0) cdok3 hF hM rfl rfl rfl rfl rfl (q0.frm hM.frm) Try.underlying59 c3 ?_; intro a w v2 hF hM
  refine s_val hF rfl rfl rfl (e_assign hF rfl) ?_; intro a hF
  refine s_nil ?_
  refine then_n ?_
  refine wp_ret ?_
  obtain rfl := some_some H
  refine s_ret [v2] hF Try.results69 ⟨rfl, trivial⟩ ?_
  exact ⟨_, rfl, hM.frm, hM.give 0 rfl⟩

/-! ### loop.example/g01210/spec.l5Search: function 53 -/
def spec_l5Search.l3 (K : Nat) (l1 : (List Int)) (l2 : (List Int)) (x47 : Int) : Nat → Int → (Ar 121) → Option (Ar 121)
  | 0, _, _ => none
  | k + 1, x61, x62 => if x61 < (l2.length : Int) then (if (0 : Int) ≤ x47 ∧ x47 < (l1.length : Int) then (if (0 : Int) ≤ x61 ∧ x61 < (l2.length : Int) then (if (0 : Int) ≤ (wrap64 ((l1.getD (x47 : Int).toNat (0 : Int)) + (l2.getD (x61 : Int).toNat (0 : Int)))) ∧ (wrap64 ((l1.getD (x47 : Int).toNat (0 : Int)) + (l2.getD (x61 : Int).toNat (0 : Int)))) < 121 then (spec_l5Search.l3 K l1 l2 x47 k (wrap64 (x61 + 1)) (x62.set (wrap64 ((l1.getD (x47 : Int).toNat (0 : Int)) + (l2.getD (x61 : Int).toNat (0 : Int)))) (wrap64 ((x62.get (wrap64 ((l1.getD (x47 : Int).toNat (0 : Int)) + (l2.getD (x61 : Int).toNat (0 : Int))))) - 1)))) else none) else none) else none) else (some x62)
def spec_l5Search.l2 (K : Nat) (l1 : (List Int)) (l2 : (List Int)) : Nat → Int → (Ar 121) → Option (Ar 121)
  | 0, _, _ => none
  | k + 1, x47, x48 => if x47 < (l1.length : Int) then ((spec_l5Search.l3 K l1 l2 x47 K 0 x48).bind fun x60 => spec_l5Search.l2 K l1 l2 k (wrap64 (x47 + 1)) x60) else (some x48)
def spec_l5Search.l4 (K : Nat) (x46 : (Ar 121)) : Nat → Int → Int → Option (Sum Int (List ((Ar 6) × (Ar 6))))
  | 0, _, _ => none
  | k + 1, x82, x83 => if 0 ≤ x83 then (if (0 : Int) ≤ x83 ∧ x83 < 121 then (if (x46.get x83) < 0 then (some (Sum.inr ([] : List ((Ar 6) × (Ar 6))))) else (if 0 < (x46.get x83) then (spec_l5Search.l4 K x46 k x83 (wrap64 (x83 - 1))) else (spec_l5Search.l4 K x46 k x82 (wrap64 (x83 - 1))))) else none) else (some (Sum.inl x82))
def spec_l5Search.g (K : Nat) (rec : ((Ar 121) → (List Int) → (List Int) → Option (List ((Ar 6) × (Ar 6))))) (a0 : (Ar 121)) (l1 : (List Int)) (l2 : (List Int)) : Option (List ((Ar 6) × (Ar 6))) := (spec_l5Search.l2 K l1 l2 K 0 a0).bind fun x46 => (spec_l5Search.l4 K x46 K (-1) 120).bind fun o88 => (match o88 with | .inl x81 => if (l1.length : Int) = 6 then (if (l2.length : Int) = 6 then (if x81 < 0 then ((spec_l5Array.f K l1).bind fun t95 => (spec_l5Array.f K l2).bind fun t97 => (spec_l5Pair.f K t95 t97).bind fun t99 => if ([] : List ((Ar 6) × (Ar 6))).length + [t99].length ≤ 1073741824 then (some (([] : List ((Ar 6) × (Ar 6))) ++ [t99])) else none) else (some ([] : List ((Ar 6) × (Ar 6))))) else (if x81 < 0 then (some ([] : List ((Ar 6) × (Ar 6)))) else (if (0 : Int) ≤ 0 ∧ 0 < (l2.length : Int) then (if (l1.length : Int) < 6 then (if (0 : Int) ≤ (wrap64 ((l1.length : Int) - 1)) ∧ (wrap64 ((l1.length : Int) - 1)) < (l1.length : Int) then ((spec_l1In.f K (wrap64 (x81 - (l2.getD (0 : Int).toNat (0 : Int)))) (l1.getD ((wrap64 ((l1.length : Int) - 1)) : Int).toNat (0 : Int)) 30).bind fun t108 => if t108 = true then ((spec_l1Own.f K l1).bind fun t111 => if t111.length + [(wrap64 (x81 - (l2.getD (0 : Int).toNat (0 : Int))))].length ≤ 1073741824 then ((rec a0 (t111 ++ [(wrap64 (x81 - (l2.getD (0 : Int).toNat (0 : Int))))]) l2).bind fun t117 => if ([] : List ((Ar 6) × (Ar 6))).length + t117.length ≤ 1073741824 then (if (0 : Int) ≤ 0 ∧ 0 < (l1.length : Int) then (if (l2.length : Int) < 6 then (if (0 : Int) ≤ (wrap64 ((l2.length : Int) - 1)) ∧ (wrap64 ((l2.length : Int) - 1)) < (l2.length : Int) then ((spec_l1In.f K (wrap64 (x81 - (l1.getD (0 : Int).toNat (0 : Int)))) (l2.getD ((wrap64 ((l2.length : Int) - 1)) : Int).toNat (0 : Int)) 30).bind fun t125 => if t125 = true then ((spec_l1Own.f K l2).bind fun t128 => if t128.length + [(wrap64 (x81 - (l1.getD (0 : Int).toNat (0 : Int))))].length ≤ 1073741824 then ((rec a0 l1 (t128 ++ [(wrap64 (x81 - (l1.getD (0 : Int).toNat (0 : Int))))])).bind fun t134 => if (([] : List ((Ar 6) × (Ar 6))) ++ t117).length + t134.length ≤ 1073741824 then (some ((([] : List ((Ar 6) × (Ar 6))) ++ t117) ++ t134)) else none) else none) else (some (([] : List ((Ar 6) × (Ar 6))) ++ t117))) else none) else (some (([] : List ((Ar 6) × (Ar 6))) ++ t117))) else none) else none) else none) else (if (0 : Int) ≤ 0 ∧ 0 < (l1.length : Int) then (if (l2.length : Int) < 6 then (if (0 : Int) ≤ (wrap64 ((l2.length : Int) - 1)) ∧ (wrap64 ((l2.length : Int) - 1)) < (l2.length : Int) then ((spec_l1In.f K (wrap64 (x81 - (l1.getD (0 : Int).toNat (0 : Int)))) (l2.getD ((wrap64 ((l2.length : Int) - 1)) : Int).toNat (0 : Int)) 30).bind fun t142 => if t142 = true then ((spec_l1Own.f K l2).bind fun t145 => if t145.length + [(wrap64 (x81 - (l1.getD (0 : Int).toNat (0 : Int))))].length ≤ 1073741824 then ((rec a0 l1 (t145 ++ [(wrap64 (x81 - (l1.getD (0 : Int).toNat (0 : Int))))])).bind fun t151 => if ([] : List ((Ar 6) × (Ar 6))).length + t151.length ≤ 1073741824 then (some (([] : List ((Ar 6) × (Ar 6))) ++ t151)) else none) else none) else (some ([] : List ((Ar 6) × (Ar 6))))) else none) else (some ([] : List ((Ar 6) × (Ar 6))))) else none)) else none) else (if (0 : Int) ≤ 0 ∧ 0 < (l1.length : Int) then (if (l2.length : Int) < 6 then (if (0 : Int) ≤ (wrap64 ((l2.length : Int) - 1)) ∧ (wrap64 ((l2.length : Int) - 1)) < (l2.length : Int) then ((spec_l1In.f K (wrap64 (x81 - (l1.getD (0 : Int).toNat (0 : Int)))) (l2.getD ((wrap64 ((l2.length : Int) - 1)) : Int).toNat (0 : Int)) 30).bind fun t159 => if t159 = true then ((spec_l1Own.f K l2).bind fun t162 => if t162.length + [(wrap64 (x81 - (l1.getD (0 : Int).toNat (0 : Int))))].length ≤ 1073741824 then ((rec a0 l1 (t162 ++ [(wrap64 (x81 - (l1.getD (0 : Int).toNat (0 : Int))))])).bind fun t168 => if ([] : List ((Ar 6) × (Ar 6))).length + t168.length ≤ 1073741824 then (some (([] : List ((Ar 6) × (Ar 6))) ++ t168)) else none) else none) else (some ([] : List ((Ar 6) × (Ar 6))))) else none) else (some ([] : List ((Ar 6) × (Ar 6))))) else none)) else none))) else (if x81 < 0 then (some ([] : List ((Ar 6) × (Ar 6)))) else (if (0 : Int) ≤ 0 ∧ 0 < (l2.length : Int) then (if (l1.length : Int) < 6 then (if (0 : Int) ≤ (wrap64 ((l1.length : Int) - 1)) ∧ (wrap64 ((l1.length : Int) - 1)) < (l1.length : Int) then ((spec_l1In.f K (wrap64 (x81 - (l2.getD (0 : Int).toNat (0 : Int)))) (l1.getD ((wrap64 ((l1.length : Int) - 1)) : Int).toNat (0 : Int)) 30).bind fun t177 => if t177 = true then ((spec_l1Own.f K l1).bind fun t180 => if t180.length + [(wrap64 (x81 - (l2.getD (0 : Int).toNat (0 : Int))))].length ≤ 1073741824 then ((rec a0 (t180 ++ [(wrap64 (x81 - (l2.getD (0 : Int).toNat (0 : Int))))]) l2).bind fun t186 => if ([] : List ((Ar 6) × (Ar 6))).length + t186.length ≤ 1073741824 then (if (0 : Int) ≤ 0 ∧ 0 < (l1.length : Int) then (if (l2.length : Int) < 6 then (if (0 : Int) ≤ (wrap64 ((l2.length : Int) - 1)) ∧ (wrap64 ((l2.length : Int) - 1)) < (l2.length : Int) then ((spec_l1In.f K (wrap64 (x81 - (l1.getD (0 : Int).toNat (0 : Int)))) (l2.getD ((wrap64 ((l2.length : Int) - 1)) : Int).toNat (0 : Int)) 30).bind fun t194 => if t194 = true then ((spec_l1Own.f K l2).bind fun t197 => if t197.length + [(wrap64 (x81 - (l1.getD (0 : Int).toNat (0 : Int))))].length ≤ 1073741824 then ((rec a0 l1 (t197 ++ [(wrap64 (x81 - (l1.getD (0 : Int).toNat (0 : Int))))])).bind fun t203 => if (([] : List ((Ar 6) × (Ar 6))) ++ t186).length + t203.length ≤ 1073741824 then (some ((([] : List ((Ar 6) × (Ar 6))) ++ t186) ++ t203)) else none) else none) else (some (([] : List ((Ar 6) × (Ar 6))) ++ t186))) else none) else (some (([] : List ((Ar 6) × (Ar 6))) ++ t186))) else none) else none) else none) else (if (0 : Int) ≤ 0 ∧ 0 < (l1.length : Int) then (if (l2.length : Int) < 6 then (if (0 : Int) ≤ (wrap64 ((l2.length : Int) - 1)) ∧ (wrap64 ((l2.length : Int) - 1)) < (l2.length : Int) then ((spec_l1In.f K (wrap64 (x81 - (l1.getD (0 : Int).toNat (0 : Int)))) (l2.getD ((wrap64 ((l2.length : Int) - 1)) : Int).toNat (0 : Int)) 30).bind fun t211 => if t211 = true then ((spec_l1Own.f K l2).bind fun t214 => if t214.length + [(wrap64 (x81 - (l1.getD (0 : Int).toNat (0 : Int))))].length ≤ 1073741824 then ((rec a0 l1 (t214 ++ [(wrap64 (x81 - (l1.getD (0 : Int).toNat (0 : Int))))])).bind fun t220 => if ([] : List ((Ar 6) × (Ar 6))).length + t220.length ≤ 1073741824 then (some (([] : List ((Ar 6) × (Ar 6))) ++ t220)) else none) else none) else (some ([] : List ((Ar 6) × (Ar 6))))) else none) else (some ([] : List ((Ar 6) × (Ar 6))))) else none)) else none) else (if (0 : Int) ≤ 0 ∧ 0 < (l1.length : Int) then (if (l2.length : Int) < 6 then (if (0 : Int) ≤ (wrap64 ((l2.length : Int) - 1)) ∧ (wrap64 ((l2.length : Int) - 1)) < (l2.length : Int) then ((spec_l1In.f K (wrap64 (x81 - (l1.getD (0 : Int).toNat (0 : Int)))) (l2.getD ((wrap64 ((l2.length : Int) - 1)) : Int).toNat (0 : Int)) 30).bind fun t228 => if t228 = true then ((spec_l1Own.f K l2).bind fun t231 => if t231.length + [(wrap64 (x81 - (l1.getD (0 : Int).toNat (0 : Int))))].length ≤ 1073741824 then ((rec a0 l1 (t231 ++ [(wrap64 (x81 - (l1.getD (0 : Int).toNat (0 : Int))))])).bind fun t237 => if ([] : List ((Ar 6) × (Ar 6))).length + t237.length ≤ 1073741824 then (some (([] : List ((Ar 6) × (Ar 6))) ++ t237)) else none) else none) else (some ([] : List ((Ar 6) × (Ar 6))))) else none) else (some ([] : List ((Ar 6) × (Ar 6))))) else none)) else none)) | .inr r90 => some r90)
def spec_l5Search.r (K : Nat) : Nat → (Ar 121) → (List Int) → (List Int) → Option (List ((Ar 6) × (Ar 6)))
  | 0 => fun _ _ _ => none
  | k + 1 => fun a0 l1 l2 => spec_l5Search.g K (spec_l5Search.r K k) a0 l1 l2
def spec_l5Search.f (K : Nat) (a0 : (Ar 121)) (l1 : (List Int)) (l2 : (List Int)) : Option (List ((Ar 6) × (Ar 6))) := spec_l5Search.r K K a0 l1 l2
set_option maxRecDepth 100000 in
set_option maxHeartbeats 4000000 in
theorem spec_l5Search.step (K : Nat) (rec : ((Ar 121) → (List Int) → (List Int) → Option (List ((Ar 6) × (Ar 6))))) (hrec : ∀ {w0 : World} {X : List Nat} (a0 : (Ar 121)) (l1 : (List Int)) (u1 : Value) (q1 : SlR cd3 w0 u1 l1) (d1 : l1 ≠ [] → sblk u1 ∉ X) (l2 : (List Int)) (u2 : Value) (q2 : SlR cd3 w0 u2 l2) (d2 : l2 ≠ [] → sblk u2 ∉ X) (qM : Ms X w0 w0 []) (r : (List ((Ar 6) × (Ar 6)))) (H : rec a0 l1 l2 = some r), Calls Try.prog 53 [ag [Pt.ar a0], u1, u2].toArray w0 (fun e w => ∃ v, e = .returned v ∧ ∃ v242 : Value, Ms X w0 w [rowR cd50 v242 r] ∧ v242 = v)) {w0 : World} {X : List Nat} (a0 : (Ar 121)) (l1 : (List Int)) (u1 : Value) (q1 : SlR cd3 w0 u1 l1) (d1 : l1 ≠ [] → sblk u1 ∉ X) (l2 : (List Int)) (u2 : Value) (q2 : SlR cd3 w0 u2 l2) (d2 : l2 ≠ [] → sblk u2 ∉ X) (qM : Ms X w0 w0 []) (r : (List ((Ar 6) × (Ar 6)))) (H : spec_l5Search.g K rec a0 l1 l2 = some r) : Calls Try.prog 53 [ag [Pt.ar a0], u1, u2].toArray w0 (fun e w => ∃ v, e = .returned v ∧ ∃ v242 : Value, Ms X w0 w [rowR cd50 v242 r] ∧ v242 = v) := by
  rw [spec_l5Search.g] at H
  refine s_start Try.func53 rfl Try.ntmps53 rfl ?_
  intro a hF
  have hM := qM
  refine wp_seq ?_
  refine s_region ?_
  refine s_box (ps := [Pt.ar a0]) hF hM rfl rfl rfl rfl ?_; intro a w b1 hF hM
  refine s_val hF rfl rfl rfl (e_assign hF rfl) ?_; intro a hF
  refine s_nil ?_
  refine then_n ?_
  refine wp_seq ?_
  refine wp_mono (Q := fun e a w => e = Exit.normal ∧ ∃ v2 : Value, ∃ b3 : Nat, Fr 135 a [(1, u1), (2, u2), (3, pt b1 0), (7, v2), (8, pt b3 0)] ∧ Ms X w0 w [rowR cd50 v2 ([] : List ((Ar 6) × (Ar 6))), boxR b3 [Pt.ar a0] 43, boxR b1 [Pt.ar a0] 43]) ?_ ?_
  · skip
    refine s_held (fun w => Ms X w0 w [boxR b1 [Pt.ar a0] 43]) #[false, false, false, false, false] mixed rfl rfl hM ?_; intro w hf hM; clear hf
    refine h_val 1 #[false, true, false, false, false] rfl (by kernel_rfl) hF rfl rfl rfl (fun w hS => e_lda (i := 0) 0 1 hF hS rfl rfl rfl rfl Try.isAgg43 Try.sizeOf43 rfl) (hM.pick [0] rfl rfl) ?_; intro a hF
    refine h_two 0 2 #[true, true, false, false, false] #[false, true, true, false, false] rfl rfl rfl rfl (by kernel_rfl) ?_ ?_
    · skip
      refine s_bsl (C := cd50) ([] : List ((Ar 6) × (Ar 6))) cdok50 hF hM rfl rfl rfl rfl Try.underlying37 rfl ?_; intro a w v2 hF hM
      refine s_nil ⟨rfl, (hM.pick [1] rfl rfl), ?_⟩
      refine h_one 2 #[true, true, true, false, false] rfl (by kernel_rfl) ?_
      refine s_alloc (ps := [Pt.ar (Ar.zero 121)]) hF hM rfl rfl zv43 rfl ?_; intro a w b3 hF hM
      refine s_nil ⟨rfl, (hM.pick [2] rfl rfl), ?_⟩
      refine h_val 3 #[true, true, true, true, false] rfl (by kernel_rfl) hF rfl rfl rfl (fun w hS => e_assign hF rfl) (hM.pick [2] rfl rfl) ?_; intro a hF
      refine h_one 4 #[true, true, true, true, true] rfl (by kernel_rfl) ?_
      refine s_stw (i := 0) (ps' := [Pt.ar a0]) hF hM rfl rfl rfl rfl rfl rfl Try.sizeOf43 rfl ?_; intro a w hF hM
      refine s_nil ⟨rfl, (hM.pick [2] rfl rfl), ?_⟩
      exact h_done rfl ⟨rfl, v2, b3, hF.sub _ ⟨rfl, rfl, rfl, rfl, rfl, trivial⟩, hM.pick [1, 0, 2] rfl rfl⟩
    · skip
      refine s_alloc (ps := [Pt.ar (Ar.zero 121)]) hF hM rfl rfl zv43 rfl ?_; intro a w b3 hF hM
      refine s_nil ⟨rfl, (hM.pick [1] rfl rfl), ?_⟩
      refine h_one 0 #[true, true, true, false, false] rfl (by kernel_rfl) ?_
      refine s_bsl (C := cd50) ([] : List ((Ar 6) × (Ar 6))) cdok50 hF hM rfl rfl rfl rfl Try.underlying37 rfl ?_; intro a w v2 hF hM
      refine s_nil ⟨rfl, (hM.pick [2] rfl rfl), ?_⟩
      refine h_val 3 #[true, true, true, true, false] rfl (by kernel_rfl) hF rfl rfl rfl (fun w hS => e_assign hF rfl) (hM.pick [2] rfl rfl) ?_; intro a hF
      refine h_one 4 #[true, true, true, true, true] rfl (by kernel_rfl) ?_
      refine s_stw (i := 1) (ps' := [Pt.ar a0]) hF hM rfl rfl rfl rfl rfl rfl Try.sizeOf43 rfl ?_; intro a w hF hM
      refine s_nil ⟨rfl, (hM.pick [2] rfl rfl), ?_⟩
      exact h_done rfl ⟨rfl, v2, b3, hF.sub _ ⟨rfl, rfl, rfl, rfl, rfl, trivial⟩, hM.pick [0, 1, 2] rfl rfl⟩
  rintro e a w ⟨rfl, v2, b3, hF, hM⟩
  refine then_n ?_
  refine wp_seq ?_
  refine wp_seq ?_
  refine s_region ?_
  refine s_val hF rfl rfl rfl (e_assign hF rfl) ?_; intro a hF
  refine s_nil ?_
  refine then_n ?_
  refine wp_block ?_
  obtain ⟨o71, h72, H⟩ := bind_some H
  refine wp_mono (Q := fun e a w => (e = Exit.exit 0 ∧ ∃ x46 : (Ar 121), x46 = o71 ∧ Fr 135 a [(1, u1), (2, u2), (3, pt b1 0), (7, v2), (8, pt b3 0)] ∧ Ms X w0 w [boxR b1 [Pt.ar a0] 43, rowR cd50 v2 ([] : List ((Ar 6) × (Ar 6))), boxR b3 [Pt.ar x46] 43])) ?_ ?_
  · refine s_loop (fun kq a w => ∃ x47 : Int, ∃ x48 : (Ar 121), spec_l5Search.l2 K l1 l2 kq x47 x48 = some o71 ∧ Fr 135 a [(1, u1), (2, u2), (3, pt b1 0), (7, v2), (8, pt b3 0), (9, Value.int .i64 x47)] ∧ Ms X w0 w [boxR b1 [Pt.ar a0] 43, rowR cd50 v2 ([] : List ((Ar 6) × (Ar 6))), boxR b3 [Pt.ar x48] 43]) K ⟨0, a0, h72, hF.sub _ ⟨rfl, rfl, rfl, rfl, rfl, rfl, trivial⟩, hM.pick [2, 0, 1] rfl rfl⟩ ?_ ?_
    · rintro a w ⟨_, _, H, _⟩; exact none_some H
    · rintro k a w ⟨x47, x48, H, hF, hM⟩; rw [spec_l5Search.l2] at H
      refine wp_seq ?_
      refine wp_seq ?_
      refine s_region ?_
      refine s_val hF rfl rfl rfl (e_move hF rfl) ?_; intro a hF
      refine s_val hF rfl rfl rfl (e_move hF rfl) ?_; intro a hF
      refine s_val hF rfl rfl rfl (e_len hF rfl (q1.frmX hM.frm d1).toF Try.underlying59) ?_; intro a hF
      refine s_val hF rfl rfl rfl (e_lss hF rfl rfl) ?_; intro a hF
      refine s_nil ?_
      refine then_n ?_
      rcases ite_cases H with ⟨c49, H⟩ | ⟨c49, H⟩
      ·
        refine s_cond_t hF rfl (decide_eq_true c49) ?_
        refine wp_skip ?_
        refine then_n ?_
        refine wp_seq ?_
        refine wp_block ?_
        refine wp_seq ?_
        refine s_region ?_
        refine s_val hF rfl rfl rfl (e_assign hF rfl) ?_; intro a hF
        refine s_nil ?_
        refine then_n ?_
        refine wp_block ?_
        obtain ⟨o69, h70, H⟩ := bind_some H
        refine wp_mono (Q := fun e a w => (e = Exit.exit 2 ∧ ∃ x60 : (Ar 121), x60 = o69 ∧ Fr 135 a [(1, u1), (2, u2), (3, pt b1 0), (7, v2), (8, pt b3 0), (9, Value.int .i64 x47)] ∧ Ms X w0 w [boxR b1 [Pt.ar a0] 43, rowR cd50 v2 ([] : List ((Ar 6) × (Ar 6))), boxR b3 [Pt.ar x60] 43])) ?_ ?_
        · refine s_loop (fun kq a w => ∃ x61 : Int, ∃ x62 : (Ar 121), spec_l5Search.l3 K l1 l2 x47 kq x61 x62 = some o69 ∧ Fr 135 a [(1, u1), (2, u2), (3, pt b1 0), (7, v2), (8, pt b3 0), (9, Value.int .i64 x47), (10, Value.int .i64 x61)] ∧ Ms X w0 w [boxR b1 [Pt.ar a0] 43, rowR cd50 v2 ([] : List ((Ar 6) × (Ar 6))), boxR b3 [Pt.ar x62] 43]) K ⟨0, x48, h70, hF.sub _ ⟨rfl, rfl, rfl, rfl, rfl, rfl, rfl, trivial⟩, hM.pick [0, 1, 2] rfl rfl⟩ ?_ ?_
          · rintro a w ⟨_, _, H, _⟩; exact none_some H
          · rintro k a w ⟨x61, x62, H, hF, hM⟩; rw [spec_l5Search.l3] at H
            refine wp_seq ?_
            refine wp_seq ?_
            refine s_region ?_
            refine s_val hF rfl rfl rfl (e_move hF rfl) ?_; intro a hF
            refine s_val hF rfl rfl rfl (e_move hF rfl) ?_; intro a hF
            refine s_val hF rfl rfl rfl (e_len hF rfl (q2.frmX hM.frm d2).toF Try.underlying59) ?_; intro a hF
            refine s_val hF rfl rfl rfl (e_lss hF rfl rfl) ?_; intro a hF
            refine s_nil ?_
            refine then_n ?_
            rcases ite_cases H with ⟨c63, H⟩ | ⟨c63, H⟩
            ·
              refine s_cond_t hF rfl (decide_eq_true c63) ?_
              refine wp_skip ?_
              refine then_n ?_
              refine wp_seq ?_
              refine wp_block ?_
              obtain ⟨c64, H⟩ := ite_some H
              obtain ⟨c65, H⟩ := ite_some H
              obtain ⟨c66, H⟩ := ite_some H
              refine s_held (fun w => Ms X w0 w [boxR b1 [Pt.ar a0] 43, rowR cd50 v2 ([] : List ((Ar 6) × (Ar 6)))]) #[false, false, false, false, false, false, false, false, false, false, false, false, false, false] mixed rfl rfl hM ?_; intro w hf hM; clear hf
              refine h_val 0 #[true, false, false, false, false, false, false, false, false, false, false, false, false, false] rfl (by kernel_rfl) hF rfl rfl rfl (fun w hS => e_move hF rfl) (hM.pick [0, 1] rfl rfl) ?_; intro a hF
              refine h_val 1 #[true, true, false, false, false, false, false, false, false, false, false, false, false, false] rfl (by kernel_rfl) hF rfl rfl rfl (fun w hS => e_move hF rfl) (hM.pick [0, 1] rfl rfl) ?_; intro a hF
              have f67 := (q1.frmX hM.frm d1).toF
              refine h_val 2 #[true, true, true, false, false, false, false, false, false, false, false, false, false, false] rfl (by kernel_rfl) hF rfl rfl rfl (fun w hS => e_ias cd3 hF rfl rfl f67 Try.underlying59 Try.sizeOf3 c64.1 c64.2) (hM.pick [0, 1] rfl rfl) ?_; intro a hF
              refine h_val 3 #[true, true, true, true, false, false, false, false, false, false, false, false, false, false] rfl (by kernel_rfl) hF rfl rfl rfl (fun w hS => e_lds (m := x47) hF rfl (q1.frmX hS.frm d1) (getD_some (z := (0 : Int)) c64.1 c64.2) rfl rfl Try.isAgg3) (hM.pick [0, 1] rfl rfl) ?_; intro a hF
              refine h_val 4 #[true, true, true, true, true, false, false, false, false, false, false, false, false, false] rfl (by kernel_rfl) hF rfl rfl rfl (fun w hS => e_move hF rfl) (hM.pick [0, 1] rfl rfl) ?_; intro a hF
              refine h_val 5 #[true, true, true, true, true, true, false, false, false, false, false, false, false, false] rfl (by kernel_rfl) hF rfl rfl rfl (fun w hS => e_move hF rfl) (hM.pick [0, 1] rfl rfl) ?_; intro a hF
              have f68 := (q2.frmX hM.frm d2).toF
              refine h_val 6 #[true, true, true, true, true, true, true, false, false, false, false, false, false, false] rfl (by kernel_rfl) hF rfl rfl rfl (fun w hS => e_ias cd3 hF rfl rfl f68 Try.underlying59 Try.sizeOf3 c65.1 c65.2) (hM.pick [0, 1] rfl rfl) ?_; intro a hF
              refine h_val 7 #[true, true, true, true, true, true, true, true, false, false, false, false, false, false] rfl (by kernel_rfl) hF rfl rfl rfl (fun w hS => e_lds (m := x61) hF rfl (q2.frmX hS.frm d2) (getD_some (z := (0 : Int)) c65.1 c65.2) rfl rfl Try.isAgg3) (hM.pick [0, 1] rfl rfl) ?_; intro a hF
              refine h_val 8 #[true, true, true, true, true, true, true, true, true, false, false, false, false, false] rfl (by kernel_rfl) hF rfl rfl rfl (fun w hS => e_add hF rfl rfl) (hM.pick [0, 1] rfl rfl) ?_; intro a hF
              refine h_val 9 #[true, true, true, true, true, true, true, true, true, true, false, false, false, false] rfl (by kernel_rfl) hF rfl rfl rfl (fun w hS => e_ia hF rfl rfl Try.underlying43 Try.sizeOf3 c66.1 c66.2) (hM.pick [0, 1] rfl rfl) ?_; intro a hF
              refine h_one 10 #[true, true, true, true, true, true, true, true, true, true, true, false, false, false] rfl (by kernel_rfl) ?_
              refine s_val hF rfl rfl rfl (e_ldi (i := 2) (k := 0) hF hM rfl rfl rfl rfl rfl Try.isAgg3 c66.1 c66.2) ?_; intro a hF
              refine s_nil ⟨rfl, (hM.pick [0, 1] rfl rfl), ?_⟩
              refine h_val 11 #[true, true, true, true, true, true, true, true, true, true, true, true, false, false] rfl (by kernel_rfl) hF rfl rfl rfl (fun w hS => e_sub hF rfl rfl) (hM.pick [0, 1] rfl rfl) ?_; intro a hF
              refine h_val 12 #[true, true, true, true, true, true, true, true, true, true, true, true, true, false] rfl (by kernel_rfl) hF rfl rfl rfl (fun w hS => e_ia hF rfl rfl Try.underlying43 Try.sizeOf3 c66.1 c66.2) (hM.pick [0, 1] rfl rfl) ?_; intro a hF
              refine h_one 13 #[true, true, true, true, true, true, true, true, true, true, true, true, true, true] rfl (by kernel_rfl) ?_
              refine s_sti (i := 2) (k := 0) hF hM rfl rfl rfl rfl rfl rfl rfl Try.sizeOf3 c66.1 c66.2 ?_; intro a w hF hM
              refine s_nil ⟨rfl, (hM.pick [0, 1] rfl rfl), ?_⟩
              refine h_done rfl ?_
              refine blk_n ?_
              refine then_n ?_
              refine s_region ?_
              refine s_val hF rfl rfl rfl (e_move hF rfl) ?_; intro a hF
              refine s_val hF rfl rfl rfl (e_add hF rfl rfl) ?_; intro a hF
              refine s_val hF rfl rfl rfl (e_assign hF rfl) ?_; intro a hF
              refine s_nil ?_
              refine then_n ?_
              exact ⟨(wrap64 (x61 + 1)), (x62.set (wrap64 ((l1.getD (x47 : Int).toNat (0 : Int)) + (l2.getD (x61 : Int).toNat (0 : Int)))) (wrap64 ((x62.get (wrap64 ((l1.getD (x47 : Int).toNat (0 : Int)) + (l2.getD (x61 : Int).toNat (0 : Int))))) - 1))), H, hF.sub _ ⟨rfl, rfl, rfl, rfl, rfl, rfl, rfl, trivial⟩, hM.pick [0, 1, 2] rfl rfl⟩
            ·
              refine s_cond_f hF rfl (decide_eq_false c63) ?_
              refine wp_exit ?_
              refine then_x ?_
              refine then_x ?_
              exact ⟨rfl, x62, some_some H, hF.sub _ ⟨rfl, rfl, rfl, rfl, rfl, rfl, trivial⟩, hM.pick [0, 1, 2] rfl rfl⟩
        · rintro e a w ⟨rfl, x60, rfl, hF, hM⟩
          skip
          refine blk_x ?_
          refine blk_n ?_
          refine then_n ?_
          refine s_region ?_
          refine s_val hF rfl rfl rfl (e_move hF rfl) ?_; intro a hF
          refine s_val hF rfl rfl rfl (e_add hF rfl rfl) ?_; intro a hF
          refine s_val hF rfl rfl rfl (e_assign hF rfl) ?_; intro a hF
          refine s_nil ?_
          refine then_n ?_
          exact ⟨(wrap64 (x47 + 1)), x60, H, hF.sub _ ⟨rfl, rfl, rfl, rfl, rfl, rfl, trivial⟩, hM.pick [0, 1, 2] rfl rfl⟩
      ·
        refine s_cond_f hF rfl (decide_eq_false c49) ?_
        refine wp_exit ?_
        refine then_x ?_
        refine then_x ?_
        exact ⟨rfl, x48, some_some H, hF.sub _ ⟨rfl, rfl, rfl, rfl, rfl, trivial⟩, hM.pick [0, 1, 2] rfl rfl⟩
  · rintro e a w ⟨rfl, x46, rfl, hF, hM⟩
    skip
    refine blk_x ?_
    refine then_n ?_
    refine wp_seq ?_
    refine s_region ?_
    refine s_val hF rfl rfl rfl (e_assign hF rfl) ?_; intro a hF
    refine s_nil ?_
    refine then_n ?_
    refine wp_seq ?_
    refine wp_seq ?_
    refine s_region ?_
    refine s_val hF rfl rfl rfl (e_assign hF rfl) ?_; intro a hF
    refine s_nil ?_
    refine then_n ?_
    refine wp_block ?_
    obtain ⟨o88, h89, H⟩ := bind_some H
    refine wp_mono (Q := fun e a w => (e = Exit.exit 4 ∧ ∃ x81 : Int, Sum.inl x81 = o88 ∧ Fr 135 a [(1, u1), (2, u2), (3, pt b1 0), (7, v2), (11, Value.int .i64 x81)] ∧ Ms X w0 w [boxR b1 [Pt.ar a0] 43, rowR cd50 v2 ([] : List ((Ar 6) × (Ar 6)))]) ∨ (e = Exit.ret ∧ ∃ v91 : Value, ∃ r90 : (List ((Ar 6) × (Ar 6))), Sum.inr r90 = o88 ∧ Fr 135 a [(6, v91)] ∧ Ms X w0 w [rowR cd50 v91 r90])) ?_ ?_
    · refine s_loop (fun kq a w => ∃ x82 : Int, ∃ x83 : Int, spec_l5Search.l4 K x46 kq x82 x83 = some o88 ∧ Fr 135 a [(1, u1), (2, u2), (3, pt b1 0), (7, v2), (8, pt b3 0), (11, Value.int .i64 x82), (12, Value.int .i64 x83)] ∧ Ms X w0 w [boxR b1 [Pt.ar a0] 43, rowR cd50 v2 ([] : List ((Ar 6) × (Ar 6))), boxR b3 [Pt.ar x46] 43]) K ⟨(-1), 120, h89, hF.sub _ ⟨rfl, rfl, rfl, rfl, rfl, rfl, rfl, trivial⟩, hM.pick [0, 1, 2] rfl rfl⟩ ?_ ?_
      · rintro a w ⟨_, _, H, _⟩; exact none_some H
      · rintro k a w ⟨x82, x83, H, hF, hM⟩; rw [spec_l5Search.l4] at H
        refine wp_seq ?_
        refine wp_seq ?_
        refine s_region ?_
        refine s_val hF rfl rfl rfl (e_move hF rfl) ?_; intro a hF
        refine s_val hF rfl rfl rfl (e_geq hF rfl rfl) ?_; intro a hF
        refine s_nil ?_
        refine then_n ?_
        rcases ite_cases H with ⟨c84, H⟩ | ⟨c84, H⟩
        ·
          refine s_cond_t hF rfl (decide_eq_true c84) ?_
          refine wp_skip ?_
          refine then_n ?_
          refine wp_seq ?_
          refine wp_block ?_
          refine wp_seq ?_
          refine wp_seq ?_
          obtain ⟨c85, H⟩ := ite_some H
          refine s_region ?_
          refine s_val hF rfl rfl rfl (e_move hF rfl) ?_; intro a hF
          refine s_val hF rfl rfl rfl (e_ia hF rfl rfl Try.underlying43 Try.sizeOf3 c85.1 c85.2) ?_; intro a hF
          refine s_val hF rfl rfl rfl (e_ldi (i := 2) (k := 0) hF hM rfl rfl rfl rfl rfl Try.isAgg3 c85.1 c85.2) ?_; intro a hF
          refine s_val hF rfl rfl rfl (e_lss hF rfl rfl) ?_; intro a hF
          refine s_nil ?_
          refine then_n ?_
          rcases ite_cases H with ⟨c86, H⟩ | ⟨c86, H⟩
          ·
            refine s_cond_t hF rfl (decide_eq_true c86) ?_
            refine wp_seq ?_
            refine s_region ?_
            refine s_val hF rfl rfl rfl (e_move hF rfl) ?_; intro a hF
            refine s_val hF rfl rfl rfl (e_assign hF rfl) ?_; intro a hF
            refine s_nil ?_
            refine then_n ?_
            refine wp_ret ?_
            refine then_r ?_
            refine blk_r ?_
            refine then_r ?_
            refine then_r ?_
            exact Or.inr (⟨rfl, v2, ([] : List ((Ar 6) × (Ar 6))), some_some H, hF.sub _ ⟨rfl, trivial⟩, hM.pick [1] rfl rfl⟩)
          ·
            refine s_cond_f hF rfl (decide_eq_false c86) ?_
            refine wp_skip ?_
            refine then_n ?_
            refine wp_seq ?_
            refine s_region ?_
            refine s_val hF rfl rfl rfl (e_move hF rfl) ?_; intro a hF
            refine s_val hF rfl rfl rfl (e_ia hF rfl rfl Try.underlying43 Try.sizeOf3 c85.1 c85.2) ?_; intro a hF
            refine s_val hF rfl rfl rfl (e_ldi (i := 2) (k := 0) hF hM rfl rfl rfl rfl rfl Try.isAgg3 c85.1 c85.2) ?_; intro a hF
            refine s_val hF rfl rfl rfl (e_gtr hF rfl rfl) ?_; intro a hF
            refine s_nil ?_
            refine then_n ?_
            rcases ite_cases H with ⟨c87, H⟩ | ⟨c87, H⟩
            ·
              refine s_cond_t hF rfl (decide_eq_true c87) ?_
              refine s_region ?_
              refine s_val hF rfl rfl rfl (e_move hF rfl) ?_; intro a hF
              refine s_val hF rfl rfl rfl (e_assign hF rfl) ?_; intro a hF
              refine s_nil ?_
              refine blk_n ?_
              refine then_n ?_
              refine s_region ?_
              refine s_val hF rfl rfl rfl (e_move hF rfl) ?_; intro a hF
              refine s_val hF rfl rfl rfl (e_sub hF rfl rfl) ?_; intro a hF
              refine s_val hF rfl rfl rfl (e_assign hF rfl) ?_; intro a hF
              refine s_nil ?_
              refine then_n ?_
              exact ⟨x83, (wrap64 (x83 - 1)), H, hF.sub _ ⟨rfl, rfl, rfl, rfl, rfl, rfl, rfl, trivial⟩, hM.pick [0, 1, 2] rfl rfl⟩
            ·
              refine s_cond_f hF rfl (decide_eq_false c87) ?_
              refine wp_skip ?_
              refine blk_n ?_
              refine then_n ?_
              refine s_region ?_
              refine s_val hF rfl rfl rfl (e_move hF rfl) ?_; intro a hF
              refine s_val hF rfl rfl rfl (e_sub hF rfl rfl) ?_; intro a hF
              refine s_val hF rfl rfl rfl (e_assign hF rfl) ?_; intro a hF
              refine s_nil ?_
              refine then_n ?_
              exact ⟨x82, (wrap64 (x83 - 1)), H, hF.sub _ ⟨rfl, rfl, rfl, rfl, rfl, rfl, rfl, trivial⟩, hM.pick [0, 1, 2] rfl rfl⟩
        ·
          refine s_cond_f hF rfl (decide_eq_false c84) ?_
          refine wp_exit ?_
          refine then_x ?_
          refine then_x ?_
          exact Or.inl (⟨rfl, x82, some_some H, hF.sub _ ⟨rfl, rfl, rfl, rfl, rfl, trivial⟩, hM.pick [0, 1] rfl rfl⟩)
    · rintro e a w (⟨rfl, x81, rfl, hF, hM⟩ | ⟨rfl, v91, r90, rfl, hF, hM⟩)
      ·
        dsimp only at H
        refine blk_x ?_
        refine then_n ?_
        refine wp_seq ?_
        refine wp_seq ?_
        rcases ite_cases H with ⟨c92, H⟩ | ⟨c92, H⟩
        ·
          refine s_region ?_
          refine s_val hF rfl rfl rfl (e_move hF rfl) ?_; intro a hF
          refine s_val hF rfl rfl rfl (e_len hF rfl (q1.frmX hM.frm d1).toF Try.underlying59) ?_; intro a hF
          refine s_val hF rfl rfl rfl (e_eql hF rfl rfl) ?_; intro a hF
          refine s_val hF rfl rfl rfl (e_move hF rfl) ?_; intro a hF
          have hF := hF.topb (decide_eq_true c92)
          refine s_val hF rfl rfl rfl (e_move hF rfl) ?_; intro a hF
          refine s_val hF rfl rfl rfl (e_len hF rfl (q2.frmX hM.frm d2).toF Try.underlying59) ?_; intro a hF
          refine s_val hF rfl rfl rfl (e_eql hF rfl rfl) ?_; intro a hF
          refine s_val hF rfl rfl rfl (e_pick_t hF rfl rfl) ?_; intro a hF
          refine s_nil ?_
          refine then_n ?_
          rcases ite_cases H with ⟨c93, H⟩ | ⟨c93, H⟩
          ·
            refine s_cond_t hF rfl (decide_eq_true c93) ?_
            refine wp_seq ?_
            refine wp_seq ?_
            refine s_region ?_
            refine s_val hF rfl rfl rfl (e_move hF rfl) ?_; intro a hF
            refine s_val hF rfl rfl rfl (e_lss hF rfl rfl) ?_; intro a hF
            refine s_nil ?_
            refine then_n ?_
            rcases ite_cases H with ⟨c94, H⟩ | ⟨c94, H⟩
            ·
              refine s_cond_t hF rfl (decide_eq_true c94) ?_
              obtain ⟨t95, h96, H⟩ := bind_some H
              obtain ⟨t97, h98, H⟩ := bind_some H
              obtain ⟨t99, h100, H⟩ := bind_some H
              obtain ⟨c103, H⟩ := ite_some H
              refine s_region ?_
              refine s_val hF rfl rfl rfl (e_move hF rfl) ?_; intro a hF
              refine s_val hF rfl rfl rfl (e_move hF rfl) ?_; intro a hF
              refine s_call hF rfl rfl rfl Try.call68 (spec_l5Array.calls K l1 u1 (q1.frmX hM.frm d1) t95 h96) ?_; intro a w v hF hf hR
              subst hR; have hM := hM.grow hf
              refine s_val hF rfl rfl rfl (e_move hF rfl) ?_; intro a hF
              refine s_call hF rfl rfl rfl Try.call68 (spec_l5Array.calls K l2 u2 (q2.frmX hM.frm d2) t97 h98) ?_; intro a w v hF hf hR
              subst hR; have hM := hM.grow hf
              refine s_call hF rfl rfl rfl Try.call44 (spec_l5Pair.calls K t95 t97 t99 h100) ?_; intro a w v hF hf hR
              subst hR; have hM := hM.grow hf
              refine s_bsl (C := cd50) [t99] cdok50 hF hM rfl rfl rfl rfl Try.underlying37 rfl ?_; intro a w v101 hF hM
              refine s_append (i := 2) cdok50 hF hM rfl rfl rfl rfl rfl (hM.sl 0 rfl) Try.underlying37 c103 ?_; intro a w v102 hF hM
              refine s_val hF rfl rfl rfl (e_assign hF rfl) ?_; intro a hF
              refine s_nil ?_
              refine then_n ?_
              refine wp_seq ?_
              refine s_region ?_
              refine s_val hF rfl rfl rfl (e_move hF rfl) ?_; intro a hF
              refine s_val hF rfl rfl rfl (e_assign hF rfl) ?_; intro a hF
              refine s_nil ?_
              refine then_n ?_
              refine wp_ret ?_
              refine then_r ?_
              obtain rfl := some_some H
              refine s_ret [v102] hF Try.results53 ⟨rfl, trivial⟩ ?_
              exact ⟨_, rfl, v102, hM.pick [2] rfl rfl, rfl⟩
            ·
              refine s_cond_f hF rfl (decide_eq_false c94) ?_
              refine wp_skip ?_
              refine then_n ?_
              refine wp_seq ?_
              refine s_region ?_
              refine s_val hF rfl rfl rfl (e_move hF rfl) ?_; intro a hF
              refine s_val hF rfl rfl rfl (e_assign hF rfl) ?_; intro a hF
              refine s_nil ?_
              refine then_n ?_
              refine wp_ret ?_
              refine then_r ?_
              obtain rfl := some_some H
              refine s_ret [v2] hF Try.results53 ⟨rfl, trivial⟩ ?_
              exact ⟨_, rfl, v2, hM.pick [1] rfl rfl, rfl⟩
          ·
            refine s_cond_f hF rfl (decide_eq_false c93) ?_
            refine wp_skip ?_
            refine then_n ?_
            refine wp_seq ?_
            refine wp_seq ?_
            refine s_region ?_
            refine s_val hF rfl rfl rfl (e_move hF rfl) ?_; intro a hF
            refine s_val hF rfl rfl rfl (e_lss hF rfl rfl) ?_; intro a hF
            refine s_nil ?_
            refine then_n ?_
            rcases ite_cases H with ⟨c104, H⟩ | ⟨c104, H⟩
            ·
              refine s_cond_t hF rfl (decide_eq_true c104) ?_
              refine wp_seq ?_
              refine s_region ?_
              refine s_val hF rfl rfl rfl (e_move hF rfl) ?_; intro a hF
              refine s_val hF rfl rfl rfl (e_assign hF rfl) ?_; intro a hF
              refine s_nil ?_
              refine then_n ?_
              refine wp_ret ?_
              refine then_r ?_
              obtain rfl := some_some H
              refine s_ret [v2] hF Try.results53 ⟨rfl, trivial⟩ ?_
              exact ⟨_, rfl, v2, hM.pick [1] rfl rfl, rfl⟩
            ·
              refine s_cond_f hF rfl (decide_eq_false c104) ?_
              refine wp_skip ?_
              refine then_n ?_
              refine wp_seq ?_
              refine wp_seq ?_
              obtain ⟨c105, H⟩ := ite_some H
              refine s_region ?_
              refine s_val hF rfl rfl rfl (e_move hF rfl) ?_; intro a hF
              refine s_val hF rfl rfl rfl (e_move hF rfl) ?_; intro a hF
              refine s_val hF rfl rfl rfl (e_ias cd3 hF rfl rfl (q2.frmX hM.frm d2).toF Try.underlying59 Try.sizeOf3 c105.1 c105.2) ?_; intro a hF
              refine s_val hF rfl rfl rfl (e_lds (m := 0) hF rfl (q2.frmX hM.frm d2) (getD_some (z := (0 : Int)) c105.1 c105.2) rfl rfl Try.isAgg3) ?_; intro a hF
              refine s_val hF rfl rfl rfl (e_sub hF rfl rfl) ?_; intro a hF
              refine s_val hF rfl rfl rfl (e_assign hF rfl) ?_; intro a hF
              refine s_nil ?_
              refine then_n ?_
              refine wp_seq ?_
              rcases ite_cases H with ⟨c106, H⟩ | ⟨c106, H⟩
              ·
                obtain ⟨c107, H⟩ := ite_some H
                obtain ⟨t108, h109, H⟩ := bind_some H
                refine s_region ?_
                refine s_val hF rfl rfl rfl (e_move hF rfl) ?_; intro a hF
                refine s_val hF rfl rfl rfl (e_len hF rfl (q1.frmX hM.frm d1).toF Try.underlying59) ?_; intro a hF
                refine s_val hF rfl rfl rfl (e_lss hF rfl rfl) ?_; intro a hF
                refine s_val hF rfl rfl rfl (e_move hF rfl) ?_; intro a hF
                have hF := hF.topb (decide_eq_true c106)
                refine s_val hF rfl rfl rfl (e_move hF rfl) ?_; intro a hF
                refine s_val hF rfl rfl rfl (e_move hF rfl) ?_; intro a hF
                refine s_val hF rfl rfl rfl (e_move hF rfl) ?_; intro a hF
                refine s_val hF rfl rfl rfl (e_len hF rfl (q1.frmX hM.frm d1).toF Try.underlying59) ?_; intro a hF
                refine s_val hF rfl rfl rfl (e_sub hF rfl rfl) ?_; intro a hF
                refine s_val hF rfl rfl rfl (e_ias cd3 hF rfl rfl (q1.frmX hM.frm d1).toF Try.underlying59 Try.sizeOf3 c107.1 c107.2) ?_; intro a hF
                refine s_val hF rfl rfl rfl (e_lds (m := (wrap64 ((l1.length : Int) - 1))) hF rfl (q1.frmX hM.frm d1) (getD_some (z := (0 : Int)) c107.1 c107.2) rfl rfl Try.isAgg3) ?_; intro a hF
                refine s_call hF rfl rfl rfl Try.call49 (spec_l1In.calls K (wrap64 (x81 - (l2.getD (0 : Int).toNat (0 : Int)))) (l1.getD ((wrap64 ((l1.length : Int) - 1)) : Int).toNat (0 : Int)) 30 t108 h109) ?_; intro a w v hF hf hR
                subst hR; have hM := hM.grow hf
                refine s_val hF rfl rfl rfl (e_pick_t hF rfl rfl) ?_; intro a hF
                refine s_nil ?_
                refine then_n ?_
                rcases ite_cases H with ⟨c110, H⟩ | ⟨c110, H⟩
                ·
                  refine s_cond_t hF rfl c110 ?_
                  obtain ⟨t111, h112, H⟩ := bind_some H
                  obtain ⟨c116, H⟩ := ite_some H
                  obtain ⟨t117, h118, H⟩ := bind_some H
                  obtain ⟨c121, H⟩ := ite_some H
                  refine wp_mono (Q := fun e a w => e = Exit.normal ∧ ∃ v115 : Value, ∃ v114 : Value, ∃ v119 : Value, ∃ v120 : Value, Fr 135 a [(1, u1), (2, u2), (3, pt b1 0), (7, v120), (11, Value.int .i64 x81)] ∧ Ms X w0 w [rowR cd3 v115 (t111 ++ [(wrap64 (x81 - (l2.getD (0 : Int).toNat (0 : Int))))]), rowR cd3 v114 [(wrap64 (x81 - (l2.getD (0 : Int).toNat (0 : Int))))], rowR cd50 v119 t117, boxR b1 [Pt.ar a0] 43, rowR cd50 v120 (([] : List ((Ar 6) × (Ar 6))) ++ t117)]) ?_ ?_
                  · skip
                    refine s_held (fun w => Ms X w0 w [boxR b1 [Pt.ar a0] 43]) #[false, false, false, false, false, false, false, false, false, false, false] mixed rfl rfl hM ?_; intro w hf hM; clear hf
                    refine h_val 0 #[true, false, false, false, false, false, false, false, false, false, false] rfl (by kernel_rfl) hF rfl rfl rfl (fun w hS => e_move hF rfl) (hM.pick [0] rfl rfl) ?_; intro a hF
                    refine h_val 1 #[true, true, false, false, false, false, false, false, false, false, false] rfl (by kernel_rfl) hF rfl rfl rfl (fun w hS => e_lda (i := 0) 0 1 hF hS rfl rfl rfl rfl Try.isAgg43 Try.sizeOf43 rfl) (hM.pick [0] rfl rfl) ?_; intro a hF
                    refine h_val 2 #[true, true, true, false, false, false, false, false, false, false, false] rfl (by kernel_rfl) hF rfl rfl rfl (fun w hS => e_move hF rfl) (hM.pick [0] rfl rfl) ?_; intro a hF
                    refine h_val 4 #[true, true, true, false, true, false, false, false, false, false, false] rfl (by kernel_rfl) hF rfl rfl rfl (fun w hS => e_move hF rfl) (hM.pick [0] rfl rfl) ?_; intro a hF
                    refine h_val 7 #[true, true, true, false, true, false, false, true, false, false, false] rfl (by kernel_rfl) hF rfl rfl rfl (fun w hS => e_move hF rfl) (hM.pick [0] rfl rfl) ?_; intro a hF
                    refine h_two 3 5 #[true, true, true, true, true, false, false, true, false, false, false] #[true, true, true, false, true, true, false, true, false, false, false] rfl rfl rfl rfl (by kernel_rfl) ?_ ?_
                    · skip
                      refine s_call hF rfl rfl rfl Try.call69 (spec_l1Own.calls K l1 u1 (q1.frmX hM.frm d1) t111 h112) ?_; intro a w v113 hF hf hR
                      have hM := hM.fresh hf hR
                      refine s_nil ⟨rfl, (hM.pick [1] rfl rfl), ?_⟩
                      refine h_one 5 #[true, true, true, true, true, true, false, true, false, false, false] rfl (by kernel_rfl) ?_
                      refine s_bsl (C := cd3) [(wrap64 (x81 - (l2.getD (0 : Int).toNat (0 : Int))))] cdok3 hF hM rfl rfl rfl rfl Try.underlying59 rfl ?_; intro a w v114 hF hM
                      refine s_nil ⟨rfl, (hM.pick [2] rfl rfl), ?_⟩
                      refine h_one 6 #[true, true, true, true, true, true, true, true, false, false, false] rfl (by kernel_rfl) ?_
                      refine s_append (i := 1) cdok3 hF hM rfl rfl rfl rfl rfl (hM.sl 0 rfl) Try.underlying59 c116 ?_; intro a w v115 hF hM
                      refine s_nil ⟨rfl, (hM.pick [2] rfl rfl), ?_⟩
                      refine h_one 8 #[true, true, true, true, true, true, true, true, true, false, false] rfl (by kernel_rfl) ?_
                      refine s_callx hF rfl rfl rfl Try.call53 (hrec a0 (t111 ++ [(wrap64 (x81 - (l2.getD (0 : Int).toNat (0 : Int))))]) v115 (hM.sl 1 rfl) (hM.apart_row 1 rfl [] (by decide) rfl) l2 u2 (q2.frmX hM.frm d2) (hM.apart_arg q2 d2 [] rfl) (hM.lend [] rfl rfl) t117 h118) ?_; intro a w v hF hR
                      obtain ⟨v119, hR, rfl⟩ := hR; have hM := hM.back [] [0, 1, 2, 3] (by decide) rfl rfl hR
                      refine s_nil ⟨rfl, (hM.pick [3] rfl rfl), ?_⟩
                      refine h_one 9 #[true, true, true, true, true, true, true, true, true, true, false] rfl (by kernel_rfl) ?_
                      refine s_append (i := 4) cdok50 hF hM rfl rfl rfl rfl rfl (hM.sl 0 rfl) Try.underlying37 c121 ?_; intro a w v120 hF hM
                      refine s_nil ⟨rfl, (hM.pick [3] rfl rfl), ?_⟩
                      refine h_val 10 #[true, true, true, true, true, true, true, true, true, true, true] rfl (by kernel_rfl) hF rfl rfl rfl (fun w hS => e_assign hF rfl) (hM.pick [3] rfl rfl) ?_; intro a hF
                      exact h_done rfl ⟨rfl, v115, v114, v119, v120, hF.sub _ ⟨rfl, rfl, rfl, rfl, rfl, trivial⟩, hM.pick [2, 1, 0, 3, 4] rfl rfl⟩
                    · skip
                      refine s_bsl (C := cd3) [(wrap64 (x81 - (l2.getD (0 : Int).toNat (0 : Int))))] cdok3 hF hM rfl rfl rfl rfl Try.underlying59 rfl ?_; intro a w v114 hF hM
                      refine s_nil ⟨rfl, (hM.pick [1] rfl rfl), ?_⟩
                      refine h_one 3 #[true, true, true, true, true, true, false, true, false, false, false] rfl (by kernel_rfl) ?_
                      refine s_call hF rfl rfl rfl Try.call69 (spec_l1Own.calls K l1 u1 (q1.frmX hM.frm d1) t111 h112) ?_; intro a w v113 hF hf hR
                      have hM := hM.fresh hf hR
                      refine s_nil ⟨rfl, (hM.pick [2] rfl rfl), ?_⟩
                      refine h_one 6 #[true, true, true, true, true, true, true, true, false, false, false] rfl (by kernel_rfl) ?_
                      refine s_append (i := 0) cdok3 hF hM rfl rfl rfl rfl rfl (hM.sl 1 rfl) Try.underlying59 c116 ?_; intro a w v115 hF hM
                      refine s_nil ⟨rfl, (hM.pick [2] rfl rfl), ?_⟩
                      refine h_one 8 #[true, true, true, true, true, true, true, true, true, false, false] rfl (by kernel_rfl) ?_
                      refine s_callx hF rfl rfl rfl Try.call53 (hrec a0 (t111 ++ [(wrap64 (x81 - (l2.getD (0 : Int).toNat (0 : Int))))]) v115 (hM.sl 0 rfl) (hM.apart_row 0 rfl [] (by decide) rfl) l2 u2 (q2.frmX hM.frm d2) (hM.apart_arg q2 d2 [] rfl) (hM.lend [] rfl rfl) t117 h118) ?_; intro a w v hF hR
                      obtain ⟨v119, hR, rfl⟩ := hR; have hM := hM.back [] [0, 1, 2, 3] (by decide) rfl rfl hR
                      refine s_nil ⟨rfl, (hM.pick [3] rfl rfl), ?_⟩
                      refine h_one 9 #[true, true, true, true, true, true, true, true, true, true, false] rfl (by kernel_rfl) ?_
                      refine s_append (i := 4) cdok50 hF hM rfl rfl rfl rfl rfl (hM.sl 0 rfl) Try.underlying37 c121 ?_; intro a w v120 hF hM
                      refine s_nil ⟨rfl, (hM.pick [3] rfl rfl), ?_⟩
                      refine h_val 10 #[true, true, true, true, true, true, true, true, true, true, true] rfl (by kernel_rfl) hF rfl rfl rfl (fun w hS => e_assign hF rfl) (hM.pick [3] rfl rfl) ?_; intro a hF
                      exact h_done rfl ⟨rfl, v115, v114, v119, v120, hF.sub _ ⟨rfl, rfl, rfl, rfl, rfl, trivial⟩, hM.pick [1, 2, 0, 3, 4] rfl rfl⟩
                  rintro e a w ⟨rfl, v115, v114, v119, v120, hF, hM⟩
                  refine then_n ?_
                  refine wp_seq ?_
                  refine wp_seq ?_
                  obtain ⟨c122, H⟩ := ite_some H
                  refine s_region ?_
                  refine s_val hF rfl rfl rfl (e_move hF rfl) ?_; intro a hF
                  refine s_val hF rfl rfl rfl (e_move hF rfl) ?_; intro a hF
                  refine s_val hF rfl rfl rfl (e_ias cd3 hF rfl rfl (q1.frmX hM.frm d1).toF Try.underlying59 Try.sizeOf3 c122.1 c122.2) ?_; intro a hF
                  refine s_val hF rfl rfl rfl (e_lds (m := 0) hF rfl (q1.frmX hM.frm d1) (getD_some (z := (0 : Int)) c122.1 c122.2) rfl rfl Try.isAgg3) ?_; intro a hF
                  refine s_val hF rfl rfl rfl (e_sub hF rfl rfl) ?_; intro a hF
                  refine s_val hF rfl rfl rfl (e_assign hF rfl) ?_; intro a hF
                  refine s_nil ?_
                  refine then_n ?_
                  refine wp_seq ?_
                  rcases ite_cases H with ⟨c123, H⟩ | ⟨c123, H⟩
                  ·
                    obtain ⟨c124, H⟩ := ite_some H
                    obtain ⟨t125, h126, H⟩ := bind_some H
                    refine s_region ?_
                    refine s_val hF rfl rfl rfl (e_move hF rfl) ?_; intro a hF
                    refine s_val hF rfl rfl rfl (e_len hF rfl (q2.frmX hM.frm d2).toF Try.underlying59) ?_; intro a hF
                    refine s_val hF rfl rfl rfl (e_lss hF rfl rfl) ?_; intro a hF
                    refine s_val hF rfl rfl rfl (e_move hF rfl) ?_; intro a hF
                    have hF := hF.topb (decide_eq_true c123)
                    refine s_val hF rfl rfl rfl (e_move hF rfl) ?_; intro a hF
                    refine s_val hF rfl rfl rfl (e_move hF rfl) ?_; intro a hF
                    refine s_val hF rfl rfl rfl (e_move hF rfl) ?_; intro a hF
                    refine s_val hF rfl rfl rfl (e_len hF rfl (q2.frmX hM.frm d2).toF Try.underlying59) ?_; intro a hF
                    refine s_val hF rfl rfl rfl (e_sub hF rfl rfl) ?_; intro a hF
                    refine s_val hF rfl rfl rfl (e_ias cd3 hF rfl rfl (q2.frmX hM.frm d2).toF Try.underlying59 Try.sizeOf3 c124.1 c124.2) ?_; intro a hF
                    refine s_val hF rfl rfl rfl (e_lds (m := (wrap64 ((l2.length : Int) - 1))) hF rfl (q2.frmX hM.frm d2) (getD_some (z := (0 : Int)) c124.1 c124.2) rfl rfl Try.isAgg3) ?_; intro a hF
                    refine s_call hF rfl rfl rfl Try.call49 (spec_l1In.calls K (wrap64 (x81 - (l1.getD (0 : Int).toNat (0 : Int)))) (l2.getD ((wrap64 ((l2.length : Int) - 1)) : Int).toNat (0 : Int)) 30 t125 h126) ?_; intro a w v hF hf hR
                    subst hR; have hM := hM.grow hf
                    refine s_val hF rfl rfl rfl (e_pick_t hF rfl rfl) ?_; intro a hF
                    refine s_nil ?_
                    refine then_n ?_
                    rcases ite_cases H with ⟨c127, H⟩ | ⟨c127, H⟩
                    ·
                      refine s_cond_t hF rfl c127 ?_
                      obtain ⟨t128, h129, H⟩ := bind_some H
                      obtain ⟨c133, H⟩ := ite_some H
                      obtain ⟨t134, h135, H⟩ := bind_some H
                      obtain ⟨c138, H⟩ := ite_some H
                      refine wp_mono (Q := fun e a w => e = Exit.normal ∧ ∃ v132 : Value, ∃ v131 : Value, ∃ v136 : Value, ∃ v137 : Value, Fr 135 a [(7, v137)] ∧ Ms X w0 w [rowR cd3 v132 (t128 ++ [(wrap64 (x81 - (l1.getD (0 : Int).toNat (0 : Int))))]), rowR cd3 v131 [(wrap64 (x81 - (l1.getD (0 : Int).toNat (0 : Int))))], rowR cd50 v136 t134, rowR cd3 v115 (t111 ++ [(wrap64 (x81 - (l2.getD (0 : Int).toNat (0 : Int))))]), rowR cd3 v114 [(wrap64 (x81 - (l2.getD (0 : Int).toNat (0 : Int))))], rowR cd50 v119 t117, boxR b1 [Pt.ar a0] 43, rowR cd50 v137 ((([] : List ((Ar 6) × (Ar 6))) ++ t117) ++ t134)]) ?_ ?_
                      · skip
                        refine s_held (fun w => Ms X w0 w [rowR cd3 v115 (t111 ++ [(wrap64 (x81 - (l2.getD (0 : Int).toNat (0 : Int))))]), rowR cd3 v114 [(wrap64 (x81 - (l2.getD (0 : Int).toNat (0 : Int))))], rowR cd50 v119 t117, boxR b1 [Pt.ar a0] 43]) #[false, false, false, false, false, false, false, false, false, false, false] mixed rfl rfl hM ?_; intro w hf hM; clear hf
                        refine h_val 0 #[true, false, false, false, false, false, false, false, false, false, false] rfl (by kernel_rfl) hF rfl rfl rfl (fun w hS => e_move hF rfl) (hM.pick [0, 1, 2, 3] rfl rfl) ?_; intro a hF
                        refine h_val 1 #[true, true, false, false, false, false, false, false, false, false, false] rfl (by kernel_rfl) hF rfl rfl rfl (fun w hS => e_lda (i := 3) 0 1 hF hS rfl rfl rfl rfl Try.isAgg43 Try.sizeOf43 rfl) (hM.pick [0, 1, 2, 3] rfl rfl) ?_; intro a hF
                        refine h_val 2 #[true, true, true, false, false, false, false, false, false, false, false] rfl (by kernel_rfl) hF rfl rfl rfl (fun w hS => e_move hF rfl) (hM.pick [0, 1, 2, 3] rfl rfl) ?_; intro a hF
                        refine h_val 3 #[true, true, true, true, false, false, false, false, false, false, false] rfl (by kernel_rfl) hF rfl rfl rfl (fun w hS => e_move hF rfl) (hM.pick [0, 1, 2, 3] rfl rfl) ?_; intro a hF
                        refine h_val 5 #[true, true, true, true, false, true, false, false, false, false, false] rfl (by kernel_rfl) hF rfl rfl rfl (fun w hS => e_move hF rfl) (hM.pick [0, 1, 2, 3] rfl rfl) ?_; intro a hF
                        refine h_two 4 6 #[true, true, true, true, true, true, false, false, false, false, false] #[true, true, true, true, false, true, true, false, false, false, false] rfl rfl rfl rfl (by kernel_rfl) ?_ ?_
                        · skip
                          refine s_call hF rfl rfl rfl Try.call69 (spec_l1Own.calls K l2 u2 (q2.frmX hM.frm d2) t128 h129) ?_; intro a w v130 hF hf hR
                          have hM := hM.fresh hf hR
                          refine s_nil ⟨rfl, (hM.pick [1, 2, 3, 4] rfl rfl), ?_⟩
                          refine h_one 6 #[true, true, true, true, true, true, true, false, false, false, false] rfl (by kernel_rfl) ?_
                          refine s_bsl (C := cd3) [(wrap64 (x81 - (l1.getD (0 : Int).toNat (0 : Int))))] cdok3 hF hM rfl rfl rfl rfl Try.underlying59 rfl ?_; intro a w v131 hF hM
                          refine s_nil ⟨rfl, (hM.pick [2, 3, 4, 5] rfl rfl), ?_⟩
                          refine h_one 7 #[true, true, true, true, true, true, true, true, false, false, false] rfl (by kernel_rfl) ?_
                          refine s_append (i := 1) cdok3 hF hM rfl rfl rfl rfl rfl (hM.sl 0 rfl) Try.underlying59 c133 ?_; intro a w v132 hF hM
                          refine s_nil ⟨rfl, (hM.pick [2, 3, 4, 5] rfl rfl), ?_⟩
                          refine h_one 8 #[true, true, true, true, true, true, true, true, true, false, false] rfl (by kernel_rfl) ?_
                          refine s_callx hF rfl rfl rfl Try.call53 (hrec a0 l1 u1 (q1.frmX hM.frm d1) (hM.apart_arg q1 d1 [] rfl) (t128 ++ [(wrap64 (x81 - (l1.getD (0 : Int).toNat (0 : Int))))]) v132 (hM.sl 1 rfl) (hM.apart_row 1 rfl [] (by decide) rfl) (hM.lend [] rfl rfl) t134 h135) ?_; intro a w v hF hR
                          obtain ⟨v136, hR, rfl⟩ := hR; have hM := hM.back [] [0, 1, 2, 3, 4, 5, 6] (by decide) rfl rfl hR
                          refine s_nil ⟨rfl, (hM.pick [3, 4, 5, 6] rfl rfl), ?_⟩
                          refine h_one 9 #[true, true, true, true, true, true, true, true, true, true, false] rfl (by kernel_rfl) ?_
                          refine s_append (i := 7) cdok50 hF hM rfl rfl rfl rfl rfl (hM.sl 0 rfl) Try.underlying37 c138 ?_; intro a w v137 hF hM
                          refine s_nil ⟨rfl, (hM.pick [3, 4, 5, 6] rfl rfl), ?_⟩
                          refine h_val 10 #[true, true, true, true, true, true, true, true, true, true, true] rfl (by kernel_rfl) hF rfl rfl rfl (fun w hS => e_assign hF rfl) (hM.pick [3, 4, 5, 6] rfl rfl) ?_; intro a hF
                          exact h_done rfl ⟨rfl, v132, v131, v136, v137, hF.sub _ ⟨rfl, trivial⟩, hM.pick [2, 1, 0, 3, 4, 5, 6, 7] rfl rfl⟩
                        · skip
                          refine s_bsl (C := cd3) [(wrap64 (x81 - (l1.getD (0 : Int).toNat (0 : Int))))] cdok3 hF hM rfl rfl rfl rfl Try.underlying59 rfl ?_; intro a w v131 hF hM
                          refine s_nil ⟨rfl, (hM.pick [1, 2, 3, 4] rfl rfl), ?_⟩
                          refine h_one 4 #[true, true, true, true, true, true, true, false, false, false, false] rfl (by kernel_rfl) ?_
                          refine s_call hF rfl rfl rfl Try.call69 (spec_l1Own.calls K l2 u2 (q2.frmX hM.frm d2) t128 h129) ?_; intro a w v130 hF hf hR
                          have hM := hM.fresh hf hR
                          refine s_nil ⟨rfl, (hM.pick [2, 3, 4, 5] rfl rfl), ?_⟩
                          refine h_one 7 #[true, true, true, true, true, true, true, true, false, false, false] rfl (by kernel_rfl) ?_
                          refine s_append (i := 0) cdok3 hF hM rfl rfl rfl rfl rfl (hM.sl 1 rfl) Try.underlying59 c133 ?_; intro a w v132 hF hM
                          refine s_nil ⟨rfl, (hM.pick [2, 3, 4, 5] rfl rfl), ?_⟩
                          refine h_one 8 #[true, true, true, true, true, true, true, true, true, false, false] rfl (by kernel_rfl) ?_
                          refine s_callx hF rfl rfl rfl Try.call53 (hrec a0 l1 u1 (q1.frmX hM.frm d1) (hM.apart_arg q1 d1 [] rfl) (t128 ++ [(wrap64 (x81 - (l1.getD (0 : Int).toNat (0 : Int))))]) v132 (hM.sl 0 rfl) (hM.apart_row 0 rfl [] (by decide) rfl) (hM.lend [] rfl rfl) t134 h135) ?_; intro a w v hF hR
                          obtain ⟨v136, hR, rfl⟩ := hR; have hM := hM.back [] [0, 1, 2, 3, 4, 5, 6] (by decide) rfl rfl hR
                          refine s_nil ⟨rfl, (hM.pick [3, 4, 5, 6] rfl rfl), ?_⟩
                          refine h_one 9 #[true, true, true, true, true, true, true, true, true, true, false] rfl (by kernel_rfl) ?_
                          refine s_append (i := 7) cdok50 hF hM rfl rfl rfl rfl rfl (hM.sl 0 rfl) Try.underlying37 c138 ?_; intro a w v137 hF hM
                          refine s_nil ⟨rfl, (hM.pick [3, 4, 5, 6] rfl rfl), ?_⟩
                          refine h_val 10 #[true, true, true, true, true, true, true, true, true, true, true] rfl (by kernel_rfl) hF rfl rfl rfl (fun w hS => e_assign hF rfl) (hM.pick [3, 4, 5, 6] rfl rfl) ?_; intro a hF
                          exact h_done rfl ⟨rfl, v132, v131, v136, v137, hF.sub _ ⟨rfl, trivial⟩, hM.pick [1, 2, 0, 3, 4, 5, 6, 7] rfl rfl⟩
                      rintro e a w ⟨rfl, v132, v131, v136, v137, hF, hM⟩
                      refine then_n ?_
                      refine wp_seq ?_
                      refine s_region ?_
                      refine s_val hF rfl rfl rfl (e_move hF rfl) ?_; intro a hF
                      refine s_val hF rfl rfl rfl (e_assign hF rfl) ?_; intro a hF
                      refine s_nil ?_
                      refine then_n ?_
                      refine wp_ret ?_
                      obtain rfl := some_some H
                      refine s_ret [v137] hF Try.results53 ⟨rfl, trivial⟩ ?_
                      exact ⟨_, rfl, v137, hM.pick [7] rfl rfl, rfl⟩
                    ·
                      refine s_cond_f hF rfl (bf c127) ?_
                      refine wp_skip ?_
                      refine then_n ?_
                      refine wp_seq ?_
                      refine s_region ?_
                      refine s_val hF rfl rfl rfl (e_move hF rfl) ?_; intro a hF
                      refine s_val hF rfl rfl rfl (e_assign hF rfl) ?_; intro a hF
                      refine s_nil ?_
                      refine then_n ?_
                      refine wp_ret ?_
                      obtain rfl := some_some H
                      refine s_ret [v120] hF Try.results53 ⟨rfl, trivial⟩ ?_
                      exact ⟨_, rfl, v120, hM.pick [4] rfl rfl, rfl⟩
                  ·
                    refine s_region ?_
                    refine s_val hF rfl rfl rfl (e_move hF rfl) ?_; intro a hF
                    refine s_val hF rfl rfl rfl (e_len hF rfl (q2.frmX hM.frm d2).toF Try.underlying59) ?_; intro a hF
                    refine s_val hF rfl rfl rfl (e_lss hF rfl rfl) ?_; intro a hF
                    refine s_val hF rfl rfl rfl (e_move hF rfl) ?_; intro a hF
                    have hF := hF.topb (decide_eq_false c123)
                    refine s_skip hF rfl rfl rfl ?_; intro a hF
                    refine s_skip hF rfl rfl rfl ?_; intro a hF
                    refine s_skip hF rfl rfl rfl ?_; intro a hF
                    refine s_skip hF rfl rfl rfl ?_; intro a hF
                    refine s_skip hF rfl rfl rfl ?_; intro a hF
                    refine s_skip hF rfl rfl rfl ?_; intro a hF
                    refine s_skip hF rfl rfl rfl ?_; intro a hF
                    refine s_skip hF rfl rfl rfl ?_; intro a hF
                    refine s_val hF rfl rfl rfl (e_pick_f hF rfl rfl) ?_; intro a hF
                    refine s_nil ?_
                    refine then_n ?_
                    refine s_cond_f hF rfl rfl ?_
                    refine wp_skip ?_
                    refine then_n ?_
                    refine wp_seq ?_
                    refine s_region ?_
                    refine s_val hF rfl rfl rfl (e_move hF rfl) ?_; intro a hF
                    refine s_val hF rfl rfl rfl (e_assign hF rfl) ?_; intro a hF
                    refine s_nil ?_
                    refine then_n ?_
                    refine wp_ret ?_
                    obtain rfl := some_some H
                    refine s_ret [v120] hF Try.results53 ⟨rfl, trivial⟩ ?_
                    exact ⟨_, rfl, v120, hM.pick [4] rfl rfl, rfl⟩
                ·
                  refine s_cond_f hF rfl (bf c110) ?_
                  refine wp_skip ?_
                  refine then_n ?_
                  refine wp_seq ?_
                  refine wp_seq ?_
                  obtain ⟨c139, H⟩ := ite_some H
                  refine s_region ?_
                  refine s_val hF rfl rfl rfl (e_move hF rfl) ?_; intro a hF
                  refine s_val hF rfl rfl rfl (e_move hF rfl) ?_; intro a hF
                  refine s_val hF rfl rfl rfl (e_ias cd3 hF rfl rfl (q1.frmX hM.frm d1).toF Try.underlying59 Try.sizeOf3 c139.1 c139.2) ?_; intro a hF
                  refine s_val hF rfl rfl rfl (e_lds (m := 0) hF rfl (q1.frmX hM.frm d1) (getD_some (z := (0 : Int)) c139.1 c139.2) rfl rfl Try.isAgg3) ?_; intro a hF
                  refine s_val hF rfl rfl rfl (e_sub hF rfl rfl) ?_; intro a hF
                  refine s_val hF rfl rfl rfl (e_assign hF rfl) ?_; intro a hF
                  refine s_nil ?_
                  refine then_n ?_
                  refine wp_seq ?_
                  rcases ite_cases H with ⟨c140, H⟩ | ⟨c140, H⟩
                  ·
                    obtain ⟨c141, H⟩ := ite_some H
                    obtain ⟨t142, h143, H⟩ := bind_some H
                    refine s_region ?_
                    refine s_val hF rfl rfl rfl (e_move hF rfl) ?_; intro a hF
                    refine s_val hF rfl rfl rfl (e_len hF rfl (q2.frmX hM.frm d2).toF Try.underlying59) ?_; intro a hF
                    refine s_val hF rfl rfl rfl (e_lss hF rfl rfl) ?_; intro a hF
                    refine s_val hF rfl rfl rfl (e_move hF rfl) ?_; intro a hF
                    have hF := hF.topb (decide_eq_true c140)
                    refine s_val hF rfl rfl rfl (e_move hF rfl) ?_; intro a hF
                    refine s_val hF rfl rfl rfl (e_move hF rfl) ?_; intro a hF
                    refine s_val hF rfl rfl rfl (e_move hF rfl) ?_; intro a hF
                    refine s_val hF rfl rfl rfl (e_len hF rfl (q2.frmX hM.frm d2).toF Try.underlying59) ?_; intro a hF
                    refine s_val hF rfl rfl rfl (e_sub hF rfl rfl) ?_; intro a hF
                    refine s_val hF rfl rfl rfl (e_ias cd3 hF rfl rfl (q2.frmX hM.frm d2).toF Try.underlying59 Try.sizeOf3 c141.1 c141.2) ?_; intro a hF
                    refine s_val hF rfl rfl rfl (e_lds (m := (wrap64 ((l2.length : Int) - 1))) hF rfl (q2.frmX hM.frm d2) (getD_some (z := (0 : Int)) c141.1 c141.2) rfl rfl Try.isAgg3) ?_; intro a hF
                    refine s_call hF rfl rfl rfl Try.call49 (spec_l1In.calls K (wrap64 (x81 - (l1.getD (0 : Int).toNat (0 : Int)))) (l2.getD ((wrap64 ((l2.length : Int) - 1)) : Int).toNat (0 : Int)) 30 t142 h143) ?_; intro a w v hF hf hR
                    subst hR; have hM := hM.grow hf
                    refine s_val hF rfl rfl rfl (e_pick_t hF rfl rfl) ?_; intro a hF
                    refine s_nil ?_
                    refine then_n ?_
                    rcases ite_cases H with ⟨c144, H⟩ | ⟨c144, H⟩
                    ·
                      refine s_cond_t hF rfl c144 ?_
                      obtain ⟨t145, h146, H⟩ := bind_some H
                      obtain ⟨c150, H⟩ := ite_some H
                      obtain ⟨t151, h152, H⟩ := bind_some H
                      obtain ⟨c155, H⟩ := ite_some H
                      refine wp_mono (Q := fun e a w => e = Exit.normal ∧ ∃ v149 : Value, ∃ v148 : Value, ∃ v153 : Value, ∃ v154 : Value, Fr 135 a [(7, v154)] ∧ Ms X w0 w [rowR cd3 v149 (t145 ++ [(wrap64 (x81 - (l1.getD (0 : Int).toNat (0 : Int))))]), rowR cd3 v148 [(wrap64 (x81 - (l1.getD (0 : Int).toNat (0 : Int))))], rowR cd50 v153 t151, boxR b1 [Pt.ar a0] 43, rowR cd50 v154 (([] : List ((Ar 6) × (Ar 6))) ++ t151)]) ?_ ?_
                      · skip
                        refine s_held (fun w => Ms X w0 w [boxR b1 [Pt.ar a0] 43]) #[false, false, false, false, false, false, false, false, false, false, false] mixed rfl rfl hM ?_; intro w hf hM; clear hf
                        refine h_val 0 #[true, false, false, false, false, false, false, false, false, false, false] rfl (by kernel_rfl) hF rfl rfl rfl (fun w hS => e_move hF rfl) (hM.pick [0] rfl rfl) ?_; intro a hF
                        refine h_val 1 #[true, true, false, false, false, false, false, false, false, false, false] rfl (by kernel_rfl) hF rfl rfl rfl (fun w hS => e_lda (i := 0) 0 1 hF hS rfl rfl rfl rfl Try.isAgg43 Try.sizeOf43 rfl) (hM.pick [0] rfl rfl) ?_; intro a hF
                        refine h_val 2 #[true, true, true, false, false, false, false, false, false, false, false] rfl (by kernel_rfl) hF rfl rfl rfl (fun w hS => e_move hF rfl) (hM.pick [0] rfl rfl) ?_; intro a hF
                        refine h_val 3 #[true, true, true, true, false, false, false, false, false, false, false] rfl (by kernel_rfl) hF rfl rfl rfl (fun w hS => e_move hF rfl) (hM.pick [0] rfl rfl) ?_; intro a hF
                        refine h_val 5 #[true, true, true, true, false, true, false, false, false, false, false] rfl (by kernel_rfl) hF rfl rfl rfl (fun w hS => e_move hF rfl) (hM.pick [0] rfl rfl) ?_; intro a hF
                        refine h_two 4 6 #[true, true, true, true, true, true, false, false, false, false, false] #[true, true, true, true, false, true, true, false, false, false, false] rfl rfl rfl rfl (by kernel_rfl) ?_ ?_
                        · skip
                          refine s_call hF rfl rfl rfl Try.call69 (spec_l1Own.calls K l2 u2 (q2.frmX hM.frm d2) t145 h146) ?_; intro a w v147 hF hf hR
                          have hM := hM.fresh hf hR
                          refine s_nil ⟨rfl, (hM.pick [1] rfl rfl), ?_⟩
                          refine h_one 6 #[true, true, true, true, true, true, true, false, false, false, false] rfl (by kernel_rfl) ?_
                          refine s_bsl (C := cd3) [(wrap64 (x81 - (l1.getD (0 : Int).toNat (0 : Int))))] cdok3 hF hM rfl rfl rfl rfl Try.underlying59 rfl ?_; intro a w v148 hF hM
                          refine s_nil ⟨rfl, (hM.pick [2] rfl rfl), ?_⟩
                          refine h_one 7 #[true, true, true, true, true, true, true, true, false, false, false] rfl (by kernel_rfl) ?_
                          refine s_append (i := 1) cdok3 hF hM rfl rfl rfl rfl rfl (hM.sl 0 rfl) Try.underlying59 c150 ?_; intro a w v149 hF hM
                          refine s_nil ⟨rfl, (hM.pick [2] rfl rfl), ?_⟩
                          refine h_one 8 #[true, true, true, true, true, true, true, true, true, false, false] rfl (by kernel_rfl) ?_
                          refine s_callx hF rfl rfl rfl Try.call53 (hrec a0 l1 u1 (q1.frmX hM.frm d1) (hM.apart_arg q1 d1 [] rfl) (t145 ++ [(wrap64 (x81 - (l1.getD (0 : Int).toNat (0 : Int))))]) v149 (hM.sl 1 rfl) (hM.apart_row 1 rfl [] (by decide) rfl) (hM.lend [] rfl rfl) t151 h152) ?_; intro a w v hF hR
                          obtain ⟨v153, hR, rfl⟩ := hR; have hM := hM.back [] [0, 1, 2, 3] (by decide) rfl rfl hR
                          refine s_nil ⟨rfl, (hM.pick [3] rfl rfl), ?_⟩
                          refine h_one 9 #[true, true, true, true, true, true, true, true, true, true, false] rfl (by kernel_rfl) ?_
                          refine s_append (i := 4) cdok50 hF hM rfl rfl rfl rfl rfl (hM.sl 0 rfl) Try.underlying37 c155 ?_; intro a w v154 hF hM
                          refine s_nil ⟨rfl, (hM.pick [3] rfl rfl), ?_⟩
                          refine h_val 10 #[true, true, true, true, true, true, true, true, true, true, true] rfl (by kernel_rfl) hF rfl rfl rfl (fun w hS => e_assign hF rfl) (hM.pick [3] rfl rfl) ?_; intro a hF
                          exact h_done rfl ⟨rfl, v149, v148, v153, v154, hF.sub _ ⟨rfl, trivial⟩, hM.pick [2, 1, 0, 3, 4] rfl rfl⟩
                        · skip
                          refine s_bsl (C := cd3) [(wrap64 (x81 - (l1.getD (0 : Int).toNat (0 : Int))))] cdok3 hF hM rfl rfl rfl rfl Try.underlying59 rfl ?_; intro a w v148 hF hM
                          refine s_nil ⟨rfl, (hM.pick [1] rfl rfl), ?_⟩
                          refine h_one 4 #[true, true, true, true, true, true, true, false, false, false, false] rfl (by kernel_rfl) ?_
                          refine s_call hF rfl rfl rfl Try.call69 (spec_l1Own.calls K l2 u2 (q2.frmX hM.frm d2) t145 h146) ?_; intro a w v147 hF hf hR
                          have hM := hM.fresh hf hR
                          refine s_nil ⟨rfl, (hM.pick [2] rfl rfl), ?_⟩
                          refine h_one 7 #[true, true, true, true, true, true, true, true, false, false, false] rfl (by kernel_rfl) ?_
                          refine s_append (i := 0) cdok3 hF hM rfl rfl rfl rfl rfl (hM.sl 1 rfl) Try.underlying59 c150 ?_; intro a w v149 hF hM
                          refine s_nil ⟨rfl, (hM.pick [2] rfl rfl), ?_⟩
                          refine h_one 8 #[true, true, true, true, true, true, true, true, true, false, false] rfl (by kernel_rfl) ?_
                          refine s_callx hF rfl rfl rfl Try.call53 (hrec a0 l1 u1 (q1.frmX hM.frm d1) (hM.apart_arg q1 d1 [] rfl) (t145 ++ [(wrap64 (x81 - (l1.getD (0 : Int).toNat (0 : Int))))]) v149 (hM.sl 0 rfl) (hM.apart_row 0 rfl [] (by decide) rfl) (hM.lend [] rfl rfl) t151 h152) ?_; intro a w v hF hR
                          obtain ⟨v153, hR, rfl⟩ := hR; have hM := hM.back [] [0, 1, 2, 3] (by decide) rfl rfl hR
                          refine s_nil ⟨rfl, (hM.pick [3] rfl rfl), ?_⟩
                          refine h_one 9 #[true, true, true, true, true, true, true, true, true, true, false] rfl (by kernel_rfl) ?_
                          refine s_append (i := 4) cdok50 hF hM rfl rfl rfl rfl rfl (hM.sl 0 rfl) Try.underlying37 c155 ?_; intro a w v154 hF hM
                          refine s_nil ⟨rfl, (hM.pick [3] rfl rfl), ?_⟩
                          refine h_val 10 #[true, true, true, true, true, true, true, true, true, true, true] rfl (by kernel_rfl) hF rfl rfl rfl (fun w hS => e_assign hF rfl) (hM.pick [3] rfl rfl) ?_; intro a hF
                          exact h_done rfl ⟨rfl, v149, v148, v153, v154, hF.sub _ ⟨rfl, trivial⟩, hM.pick [1, 2, 0, 3, 4] rfl rfl⟩
                      rintro e a w ⟨rfl, v149, v148, v153, v154, hF, hM⟩
                      refine then_n ?_
                      refine wp_seq ?_
                      refine s_region ?_
                      refine s_val hF rfl rfl rfl (e_move hF rfl) ?_; intro a hF
                      refine s_val hF rfl rfl rfl (e_assign hF rfl) ?_; intro a hF
                      refine s_nil ?_
                      refine then_n ?_
                      refine wp_ret ?_
                      obtain rfl := some_some H
                      refine s_ret [v154] hF Try.results53 ⟨rfl, trivial⟩ ?_
                      exact ⟨_, rfl, v154, hM.pick [4] rfl rfl, rfl⟩
                    ·
                      refine s_cond_f hF rfl (bf c144) ?_
                      refine wp_skip ?_
                      refine then_n ?_
                      refine wp_seq ?_
                      refine s_region ?_
                      refine s_val hF rfl rfl rfl (e_move hF rfl) ?_; intro a hF
                      refine s_val hF rfl rfl rfl (e_assign hF rfl) ?_; intro a hF
                      refine s_nil ?_
                      refine then_n ?_
                      refine wp_ret ?_
                      obtain rfl := some_some H
                      refine s_ret [v2] hF Try.results53 ⟨rfl, trivial⟩ ?_
                      exact ⟨_, rfl, v2, hM.pick [1] rfl rfl, rfl⟩
                  ·
                    refine s_region ?_
                    refine s_val hF rfl rfl rfl (e_move hF rfl) ?_; intro a hF
                    refine s_val hF rfl rfl rfl (e_len hF rfl (q2.frmX hM.frm d2).toF Try.underlying59) ?_; intro a hF
                    refine s_val hF rfl rfl rfl (e_lss hF rfl rfl) ?_; intro a hF
                    refine s_val hF rfl rfl rfl (e_move hF rfl) ?_; intro a hF
                    have hF := hF.topb (decide_eq_false c140)
                    refine s_skip hF rfl rfl rfl ?_; intro a hF
                    refine s_skip hF rfl rfl rfl ?_; intro a hF
                    refine s_skip hF rfl rfl rfl ?_; intro a hF
                    refine s_skip hF rfl rfl rfl ?_; intro a hF
                    refine s_skip hF rfl rfl rfl ?_; intro a hF
                    refine s_skip hF rfl rfl rfl ?_; intro a hF
                    refine s_skip hF rfl rfl rfl ?_; intro a hF
                    refine s_skip hF rfl rfl rfl ?_; intro a hF
                    refine s_val hF rfl rfl rfl (e_pick_f hF rfl rfl) ?_; intro a hF
                    refine s_nil ?_
                    refine then_n ?_
                    refine s_cond_f hF rfl rfl ?_
                    refine wp_skip ?_
                    refine then_n ?_
                    refine wp_seq ?_
                    refine s_region ?_
                    refine s_val hF rfl rfl rfl (e_move hF rfl) ?_; intro a hF
                    refine s_val hF rfl rfl rfl (e_assign hF rfl) ?_; intro a hF
                    refine s_nil ?_
                    refine then_n ?_
                    refine wp_ret ?_
                    obtain rfl := some_some H
                    refine s_ret [v2] hF Try.results53 ⟨rfl, trivial⟩ ?_
                    exact ⟨_, rfl, v2, hM.pick [1] rfl rfl, rfl⟩
              ·
                refine s_region ?_
                refine s_val hF rfl rfl rfl (e_move hF rfl) ?_; intro a hF
                refine s_val hF rfl rfl rfl (e_len hF rfl (q1.frmX hM.frm d1).toF Try.underlying59) ?_; intro a hF
                refine s_val hF rfl rfl rfl (e_lss hF rfl rfl) ?_; intro a hF
                refine s_val hF rfl rfl rfl (e_move hF rfl) ?_; intro a hF
                have hF := hF.topb (decide_eq_false c106)
                refine s_skip hF rfl rfl rfl ?_; intro a hF
                refine s_skip hF rfl rfl rfl ?_; intro a hF
                refine s_skip hF rfl rfl rfl ?_; intro a hF
                refine s_skip hF rfl rfl rfl ?_; intro a hF
                refine s_skip hF rfl rfl rfl ?_; intro a hF
                refine s_skip hF rfl rfl rfl ?_; intro a hF
                refine s_skip hF rfl rfl rfl ?_; intro a hF
                refine s_skip hF rfl rfl rfl ?_; intro a hF
                refine s_val hF rfl rfl rfl (e_pick_f hF rfl rfl) ?_; intro a hF
                refine s_nil ?_
                refine then_n ?_
                refine s_cond_f hF rfl rfl ?_
                refine wp_skip ?_
                refine then_n ?_
                refine wp_seq ?_
                refine wp_seq ?_
                obtain ⟨c156, H⟩ := ite_some H
                refine s_region ?_
                refine s_val hF rfl rfl rfl (e_move hF rfl) ?_; intro a hF
                refine s_val hF rfl rfl rfl (e_move hF rfl) ?_; intro a hF
                refine s_val hF rfl rfl rfl (e_ias cd3 hF rfl rfl (q1.frmX hM.frm d1).toF Try.underlying59 Try.sizeOf3 c156.1 c156.2) ?_; intro a hF
                refine s_val hF rfl rfl rfl (e_lds (m := 0) hF rfl (q1.frmX hM.frm d1) (getD_some (z := (0 : Int)) c156.1 c156.2) rfl rfl Try.isAgg3) ?_; intro a hF
                refine s_val hF rfl rfl rfl (e_sub hF rfl rfl) ?_; intro a hF
                refine s_val hF rfl rfl rfl (e_assign hF rfl) ?_; intro a hF
                refine s_nil ?_
                refine then_n ?_
                refine wp_seq ?_
                rcases ite_cases H with ⟨c157, H⟩ | ⟨c157, H⟩
                ·
                  obtain ⟨c158, H⟩ := ite_some H
                  obtain ⟨t159, h160, H⟩ := bind_some H
                  refine s_region ?_
                  refine s_val hF rfl rfl rfl (e_move hF rfl) ?_; intro a hF
                  refine s_val hF rfl rfl rfl (e_len hF rfl (q2.frmX hM.frm d2).toF Try.underlying59) ?_; intro a hF
                  refine s_val hF rfl rfl rfl (e_lss hF rfl rfl) ?_; intro a hF
                  refine s_val hF rfl rfl rfl (e_move hF rfl) ?_; intro a hF
                  have hF := hF.topb (decide_eq_true c157)
                  refine s_val hF rfl rfl rfl (e_move hF rfl) ?_; intro a hF
                  refine s_val hF rfl rfl rfl (e_move hF rfl) ?_; intro a hF
                  refine s_val hF rfl rfl rfl (e_move hF rfl) ?_; intro a hF
                  refine s_val hF rfl rfl rfl (e_len hF rfl (q2.frmX hM.frm d2).toF Try.underlying59) ?_; intro a hF
                  refine s_val hF rfl rfl rfl (e_sub hF rfl rfl) ?_; intro a hF
                  refine s_val hF rfl rfl rfl (e_ias cd3 hF rfl rfl (q2.frmX hM.frm d2).toF Try.underlying59 Try.sizeOf3 c158.1 c158.2) ?_; intro a hF
                  refine s_val hF rfl rfl rfl (e_lds (m := (wrap64 ((l2.length : Int) - 1))) hF rfl (q2.frmX hM.frm d2) (getD_some (z := (0 : Int)) c158.1 c158.2) rfl rfl Try.isAgg3) ?_; intro a hF
                  refine s_call hF rfl rfl rfl Try.call49 (spec_l1In.calls K (wrap64 (x81 - (l1.getD (0 : Int).toNat (0 : Int)))) (l2.getD ((wrap64 ((l2.length : Int) - 1)) : Int).toNat (0 : Int)) 30 t159 h160) ?_; intro a w v hF hf hR
                  subst hR; have hM := hM.grow hf
                  refine s_val hF rfl rfl rfl (e_pick_t hF rfl rfl) ?_; intro a hF
                  refine s_nil ?_
                  refine then_n ?_
                  rcases ite_cases H with ⟨c161, H⟩ | ⟨c161, H⟩
                  ·
                    refine s_cond_t hF rfl c161 ?_
                    obtain ⟨t162, h163, H⟩ := bind_some H
                    obtain ⟨c167, H⟩ := ite_some H
                    obtain ⟨t168, h169, H⟩ := bind_some H
                    obtain ⟨c172, H⟩ := ite_some H
                    refine wp_mono (Q := fun e a w => e = Exit.normal ∧ ∃ v166 : Value, ∃ v165 : Value, ∃ v170 : Value, ∃ v171 : Value, Fr 135 a [(7, v171)] ∧ Ms X w0 w [rowR cd3 v166 (t162 ++ [(wrap64 (x81 - (l1.getD (0 : Int).toNat (0 : Int))))]), rowR cd3 v165 [(wrap64 (x81 - (l1.getD (0 : Int).toNat (0 : Int))))], rowR cd50 v170 t168, boxR b1 [Pt.ar a0] 43, rowR cd50 v171 (([] : List ((Ar 6) × (Ar 6))) ++ t168)]) ?_ ?_
                    · skip
                      refine s_held (fun w => Ms X w0 w [boxR b1 [Pt.ar a0] 43]) #[false, false, false, false, false, false, false, false, false, false, false] mixed rfl rfl hM ?_; intro w hf hM; clear hf
                      refine h_val 0 #[true, false, false, false, false, false, false, false, false, false, false] rfl (by kernel_rfl) hF rfl rfl rfl (fun w hS => e_move hF rfl) (hM.pick [0] rfl rfl) ?_; intro a hF
                      refine h_val 1 #[true, true, false, false, false, false, false, false, false, false, false] rfl (by kernel_rfl) hF rfl rfl rfl (fun w hS => e_lda (i := 0) 0 1 hF hS rfl rfl rfl rfl Try.isAgg43 Try.sizeOf43 rfl) (hM.pick [0] rfl rfl) ?_; intro a hF
                      refine h_val 2 #[true, true, true, false, false, false, false, false, false, false, false] rfl (by kernel_rfl) hF rfl rfl rfl (fun w hS => e_move hF rfl) (hM.pick [0] rfl rfl) ?_; intro a hF
                      refine h_val 3 #[true, true, true, true, false, false, false, false, false, false, false] rfl (by kernel_rfl) hF rfl rfl rfl (fun w hS => e_move hF rfl) (hM.pick [0] rfl rfl) ?_; intro a hF
                      refine h_val 5 #[true, true, true, true, false, true, false, false, false, false, false] rfl (by kernel_rfl) hF rfl rfl rfl (fun w hS => e_move hF rfl) (hM.pick [0] rfl rfl) ?_; intro a hF
                      refine h_two 4 6 #[true, true, true, true, true, true, false, false, false, false, false] #[true, true, true, true, false, true, true, false, false, false, false] rfl rfl rfl rfl (by kernel_rfl) ?_ ?_
                      · skip
                        refine s_call hF rfl rfl rfl Try.call69 (spec_l1Own.calls K l2 u2 (q2.frmX hM.frm d2) t162 h163) ?_; intro a w v164 hF hf hR
                        have hM := hM.fresh hf hR
                        refine s_nil ⟨rfl, (hM.pick [1] rfl rfl), ?_⟩
                        refine h_one 6 #[true, true, true, true, true, true, true, false, false, false, false] rfl (by kernel_rfl) ?_
                        refine s_bsl (C := cd3) [(wrap64 (x81 - (l1.getD (0 : Int).toNat (0 : Int))))] cdok3 hF hM rfl rfl rfl rfl Try.underlying59 rfl ?_; intro a w v165 hF hM
                        refine s_nil ⟨rfl, (hM.pick [2] rfl rfl), ?_⟩
                        refine h_one 7 #[true, true, true, true, true, true, true, true, false, false, false] rfl (by kernel_rfl) ?_
                        refine s_append (i := 1) cdok3 hF hM rfl rfl rfl rfl rfl (hM.sl 0 rfl) Try.underlying59 c167 ?_; intro a w v166 hF hM
                        refine s_nil ⟨rfl, (hM.pick [2] rfl rfl), ?_⟩
                        refine h_one 8 #[true, true, true, true, true, true, true, true, true, false, false] rfl (by kernel_rfl) ?_
                        refine s_callx hF rfl rfl rfl Try.call53 (hrec a0 l1 u1 (q1.frmX hM.frm d1) (hM.apart_arg q1 d1 [] rfl) (t162 ++ [(wrap64 (x81 - (l1.getD (0 : Int).toNat (0 : Int))))]) v166 (hM.sl 1 rfl) (hM.apart_row 1 rfl [] (by decide) rfl) (hM.lend [] rfl rfl) t168 h169) ?_; intro a w v hF hR
                        obtain ⟨v170, hR, rfl⟩ := hR; have hM := hM.back [] [0, 1, 2, 3] (by decide) rfl rfl hR
                        refine s_nil ⟨rfl, (hM.pick [3] rfl rfl), ?_⟩
                        refine h_one 9 #[true, true, true, true, true, true, true, true, true, true, false] rfl (by kernel_rfl) ?_
                        refine s_append (i := 4) cdok50 hF hM rfl rfl rfl rfl rfl (hM.sl 0 rfl) Try.underlying37 c172 ?_; intro a w v171 hF hM
                        refine s_nil ⟨rfl, (hM.pick [3] rfl rfl), ?_⟩
                        refine h_val 10 #[true, true, true, true, true, true, true, true, true, true, true] rfl (by kernel_rfl) hF rfl rfl rfl (fun w hS => e_assign hF rfl) (hM.pick [3] rfl rfl) ?_; intro a hF
                        exact h_done rfl ⟨rfl, v166, v165, v170, v171, hF.sub _ ⟨rfl, trivial⟩, hM.pick [2, 1, 0, 3, 4] rfl rfl⟩
                      · skip
                        refine s_bsl (C := cd3) [(wrap64 (x81 - (l1.getD (0 : Int).toNat (0 : Int))))] cdok3 hF hM rfl rfl rfl rfl Try.underlying59 rfl ?_; intro a w v165 hF hM
                        refine s_nil ⟨rfl, (hM.pick [1] rfl rfl), ?_⟩
                        refine h_one 4 #[true, true, true, true, true, true, true, false, false, false, false] rfl (by kernel_rfl) ?_
                        refine s_call hF rfl rfl rfl Try.call69 (spec_l1Own.calls K l2 u2 (q2.frmX hM.frm d2) t162 h163) ?_; intro a w v164 hF hf hR
                        have hM := hM.fresh hf hR
                        refine s_nil ⟨rfl, (hM.pick [2] rfl rfl), ?_⟩
                        refine h_one 7 #[true, true, true, true, true, true, true, true, false, false, false] rfl (by kernel_rfl) ?_
                        refine s_append (i := 0) cdok3 hF hM rfl rfl rfl rfl rfl (hM.sl 1 rfl) Try.underlying59 c167 ?_; intro a w v166 hF hM
                        refine s_nil ⟨rfl, (hM.pick [2] rfl rfl), ?_⟩
                        refine h_one 8 #[true, true, true, true, true, true, true, true, true, false, false] rfl (by kernel_rfl) ?_
                        refine s_callx hF rfl rfl rfl Try.call53 (hrec a0 l1 u1 (q1.frmX hM.frm d1) (hM.apart_arg q1 d1 [] rfl) (t162 ++ [(wrap64 (x81 - (l1.getD (0 : Int).toNat (0 : Int))))]) v166 (hM.sl 0 rfl) (hM.apart_row 0 rfl [] (by decide) rfl) (hM.lend [] rfl rfl) t168 h169) ?_; intro a w v hF hR
                        obtain ⟨v170, hR, rfl⟩ := hR; have hM := hM.back [] [0, 1, 2, 3] (by decide) rfl rfl hR
                        refine s_nil ⟨rfl, (hM.pick [3] rfl rfl), ?_⟩
                        refine h_one 9 #[true, true, true, true, true, true, true, true, true, true, false] rfl (by kernel_rfl) ?_
                        refine s_append (i := 4) cdok50 hF hM rfl rfl rfl rfl rfl (hM.sl 0 rfl) Try.underlying37 c172 ?_; intro a w v171 hF hM
                        refine s_nil ⟨rfl, (hM.pick [3] rfl rfl), ?_⟩
                        refine h_val 10 #[true, true, true, true, true, true, true, true, true, true, true] rfl (by kernel_rfl) hF rfl rfl rfl (fun w hS => e_assign hF rfl) (hM.pick [3] rfl rfl) ?_; intro a hF
                        exact h_done rfl ⟨rfl, v166, v165, v170, v171, hF.sub _ ⟨rfl, trivial⟩, hM.pick [1, 2, 0, 3, 4] rfl rfl⟩
                    rintro e a w ⟨rfl, v166, v165, v170, v171, hF, hM⟩
                    refine then_n ?_
                    refine wp_seq ?_
                    refine s_region ?_
                    refine s_val hF rfl rfl rfl (e_move hF rfl) ?_; intro a hF
                    refine s_val hF rfl rfl rfl (e_assign hF rfl) ?_; intro a hF
                    refine s_nil ?_
                    refine then_n ?_
                    refine wp_ret ?_
                    obtain rfl := some_some H
                    refine s_ret [v171] hF Try.results53 ⟨rfl, trivial⟩ ?_
                    exact ⟨_, rfl, v171, hM.pick [4] rfl rfl, rfl⟩
                  ·
                    refine s_cond_f hF rfl (bf c161) ?_
                    refine wp_skip ?_
                    refine then_n ?_
                    refine wp_seq ?_
                    refine s_region ?_
                    refine s_val hF rfl rfl rfl (e_move hF rfl) ?_; intro a hF
                    refine s_val hF rfl rfl rfl (e_assign hF rfl) ?_; intro a hF
                    refine s_nil ?_
                    refine then_n ?_
                    refine wp_ret ?_
                    obtain rfl := some_some H
                    refine s_ret [v2] hF Try.results53 ⟨rfl, trivial⟩ ?_
                    exact ⟨_, rfl, v2, hM.pick [1] rfl rfl, rfl⟩
                ·
                  refine s_region ?_
                  refine s_val hF rfl rfl rfl (e_move hF rfl) ?_; intro a hF
                  refine s_val hF rfl rfl rfl (e_len hF rfl (q2.frmX hM.frm d2).toF Try.underlying59) ?_; intro a hF
                  refine s_val hF rfl rfl rfl (e_lss hF rfl rfl) ?_; intro a hF
                  refine s_val hF rfl rfl rfl (e_move hF rfl) ?_; intro a hF
                  have hF := hF.topb (decide_eq_false c157)
                  refine s_skip hF rfl rfl rfl ?_; intro a hF
                  refine s_skip hF rfl rfl rfl ?_; intro a hF
                  refine s_skip hF rfl rfl rfl ?_; intro a hF
                  refine s_skip hF rfl rfl rfl ?_; intro a hF
                  refine s_skip hF rfl rfl rfl ?_; intro a hF
                  refine s_skip hF rfl rfl rfl ?_; intro a hF
                  refine s_skip hF rfl rfl rfl ?_; intro a hF
                  refine s_skip hF rfl rfl rfl ?_; intro a hF
                  refine s_val hF rfl rfl rfl (e_pick_f hF rfl rfl) ?_; intro a hF
                  refine s_nil ?_
                  refine then_n ?_
                  refine s_cond_f hF rfl rfl ?_
                  refine wp_skip ?_
                  refine then_n ?_
                  refine wp_seq ?_
                  refine s_region ?_
                  refine s_val hF rfl rfl rfl (e_move hF rfl) ?_; intro a hF
                  refine s_val hF rfl rfl rfl (e_assign hF rfl) ?_; intro a hF
                  refine s_nil ?_
                  refine then_n ?_
                  refine wp_ret ?_
                  obtain rfl := some_some H
                  refine s_ret [v2] hF Try.results53 ⟨rfl, trivial⟩ ?_
                  exact ⟨_, rfl, v2, hM.pick [1] rfl rfl, rfl⟩
        ·
          refine s_region ?_
          refine s_val hF rfl rfl rfl (e_move hF rfl) ?_; intro a hF
          refine s_val hF rfl rfl rfl (e_len hF rfl (q1.frmX hM.frm d1).toF Try.underlying59) ?_; intro a hF
          refine s_val hF rfl rfl rfl (e_eql hF rfl rfl) ?_; intro a hF
          refine s_val hF rfl rfl rfl (e_move hF rfl) ?_; intro a hF
          have hF := hF.topb (decide_eq_false c92)
          refine s_skip hF rfl rfl rfl ?_; intro a hF
          refine s_skip hF rfl rfl rfl ?_; intro a hF
          refine s_skip hF rfl rfl rfl ?_; intro a hF
          refine s_val hF rfl rfl rfl (e_pick_f hF rfl rfl) ?_; intro a hF
          refine s_nil ?_
          refine then_n ?_
          refine s_cond_f hF rfl rfl ?_
          refine wp_skip ?_
          refine then_n ?_
          refine wp_seq ?_
          refine wp_seq ?_
          refine s_region ?_
          refine s_val hF rfl rfl rfl (e_move hF rfl) ?_; intro a hF
          refine s_val hF rfl rfl rfl (e_lss hF rfl rfl) ?_; intro a hF
          refine s_nil ?_
          refine then_n ?_
          rcases ite_cases H with ⟨c173, H⟩ | ⟨c173, H⟩
          ·
            refine s_cond_t hF rfl (decide_eq_true c173) ?_
            refine wp_seq ?_
            refine s_region ?_
            refine s_val hF rfl rfl rfl (e_move hF rfl) ?_; intro a hF
            refine s_val hF rfl rfl rfl (e_assign hF rfl) ?_; intro a hF
            refine s_nil ?_
            refine then_n ?_
            refine wp_ret ?_
            refine then_r ?_
            obtain rfl := some_some H
            refine s_ret [v2] hF Try.results53 ⟨rfl, trivial⟩ ?_
            exact ⟨_, rfl, v2, hM.pick [1] rfl rfl, rfl⟩
          ·
            refine s_cond_f hF rfl (decide_eq_false c173) ?_
            refine wp_skip ?_
            refine then_n ?_
            refine wp_seq ?_
            refine wp_seq ?_
            obtain ⟨c174, H⟩ := ite_some H
            refine s_region ?_
            refine s_val hF rfl rfl rfl (e_move hF rfl) ?_; intro a hF
            refine s_val hF rfl rfl rfl (e_move hF rfl) ?_; intro a hF
            refine s_val hF rfl rfl rfl (e_ias cd3 hF rfl rfl (q2.frmX hM.frm d2).toF Try.underlying59 Try.sizeOf3 c174.1 c174.2) ?_; intro a hF
            refine s_val hF rfl rfl rfl (e_lds (m := 0) hF rfl (q2.frmX hM.frm d2) (getD_some (z := (0 : Int)) c174.1 c174.2) rfl rfl Try.isAgg3) ?_; intro a hF
            refine s_val hF rfl rfl rfl (e_sub hF rfl rfl) ?_; intro a hF
            refine s_val hF rfl rfl rfl (e_assign hF rfl) ?_; intro a hF
            refine s_nil ?_
            refine then_n ?_
            refine wp_seq ?_
            rcases ite_cases H with ⟨c175, H⟩ | ⟨c175, H⟩
            ·
              obtain ⟨c176, H⟩ := ite_some H
              obtain ⟨t177, h178, H⟩ := bind_some H
              refine s_region ?_
              refine s_val hF rfl rfl rfl (e_move hF rfl) ?_; intro a hF
              refine s_val hF rfl rfl rfl (e_len hF rfl (q1.frmX hM.frm d1).toF Try.underlying59) ?_; intro a hF
              refine s_val hF rfl rfl rfl (e_lss hF rfl rfl) ?_; intro a hF
              refine s_val hF rfl rfl rfl (e_move hF rfl) ?_; intro a hF
              have hF := hF.topb (decide_eq_true c175)
              refine s_val hF rfl rfl rfl (e_move hF rfl) ?_; intro a hF
              refine s_val hF rfl rfl rfl (e_move hF rfl) ?_; intro a hF
              refine s_val hF rfl rfl rfl (e_move hF rfl) ?_; intro a hF
              refine s_val hF rfl rfl rfl (e_len hF rfl (q1.frmX hM.frm d1).toF Try.underlying59) ?_; intro a hF
              refine s_val hF rfl rfl rfl (e_sub hF rfl rfl) ?_; intro a hF
              refine s_val hF rfl rfl rfl (e_ias cd3 hF rfl rfl (q1.frmX hM.frm d1).toF Try.underlying59 Try.sizeOf3 c176.1 c176.2) ?_; intro a hF
              refine s_val hF rfl rfl rfl (e_lds (m := (wrap64 ((l1.length : Int) - 1))) hF rfl (q1.frmX hM.frm d1) (getD_some (z := (0 : Int)) c176.1 c176.2) rfl rfl Try.isAgg3) ?_; intro a hF
              refine s_call hF rfl rfl rfl Try.call49 (spec_l1In.calls K (wrap64 (x81 - (l2.getD (0 : Int).toNat (0 : Int)))) (l1.getD ((wrap64 ((l1.length : Int) - 1)) : Int).toNat (0 : Int)) 30 t177 h178) ?_; intro a w v hF hf hR
              subst hR; have hM := hM.grow hf
              refine s_val hF rfl rfl rfl (e_pick_t hF rfl rfl) ?_; intro a hF
              refine s_nil ?_
              refine then_n ?_
              rcases ite_cases H with ⟨c179, H⟩ | ⟨c179, H⟩
              ·
                refine s_cond_t hF rfl c179 ?_
                obtain ⟨t180, h181, H⟩ := bind_some H
                obtain ⟨c185, H⟩ := ite_some H
                obtain ⟨t186, h187, H⟩ := bind_some H
                obtain ⟨c190, H⟩ := ite_some H
                refine wp_mono (Q := fun e a w => e = Exit.normal ∧ ∃ v184 : Value, ∃ v183 : Value, ∃ v188 : Value, ∃ v189 : Value, Fr 135 a [(1, u1), (2, u2), (3, pt b1 0), (7, v189), (11, Value.int .i64 x81)] ∧ Ms X w0 w [rowR cd3 v184 (t180 ++ [(wrap64 (x81 - (l2.getD (0 : Int).toNat (0 : Int))))]), rowR cd3 v183 [(wrap64 (x81 - (l2.getD (0 : Int).toNat (0 : Int))))], rowR cd50 v188 t186, boxR b1 [Pt.ar a0] 43, rowR cd50 v189 (([] : List ((Ar 6) × (Ar 6))) ++ t186)]) ?_ ?_
                · skip
                  refine s_held (fun w => Ms X w0 w [boxR b1 [Pt.ar a0] 43]) #[false, false, false, false, false, false, false, false, false, false, false] mixed rfl rfl hM ?_; intro w hf hM; clear hf
                  refine h_val 0 #[true, false, false, false, false, false, false, false, false, false, false] rfl (by kernel_rfl) hF rfl rfl rfl (fun w hS => e_move hF rfl) (hM.pick [0] rfl rfl) ?_; intro a hF
                  refine h_val 1 #[true, true, false, false, false, false, false, false, false, false, false] rfl (by kernel_rfl) hF rfl rfl rfl (fun w hS => e_lda (i := 0) 0 1 hF hS rfl rfl rfl rfl Try.isAgg43 Try.sizeOf43 rfl) (hM.pick [0] rfl rfl) ?_; intro a hF
                  refine h_val 2 #[true, true, true, false, false, false, false, false, false, false, false] rfl (by kernel_rfl) hF rfl rfl rfl (fun w hS => e_move hF rfl) (hM.pick [0] rfl rfl) ?_; intro a hF
                  refine h_val 4 #[true, true, true, false, true, false, false, false, false, false, false] rfl (by kernel_rfl) hF rfl rfl rfl (fun w hS => e_move hF rfl) (hM.pick [0] rfl rfl) ?_; intro a hF
                  refine h_val 7 #[true, true, true, false, true, false, false, true, false, false, false] rfl (by kernel_rfl) hF rfl rfl rfl (fun w hS => e_move hF rfl) (hM.pick [0] rfl rfl) ?_; intro a hF
                  refine h_two 3 5 #[true, true, true, true, true, false, false, true, false, false, false] #[true, true, true, false, true, true, false, true, false, false, false] rfl rfl rfl rfl (by kernel_rfl) ?_ ?_
                  · skip
                    refine s_call hF rfl rfl rfl Try.call69 (spec_l1Own.calls K l1 u1 (q1.frmX hM.frm d1) t180 h181) ?_; intro a w v182 hF hf hR
                    have hM := hM.fresh hf hR
                    refine s_nil ⟨rfl, (hM.pick [1] rfl rfl), ?_⟩
                    refine h_one 5 #[true, true, true, true, true, true, false, true, false, false, false] rfl (by kernel_rfl) ?_
                    refine s_bsl (C := cd3) [(wrap64 (x81 - (l2.getD (0 : Int).toNat (0 : Int))))] cdok3 hF hM rfl rfl rfl rfl Try.underlying59 rfl ?_; intro a w v183 hF hM
                    refine s_nil ⟨rfl, (hM.pick [2] rfl rfl), ?_⟩
                    refine h_one 6 #[true, true, true, true, true, true, true, true, false, false, false] rfl (by kernel_rfl) ?_
                    refine s_append (i := 1) cdok3 hF hM rfl rfl rfl rfl rfl (hM.sl 0 rfl) Try.underlying59 c185 ?_; intro a w v184 hF hM
                    refine s_nil ⟨rfl, (hM.pick [2] rfl rfl), ?_⟩
                    refine h_one 8 #[true, true, true, true, true, true, true, true, true, false, false] rfl (by kernel_rfl) ?_
                    refine s_callx hF rfl rfl rfl Try.call53 (hrec a0 (t180 ++ [(wrap64 (x81 - (l2.getD (0 : Int).toNat (0 : Int))))]) v184 (hM.sl 1 rfl) (hM.apart_row 1 rfl [] (by decide) rfl) l2 u2 (q2.frmX hM.frm d2) (hM.apart_arg q2 d2 [] rfl) (hM.lend [] rfl rfl) t186 h187) ?_; intro a w v hF hR
                    obtain ⟨v188, hR, rfl⟩ := hR; have hM := hM.back [] [0, 1, 2, 3] (by decide) rfl rfl hR
                    refine s_nil ⟨rfl, (hM.pick [3] rfl rfl), ?_⟩
                    refine h_one 9 #[true, true, true, true, true, true, true, true, true, true, false] rfl (by kernel_rfl) ?_
                    refine s_append (i := 4) cdok50 hF hM rfl rfl rfl rfl rfl (hM.sl 0 rfl) Try.underlying37 c190 ?_; intro a w v189 hF hM
                    refine s_nil ⟨rfl, (hM.pick [3] rfl rfl), ?_⟩
                    refine h_val 10 #[true, true, true, true, true, true, true, true, true, true, true] rfl (by kernel_rfl) hF rfl rfl rfl (fun w hS => e_assign hF rfl) (hM.pick [3] rfl rfl) ?_; intro a hF
                    exact h_done rfl ⟨rfl, v184, v183, v188, v189, hF.sub _ ⟨rfl, rfl, rfl, rfl, rfl, trivial⟩, hM.pick [2, 1, 0, 3, 4] rfl rfl⟩
                  · skip
                    refine s_bsl (C := cd3) [(wrap64 (x81 - (l2.getD (0 : Int).toNat (0 : Int))))] cdok3 hF hM rfl rfl rfl rfl Try.underlying59 rfl ?_; intro a w v183 hF hM
                    refine s_nil ⟨rfl, (hM.pick [1] rfl rfl), ?_⟩
                    refine h_one 3 #[true, true, true, true, true, true, false, true, false, false, false] rfl (by kernel_rfl) ?_
                    refine s_call hF rfl rfl rfl Try.call69 (spec_l1Own.calls K l1 u1 (q1.frmX hM.frm d1) t180 h181) ?_; intro a w v182 hF hf hR
                    have hM := hM.fresh hf hR
                    refine s_nil ⟨rfl, (hM.pick [2] rfl rfl), ?_⟩
                    refine h_one 6 #[true, true, true, true, true, true, true, true, false, false, false] rfl (by kernel_rfl) ?_
                    refine s_append (i := 0) cdok3 hF hM rfl rfl rfl rfl rfl (hM.sl 1 rfl) Try.underlying59 c185 ?_; intro a w v184 hF hM
                    refine s_nil ⟨rfl, (hM.pick [2] rfl rfl), ?_⟩
                    refine h_one 8 #[true, true, true, true, true, true, true, true, true, false, false] rfl (by kernel_rfl) ?_
                    refine s_callx hF rfl rfl rfl Try.call53 (hrec a0 (t180 ++ [(wrap64 (x81 - (l2.getD (0 : Int).toNat (0 : Int))))]) v184 (hM.sl 0 rfl) (hM.apart_row 0 rfl [] (by decide) rfl) l2 u2 (q2.frmX hM.frm d2) (hM.apart_arg q2 d2 [] rfl) (hM.lend [] rfl rfl) t186 h187) ?_; intro a w v hF hR
                    obtain ⟨v188, hR, rfl⟩ := hR; have hM := hM.back [] [0, 1, 2, 3] (by decide) rfl rfl hR
                    refine s_nil ⟨rfl, (hM.pick [3] rfl rfl), ?_⟩
                    refine h_one 9 #[true, true, true, true, true, true, true, true, true, true, false] rfl (by kernel_rfl) ?_
                    refine s_append (i := 4) cdok50 hF hM rfl rfl rfl rfl rfl (hM.sl 0 rfl) Try.underlying37 c190 ?_; intro a w v189 hF hM
                    refine s_nil ⟨rfl, (hM.pick [3] rfl rfl), ?_⟩
                    refine h_val 10 #[true, true, true, true, true, true, true, true, true, true, true] rfl (by kernel_rfl) hF rfl rfl rfl (fun w hS => e_assign hF rfl) (hM.pick [3] rfl rfl) ?_; intro a hF
                    exact h_done rfl ⟨rfl, v184, v183, v188, v189, hF.sub _ ⟨rfl, rfl, rfl, rfl, rfl, trivial⟩, hM.pick [1, 2, 0, 3, 4] rfl rfl⟩
                rintro e a w ⟨rfl, v184, v183, v188, v189, hF, hM⟩
                refine then_n ?_
                refine wp_seq ?_
                refine wp_seq ?_
                obtain ⟨c191, H⟩ := ite_some H
                refine s_region ?_
                refine s_val hF rfl rfl rfl (e_move hF rfl) ?_; intro a hF
                refine s_val hF rfl rfl rfl (e_move hF rfl) ?_; intro a hF
                refine s_val hF rfl rfl rfl (e_ias cd3 hF rfl rfl (q1.frmX hM.frm d1).toF Try.underlying59 Try.sizeOf3 c191.1 c191.2) ?_; intro a hF
                refine s_val hF rfl rfl rfl (e_lds (m := 0) hF rfl (q1.frmX hM.frm d1) (getD_some (z := (0 : Int)) c191.1 c191.2) rfl rfl Try.isAgg3) ?_; intro a hF
                refine s_val hF rfl rfl rfl (e_sub hF rfl rfl) ?_; intro a hF
                refine s_val hF rfl rfl rfl (e_assign hF rfl) ?_; intro a hF
                refine s_nil ?_
                refine then_n ?_
                refine wp_seq ?_
                rcases ite_cases H with ⟨c192, H⟩ | ⟨c192, H⟩
                ·
                  obtain ⟨c193, H⟩ := ite_some H
                  obtain ⟨t194, h195, H⟩ := bind_some H
                  refine s_region ?_
                  refine s_val hF rfl rfl rfl (e_move hF rfl) ?_; intro a hF
                  refine s_val hF rfl rfl rfl (e_len hF rfl (q2.frmX hM.frm d2).toF Try.underlying59) ?_; intro a hF
                  refine s_val hF rfl rfl rfl (e_lss hF rfl rfl) ?_; intro a hF
                  refine s_val hF rfl rfl rfl (e_move hF rfl) ?_; intro a hF
                  have hF := hF.topb (decide_eq_true c192)
                  refine s_val hF rfl rfl rfl (e_move hF rfl) ?_; intro a hF
                  refine s_val hF rfl rfl rfl (e_move hF rfl) ?_; intro a hF
                  refine s_val hF rfl rfl rfl (e_move hF rfl) ?_; intro a hF
                  refine s_val hF rfl rfl rfl (e_len hF rfl (q2.frmX hM.frm d2).toF Try.underlying59) ?_; intro a hF
                  refine s_val hF rfl rfl rfl (e_sub hF rfl rfl) ?_; intro a hF
                  refine s_val hF rfl rfl rfl (e_ias cd3 hF rfl rfl (q2.frmX hM.frm d2).toF Try.underlying59 Try.sizeOf3 c193.1 c193.2) ?_; intro a hF
                  refine s_val hF rfl rfl rfl (e_lds (m := (wrap64 ((l2.length : Int) - 1))) hF rfl (q2.frmX hM.frm d2) (getD_some (z := (0 : Int)) c193.1 c193.2) rfl rfl Try.isAgg3) ?_; intro a hF
                  refine s_call hF rfl rfl rfl Try.call49 (spec_l1In.calls K (wrap64 (x81 - (l1.getD (0 : Int).toNat (0 : Int)))) (l2.getD ((wrap64 ((l2.length : Int) - 1)) : Int).toNat (0 : Int)) 30 t194 h195) ?_; intro a w v hF hf hR
                  subst hR; have hM := hM.grow hf
                  refine s_val hF rfl rfl rfl (e_pick_t hF rfl rfl) ?_; intro a hF
                  refine s_nil ?_
                  refine then_n ?_
                  rcases ite_cases H with ⟨c196, H⟩ | ⟨c196, H⟩
                  ·
                    refine s_cond_t hF rfl c196 ?_
                    obtain ⟨t197, h198, H⟩ := bind_some H
                    obtain ⟨c202, H⟩ := ite_some H
                    obtain ⟨t203, h204, H⟩ := bind_some H
                    obtain ⟨c207, H⟩ := ite_some H
                    refine wp_mono (Q := fun e a w => e = Exit.normal ∧ ∃ v201 : Value, ∃ v200 : Value, ∃ v205 : Value, ∃ v206 : Value, Fr 135 a [(7, v206)] ∧ Ms X w0 w [rowR cd3 v201 (t197 ++ [(wrap64 (x81 - (l1.getD (0 : Int).toNat (0 : Int))))]), rowR cd3 v200 [(wrap64 (x81 - (l1.getD (0 : Int).toNat (0 : Int))))], rowR cd50 v205 t203, rowR cd3 v184 (t180 ++ [(wrap64 (x81 - (l2.getD (0 : Int).toNat (0 : Int))))]), rowR cd3 v183 [(wrap64 (x81 - (l2.getD (0 : Int).toNat (0 : Int))))], rowR cd50 v188 t186, boxR b1 [Pt.ar a0] 43, rowR cd50 v206 ((([] : List ((Ar 6) × (Ar 6))) ++ t186) ++ t203)]) ?_ ?_
                    · skip
                      refine s_held (fun w => Ms X w0 w [rowR cd3 v184 (t180 ++ [(wrap64 (x81 - (l2.getD (0 : Int).toNat (0 : Int))))]), rowR cd3 v183 [(wrap64 (x81 - (l2.getD (0 : Int).toNat (0 : Int))))], rowR cd50 v188 t186, boxR b1 [Pt.ar a0] 43]) #[false, false, false, false, false, false, false, false, false, false, false] mixed rfl rfl hM ?_; intro w hf hM; clear hf
                      refine h_val 0 #[true, false, false, false, false, false, false, false, false, false, false] rfl (by kernel_rfl) hF rfl rfl rfl (fun w hS => e_move hF rfl) (hM.pick [0, 1, 2, 3] rfl rfl) ?_; intro a hF
                      refine h_val 1 #[true, true, false, false, false, false, false, false, false, false, false] rfl (by kernel_rfl) hF rfl rfl rfl (fun w hS => e_lda (i := 3) 0 1 hF hS rfl rfl rfl rfl Try.isAgg43 Try.sizeOf43 rfl) (hM.pick [0, 1, 2, 3] rfl rfl) ?_; intro a hF
                      refine h_val 2 #[true, true, true, false, false, false, false, false, false, false, false] rfl (by kernel_rfl) hF rfl rfl rfl (fun w hS => e_move hF rfl) (hM.pick [0, 1, 2, 3] rfl rfl) ?_; intro a hF
                      refine h_val 3 #[true, true, true, true, false, false, false, false, false, false, false] rfl (by kernel_rfl) hF rfl rfl rfl (fun w hS => e_move hF rfl) (hM.pick [0, 1, 2, 3] rfl rfl) ?_; intro a hF
                      refine h_val 5 #[true, true, true, true, false, true, false, false, false, false, false] rfl (by kernel_rfl) hF rfl rfl rfl (fun w hS => e_move hF rfl) (hM.pick [0, 1, 2, 3] rfl rfl) ?_; intro a hF
                      refine h_two 4 6 #[true, true, true, true, true, true, false, false, false, false, false] #[true, true, true, true, false, true, true, false, false, false, false] rfl rfl rfl rfl (by kernel_rfl) ?_ ?_
                      · skip
                        refine s_call hF rfl rfl rfl Try.call69 (spec_l1Own.calls K l2 u2 (q2.frmX hM.frm d2) t197 h198) ?_; intro a w v199 hF hf hR
                        have hM := hM.fresh hf hR
                        refine s_nil ⟨rfl, (hM.pick [1, 2, 3, 4] rfl rfl), ?_⟩
                        refine h_one 6 #[true, true, true, true, true, true, true, false, false, false, false] rfl (by kernel_rfl) ?_
                        refine s_bsl (C := cd3) [(wrap64 (x81 - (l1.getD (0 : Int).toNat (0 : Int))))] cdok3 hF hM rfl rfl rfl rfl Try.underlying59 rfl ?_; intro a w v200 hF hM
                        refine s_nil ⟨rfl, (hM.pick [2, 3, 4, 5] rfl rfl), ?_⟩
                        refine h_one 7 #[true, true, true, true, true, true, true, true, false, false, false] rfl (by kernel_rfl) ?_
                        refine s_append (i := 1) cdok3 hF hM rfl rfl rfl rfl rfl (hM.sl 0 rfl) Try.underlying59 c202 ?_; intro a w v201 hF hM
                        refine s_nil ⟨rfl, (hM.pick [2, 3, 4, 5] rfl rfl), ?_⟩
                        refine h_one 8 #[true, true, true, true, true, true, true, true, true, false, false] rfl (by kernel_rfl) ?_
                        refine s_callx hF rfl rfl rfl Try.call53 (hrec a0 l1 u1 (q1.frmX hM.frm d1) (hM.apart_arg q1 d1 [] rfl) (t197 ++ [(wrap64 (x81 - (l1.getD (0 : Int).toNat (0 : Int))))]) v201 (hM.sl 1 rfl) (hM.apart_row 1 rfl [] (by decide) rfl) (hM.lend [] rfl rfl) t203 h204) ?_; intro a w v hF hR
                        obtain ⟨v205, hR, rfl⟩ := hR; have hM := hM.back [] [0, 1, 2, 3, 4, 5, 6] (by decide) rfl rfl hR
                        refine s_nil ⟨rfl, (hM.pick [3, 4, 5, 6] rfl rfl), ?_⟩
                        refine h_one 9 #[true, true, true, true, true, true, true, true, true, true, false] rfl (by kernel_rfl) ?_
                        refine s_append (i := 7) cdok50 hF hM rfl rfl rfl rfl rfl (hM.sl 0 rfl) Try.underlying37 c207 ?_; intro a w v206 hF hM
                        refine s_nil ⟨rfl, (hM.pick [3, 4, 5, 6] rfl rfl), ?_⟩
                        refine h_val 10 #[true, true, true, true, true, true, true, true, true, true, true] rfl (by kernel_rfl) hF rfl rfl rfl (fun w hS => e_assign hF rfl) (hM.pick [3, 4, 5, 6] rfl rfl) ?_; intro a hF
                        exact h_done rfl ⟨rfl, v201, v200, v205, v206, hF.sub _ ⟨rfl, trivial⟩, hM.pick [2, 1, 0, 3, 4, 5, 6, 7] rfl rfl⟩
                      · skip
                        refine s_bsl (C := cd3) [(wrap64 (x81 - (l1.getD (0 : Int).toNat (0 : Int))))] cdok3 hF hM rfl rfl rfl rfl Try.underlying59 rfl ?_; intro a w v200 hF hM
                        refine s_nil ⟨rfl, (hM.pick [1, 2, 3, 4] rfl rfl), ?_⟩
                        refine h_one 4 #[true, true, true, true, true, true, true, false, false, false, false] rfl (by kernel_rfl) ?_
                        refine s_call hF rfl rfl rfl Try.call69 (spec_l1Own.calls K l2 u2 (q2.frmX hM.frm d2) t197 h198) ?_; intro a w v199 hF hf hR
                        have hM := hM.fresh hf hR
                        refine s_nil ⟨rfl, (hM.pick [2, 3, 4, 5] rfl rfl), ?_⟩
                        refine h_one 7 #[true, true, true, true, true, true, true, true, false, false, false] rfl (by kernel_rfl) ?_
                        refine s_append (i := 0) cdok3 hF hM rfl rfl rfl rfl rfl (hM.sl 1 rfl) Try.underlying59 c202 ?_; intro a w v201 hF hM
                        refine s_nil ⟨rfl, (hM.pick [2, 3, 4, 5] rfl rfl), ?_⟩
                        refine h_one 8 #[true, true, true, true, true, true, true, true, true, false, false] rfl (by kernel_rfl) ?_
                        refine s_callx hF rfl rfl rfl Try.call53 (hrec a0 l1 u1 (q1.frmX hM.frm d1) (hM.apart_arg q1 d1 [] rfl) (t197 ++ [(wrap64 (x81 - (l1.getD (0 : Int).toNat (0 : Int))))]) v201 (hM.sl 0 rfl) (hM.apart_row 0 rfl [] (by decide) rfl) (hM.lend [] rfl rfl) t203 h204) ?_; intro a w v hF hR
                        obtain ⟨v205, hR, rfl⟩ := hR; have hM := hM.back [] [0, 1, 2, 3, 4, 5, 6] (by decide) rfl rfl hR
                        refine s_nil ⟨rfl, (hM.pick [3, 4, 5, 6] rfl rfl), ?_⟩
                        refine h_one 9 #[true, true, true, true, true, true, true, true, true, true, false] rfl (by kernel_rfl) ?_
                        refine s_append (i := 7) cdok50 hF hM rfl rfl rfl rfl rfl (hM.sl 0 rfl) Try.underlying37 c207 ?_; intro a w v206 hF hM
                        refine s_nil ⟨rfl, (hM.pick [3, 4, 5, 6] rfl rfl), ?_⟩
                        refine h_val 10 #[true, true, true, true, true, true, true, true, true, true, true] rfl (by kernel_rfl) hF rfl rfl rfl (fun w hS => e_assign hF rfl) (hM.pick [3, 4, 5, 6] rfl rfl) ?_; intro a hF
                        exact h_done rfl ⟨rfl, v201, v200, v205, v206, hF.sub _ ⟨rfl, trivial⟩, hM.pick [1, 2, 0, 3, 4, 5, 6, 7] rfl rfl⟩
                    rintro e a w ⟨rfl, v201, v200, v205, v206, hF, hM⟩
                    refine then_n ?_
                    refine wp_seq ?_
                    refine s_region ?_
                    refine s_val hF rfl rfl rfl (e_move hF rfl) ?_; intro a hF
                    refine s_val hF rfl rfl rfl (e_assign hF rfl) ?_; intro a hF
                    refine s_nil ?_
                    refine then_n ?_
                    refine wp_ret ?_
                    obtain rfl := some_some H
                    refine s_ret [v206] hF Try.results53 ⟨rfl, trivial⟩ ?_
                    exact ⟨_, rfl, v206, hM.pick [7] rfl rfl, rfl⟩
                  ·
                    refine s_cond_f hF rfl (bf c196) ?_
                    refine wp_skip ?_
                    refine then_n ?_
                    refine wp_seq ?_
                    refine s_region ?_
                    refine s_val hF rfl rfl rfl (e_move hF rfl) ?_; intro a hF
                    refine s_val hF rfl rfl rfl (e_assign hF rfl) ?_; intro a hF
                    refine s_nil ?_
                    refine then_n ?_
                    refine wp_ret ?_
                    obtain rfl := some_some H
                    refine s_ret [v189] hF Try.results53 ⟨rfl, trivial⟩ ?_
                    exact ⟨_, rfl, v189, hM.pick [4] rfl rfl, rfl⟩
                ·
                  refine s_region ?_
                  refine s_val hF rfl rfl rfl (e_move hF rfl) ?_; intro a hF
                  refine s_val hF rfl rfl rfl (e_len hF rfl (q2.frmX hM.frm d2).toF Try.underlying59) ?_; intro a hF
                  refine s_val hF rfl rfl rfl (e_lss hF rfl rfl) ?_; intro a hF
                  refine s_val hF rfl rfl rfl (e_move hF rfl) ?_; intro a hF
                  have hF := hF.topb (decide_eq_false c192)
                  refine s_skip hF rfl rfl rfl ?_; intro a hF
                  refine s_skip hF rfl rfl rfl ?_; intro a hF
                  refine s_skip hF rfl rfl rfl ?_; intro a hF
                  refine s_skip hF rfl rfl rfl ?_; intro a hF
                  refine s_skip hF rfl rfl rfl ?_; intro a hF
                  refine s_skip hF rfl rfl rfl ?_; intro a hF
                  refine s_skip hF rfl rfl rfl ?_; intro a hF
                  refine s_skip hF rfl rfl rfl ?_; intro a hF
                  refine s_val hF rfl rfl rfl (e_pick_f hF rfl rfl) ?_; intro a hF
                  refine s_nil ?_
                  refine then_n ?_
                  refine s_cond_f hF rfl rfl ?_
                  refine wp_skip ?_
                  refine then_n ?_
                  refine wp_seq ?_
                  refine s_region ?_
                  refine s_val hF rfl rfl rfl (e_move hF rfl) ?_; intro a hF
                  refine s_val hF rfl rfl rfl (e_assign hF rfl) ?_; intro a hF
                  refine s_nil ?_
                  refine then_n ?_
                  refine wp_ret ?_
                  obtain rfl := some_some H
                  refine s_ret [v189] hF Try.results53 ⟨rfl, trivial⟩ ?_
                  exact ⟨_, rfl, v189, hM.pick [4] rfl rfl, rfl⟩
              ·
                refine s_cond_f hF rfl (bf c179) ?_
                refine wp_skip ?_
                refine then_n ?_
                refine wp_seq ?_
                refine wp_seq ?_
                obtain ⟨c208, H⟩ := ite_some H
                refine s_region ?_
                refine s_val hF rfl rfl rfl (e_move hF rfl) ?_; intro a hF
                refine s_val hF rfl rfl rfl (e_move hF rfl) ?_; intro a hF
                refine s_val hF rfl rfl rfl (e_ias cd3 hF rfl rfl (q1.frmX hM.frm d1).toF Try.underlying59 Try.sizeOf3 c208.1 c208.2) ?_; intro a hF
                refine s_val hF rfl rfl rfl (e_lds (m := 0) hF rfl (q1.frmX hM.frm d1) (getD_some (z := (0 : Int)) c208.1 c208.2) rfl rfl Try.isAgg3) ?_; intro a hF
                refine s_val hF rfl rfl rfl (e_sub hF rfl rfl) ?_; intro a hF
                refine s_val hF rfl rfl rfl (e_assign hF rfl) ?_; intro a hF
                refine s_nil ?_
                refine then_n ?_
                refine wp_seq ?_
                rcases ite_cases H with ⟨c209, H⟩ | ⟨c209, H⟩
                ·
                  obtain ⟨c210, H⟩ := ite_some H
                  obtain ⟨t211, h212, H⟩ := bind_some H
                  refine s_region ?_
                  refine s_val hF rfl rfl rfl (e_move hF rfl) ?_; intro a hF
                  refine s_val hF rfl rfl rfl (e_len hF rfl (q2.frmX hM.frm d2).toF Try.underlying59) ?_; intro a hF
                  refine s_val hF rfl rfl rfl (e_lss hF rfl rfl) ?_; intro a hF
                  refine s_val hF rfl rfl rfl (e_move hF rfl) ?_; intro a hF
                  have hF := hF.topb (decide_eq_true c209)
                  refine s_val hF rfl rfl rfl (e_move hF rfl) ?_; intro a hF
                  refine s_val hF rfl rfl rfl (e_move hF rfl) ?_; intro a hF
                  refine s_val hF rfl rfl rfl (e_move hF rfl) ?_; intro a hF
                  refine s_val hF rfl rfl rfl (e_len hF rfl (q2.frmX hM.frm d2).toF Try.underlying59) ?_; intro a hF
                  refine s_val hF rfl rfl rfl (e_sub hF rfl rfl) ?_; intro a hF
                  refine s_val hF rfl rfl rfl (e_ias cd3 hF rfl rfl (q2.frmX hM.frm d2).toF Try.underlying59 Try.sizeOf3 c210.1 c210.2) ?_; intro a hF
                  refine s_val hF rfl rfl rfl (e_lds (m := (wrap64 ((l2.length : Int) - 1))) hF rfl (q2.frmX hM.frm d2) (getD_some (z := (0 : Int)) c210.1 c210.2) rfl rfl Try.isAgg3) ?_; intro a hF
                  refine s_call hF rfl rfl rfl Try.call49 (spec_l1In.calls K (wrap64 (x81 - (l1.getD (0 : Int).toNat (0 : Int)))) (l2.getD ((wrap64 ((l2.length : Int) - 1)) : Int).toNat (0 : Int)) 30 t211 h212) ?_; intro a w v hF hf hR
                  subst hR; have hM := hM.grow hf
                  refine s_val hF rfl rfl rfl (e_pick_t hF rfl rfl) ?_; intro a hF
                  refine s_nil ?_
                  refine then_n ?_
                  rcases ite_cases H with ⟨c213, H⟩ | ⟨c213, H⟩
                  ·
                    refine s_cond_t hF rfl c213 ?_
                    obtain ⟨t214, h215, H⟩ := bind_some H
                    obtain ⟨c219, H⟩ := ite_some H
                    obtain ⟨t220, h221, H⟩ := bind_some H
                    obtain ⟨c224, H⟩ := ite_some H
                    refine wp_mono (Q := fun e a w => e = Exit.normal ∧ ∃ v218 : Value, ∃ v217 : Value, ∃ v222 : Value, ∃ v223 : Value, Fr 135 a [(7, v223)] ∧ Ms X w0 w [rowR cd3 v218 (t214 ++ [(wrap64 (x81 - (l1.getD (0 : Int).toNat (0 : Int))))]), rowR cd3 v217 [(wrap64 (x81 - (l1.getD (0 : Int).toNat (0 : Int))))], rowR cd50 v222 t220, boxR b1 [Pt.ar a0] 43, rowR cd50 v223 (([] : List ((Ar 6) × (Ar 6))) ++ t220)]) ?_ ?_
                    · skip
                      refine s_held (fun w => Ms X w0 w [boxR b1 [Pt.ar a0] 43]) #[false, false, false, false, false, false, false, false, false, false, false] mixed rfl rfl hM ?_; intro w hf hM; clear hf
                      refine h_val 0 #[true, false, false, false, false, false, false, false, false, false, false] rfl (by kernel_rfl) hF rfl rfl rfl (fun w hS => e_move hF rfl) (hM.pick [0] rfl rfl) ?_; intro a hF
                      refine h_val 1 #[true, true, false, false, false, false, false, false, false, false, false] rfl (by kernel_rfl) hF rfl rfl rfl (fun w hS => e_lda (i := 0) 0 1 hF hS rfl rfl rfl rfl Try.isAgg43 Try.sizeOf43 rfl) (hM.pick [0] rfl rfl) ?_; intro a hF
                      refine h_val 2 #[true, true, true, false, false, false, false, false, false, false, false] rfl (by kernel_rfl) hF rfl rfl rfl (fun w hS => e_move hF rfl) (hM.pick [0] rfl rfl) ?_; intro a hF
                      refine h_val 3 #[true, true, true, true, false, false, false, false, false, false, false] rfl (by kernel_rfl) hF rfl rfl rfl (fun w hS => e_move hF rfl) (hM.pick [0] rfl rfl) ?_; intro a hF
                      refine h_val 5 #[true, true, true, true, false, true, false, false, false, false, false] rfl (by kernel_rfl) hF rfl rfl rfl (fun w hS => e_move hF rfl) (hM.pick [0] rfl rfl) ?_; intro a hF
                      refine h_two 4 6 #[true, true, true, true, true, true, false, false, false, false, false] #[true, true, true, true, false, true, true, false, false, false, false] rfl rfl rfl rfl (by kernel_rfl) ?_ ?_
                      · skip
                        refine s_call hF rfl rfl rfl Try.call69 (spec_l1Own.calls K l2 u2 (q2.frmX hM.frm d2) t214 h215) ?_; intro a w v216 hF hf hR
                        have hM := hM.fresh hf hR
                        refine s_nil ⟨rfl, (hM.pick [1] rfl rfl), ?_⟩
                        refine h_one 6 #[true, true, true, true, true, true, true, false, false, false, false] rfl (by kernel_rfl) ?_
                        refine s_bsl (C := cd3) [(wrap64 (x81 - (l1.getD (0 : Int).toNat (0 : Int))))] cdok3 hF hM rfl rfl rfl rfl Try.underlying59 rfl ?_; intro a w v217 hF hM
                        refine s_nil ⟨rfl, (hM.pick [2] rfl rfl), ?_⟩
                        refine h_one 7 #[true, true, true, true, true, true, true, true, false, false, false] rfl (by kernel_rfl) ?_
                        refine s_append (i := 1) cdok3 hF hM rfl rfl rfl rfl rfl (hM.sl 0 rfl) Try.underlying59 c219 ?_; intro a w v218 hF hM
                        refine s_nil ⟨rfl, (hM.pick [2] rfl rfl), ?_⟩
                        refine h_one 8 #[true, true, true, true, true, true, true, true, true, false, false] rfl (by kernel_rfl) ?_
                        refine s_callx hF rfl rfl rfl Try.call53 (hrec a0 l1 u1 (q1.frmX hM.frm d1) (hM.apart_arg q1 d1 [] rfl) (t214 ++ [(wrap64 (x81 - (l1.getD (0 : Int).toNat (0 : Int))))]) v218 (hM.sl 1 rfl) (hM.apart_row 1 rfl [] (by decide) rfl) (hM.lend [] rfl rfl) t220 h221) ?_; intro a w v hF hR
                        obtain ⟨v222, hR, rfl⟩ := hR; have hM := hM.back [] [0, 1, 2, 3] (by decide) rfl rfl hR
                        refine s_nil ⟨rfl, (hM.pick [3] rfl rfl), ?_⟩
                        refine h_one 9 #[true, true, true, true, true, true, true, true, true, true, false] rfl (by kernel_rfl) ?_
                        refine s_append (i := 4) cdok50 hF hM rfl rfl rfl rfl rfl (hM.sl 0 rfl) Try.underlying37 c224 ?_; intro a w v223 hF hM
                        refine s_nil ⟨rfl, (hM.pick [3] rfl rfl), ?_⟩
                        refine h_val 10 #[true, true, true, true, true, true, true, true, true, true, true] rfl (by kernel_rfl) hF rfl rfl rfl (fun w hS => e_assign hF rfl) (hM.pick [3] rfl rfl) ?_; intro a hF
                        exact h_done rfl ⟨rfl, v218, v217, v222, v223, hF.sub _ ⟨rfl, trivial⟩, hM.pick [2, 1, 0, 3, 4] rfl rfl⟩
                      · skip
                        refine s_bsl (C := cd3) [(wrap64 (x81 - (l1.getD (0 : Int).toNat (0 : Int))))] cdok3 hF hM rfl rfl rfl rfl Try.underlying59 rfl ?_; intro a w v217 hF hM
                        refine s_nil ⟨rfl, (hM.pick [1] rfl rfl), ?_⟩
                        refine h_one 4 #[true, true, true, true, true, true, true, false, false, false, false] rfl (by kernel_rfl) ?_
                        refine s_call hF rfl rfl rfl Try.call69 (spec_l1Own.calls K l2 u2 (q2.frmX hM.frm d2) t214 h215) ?_; intro a w v216 hF hf hR
                        have hM := hM.fresh hf hR
                        refine s_nil ⟨rfl, (hM.pick [2] rfl rfl), ?_⟩
                        refine h_one 7 #[true, true, true, true, true, true, true, true, false, false, false] rfl (by kernel_rfl) ?_
                        refine s_append (i := 0) cdok3 hF hM rfl rfl rfl rfl rfl (hM.sl 1 rfl) Try.underlying59 c219 ?_; intro a w v218 hF hM
                        refine s_nil ⟨rfl, (hM.pick [2] rfl rfl), ?_⟩
                        refine h_one 8 #[true, true, true, true, true, true, true, true, true, false, false] rfl (by kernel_rfl) ?_
                        refine s_callx hF rfl rfl rfl Try.call53 (hrec a0 l1 u1 (q1.frmX hM.frm d1) (hM.apart_arg q1 d1 [] rfl) (t214 ++ [(wrap64 (x81 - (l1.getD (0 : Int).toNat (0 : Int))))]) v218 (hM.sl 0 rfl) (hM.apart_row 0 rfl [] (by decide) rfl) (hM.lend [] rfl rfl) t220 h221) ?_; intro a w v hF hR
                        obtain ⟨v222, hR, rfl⟩ := hR; have hM := hM.back [] [0, 1, 2, 3] (by decide) rfl rfl hR
                        refine s_nil ⟨rfl, (hM.pick [3] rfl rfl), ?_⟩
                        refine h_one 9 #[true, true, true, true, true, true, true, true, true, true, false] rfl (by kernel_rfl) ?_
                        refine s_append (i := 4) cdok50 hF hM rfl rfl rfl rfl rfl (hM.sl 0 rfl) Try.underlying37 c224 ?_; intro a w v223 hF hM
                        refine s_nil ⟨rfl, (hM.pick [3] rfl rfl), ?_⟩
                        refine h_val 10 #[true, true, true, true, true, true, true, true, true, true, true] rfl (by kernel_rfl) hF rfl rfl rfl (fun w hS => e_assign hF rfl) (hM.pick [3] rfl rfl) ?_; intro a hF
                        exact h_done rfl ⟨rfl, v218, v217, v222, v223, hF.sub _ ⟨rfl, trivial⟩, hM.pick [1, 2, 0, 3, 4] rfl rfl⟩
                    rintro e a w ⟨rfl, v218, v217, v222, v223, hF, hM⟩
                    refine then_n ?_
                    refine wp_seq ?_
                    refine s_region ?_
                    refine s_val hF rfl rfl rfl (e_move hF rfl) ?_; intro a hF
                    refine s_val hF rfl rfl rfl (e_assign hF rfl) ?_; intro a hF
                    refine s_nil ?_
                    refine then_n ?_
                    refine wp_ret ?_
                    obtain rfl := some_some H
                    refine s_ret [v223] hF Try.results53 ⟨rfl, trivial⟩ ?_
                    exact ⟨_, rfl, v223, hM.pick [4] rfl rfl, rfl⟩
                  ·
                    refine s_cond_f hF rfl (bf c213) ?_
                    refine wp_skip ?_
                    refine then_n ?_
                    refine wp_seq ?_
                    refine s_region ?_
                    refine s_val hF rfl rfl rfl (e_move hF rfl) ?_; intro a hF
                    refine s_val hF rfl rfl rfl (e_assign hF rfl) ?_; intro a hF
                    refine s_nil ?_
                    refine then_n ?_
                    refine wp_ret ?_
                    obtain rfl := some_some H
                    refine s_ret [v2] hF Try.results53 ⟨rfl, trivial⟩ ?_
                    exact ⟨_, rfl, v2, hM.pick [1] rfl rfl, rfl⟩
                ·
                  refine s_region ?_
                  refine s_val hF rfl rfl rfl (e_move hF rfl) ?_; intro a hF
                  refine s_val hF rfl rfl rfl (e_len hF rfl (q2.frmX hM.frm d2).toF Try.underlying59) ?_; intro a hF
                  refine s_val hF rfl rfl rfl (e_lss hF rfl rfl) ?_; intro a hF
                  refine s_val hF rfl rfl rfl (e_move hF rfl) ?_; intro a hF
                  have hF := hF.topb (decide_eq_false c209)
                  refine s_skip hF rfl rfl rfl ?_; intro a hF
                  refine s_skip hF rfl rfl rfl ?_; intro a hF
                  refine s_skip hF rfl rfl rfl ?_; intro a hF
                  refine s_skip hF rfl rfl rfl ?_; intro a hF
                  refine s_skip hF rfl rfl rfl ?_; intro a hF
                  refine s_skip hF rfl rfl rfl ?_; intro a hF
                  refine s_skip hF rfl rfl rfl ?_; intro a hF
                  refine s_skip hF rfl rfl rfl ?_; intro a hF
                  refine s_val hF rfl rfl rfl (e_pick_f hF rfl rfl) ?_; intro a hF
                  refine s_nil ?_
                  refine then_n ?_
                  refine s_cond_f hF rfl rfl ?_
                  refine wp_skip ?_
                  refine then_n ?_
                  refine wp_seq ?_
                  refine s_region ?_
                  refine s_val hF rfl rfl rfl (e_move hF rfl) ?_; intro a hF
                  refine s_val hF rfl rfl rfl (e_assign hF rfl) ?_; intro a hF
                  refine s_nil ?_
                  refine then_n ?_
                  refine wp_ret ?_
                  obtain rfl := some_some H
                  refine s_ret [v2] hF Try.results53 ⟨rfl, trivial⟩ ?_
                  exact ⟨_, rfl, v2, hM.pick [1] rfl rfl, rfl⟩
            ·
              refine s_region ?_
              refine s_val hF rfl rfl rfl (e_move hF rfl) ?_; intro a hF
              refine s_val hF rfl rfl rfl (e_len hF rfl (q1.frmX hM.frm d1).toF Try.underlying59) ?_; intro a hF
              refine s_val hF rfl rfl rfl (e_lss hF rfl rfl) ?_; intro a hF
              refine s_val hF rfl rfl rfl (e_move hF rfl) ?_; intro a hF
              have hF := hF.topb (decide_eq_false c175)
              refine s_skip hF rfl rfl rfl ?_; intro a hF
              refine s_skip hF rfl rfl rfl ?_; intro a hF
              refine s_skip hF rfl rfl rfl ?_; intro a hF
              refine s_skip hF rfl rfl rfl ?_; intro a hF
              refine s_skip hF rfl rfl rfl ?_; intro a hF
              refine s_skip hF rfl rfl rfl ?_; intro a hF
              refine s_skip hF rfl rfl rfl ?_; intro a hF
              refine s_skip hF rfl rfl rfl ?_; intro a hF
              refine s_val hF rfl rfl rfl (e_pick_f hF rfl rfl) ?_; intro a hF
              refine s_nil ?_
              refine then_n ?_
              refine s_cond_f hF rfl rfl ?_
              refine wp_skip ?_
              refine then_n ?_
              refine wp_seq ?_
              refine wp_seq ?_
              obtain ⟨c225, H⟩ := ite_some H
              refine s_region ?_
              refine s_val hF rfl rfl rfl (e_move hF rfl) ?_; intro a hF
              refine s_val hF rfl rfl rfl (e_move hF rfl) ?_; intro a hF
              refine s_val hF rfl rfl rfl (e_ias cd3 hF rfl rfl (q1.frmX hM.frm d1).toF Try.underlying59 Try.sizeOf3 c225.1 c225.2) ?_; intro a hF
              refine s_val hF rfl rfl rfl (e_lds (m := 0) hF rfl (q1.frmX hM.frm d1) (getD_some (z := (0 : Int)) c225.1 c225.2) rfl rfl Try.isAgg3) ?_; intro a hF
              refine s_val hF rfl rfl rfl (e_sub hF rfl rfl) ?_; intro a hF
              refine s_val hF rfl rfl rfl (e_assign hF rfl) ?_; intro a hF
              refine s_nil ?_
              refine then_n ?_
              refine wp_seq ?_
              rcases ite_cases H with ⟨c226, H⟩ | ⟨c226, H⟩
              ·
                obtain ⟨c227, H⟩ := ite_some H
                obtain ⟨t228, h229, H⟩ := bind_some H
                refine s_region ?_
                refine s_val hF rfl rfl rfl (e_move hF rfl) ?_; intro a hF
                refine s_val hF rfl rfl rfl (e_len hF rfl (q2.frmX hM.frm d2).toF Try.underlying59) ?_; intro a hF
                refine s_val hF rfl rfl rfl (e_lss hF rfl rfl) ?_; intro a hF
                refine s_val hF rfl rfl rfl (e_move hF rfl) ?_; intro a hF
                have hF := hF.topb (decide_eq_true c226)
                refine s_val hF rfl rfl rfl (e_move hF rfl) ?_; intro a hF
                refine s_val hF rfl rfl rfl (e_move hF rfl) ?_; intro a hF
                refine s_val hF rfl rfl rfl (e_move hF rfl) ?_; intro a hF
                refine s_val hF rfl rfl rfl (e_len hF rfl (q2.frmX hM.frm d2).toF Try.underlying59) ?_; intro a hF
                refine s_val hF rfl rfl rfl (e_sub hF rfl rfl) ?_; intro a hF
                refine s_val hF rfl rfl rfl (e_ias cd3 hF rfl rfl (q2.frmX hM.frm d2).toF Try.underlying59 Try.sizeOf3 c227.1 c227.2) ?_; intro a hF
                refine s_val hF rfl rfl rfl (e_lds (m := (wrap64 ((l2.length : Int) - 1))) hF rfl (q2.frmX hM.frm d2) (getD_some (z := (0 : Int)) c227.1 c227.2) rfl rfl Try.isAgg3) ?_; intro a hF
                refine s_call hF rfl rfl rfl Try.call49 (spec_l1In.calls K (wrap64 (x81 - (l1.getD (0 : Int).toNat (0 : Int)))) (l2.getD ((wrap64 ((l2.length : Int) - 1)) : Int).toNat (0 : Int)) 30 t228 h229) ?_; intro a w v hF hf hR
                subst hR; have hM := hM.grow hf
                refine s_val hF rfl rfl rfl (e_pick_t hF rfl rfl) ?_; intro a hF
                refine s_nil ?_
                refine then_n ?_
                rcases ite_cases H with ⟨c230, H⟩ | ⟨c230, H⟩
                ·
                  refine s_cond_t hF rfl c230 ?_
                  obtain ⟨t231, h232, H⟩ := bind_some H
                  obtain ⟨c236, H⟩ := ite_some H
                  obtain ⟨t237, h238, H⟩ := bind_some H
                  obtain ⟨c241, H⟩ := ite_some H
                  refine wp_mono (Q := fun e a w => e = Exit.normal ∧ ∃ v235 : Value, ∃ v234 : Value, ∃ v239 : Value, ∃ v240 : Value, Fr 135 a [(7, v240)] ∧ Ms X w0 w [rowR cd3 v235 (t231 ++ [(wrap64 (x81 - (l1.getD (0 : Int).toNat (0 : Int))))]), rowR cd3 v234 [(wrap64 (x81 - (l1.getD (0 : Int).toNat (0 : Int))))], rowR cd50 v239 t237, boxR b1 [Pt.ar a0] 43, rowR cd50 v240 (([] : List ((Ar 6) × (Ar 6))) ++ t237)]) ?_ ?_
                  · skip
                    refine s_held (fun w => Ms X w0 w [boxR b1 [Pt.ar a0] 43]) #[false, false, false, false, false, false, false, false, false, false, false] mixed rfl rfl hM ?_; intro w hf hM; clear hf
                    refine h_val 0 #[true, false, false, false, false, false, false, false, false, false, false] rfl (by kernel_rfl) hF rfl rfl rfl (fun w hS => e_move hF rfl) (hM.pick [0] rfl rfl) ?_; intro a hF
                    refine h_val 1 #[true, true, false, false, false, false, false, false, false, false, false] rfl (by kernel_rfl) hF rfl rfl rfl (fun w hS => e_lda (i := 0) 0 1 hF hS rfl rfl rfl rfl Try.isAgg43 Try.sizeOf43 rfl) (hM.pick [0] rfl rfl) ?_; intro a hF
                    refine h_val 2 #[true, true, true, false, false, false, false, false, false, false, false] rfl (by kernel_rfl) hF rfl rfl rfl (fun w hS => e_move hF rfl) (hM.pick [0] rfl rfl) ?_; intro a hF
                    refine h_val 3 #[true, true, true, true, false, false, false, false, false, false, false] rfl (by kernel_rfl) hF rfl rfl rfl (fun w hS => e_move hF rfl) (hM.pick [0] rfl rfl) ?_; intro a hF
                    refine h_val 5 #[true, true, true, true, false, true, false, false, false, false, false] rfl (by kernel_rfl) hF rfl rfl rfl (fun w hS => e_move hF rfl) (hM.pick [0] rfl rfl) ?_; intro a hF
                    refine h_two 4 6 #[true, true, true, true, true, true, false, false, false, false, false] #[true, true, true, true, false, true, true, false, false, false, false] rfl rfl rfl rfl (by kernel_rfl) ?_ ?_
                    · skip
                      refine s_call hF rfl rfl rfl Try.call69 (spec_l1Own.calls K l2 u2 (q2.frmX hM.frm d2) t231 h232) ?_; intro a w v233 hF hf hR
                      have hM := hM.fresh hf hR
                      refine s_nil ⟨rfl, (hM.pick [1] rfl rfl), ?_⟩
                      refine h_one 6 #[true, true, true, true, true, true, true, false, false, false, false] rfl (by kernel_rfl) ?_
                      refine s_bsl (C := cd3) [(wrap64 (x81 - (l1.getD (0 : Int).toNat (0 : Int))))] cdok3 hF hM rfl rfl rfl rfl Try.underlying59 rfl ?_; intro a w v234 hF hM
                      refine s_nil ⟨rfl, (hM.pick [2] rfl rfl), ?_⟩
                      refine h_one 7 #[true, true, true, true, true, true, true, true, false, false, false] rfl (by kernel_rfl) ?_
                      refine s_append (i := 1) cdok3 hF hM rfl rfl rfl rfl rfl (hM.sl 0 rfl) Try.underlying59 c236 ?_; intro a w v235 hF hM
                      refine s_nil ⟨rfl, (hM.pick [2] rfl rfl), ?_⟩
                      refine h_one 8 #[true, true, true, true, true, true, true, true, true, false, false] rfl (by kernel_rfl) ?_
                      refine s_callx hF rfl rfl rfl Try.call53 (hrec a0 l1 u1 (q1.frmX hM.frm d1) (hM.apart_arg q1 d1 [] rfl) (t231 ++ [(wrap64 (x81 - (l1.getD (0 : Int).toNat (0 : Int))))]) v235 (hM.sl 1 rfl) (hM.apart_row 1 rfl [] (by decide) rfl) (hM.lend [] rfl rfl) t237 h238) ?_; intro a w v hF hR
                      obtain ⟨v239, hR, rfl⟩ := hR; have hM := hM.back [] [0, 1, 2, 3] (by decide) rfl rfl hR
                      refine s_nil ⟨rfl, (hM.pick [3] rfl rfl), ?_⟩
                      refine h_one 9 #[true, true, true, true, true, true, true, true, true, true, false] rfl (by kernel_rfl) ?_
                      refine s_append (i := 4) cdok50 hF hM rfl rfl rfl rfl rfl (hM.sl 0 rfl) Try.underlying37 c241 ?_; intro a w v240 hF hM
                      refine s_nil ⟨rfl, (hM.pick [3] rfl rfl), ?_⟩
                      refine h_val 10 #[true, true, true, true, true, true, true, true, true, true, true] rfl (by kernel_rfl) hF rfl rfl rfl (fun w hS => e_assign hF rfl) (hM.pick [3] rfl rfl) ?_; intro a hF
                      exact h_done rfl ⟨rfl, v235, v234, v239, v240, hF.sub _ ⟨rfl, trivial⟩, hM.pick [2, 1, 0, 3, 4] rfl rfl⟩
                    · skip
                      refine s_bsl (C := cd3) [(wrap64 (x81 - (l1.getD (0 : Int).toNat (0 : Int))))] cdok3 hF hM rfl rfl rfl rfl Try.underlying59 rfl ?_; intro a w v234 hF hM
                      refine s_nil ⟨rfl, (hM.pick [1] rfl rfl), ?_⟩
                      refine h_one 4 #[true, true, true, true, true, true, true, false, false, false, false] rfl (by kernel_rfl) ?_
                      refine s_call hF rfl rfl rfl Try.call69 (spec_l1Own.calls K l2 u2 (q2.frmX hM.frm d2) t231 h232) ?_; intro a w v233 hF hf hR
                      have hM := hM.fresh hf hR
                      refine s_nil ⟨rfl, (hM.pick [2] rfl rfl), ?_⟩
                      refine h_one 7 #[true, true, true, true, true, true, true, true, false, false, false] rfl (by kernel_rfl) ?_
                      refine s_append (i := 0) cdok3 hF hM rfl rfl rfl rfl rfl (hM.sl 1 rfl) Try.underlying59 c236 ?_; intro a w v235 hF hM
                      refine s_nil ⟨rfl, (hM.pick [2] rfl rfl), ?_⟩
                      refine h_one 8 #[true, true, true, true, true, true, true, true, true, false, false] rfl (by kernel_rfl) ?_
                      refine s_callx hF rfl rfl rfl Try.call53 (hrec a0 l1 u1 (q1.frmX hM.frm d1) (hM.apart_arg q1 d1 [] rfl) (t231 ++ [(wrap64 (x81 - (l1.getD (0 : Int).toNat (0 : Int))))]) v235 (hM.sl 0 rfl) (hM.apart_row 0 rfl [] (by decide) rfl) (hM.lend [] rfl rfl) t237 h238) ?_; intro a w v hF hR
                      obtain ⟨v239, hR, rfl⟩ := hR; have hM := hM.back [] [0, 1, 2, 3] (by decide) rfl rfl hR
                      refine s_nil ⟨rfl, (hM.pick [3] rfl rfl), ?_⟩
                      refine h_one 9 #[true, true, true, true, true, true, true, true, true, true, false] rfl (by kernel_rfl) ?_
                      refine s_append (i := 4) cdok50 hF hM rfl rfl rfl rfl rfl (hM.sl 0 rfl) Try.underlying37 c241 ?_; intro a w v240 hF hM
                      refine s_nil ⟨rfl, (hM.pick [3] rfl rfl), ?_⟩
                      refine h_val 10 #[true, true, true, true, true, true, true, true, true, true, true] rfl (by kernel_rfl) hF rfl rfl rfl (fun w hS => e_assign hF rfl) (hM.pick [3] rfl rfl) ?_; intro a hF
                      exact h_done rfl ⟨rfl, v235, v234, v239, v240, hF.sub _ ⟨rfl, trivial⟩, hM.pick [1, 2, 0, 3, 4] rfl rfl⟩
                  rintro e a w ⟨rfl, v235, v234, v239, v240, hF, hM⟩
                  refine then_n ?_
                  refine wp_seq ?_
                  refine s_region ?_
                  refine s_val hF rfl rfl rfl (e_move hF rfl) ?_; intro a hF
                  refine s_val hF rfl rfl rfl (e_assign hF rfl) ?_; intro a hF
                  refine s_nil ?_
                  refine then_n ?_
                  refine wp_ret ?_
                  obtain rfl := some_some H
                  refine s_ret [v240] hF Try.results53 ⟨rfl, trivial⟩ ?_
                  exact ⟨_, rfl, v240, hM.pick [4] rfl rfl, rfl⟩
                ·
                  refine s_cond_f hF rfl (bf c230) ?_
                  refine wp_skip ?_
                  refine then_n ?_
                  refine wp_seq ?_
                  refine s_region ?_
                  refine s_val hF rfl rfl rfl (e_move hF rfl) ?_; intro a hF
                  refine s_val hF rfl rfl rfl (e_assign hF rfl) ?_; intro a hF
                  refine s_nil ?_
                  refine then_n ?_
                  refine wp_ret ?_
                  obtain rfl := some_some H
                  refine s_ret [v2] hF Try.results53 ⟨rfl, trivial⟩ ?_
                  exact ⟨_, rfl, v2, hM.pick [1] rfl rfl, rfl⟩
              ·
                refine s_region ?_
                refine s_val hF rfl rfl rfl (e_move hF rfl) ?_; intro a hF
                refine s_val hF rfl rfl rfl (e_len hF rfl (q2.frmX hM.frm d2).toF Try.underlying59) ?_; intro a hF
                refine s_val hF rfl rfl rfl (e_lss hF rfl rfl) ?_; intro a hF
                refine s_val hF rfl rfl rfl (e_move hF rfl) ?_; intro a hF
                have hF := hF.topb (decide_eq_false c226)
                refine s_skip hF rfl rfl rfl ?_; intro a hF
                refine s_skip hF rfl rfl rfl ?_; intro a hF
                refine s_skip hF rfl rfl rfl ?_; intro a hF
                refine s_skip hF rfl rfl rfl ?_; intro a hF
                refine s_skip hF rfl rfl rfl ?_; intro a hF
                refine s_skip hF rfl rfl rfl ?_; intro a hF
                refine s_skip hF rfl rfl rfl ?_; intro a hF
                refine s_skip hF rfl rfl rfl ?_; intro a hF
                refine s_val hF rfl rfl rfl (e_pick_f hF rfl rfl) ?_; intro a hF
                refine s_nil ?_
                refine then_n ?_
                refine s_cond_f hF rfl rfl ?_
                refine wp_skip ?_
                refine then_n ?_
                refine wp_seq ?_
                refine s_region ?_
                refine s_val hF rfl rfl rfl (e_move hF rfl) ?_; intro a hF
                refine s_val hF rfl rfl rfl (e_assign hF rfl) ?_; intro a hF
                refine s_nil ?_
                refine then_n ?_
                refine wp_ret ?_
                obtain rfl := some_some H
                refine s_ret [v2] hF Try.results53 ⟨rfl, trivial⟩ ?_
                exact ⟨_, rfl, v2, hM.pick [1] rfl rfl, rfl⟩
      ·
        dsimp only at H
        refine blk_r ?_
        refine then_r ?_
        obtain rfl := some_some H
        refine s_ret [v91] hF Try.results53 ⟨rfl, trivial⟩ ?_
        exact ⟨_, rfl, v91, hM.pick [0] rfl rfl, rfl⟩
theorem spec_l5Search.rcalls (K : Nat) : ∀ (k : Nat) {w0 : World} {X : List Nat} (a0 : (Ar 121)) (l1 : (List Int)) (u1 : Value) (q1 : SlR cd3 w0 u1 l1) (d1 : l1 ≠ [] → sblk u1 ∉ X) (l2 : (List Int)) (u2 : Value) (q2 : SlR cd3 w0 u2 l2) (d2 : l2 ≠ [] → sblk u2 ∉ X) (qM : Ms X w0 w0 []) (r : (List ((Ar 6) × (Ar 6)))) (H : spec_l5Search.r K k a0 l1 l2 = some r), Calls Try.prog 53 [ag [Pt.ar a0], u1, u2].toArray w0 (fun e w => ∃ v, e = .returned v ∧ ∃ v242 : Value, Ms X w0 w [rowR cd50 v242 r] ∧ v242 = v)
  | 0, _, _, _, _, _, _, _, _, _, _, _, _, r, H => none_some H
  | k + 1, _, _, a0, l1, u1, q1, d1, l2, u2, q2, d2, qM, r, H => spec_l5Search.step K (spec_l5Search.r K k) (spec_l5Search.rcalls K k) a0 l1 u1 q1 d1 l2 u2 q2 d2 qM r H
theorem spec_l5Search.calls {w0 : World} {X : List Nat} (K : Nat) (a0 : (Ar 121)) (l1 : (List Int)) (u1 : Value) (q1 : SlR cd3 w0 u1 l1) (d1 : l1 ≠ [] → sblk u1 ∉ X) (l2 : (List Int)) (u2 : Value) (q2 : SlR cd3 w0 u2 l2) (d2 : l2 ≠ [] → sblk u2 ∉ X) (qM : Ms X w0 w0 []) (r : (List ((Ar 6) × (Ar 6)))) (H : spec_l5Search.f K a0 l1 l2 = some r) : Calls Try.prog 53 [ag [Pt.ar a0], u1, u2].toArray w0 (fun e w => ∃ v, e = .returned v ∧ ∃ v242 : Value, Ms X w0 w [rowR cd50 v242 r] ∧ v242 = v) := spec_l5Search.rcalls K K a0 l1 u1 q1 d1 l2 u2 q2 d2 qM r H

/-! ### loop.example/g01210/spec.l5Less: function 60 -/
def spec_l5Less.f (K : Nat) (a0 : ((Ar 6) × (Ar 6))) (a1 : ((Ar 6) × (Ar 6))) : Option Bool := if a0.1 = a1.1 then ((spec_l2Before.f K a0.2 a1.2).bind fun t4 => some t4) else ((spec_l2Before.f K a0.1 a1.1).bind fun t6 => some t6)
set_option maxRecDepth 100000 in
set_option maxHeartbeats 4000000 in
theorem spec_l5Less.calls {w0 : World} (K : Nat) (a0 : ((Ar 6) × (Ar 6))) (a1 : ((Ar 6) × (Ar 6))) (r : Bool) (H : spec_l5Less.f K a0 a1 = some r) : Calls Try.prog 60 [ag [Pt.ar a0.1, Pt.ar a0.2], ag [Pt.ar a1.1, Pt.ar a1.2]].toArray w0 (Post w0 fun w v => v = Value.bool r) := by
  rw [spec_l5Less.f] at H
  refine s_start Try.func60 rfl Try.ntmps60 rfl ?_
  intro a hF
  have hM := Ms.start w0
  skip
  refine wp_seq ?_
  refine s_region ?_
  refine s_box (ps := [Pt.ar a0.1, Pt.ar a0.2]) hF hM rfl rfl rfl rfl ?_; intro a w b1 hF hM
  refine s_box (ps := [Pt.ar a1.1, Pt.ar a1.2]) hF hM rfl rfl rfl rfl ?_; intro a w b2 hF hM
  refine s_val hF rfl rfl rfl (e_assign hF rfl) ?_; intro a hF
  refine s_nil ?_
  refine then_n ?_
  refine wp_seq ?_
  refine wp_seq ?_
  refine s_region ?_
  refine s_val hF rfl rfl rfl (e_fa hF rfl Try.underlying50 rfl Try.sizeOf31 rfl rfl) ?_; intro a hF
  refine s_val hF rfl rfl rfl (e_lda (i := 1) 0 1 hF hM rfl rfl rfl rfl Try.isAgg31 Try.sizeOf31 rfl) ?_; intro a hF
  refine s_val hF rfl rfl rfl (e_fa hF rfl Try.underlying50 rfl Try.sizeOf31 rfl rfl) ?_; intro a hF
  refine s_val hF rfl rfl rfl (e_lda (i := 0) 0 1 hF hM rfl rfl rfl rfl Try.isAgg31 Try.sizeOf31 rfl) ?_; intro a hF
  refine s_val hF rfl rfl rfl (e_aneq _ _ Try.underlying31 Try.underlying3 Try.sizeOf3 Try.isAgg3 Try.eqGuardType31 hF rfl rfl) ?_; intro a hF
  refine s_nil ?_
  refine then_n ?_
  rcases ite_cases H with ⟨c3, H⟩ | ⟨c3, H⟩
  ·
    refine s_cond_f hF rfl (congrArg Bool.not (decide_eq_true c3)) ?_
    refine wp_skip ?_
    refine then_n ?_
    refine wp_seq ?_
    obtain ⟨t4, h5, H⟩ := bind_some H
    refine s_region ?_
    refine s_val hF rfl rfl rfl (e_fa hF rfl Try.underlying50 rfl Try.sizeOf31 rfl rfl) ?_; intro a hF
    refine s_val hF rfl rfl rfl (e_lda (i := 1) 1 1 hF hM rfl rfl rfl rfl Try.isAgg31 Try.sizeOf31 rfl) ?_; intro a hF
    refine s_val hF rfl rfl rfl (e_fa hF rfl Try.underlying50 rfl Try.sizeOf31 rfl rfl) ?_; intro a hF
    refine s_val hF rfl rfl rfl (e_lda (i := 0) 1 1 hF hM rfl rfl rfl rfl Try.isAgg31 Try.sizeOf31 rfl) ?_; intro a hF
    refine s_call hF rfl rfl rfl Try.call61 (spec_l2Before.calls K a0.2 a1.2 t4 h5) ?_; intro a w v hF hf hR
    subst hR; have hM := hM.grow hf
    refine s_val hF rfl rfl rfl (e_assign hF rfl) ?_; intro a hF
    refine s_nil ?_
    refine then_n ?_
    refine wp_ret ?_
    obtain rfl := some_some H
    refine s_ret [Value.bool t4] hF Try.results60 ⟨rfl, trivial⟩ ?_
    exact ⟨_, rfl, hM.frm, rfl⟩
  ·
    refine s_cond_t hF rfl (congrArg Bool.not (decide_eq_false c3)) ?_
    refine wp_seq ?_
    obtain ⟨t6, h7, H⟩ := bind_some H
    refine s_region ?_
    refine s_val hF rfl rfl rfl (e_fa hF rfl Try.underlying50 rfl Try.sizeOf31 rfl rfl) ?_; intro a hF
    refine s_val hF rfl rfl rfl (e_lda (i := 1) 0 1 hF hM rfl rfl rfl rfl Try.isAgg31 Try.sizeOf31 rfl) ?_; intro a hF
    refine s_val hF rfl rfl rfl (e_fa hF rfl Try.underlying50 rfl Try.sizeOf31 rfl rfl) ?_; intro a hF
    refine s_val hF rfl rfl rfl (e_lda (i := 0) 0 1 hF hM rfl rfl rfl rfl Try.isAgg31 Try.sizeOf31 rfl) ?_; intro a hF
    refine s_call hF rfl rfl rfl Try.call61 (spec_l2Before.calls K a0.1 a1.1 t6 h7) ?_; intro a w v hF hf hR
    subst hR; have hM := hM.grow hf
    refine s_val hF rfl rfl rfl (e_assign hF rfl) ?_; intro a hF
    refine s_nil ?_
    refine then_n ?_
    refine wp_ret ?_
    refine then_r ?_
    obtain rfl := some_some H
    refine s_ret [Value.bool t6] hF Try.results60 ⟨rfl, trivial⟩ ?_
    exact ⟨_, rfl, hM.frm, rfl⟩

end Go.Proofs.Ytlcogkfjjlclmaa.WShapesLike

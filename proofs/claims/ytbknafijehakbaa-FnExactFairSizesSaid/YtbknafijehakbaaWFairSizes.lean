/- The walk through the code that the statement reaches: what each function computes. Conditions: none but those in each line. -/
import Derived.Test.YtbknafijehakbaaProg
import Derived.Test.YtbknafijehakbaaK
namespace Go.Proofs.Ytbknafijehakbaa.WFairSizes
open Go.K Go.RowKit
set_option linter.unusedVariables false
set_option linter.unusedSimpArgs false

def cd3 : Cd Int := ⟨3, 1, 8, fun x => [Pt.int x], fun x => Value.int .i64 x, (0 : Int), fun _ => rfl, fun _ => rfl, by decide⟩
theorem cdok3 : CdOk Try.prog cd3 := by
  obtain ⟨i, h1, h2, h3, h4⟩ := info_parts (by kernel_rfl : (Try.prog.info? 3).map (fun i => (i.zero, i.size, i.bytes)) = some (some (cd3.v cd3.z), 1, 8))
  exact ⟨⟨i, h1, h3, h4, h2⟩, by decide⟩
def cd70 : Cd (Ar 6) := ⟨70, 6, 48, fun x => [Pt.ar x], fun x => ag [Pt.ar x], (Ar.zero 6), fun _ => rfl, fun _ => rfl, by decide⟩
theorem cdok70 : CdOk Try.prog cd70 := by
  obtain ⟨i, h1, h2, h3, h4⟩ := info_parts (by kernel_rfl : (Try.prog.info? 70).map (fun i => (i.zero, i.size, i.bytes)) = some (some (cd70.v cd70.z), 6, 48))
  exact ⟨⟨i, h1, h3, h4, h2⟩, by decide⟩
theorem zv70 (w : World) : (zeroValue 70).run Try.prog w = .ok (ag [Pt.ar (Ar.zero 6)]) w := by kernel_rfl
theorem zv74 (w : World) : (zeroValue 74).run Try.prog w = .ok (ag [Pt.ar (Ar.zero 121)]) w := by kernel_rfl
theorem mixed : Try.prog.follows .mixedOrders = true := by kernel_rfl

/-! ### loop.example/g01210/laws.szIntA6S: function 43 -/
def laws_szIntA6S.f (K : Nat) (l0 : (List (Ar 6))) (a1 : Int) : Option Int := if (wrap64 (a1 - (l0.length : Int))) < 0 then (some (-1)) else (some (wrap64 (a1 - (l0.length : Int))))
set_option maxRecDepth 100000 in
set_option maxHeartbeats 4000000 in
theorem laws_szIntA6S.calls {w0 : World} (K : Nat) (l0 : (List (Ar 6))) (u0 : Value) (q0 : SlR cd70 w0 u0 l0) (a1 : Int) (r : Int) (H : laws_szIntA6S.f K l0 a1 = some r) : Calls Try.prog 43 [u0, Value.int .i64 a1].toArray w0 (Post w0 fun w v => v = Value.int .i64 r) := by
  rw [laws_szIntA6S.f] at H
  refine s_start Try.func43 rfl Try.ntmps43 rfl ?_
  intro a hF
  have hM := Ms.start w0
  skip
  refine wp_seq ?_
  refine s_region ?_
  refine s_val hF rfl rfl rfl (e_assign hF rfl) ?_; intro a hF
  refine s_nil ?_
  refine then_n ?_
  refine wp_seq ?_
  refine s_region ?_
  refine s_val hF rfl rfl rfl (e_move hF rfl) ?_; intro a hF
  refine s_val hF rfl rfl rfl (e_move hF rfl) ?_; intro a hF
  refine s_val hF rfl rfl rfl (e_len hF rfl (q0.frm hM.frm).toF Try.underlying51) ?_; intro a hF
  refine s_val hF rfl rfl rfl (e_sub hF rfl rfl) ?_; intro a hF
  refine s_val hF rfl rfl rfl (e_assign hF rfl) ?_; intro a hF
  refine s_nil ?_
  refine then_n ?_
  refine wp_seq ?_
  refine wp_seq ?_
  refine s_region ?_
  refine s_val hF rfl rfl rfl (e_move hF rfl) ?_; intro a hF
  refine s_val hF rfl rfl rfl (e_lss hF rfl rfl) ?_; intro a hF
  refine s_nil ?_
  refine then_n ?_
  rcases ite_cases H with ⟨c1, H⟩ | ⟨c1, H⟩
  ·
    refine s_cond_t hF rfl (decide_eq_true c1) ?_
    refine wp_seq ?_
    refine s_region ?_
    refine s_val hF rfl rfl rfl (e_assign hF rfl) ?_; intro a hF
    refine s_nil ?_
    refine then_n ?_
    refine wp_ret ?_
    refine then_r ?_
    obtain rfl := some_some H
    refine s_ret [Value.int .i64 (-1)] hF Try.results43 ⟨rfl, trivial⟩ ?_
    exact ⟨_, rfl, hM.frm, rfl⟩
  ·
    refine s_cond_f hF rfl (decide_eq_false c1) ?_
    refine wp_skip ?_
    refine then_n ?_
    refine wp_seq ?_
    refine s_region ?_
    refine s_val hF rfl rfl rfl (e_move hF rfl) ?_; intro a hF
    refine s_val hF rfl rfl rfl (e_assign hF rfl) ?_; intro a hF
    refine s_nil ?_
    refine then_n ?_
    refine wp_ret ?_
    obtain rfl := some_some H
    refine s_ret [Value.int .i64 (wrap64 (a1 - (l0.length : Int)))] hF Try.results43 ⟨rfl, trivial⟩ ?_
    exact ⟨_, rfl, hM.frm, rfl⟩

/-! ### loop.example/g01210/laws.toIntA6: function 75 -/
def laws_toIntA6.l0 (K : Nat) (a0 : (Ar 6)) : Nat → Int → (Ar 6) → Option (Ar 6)
  | 0, _, _ => none
  | k + 1, x9, x10 => if x9 < 6 then (if (0 : Int) ≤ x9 ∧ x9 < 6 then (laws_toIntA6.l0 K a0 k (wrap64 (x9 + 1)) (x10.set x9 (a0.get x9))) else none) else (some x10)
def laws_toIntA6.f (K : Nat) (a0 : (Ar 6)) : Option (Ar 6) := (laws_toIntA6.l0 K a0 K 0 (Ar.zero 6)).bind fun x8 => some x8
set_option maxRecDepth 100000 in
set_option maxHeartbeats 4000000 in
theorem laws_toIntA6.calls {w0 : World} (K : Nat) (a0 : (Ar 6)) (r : (Ar 6)) (H : laws_toIntA6.f K a0 = some r) : Calls Try.prog 75 [ag [Pt.ar a0]].toArray w0 (Post w0 fun w v => v = ag [Pt.ar r]) := by
  rw [laws_toIntA6.f] at H
  refine s_start Try.func75 rfl Try.ntmps75 rfl ?_
  intro a hF
  have hM := Ms.start w0
  skip
  refine wp_seq ?_
  refine s_region ?_
  refine s_box (ps := [Pt.ar a0]) hF hM rfl rfl rfl rfl ?_; intro a w b1 hF hM
  refine s_alloc (ps := [Pt.ar (Ar.zero 6)]) hF hM rfl rfl zv70 rfl ?_; intro a w b2 hF hM
  refine s_nil ?_
  refine then_n ?_
  refine wp_seq ?_
  refine s_region ?_
  refine s_alloc (ps := [Pt.ar (Ar.zero 6)]) hF hM rfl rfl zv70 rfl ?_; intro a w b3 hF hM
  refine s_nil ?_
  refine then_n ?_
  refine wp_seq ?_
  refine wp_seq ?_
  refine s_region ?_
  refine s_val hF rfl rfl rfl (e_assign hF rfl) ?_; intro a hF
  refine s_nil ?_
  refine then_n ?_
  refine wp_block ?_
  obtain ⟨o13, h14, H⟩ := bind_some H
  refine wp_mono (Q := fun e a w => (e = Exit.exit 0 ∧ ∃ x8 : (Ar 6), x8 = o13 ∧ Fr 15 a [(2, pt b2 0), (3, pt b3 0)] ∧ Ms [] w0 w [boxR b2 [Pt.ar (Ar.zero 6)] 70, boxR b3 [Pt.ar x8] 70])) ?_ ?_
  · refine s_loop (fun kq a w => ∃ x9 : Int, ∃ x10 : (Ar 6), laws_toIntA6.l0 K a0 kq x9 x10 = some o13 ∧ Fr 15 a [(1, pt b1 0), (2, pt b2 0), (3, pt b3 0), (4, Value.int .i64 x9)] ∧ Ms [] w0 w [boxR b1 [Pt.ar a0] 70, boxR b2 [Pt.ar (Ar.zero 6)] 70, boxR b3 [Pt.ar x10] 70]) K ⟨0, (Ar.zero 6), h14, hF.sub _ ⟨rfl, rfl, rfl, rfl, trivial⟩, hM.pick [2, 1, 0] rfl rfl⟩ ?_ ?_
    · rintro a w ⟨_, _, H, _⟩; exact none_some H
    · rintro k a w ⟨x9, x10, H, hF, hM⟩; rw [laws_toIntA6.l0] at H
      refine wp_seq ?_
      refine wp_seq ?_
      refine s_region ?_
      refine s_val hF rfl rfl rfl (e_move hF rfl) ?_; intro a hF
      refine s_val hF rfl rfl rfl (e_lss hF rfl rfl) ?_; intro a hF
      refine s_nil ?_
      refine then_n ?_
      rcases ite_cases H with ⟨c11, H⟩ | ⟨c11, H⟩
      ·
        refine s_cond_t hF rfl (decide_eq_true c11) ?_
        refine wp_skip ?_
        refine then_n ?_
        refine wp_seq ?_
        refine wp_block ?_
        obtain ⟨c12, H⟩ := ite_some H
        refine s_region ?_
        refine s_val hF rfl rfl rfl (e_move hF rfl) ?_; intro a hF
        refine s_val hF rfl rfl rfl (e_move hF rfl) ?_; intro a hF
        refine s_val hF rfl rfl rfl (e_ia hF rfl rfl Try.underlying70 Try.sizeOf3 c12.1 c12.2) ?_; intro a hF
        refine s_val hF rfl rfl rfl (e_ldi (i := 0) (k := 0) hF hM rfl rfl rfl rfl rfl Try.isAgg3 c12.1 c12.2) ?_; intro a hF
        refine s_val hF rfl rfl rfl (e_ia hF rfl rfl Try.underlying70 Try.sizeOf3 c12.1 c12.2) ?_; intro a hF
        refine s_sti (i := 2) (k := 0) hF hM rfl rfl rfl rfl rfl rfl rfl Try.sizeOf3 c12.1 c12.2 ?_; intro a w hF hM
        refine s_nil ?_
        refine blk_n ?_
        refine then_n ?_
        refine s_region ?_
        refine s_val hF rfl rfl rfl (e_move hF rfl) ?_; intro a hF
        refine s_val hF rfl rfl rfl (e_add hF rfl rfl) ?_; intro a hF
        refine s_val hF rfl rfl rfl (e_assign hF rfl) ?_; intro a hF
        refine s_nil ?_
        refine then_n ?_
        exact ⟨(wrap64 (x9 + 1)), (x10.set x9 (a0.get x9)), H, hF.sub _ ⟨rfl, rfl, rfl, rfl, trivial⟩, hM.pick [0, 1, 2] rfl rfl⟩
      ·
        refine s_cond_f hF rfl (decide_eq_false c11) ?_
        refine wp_exit ?_
        refine then_x ?_
        refine then_x ?_
        exact ⟨rfl, x10, some_some H, hF.sub _ ⟨rfl, rfl, trivial⟩, hM.pick [1, 2] rfl rfl⟩
  · rintro e a w ⟨rfl, x8, rfl, hF, hM⟩
    skip
    refine blk_x ?_
    refine then_n ?_
    refine wp_seq ?_
    refine s_region ?_
    refine s_val hF rfl rfl rfl (e_lda (i := 1) 0 1 hF hM rfl rfl rfl rfl Try.isAgg70 Try.sizeOf70 rfl) ?_; intro a hF
    refine s_stw (i := 0) (ps' := [Pt.ar x8]) hF hM rfl rfl rfl rfl rfl rfl Try.sizeOf70 rfl ?_; intro a w hF hM
    refine s_nil ?_
    refine then_n ?_
    refine wp_ret ?_
    obtain rfl := some_some H
    refine s_ret [ag [Pt.ar x8]] hF Try.results75 ⟨⟨_, rfl, rv_box hM (i := 0) rfl Try.isAgg70 Try.sizeOf70 rfl⟩, trivial⟩ ?_
    exact ⟨_, rfl, hM.frm, rfl⟩

/-! ### loop.example/g01210/laws.toIntA6S: function 45 -/
def laws_toIntA6S.l0 (K : Nat) (l0 : (List (Ar 6))) : Nat → Int → (List (Ar 6)) → Option (List (Ar 6))
  | 0, _, _ => none
  | k + 1, x16, x17 => if x16 < (l0.length : Int) then (if (0 : Int) ≤ x16 ∧ x16 < (l0.length : Int) then ((laws_toIntA6.f K (l0.getD (x16 : Int).toNat (Ar.zero 6))).bind fun t20 => if (0 : Int) ≤ x16 ∧ x16 < (x17.length : Int) then (laws_toIntA6S.l0 K l0 k (wrap64 (x16 + 1)) (x17.set (x16 : Int).toNat t20)) else none) else none) else (some x17)
def laws_toIntA6S.f (K : Nat) (l0 : (List (Ar 6))) : Option (List (Ar 6)) := if (0 : Int) ≤ (l0.length : Int) ∧ (l0.length : Int) ≤ 1073741824 then ((laws_toIntA6S.l0 K l0 K 0 (List.replicate (l0.length : Int).toNat (Ar.zero 6))).bind fun x15 => some x15) else none
set_option maxRecDepth 100000 in
set_option maxHeartbeats 4000000 in
theorem laws_toIntA6S.calls {w0 : World} (K : Nat) (l0 : (List (Ar 6))) (u0 : Value) (q0 : SlR cd70 w0 u0 l0) (r : (List (Ar 6))) (H : laws_toIntA6S.f K l0 = some r) : Calls Try.prog 45 [u0].toArray w0 (Post w0 fun w v => Fresh cd70 w0.heap.size w v r) := by
  rw [laws_toIntA6S.f] at H
  refine s_start Try.func45 rfl Try.ntmps45 rfl ?_
  intro a hF
  have hM := Ms.start w0
  skip
  refine wp_seq ?_
  refine s_region ?_
  refine s_val hF rfl rfl rfl (e_assign hF rfl) ?_; intro a hF
  refine s_nil ?_
  refine then_n ?_
  refine wp_seq ?_
  obtain ⟨c2, H⟩ := ite_some H
  refine s_region ?_
  refine s_val hF rfl rfl rfl (e_move hF rfl) ?_; intro a hF
  refine s_val hF rfl rfl rfl (e_len hF rfl (q0.frm hM.frm).toF Try.underlying51) ?_; intro a hF
  refine s_make (C := cd70) cdok70 hF hM rfl rfl rfl rfl Try.underlying51 c2.1 c2.2 ?_; intro a w v1 hF hM
  refine s_val hF rfl rfl rfl (e_assign hF rfl) ?_; intro a hF
  refine s_nil ?_
  refine then_n ?_
  refine wp_seq ?_
  refine wp_seq ?_
  refine s_region ?_
  refine s_val hF rfl rfl rfl (e_assign hF rfl) ?_; intro a hF
  refine s_nil ?_
  refine then_n ?_
  refine wp_block ?_
  obtain ⟨o23, h24, H⟩ := bind_some H
  refine wp_mono (Q := fun e a w => (e = Exit.exit 0 ∧ ∃ x15 : (List (Ar 6)), x15 = o23 ∧ Fr 23 a [(3, v1)] ∧ Ms [] w0 w [rowR cd70 v1 x15])) ?_ ?_
  · refine s_loop (fun kq a w => ∃ x16 : Int, ∃ x17 : (List (Ar 6)), laws_toIntA6S.l0 K l0 kq x16 x17 = some o23 ∧ Fr 23 a [(0, u0), (3, v1), (4, Value.int .i64 x16)] ∧ Ms [] w0 w [rowR cd70 v1 x17]) K ⟨0, (List.replicate (l0.length : Int).toNat (Ar.zero 6)), h24, hF.sub _ ⟨rfl, rfl, rfl, trivial⟩, hM.pick [0] rfl rfl⟩ ?_ ?_
    · rintro a w ⟨_, _, H, _⟩; exact none_some H
    · rintro k a w ⟨x16, x17, H, hF, hM⟩; rw [laws_toIntA6S.l0] at H
      refine wp_seq ?_
      refine wp_seq ?_
      refine s_region ?_
      refine s_val hF rfl rfl rfl (e_move hF rfl) ?_; intro a hF
      refine s_val hF rfl rfl rfl (e_move hF rfl) ?_; intro a hF
      refine s_val hF rfl rfl rfl (e_len hF rfl (q0.frm hM.frm).toF Try.underlying51) ?_; intro a hF
      refine s_val hF rfl rfl rfl (e_lss hF rfl rfl) ?_; intro a hF
      refine s_nil ?_
      refine then_n ?_
      rcases ite_cases H with ⟨c18, H⟩ | ⟨c18, H⟩
      ·
        refine s_cond_t hF rfl (decide_eq_true c18) ?_
        refine wp_skip ?_
        refine then_n ?_
        refine wp_seq ?_
        refine wp_block ?_
        obtain ⟨c19, H⟩ := ite_some H
        obtain ⟨t20, h21, H⟩ := bind_some H
        obtain ⟨c22, H⟩ := ite_some H
        refine s_region ?_
        refine s_val hF rfl rfl rfl (e_move hF rfl) ?_; intro a hF
        refine s_val hF rfl rfl rfl (e_move hF rfl) ?_; intro a hF
        refine s_val hF rfl rfl rfl (e_move hF rfl) ?_; intro a hF
        refine s_val hF rfl rfl rfl (e_move hF rfl) ?_; intro a hF
        refine s_val hF rfl rfl rfl (e_ias cd70 hF rfl rfl (q0.frm hM.frm).toF Try.underlying51 Try.sizeOf70 c19.1 c19.2) ?_; intro a hF
        refine s_val hF rfl rfl rfl (e_ldsa (m := x16) hF rfl (q0.frm hM.frm) (getD_some (z := (Ar.zero 6)) c19.1 c19.2) Try.isAgg70 Try.sizeOf70) ?_; intro a hF
        refine s_call hF rfl rfl rfl Try.call75 (laws_toIntA6.calls K (l0.getD (x16 : Int).toNat (Ar.zero 6)) t20 h21) ?_; intro a w v hF hf hR
        subst hR; have hM := hM.grow hf
        refine s_val hF rfl rfl rfl (e_ias cd70 hF rfl rfl (hM.sl 0 rfl).toF Try.underlying51 Try.sizeOf70 c22.1 c22.2) ?_; intro a hF
        refine s_sts (i := 0) t20 hF hM rfl rfl rfl rfl rfl c22.1 c22.2 Try.sizeOf70 ?_; intro a w hF hM
        refine s_nil ?_
        refine blk_n ?_
        refine then_n ?_
        refine s_region ?_
        refine s_val hF rfl rfl rfl (e_move hF rfl) ?_; intro a hF
        refine s_val hF rfl rfl rfl (e_add hF rfl rfl) ?_; intro a hF
        refine s_val hF rfl rfl rfl (e_assign hF rfl) ?_; intro a hF
        refine s_nil ?_
        refine then_n ?_
        exact ⟨(wrap64 (x16 + 1)), (x17.set (x16 : Int).toNat t20), H, hF.sub _ ⟨rfl, rfl, rfl, trivial⟩, hM.pick [0] rfl rfl⟩
      ·
        refine s_cond_f hF rfl (decide_eq_false c18) ?_
        refine wp_exit ?_
        refine then_x ?_
        refine then_x ?_
        exact ⟨rfl, x17, some_some H, hF.sub _ ⟨rfl, trivial⟩, hM.pick [0] rfl rfl⟩
  · rintro e a w ⟨rfl, x15, rfl, hF, hM⟩
    skip
    refine blk_x ?_
    refine then_n ?_
    refine wp_seq ?_
    refine s_region ?_
    refine s_val hF rfl rfl rfl (e_move hF rfl) ?_; intro a hF
    refine s_val hF rfl rfl rfl (e_assign hF rfl) ?_; intro a hF
    refine s_nil ?_
    refine then_n ?_
    refine wp_ret ?_
    obtain rfl := some_some H
    refine s_ret [v1] hF Try.results45 ⟨rfl, trivial⟩ ?_
    exact ⟨_, rfl, hM.frm, hM.give 0 rfl⟩

/-! ### loop.example/g01210/spec.l1In: function 51 -/
def spec_l1In.f (K : Nat) (a0 : Int) (a1 : Int) (a2 : Int) : Option Bool := if a1 ≤ a0 then (some (decide (a0 ≤ a2))) else (some false)
set_option maxRecDepth 100000 in
set_option maxHeartbeats 4000000 in
theorem spec_l1In.calls {w0 : World} (K : Nat) (a0 : Int) (a1 : Int) (a2 : Int) (r : Bool) (H : spec_l1In.f K a0 a1 a2 = some r) : Calls Try.prog 51 [Value.int .i64 a0, Value.int .i64 a1, Value.int .i64 a2].toArray w0 (Post w0 fun w v => v = Value.bool r) := by
  rw [spec_l1In.f] at H
  refine s_start Try.func51 rfl Try.ntmps51 rfl ?_
  intro a hF
  have hM := Ms.start w0
  skip
  refine wp_seq ?_
  refine s_region ?_
  refine s_val hF rfl rfl rfl (e_assign hF rfl) ?_; intro a hF
  refine s_nil ?_
  refine then_n ?_
  refine wp_seq ?_
  rcases ite_cases H with ⟨c1, H⟩ | ⟨c1, H⟩
  ·
    refine s_region ?_
    refine s_val hF rfl rfl rfl (e_move hF rfl) ?_; intro a hF
    refine s_val hF rfl rfl rfl (e_move hF rfl) ?_; intro a hF
    refine s_val hF rfl rfl rfl (e_geq hF rfl rfl) ?_; intro a hF
    refine s_val hF rfl rfl rfl (e_move hF rfl) ?_; intro a hF
    have hF := hF.topb (decide_eq_true c1)
    refine s_val hF rfl rfl rfl (e_move hF rfl) ?_; intro a hF
    refine s_val hF rfl rfl rfl (e_move hF rfl) ?_; intro a hF
    refine s_val hF rfl rfl rfl (e_leq hF rfl rfl) ?_; intro a hF
    refine s_val hF rfl rfl rfl (e_pick_t hF rfl rfl) ?_; intro a hF
    refine s_val hF rfl rfl rfl (e_assign hF rfl) ?_; intro a hF
    refine s_nil ?_
    refine then_n ?_
    refine wp_ret ?_
    obtain rfl := some_some H
    refine s_ret [Value.bool (decide (a0 ≤ a2))] hF Try.results51 ⟨rfl, trivial⟩ ?_
    exact ⟨_, rfl, hM.frm, rfl⟩
  ·
    refine s_region ?_
    refine s_val hF rfl rfl rfl (e_move hF rfl) ?_; intro a hF
    refine s_val hF rfl rfl rfl (e_move hF rfl) ?_; intro a hF
    refine s_val hF rfl rfl rfl (e_geq hF rfl rfl) ?_; intro a hF
    refine s_val hF rfl rfl rfl (e_move hF rfl) ?_; intro a hF
    have hF := hF.topb (decide_eq_false c1)
    refine s_skip hF rfl rfl rfl ?_; intro a hF
    refine s_skip hF rfl rfl rfl ?_; intro a hF
    refine s_skip hF rfl rfl rfl ?_; intro a hF
    refine s_val hF rfl rfl rfl (e_pick_f hF rfl rfl) ?_; intro a hF
    refine s_val hF rfl rfl rfl (e_assign hF rfl) ?_; intro a hF
    refine s_nil ?_
    refine then_n ?_
    refine wp_ret ?_
    obtain rfl := some_some H
    refine s_ret [Value.bool false] hF Try.results51 ⟨rfl, trivial⟩ ?_
    exact ⟨_, rfl, hM.frm, rfl⟩

/-! ### loop.example/g01210/spec.l2Die: function 86 -/
def spec_l2Die.l0 (K : Nat) (a0 : (Ar 6)) : Nat → Int → Option (Sum Unit Bool)
  | 0, _ => none
  | k + 1, x14 => if x14 < 6 then (if (0 : Int) ≤ x14 ∧ x14 < 6 then ((spec_l1In.f K (a0.get x14) 0 30).bind fun t17 => if t17 = true then (if 0 < x14 then (if (0 : Int) ≤ (wrap64 (x14 - 1)) ∧ (wrap64 (x14 - 1)) < 6 then (if (a0.get x14) < (a0.get (wrap64 (x14 - 1))) then (some (Sum.inr false)) else (spec_l2Die.l0 K a0 k (wrap64 (x14 + 1)))) else none) else (spec_l2Die.l0 K a0 k (wrap64 (x14 + 1)))) else (some (Sum.inr false))) else none) else (some (Sum.inl ()))
def spec_l2Die.f (K : Nat) (a0 : (Ar 6)) : Option Bool := (spec_l2Die.l0 K a0 K 0).bind fun o23 => (match o23 with | .inl () => some true | .inr r25 => some r25)
set_option maxRecDepth 100000 in
set_option maxHeartbeats 4000000 in
theorem spec_l2Die.calls {w0 : World} (K : Nat) (a0 : (Ar 6)) (r : Bool) (H : spec_l2Die.f K a0 = some r) : Calls Try.prog 86 [ag [Pt.ar a0]].toArray w0 (Post w0 fun w v => v = Value.bool r) := by
  rw [spec_l2Die.f] at H
  refine s_start Try.func86 rfl Try.ntmps86 rfl ?_
  intro a hF
  have hM := Ms.start w0
  skip
  refine wp_seq ?_
  refine s_region ?_
  refine s_box (ps := [Pt.ar a0]) hF hM rfl rfl rfl rfl ?_; intro a w b1 hF hM
  refine s_val hF rfl rfl rfl (e_assign hF rfl) ?_; intro a hF
  refine s_nil ?_
  refine then_n ?_
  refine wp_seq ?_
  refine wp_seq ?_
  refine s_region ?_
  refine s_val hF rfl rfl rfl (e_assign hF rfl) ?_; intro a hF
  refine s_nil ?_
  refine then_n ?_
  refine wp_block ?_
  obtain ⟨o23, h24, H⟩ := bind_some H
  refine wp_mono (Q := fun e a w => (e = Exit.exit 0 ∧ Sum.inl () = o23 ∧ Fr 27 a [] ∧ Ms [] w0 w []) ∨ (e = Exit.ret ∧ ∃ r25 : Bool, Sum.inr r25 = o23 ∧ Fr 27 a [(2, Value.bool r25)] ∧ Ms [] w0 w [])) ?_ ?_
  · refine s_loop (fun kq a w => ∃ x14 : Int, spec_l2Die.l0 K a0 kq x14 = some o23 ∧ Fr 27 a [(1, pt b1 0), (3, Value.int .i64 x14)] ∧ Ms [] w0 w [boxR b1 [Pt.ar a0] 70]) K ⟨0, h24, hF.sub _ ⟨rfl, rfl, trivial⟩, hM.pick [0] rfl rfl⟩ ?_ ?_
    · rintro a w ⟨_, H, _⟩; exact none_some H
    · rintro k a w ⟨x14, H, hF, hM⟩; rw [spec_l2Die.l0] at H
      refine wp_seq ?_
      refine wp_seq ?_
      refine s_region ?_
      refine s_val hF rfl rfl rfl (e_move hF rfl) ?_; intro a hF
      refine s_val hF rfl rfl rfl (e_lss hF rfl rfl) ?_; intro a hF
      refine s_nil ?_
      refine then_n ?_
      rcases ite_cases H with ⟨c15, H⟩ | ⟨c15, H⟩
      ·
        refine s_cond_t hF rfl (decide_eq_true c15) ?_
        refine wp_skip ?_
        refine then_n ?_
        refine wp_seq ?_
        refine wp_block ?_
        refine wp_seq ?_
        obtain ⟨c16, H⟩ := ite_some H
        obtain ⟨t17, h18, H⟩ := bind_some H
        rcases ite_cases H with ⟨c19, H⟩ | ⟨c19, H⟩
        ·
          rcases ite_cases H with ⟨c20, H⟩ | ⟨c20, H⟩
          ·
            obtain ⟨c21, H⟩ := ite_some H
            refine s_held (fun w => Ms [] w0 w [boxR b1 [Pt.ar a0] 70]) #[false, false, false, false, false, false, false, false, false, false, false, false, false, false, false, false, false, false, false] mixed rfl rfl hM ?_; intro w hf hM; clear hf
            refine h_val 0 #[true, false, false, false, false, false, false, false, false, false, false, false, false, false, false, false, false, false, false] rfl (by kernel_rfl) hF rfl rfl rfl (fun w hS => e_move hF rfl) (hM.pick [0] rfl rfl) ?_; intro a hF
            refine h_val 1 #[true, true, false, false, false, false, false, false, false, false, false, false, false, false, false, false, false, false, false] rfl (by kernel_rfl) hF rfl rfl rfl (fun w hS => e_ia hF rfl rfl Try.underlying70 Try.sizeOf3 c16.1 c16.2) (hM.pick [0] rfl rfl) ?_; intro a hF
            refine h_val 2 #[true, true, true, false, false, false, false, false, false, false, false, false, false, false, false, false, false, false, false] rfl (by kernel_rfl) hF rfl rfl rfl (fun w hS => e_ldi (i := 0) (k := 0) hF hS rfl rfl rfl rfl rfl Try.isAgg3 c16.1 c16.2) (hM.pick [0] rfl rfl) ?_; intro a hF
            refine h_one 3 #[true, true, true, true, false, false, false, false, false, false, false, false, false, false, false, false, false, false, false] rfl (by kernel_rfl) ?_
            refine s_call hF rfl rfl rfl Try.call51 (spec_l1In.calls K (a0.get x14) 0 30 t17 h18) ?_; intro a w v hF hf hR
            subst hR; have hM := hM.grow hf
            refine s_nil ⟨rfl, (hM.pick [0] rfl rfl), ?_⟩
            refine h_val 4 #[true, true, true, true, true, false, false, false, false, false, false, false, false, false, false, false, false, false, false] rfl (by kernel_rfl) hF rfl rfl rfl (fun w hS => e_not hF rfl) (hM.pick [0] rfl rfl) ?_; intro a hF
            refine h_val 5 #[true, true, true, true, true, true, false, false, false, false, false, false, false, false, false, false, false, false, false] rfl (by kernel_rfl) hF rfl rfl rfl (fun w hS => e_move hF rfl) (hM.pick [0] rfl rfl) ?_; intro a hF
            have hF := hF.topb (congrArg Bool.not c19)
            refine h_val 6 #[true, true, true, true, true, true, true, false, false, false, false, false, false, false, false, false, false, false, false] rfl (by kernel_rfl) hF rfl rfl rfl (fun w hS => e_move hF rfl) (hM.pick [0] rfl rfl) ?_; intro a hF
            refine h_val 7 #[true, true, true, true, true, true, true, true, false, false, false, false, false, false, false, false, false, false, false] rfl (by kernel_rfl) hF rfl rfl rfl (fun w hS => e_gtr hF rfl rfl) (hM.pick [0] rfl rfl) ?_; intro a hF
            refine h_val 8 #[true, true, true, true, true, true, true, true, true, false, false, false, false, false, false, false, false, false, false] rfl (by kernel_rfl) hF rfl rfl rfl (fun w hS => e_move hF rfl) (hM.pick [0] rfl rfl) ?_; intro a hF
            have hF := hF.topb (decide_eq_true c20)
            refine h_val 9 #[true, true, true, true, true, true, true, true, true, true, false, false, false, false, false, false, false, false, false] rfl (by kernel_rfl) hF rfl rfl rfl (fun w hS => e_move hF rfl) (hM.pick [0] rfl rfl) ?_; intro a hF
            refine h_val 10 #[true, true, true, true, true, true, true, true, true, true, true, false, false, false, false, false, false, false, false] rfl (by kernel_rfl) hF rfl rfl rfl (fun w hS => e_ia hF rfl rfl Try.underlying70 Try.sizeOf3 c16.1 c16.2) (hM.pick [0] rfl rfl) ?_; intro a hF
            refine h_val 11 #[true, true, true, true, true, true, true, true, true, true, true, true, false, false, false, false, false, false, false] rfl (by kernel_rfl) hF rfl rfl rfl (fun w hS => e_ldi (i := 0) (k := 0) hF hS rfl rfl rfl rfl rfl Try.isAgg3 c16.1 c16.2) (hM.pick [0] rfl rfl) ?_; intro a hF
            refine h_val 12 #[true, true, true, true, true, true, true, true, true, true, true, true, true, false, false, false, false, false, false] rfl (by kernel_rfl) hF rfl rfl rfl (fun w hS => e_move hF rfl) (hM.pick [0] rfl rfl) ?_; intro a hF
            refine h_val 13 #[true, true, true, true, true, true, true, true, true, true, true, true, true, true, false, false, false, false, false] rfl (by kernel_rfl) hF rfl rfl rfl (fun w hS => e_sub hF rfl rfl) (hM.pick [0] rfl rfl) ?_; intro a hF
            refine h_val 14 #[true, true, true, true, true, true, true, true, true, true, true, true, true, true, true, false, false, false, false] rfl (by kernel_rfl) hF rfl rfl rfl (fun w hS => e_ia hF rfl rfl Try.underlying70 Try.sizeOf3 c21.1 c21.2) (hM.pick [0] rfl rfl) ?_; intro a hF
            refine h_val 15 #[true, true, true, true, true, true, true, true, true, true, true, true, true, true, true, true, false, false, false] rfl (by kernel_rfl) hF rfl rfl rfl (fun w hS => e_ldi (i := 0) (k := 0) hF hS rfl rfl rfl rfl rfl Try.isAgg3 c21.1 c21.2) (hM.pick [0] rfl rfl) ?_; intro a hF
            refine h_val 16 #[true, true, true, true, true, true, true, true, true, true, true, true, true, true, true, true, true, false, false] rfl (by kernel_rfl) hF rfl rfl rfl (fun w hS => e_lss hF rfl rfl) (hM.pick [0] rfl rfl) ?_; intro a hF
            refine h_val 17 #[true, true, true, true, true, true, true, true, true, true, true, true, true, true, true, true, true, true, false] rfl (by kernel_rfl) hF rfl rfl rfl (fun w hS => e_pick_t hF rfl rfl) (hM.pick [0] rfl rfl) ?_; intro a hF
            refine h_val 18 #[true, true, true, true, true, true, true, true, true, true, true, true, true, true, true, true, true, true, true] rfl (by kernel_rfl) hF rfl rfl rfl (fun w hS => e_pick_f hF rfl rfl) (hM.pick [0] rfl rfl) ?_; intro a hF
            refine h_done rfl ?_
            refine then_n ?_
            rcases ite_cases H with ⟨c22, H⟩ | ⟨c22, H⟩
            ·
              refine s_cond_t hF rfl (decide_eq_true c22) ?_
              refine wp_seq ?_
              refine s_region ?_
              refine s_val hF rfl rfl rfl (e_assign hF rfl) ?_; intro a hF
              refine s_nil ?_
              refine then_n ?_
              refine wp_ret ?_
              refine blk_r ?_
              refine then_r ?_
              refine then_r ?_
              exact Or.inr (⟨rfl, false, some_some H, hF.sub _ ⟨rfl, trivial⟩, hM.pick [] rfl rfl⟩)
            ·
              refine s_cond_f hF rfl (decide_eq_false c22) ?_
              refine wp_skip ?_
              refine blk_n ?_
              refine then_n ?_
              refine s_region ?_
              refine s_val hF rfl rfl rfl (e_move hF rfl) ?_; intro a hF
              refine s_val hF rfl rfl rfl (e_add hF rfl rfl) ?_; intro a hF
              refine s_val hF rfl rfl rfl (e_assign hF rfl) ?_; intro a hF
              refine s_nil ?_
              refine then_n ?_
              exact ⟨(wrap64 (x14 + 1)), H, hF.sub _ ⟨rfl, rfl, trivial⟩, hM.pick [0] rfl rfl⟩
          ·
            refine s_held (fun w => Ms [] w0 w [boxR b1 [Pt.ar a0] 70]) #[false, false, false, false, false, false, false, false, false, false, false, false, false, false, false, false, false, false, false] mixed rfl rfl hM ?_; intro w hf hM; clear hf
            refine h_val 0 #[true, false, false, false, false, false, false, false, false, false, false, false, false, false, false, false, false, false, false] rfl (by kernel_rfl) hF rfl rfl rfl (fun w hS => e_move hF rfl) (hM.pick [0] rfl rfl) ?_; intro a hF
            refine h_val 1 #[true, true, false, false, false, false, false, false, false, false, false, false, false, false, false, false, false, false, false] rfl (by kernel_rfl) hF rfl rfl rfl (fun w hS => e_ia hF rfl rfl Try.underlying70 Try.sizeOf3 c16.1 c16.2) (hM.pick [0] rfl rfl) ?_; intro a hF
            refine h_val 2 #[true, true, true, false, false, false, false, false, false, false, false, false, false, false, false, false, false, false, false] rfl (by kernel_rfl) hF rfl rfl rfl (fun w hS => e_ldi (i := 0) (k := 0) hF hS rfl rfl rfl rfl rfl Try.isAgg3 c16.1 c16.2) (hM.pick [0] rfl rfl) ?_; intro a hF
            refine h_one 3 #[true, true, true, true, false, false, false, false, false, false, false, false, false, false, false, false, false, false, false] rfl (by kernel_rfl) ?_
            refine s_call hF rfl rfl rfl Try.call51 (spec_l1In.calls K (a0.get x14) 0 30 t17 h18) ?_; intro a w v hF hf hR
            subst hR; have hM := hM.grow hf
            refine s_nil ⟨rfl, (hM.pick [0] rfl rfl), ?_⟩
            refine h_val 4 #[true, true, true, true, true, false, false, false, false, false, false, false, false, false, false, false, false, false, false] rfl (by kernel_rfl) hF rfl rfl rfl (fun w hS => e_not hF rfl) (hM.pick [0] rfl rfl) ?_; intro a hF
            refine h_val 5 #[true, true, true, true, true, true, false, false, false, false, false, false, false, false, false, false, false, false, false] rfl (by kernel_rfl) hF rfl rfl rfl (fun w hS => e_move hF rfl) (hM.pick [0] rfl rfl) ?_; intro a hF
            have hF := hF.topb (congrArg Bool.not c19)
            refine h_val 6 #[true, true, true, true, true, true, true, false, false, false, false, false, false, false, false, false, false, false, false] rfl (by kernel_rfl) hF rfl rfl rfl (fun w hS => e_move hF rfl) (hM.pick [0] rfl rfl) ?_; intro a hF
            refine h_val 7 #[true, true, true, true, true, true, true, true, false, false, false, false, false, false, false, false, false, false, false] rfl (by kernel_rfl) hF rfl rfl rfl (fun w hS => e_gtr hF rfl rfl) (hM.pick [0] rfl rfl) ?_; intro a hF
            refine h_val 8 #[true, true, true, true, true, true, true, true, true, false, false, false, false, false, false, false, false, false, false] rfl (by kernel_rfl) hF rfl rfl rfl (fun w hS => e_move hF rfl) (hM.pick [0] rfl rfl) ?_; intro a hF
            have hF := hF.topb (decide_eq_false c20)
            refine h_skip 9 #[true, true, true, true, true, true, true, true, true, true, false, false, false, false, false, false, false, false, false] rfl (by kernel_rfl) hF rfl rfl rfl (hM.pick [0] rfl rfl) ?_; intro a hF
            refine h_skip 10 #[true, true, true, true, true, true, true, true, true, true, true, false, false, false, false, false, false, false, false] rfl (by kernel_rfl) hF rfl rfl rfl (hM.pick [0] rfl rfl) ?_; intro a hF
            refine h_skip 11 #[true, true, true, true, true, true, true, true, true, true, true, true, false, false, false, false, false, false, false] rfl (by kernel_rfl) hF rfl rfl rfl (hM.pick [0] rfl rfl) ?_; intro a hF
            refine h_skip 12 #[true, true, true, true, true, true, true, true, true, true, true, true, true, false, false, false, false, false, false] rfl (by kernel_rfl) hF rfl rfl rfl (hM.pick [0] rfl rfl) ?_; intro a hF
            refine h_skip 13 #[true, true, true, true, true, true, true, true, true, true, true, true, true, true, false, false, false, false, false] rfl (by kernel_rfl) hF rfl rfl rfl (hM.pick [0] rfl rfl) ?_; intro a hF
            refine h_skip 14 #[true, true, true, true, true, true, true, true, true, true, true, true, true, true, true, false, false, false, false] rfl (by kernel_rfl) hF rfl rfl rfl (hM.pick [0] rfl rfl) ?_; intro a hF
            refine h_skip 15 #[true, true, true, true, true, true, true, true, true, true, true, true, true, true, true, true, false, false, false] rfl (by kernel_rfl) hF rfl rfl rfl (hM.pick [0] rfl rfl) ?_; intro a hF
            refine h_skip 16 #[true, true, true, true, true, true, true, true, true, true, true, true, true, true, true, true, true, false, false] rfl (by kernel_rfl) hF rfl rfl rfl (hM.pick [0] rfl rfl) ?_; intro a hF
            refine h_val 17 #[true, true, true, true, true, true, true, true, true, true, true, true, true, true, true, true, true, true, false] rfl (by kernel_rfl) hF rfl rfl rfl (fun w hS => e_pick_f hF rfl rfl) (hM.pick [0] rfl rfl) ?_; intro a hF
            refine h_val 18 #[true, true, true, true, true, true, true, true, true, true, true, true, true, true, true, true, true, true, true] rfl (by kernel_rfl) hF rfl rfl rfl (fun w hS => e_pick_f hF rfl rfl) (hM.pick [0] rfl rfl) ?_; intro a hF
            refine h_done rfl ?_
            refine then_n ?_
            refine s_cond_f hF rfl rfl ?_
            refine wp_skip ?_
            refine blk_n ?_
            refine then_n ?_
            refine s_region ?_
            refine s_val hF rfl rfl rfl (e_move hF rfl) ?_; intro a hF
            refine s_val hF rfl rfl rfl (e_add hF rfl rfl) ?_; intro a hF
            refine s_val hF rfl rfl rfl (e_assign hF rfl) ?_; intro a hF
            refine s_nil ?_
            refine then_n ?_
            exact ⟨(wrap64 (x14 + 1)), H, hF.sub _ ⟨rfl, rfl, trivial⟩, hM.pick [0] rfl rfl⟩
        ·
          refine s_held (fun w => Ms [] w0 w [boxR b1 [Pt.ar a0] 70]) #[false, false, false, false, false, false, false, false, false, false, false, false, false, false, false, false, false, false, false] mixed rfl rfl hM ?_; intro w hf hM; clear hf
          refine h_val 0 #[true, false, false, false, false, false, false, false, false, false, false, false, false, false, false, false, false, false, false] rfl (by kernel_rfl) hF rfl rfl rfl (fun w hS => e_move hF rfl) (hM.pick [0] rfl rfl) ?_; intro a hF
          refine h_val 1 #[true, true, false, false, false, false, false, false, false, false, false, false, false, false, false, false, false, false, false] rfl (by kernel_rfl) hF rfl rfl rfl (fun w hS => e_ia hF rfl rfl Try.underlying70 Try.sizeOf3 c16.1 c16.2) (hM.pick [0] rfl rfl) ?_; intro a hF
          refine h_val 2 #[true, true, true, false, false, false, false, false, false, false, false, false, false, false, false, false, false, false, false] rfl (by kernel_rfl) hF rfl rfl rfl (fun w hS => e_ldi (i := 0) (k := 0) hF hS rfl rfl rfl rfl rfl Try.isAgg3 c16.1 c16.2) (hM.pick [0] rfl rfl) ?_; intro a hF
          refine h_one 3 #[true, true, true, true, false, false, false, false, false, false, false, false, false, false, false, false, false, false, false] rfl (by kernel_rfl) ?_
          refine s_call hF rfl rfl rfl Try.call51 (spec_l1In.calls K (a0.get x14) 0 30 t17 h18) ?_; intro a w v hF hf hR
          subst hR; have hM := hM.grow hf
          refine s_nil ⟨rfl, (hM.pick [0] rfl rfl), ?_⟩
          refine h_val 4 #[true, true, true, true, true, false, false, false, false, false, false, false, false, false, false, false, false, false, false] rfl (by kernel_rfl) hF rfl rfl rfl (fun w hS => e_not hF rfl) (hM.pick [0] rfl rfl) ?_; intro a hF
          refine h_val 5 #[true, true, true, true, true, true, false, false, false, false, false, false, false, false, false, false, false, false, false] rfl (by kernel_rfl) hF rfl rfl rfl (fun w hS => e_move hF rfl) (hM.pick [0] rfl rfl) ?_; intro a hF
          have hF := hF.topb (congrArg Bool.not (bf c19))
          refine h_skip 6 #[true, true, true, true, true, true, true, false, false, false, false, false, false, false, false, false, false, false, false] rfl (by kernel_rfl) hF rfl rfl rfl (hM.pick [0] rfl rfl) ?_; intro a hF
          refine h_skip 7 #[true, true, true, true, true, true, true, true, false, false, false, false, false, false, false, false, false, false, false] rfl (by kernel_rfl) hF rfl rfl rfl (hM.pick [0] rfl rfl) ?_; intro a hF
          refine h_skip 8 #[true, true, true, true, true, true, true, true, true, false, false, false, false, false, false, false, false, false, false] rfl (by kernel_rfl) hF rfl rfl rfl (hM.pick [0] rfl rfl) ?_; intro a hF
          refine h_skip 9 #[true, true, true, true, true, true, true, true, true, true, false, false, false, false, false, false, false, false, false] rfl (by kernel_rfl) hF rfl rfl rfl (hM.pick [0] rfl rfl) ?_; intro a hF
          refine h_skip 10 #[true, true, true, true, true, true, true, true, true, true, true, false, false, false, false, false, false, false, false] rfl (by kernel_rfl) hF rfl rfl rfl (hM.pick [0] rfl rfl) ?_; intro a hF
          refine h_skip 11 #[true, true, true, true, true, true, true, true, true, true, true, true, false, false, false, false, false, false, false] rfl (by kernel_rfl) hF rfl rfl rfl (hM.pick [0] rfl rfl) ?_; intro a hF
          refine h_skip 12 #[true, true, true, true, true, true, true, true, true, true, true, true, true, false, false, false, false, false, false] rfl (by kernel_rfl) hF rfl rfl rfl (hM.pick [0] rfl rfl) ?_; intro a hF
          refine h_skip 13 #[true, true, true, true, true, true, true, true, true, true, true, true, true, true, false, false, false, false, false] rfl (by kernel_rfl) hF rfl rfl rfl (hM.pick [0] rfl rfl) ?_; intro a hF
          refine h_skip 14 #[true, true, true, true, true, true, true, true, true, true, true, true, true, true, true, false, false, false, false] rfl (by kernel_rfl) hF rfl rfl rfl (hM.pick [0] rfl rfl) ?_; intro a hF
          refine h_skip 15 #[true, true, true, true, true, true, true, true, true, true, true, true, true, true, true, true, false, false, false] rfl (by kernel_rfl) hF rfl rfl rfl (hM.pick [0] rfl rfl) ?_; intro a hF
          refine h_skip 16 #[true, true, true, true, true, true, true, true, true, true, true, true, true, true, true, true, true, false, false] rfl (by kernel_rfl) hF rfl rfl rfl (hM.pick [0] rfl rfl) ?_; intro a hF
          refine h_skip 17 #[true, true, true, true, true, true, true, true, true, true, true, true, true, true, true, true, true, true, false] rfl (by kernel_rfl) hF rfl rfl rfl (hM.pick [0] rfl rfl) ?_; intro a hF
          refine h_val 18 #[true, true, true, true, true, true, true, true, true, true, true, true, true, true, true, true, true, true, true] rfl (by kernel_rfl) hF rfl rfl rfl (fun w hS => e_pick_t hF rfl rfl) (hM.pick [0] rfl rfl) ?_; intro a hF
          refine h_done rfl ?_
          refine then_n ?_
          refine s_cond_t hF rfl rfl ?_
          refine wp_seq ?_
          refine s_region ?_
          refine s_val hF rfl rfl rfl (e_assign hF rfl) ?_; intro a hF
          refine s_nil ?_
          refine then_n ?_
          refine wp_ret ?_
          refine blk_r ?_
          refine then_r ?_
          refine then_r ?_
          exact Or.inr (⟨rfl, false, some_some H, hF.sub _ ⟨rfl, trivial⟩, hM.pick [] rfl rfl⟩)
      ·
        refine s_cond_f hF rfl (decide_eq_false c15) ?_
        refine wp_exit ?_
        refine then_x ?_
        refine then_x ?_
        exact Or.inl (⟨rfl, some_some H, hF.sub _ trivial, hM.pick [] rfl rfl⟩)
  · rintro e a w (⟨rfl, rfl, hF, hM⟩ | ⟨rfl, r25, rfl, hF, hM⟩)
    ·
      dsimp only at H
      refine blk_x ?_
      refine then_n ?_
      refine wp_seq ?_
      refine s_region ?_
      refine s_val hF rfl rfl rfl (e_assign hF rfl) ?_; intro a hF
      refine s_nil ?_
      refine then_n ?_
      refine wp_ret ?_
      obtain rfl := some_some H
      refine s_ret [Value.bool true] hF Try.results86 ⟨rfl, trivial⟩ ?_
      exact ⟨_, rfl, hM.frm, rfl⟩
    ·
      dsimp only at H
      refine blk_r ?_
      refine then_r ?_
      obtain rfl := some_some H
      refine s_ret [Value.bool r25] hF Try.results86 ⟨rfl, trivial⟩ ?_
      exact ⟨_, rfl, hM.frm, rfl⟩

/-! ### loop.example/g01210/spec.l2Pool: function 73 -/
def spec_l2Pool.l0 (K : Nat) (l0 : (List (Ar 6))) : Nat → Int → Option (Sum Unit Bool)
  | 0, _ => none
  | k + 1, x13 => if x13 < (l0.length : Int) then (if x13 ≤ 4 then (if (0 : Int) ≤ x13 ∧ x13 < (l0.length : Int) then ((spec_l2Die.f K (l0.getD (x13 : Int).toNat (Ar.zero 6))).bind fun t17 => if t17 = true then (spec_l2Pool.l0 K l0 k (wrap64 (x13 + 1))) else (some (Sum.inr false))) else none) else (some (Sum.inl ()))) else (some (Sum.inl ()))
def spec_l2Pool.f (K : Nat) (l0 : (List (Ar 6))) : Option Bool := (spec_l2Pool.l0 K l0 K 0).bind fun o20 => (match o20 with | .inl () => (spec_l1In.f K (l0.length : Int) 1 4).bind fun t23 => some t23 | .inr r22 => some r22)
set_option maxRecDepth 100000 in
set_option maxHeartbeats 4000000 in
theorem spec_l2Pool.calls {w0 : World} (K : Nat) (l0 : (List (Ar 6))) (u0 : Value) (q0 : SlR cd70 w0 u0 l0) (r : Bool) (H : spec_l2Pool.f K l0 = some r) : Calls Try.prog 73 [u0].toArray w0 (Post w0 fun w v => v = Value.bool r) := by
  rw [spec_l2Pool.f] at H
  refine s_start Try.func73 rfl Try.ntmps73 rfl ?_
  intro a hF
  have hM := Ms.start w0
  skip
  refine wp_seq ?_
  refine s_region ?_
  refine s_val hF rfl rfl rfl (e_assign hF rfl) ?_; intro a hF
  refine s_nil ?_
  refine then_n ?_
  refine wp_seq ?_
  refine wp_seq ?_
  refine s_region ?_
  refine s_val hF rfl rfl rfl (e_assign hF rfl) ?_; intro a hF
  refine s_nil ?_
  refine then_n ?_
  refine wp_block ?_
  obtain ⟨o20, h21, H⟩ := bind_some H
  refine wp_mono (Q := fun e a w => (e = Exit.exit 0 ∧ Sum.inl () = o20 ∧ Fr 23 a [(0, u0)] ∧ Ms [] w0 w []) ∨ (e = Exit.ret ∧ ∃ r22 : Bool, Sum.inr r22 = o20 ∧ Fr 23 a [(2, Value.bool r22)] ∧ Ms [] w0 w [])) ?_ ?_
  · refine s_loop (fun kq a w => ∃ x13 : Int, spec_l2Pool.l0 K l0 kq x13 = some o20 ∧ Fr 23 a [(0, u0), (3, Value.int .i64 x13)] ∧ Ms [] w0 w []) K ⟨0, h21, hF.sub _ ⟨rfl, rfl, trivial⟩, hM.pick [] rfl rfl⟩ ?_ ?_
    · rintro a w ⟨_, H, _⟩; exact none_some H
    · rintro k a w ⟨x13, H, hF, hM⟩; rw [spec_l2Pool.l0] at H
      refine wp_seq ?_
      refine wp_seq ?_
      rcases ite_cases H with ⟨c14, H⟩ | ⟨c14, H⟩
      ·
        refine s_region ?_
        refine s_val hF rfl rfl rfl (e_move hF rfl) ?_; intro a hF
        refine s_val hF rfl rfl rfl (e_move hF rfl) ?_; intro a hF
        refine s_val hF rfl rfl rfl (e_len hF rfl (q0.frm hM.frm).toF Try.underlying51) ?_; intro a hF
        refine s_val hF rfl rfl rfl (e_lss hF rfl rfl) ?_; intro a hF
        refine s_val hF rfl rfl rfl (e_move hF rfl) ?_; intro a hF
        have hF := hF.topb (decide_eq_true c14)
        refine s_val hF rfl rfl rfl (e_move hF rfl) ?_; intro a hF
        refine s_val hF rfl rfl rfl (e_leq hF rfl rfl) ?_; intro a hF
        refine s_val hF rfl rfl rfl (e_pick_t hF rfl rfl) ?_; intro a hF
        refine s_nil ?_
        refine then_n ?_
        rcases ite_cases H with ⟨c15, H⟩ | ⟨c15, H⟩
        ·
          refine s_cond_t hF rfl (decide_eq_true c15) ?_
          refine wp_skip ?_
          refine then_n ?_
          refine wp_seq ?_
          refine wp_block ?_
          refine wp_seq ?_
          obtain ⟨c16, H⟩ := ite_some H
          obtain ⟨t17, h18, H⟩ := bind_some H
          refine s_region ?_
          refine s_val hF rfl rfl rfl (e_move hF rfl) ?_; intro a hF
          refine s_val hF rfl rfl rfl (e_move hF rfl) ?_; intro a hF
          refine s_val hF rfl rfl rfl (e_ias cd70 hF rfl rfl (q0.frm hM.frm).toF Try.underlying51 Try.sizeOf70 c16.1 c16.2) ?_; intro a hF
          refine s_val hF rfl rfl rfl (e_ldsa (m := x13) hF rfl (q0.frm hM.frm) (getD_some (z := (Ar.zero 6)) c16.1 c16.2) Try.isAgg70 Try.sizeOf70) ?_; intro a hF
          refine s_call hF rfl rfl rfl Try.call86 (spec_l2Die.calls K (l0.getD (x13 : Int).toNat (Ar.zero 6)) t17 h18) ?_; intro a w v hF hf hR
          subst hR; have hM := hM.grow hf
          refine s_val hF rfl rfl rfl (e_not hF rfl) ?_; intro a hF
          refine s_nil ?_
          refine then_n ?_
          rcases ite_cases H with ⟨c19, H⟩ | ⟨c19, H⟩
          ·
            refine s_cond_f hF rfl (congrArg Bool.not c19) ?_
            refine wp_skip ?_
            refine blk_n ?_
            refine then_n ?_
            refine s_region ?_
            refine s_val hF rfl rfl rfl (e_move hF rfl) ?_; intro a hF
            refine s_val hF rfl rfl rfl (e_add hF rfl rfl) ?_; intro a hF
            refine s_val hF rfl rfl rfl (e_assign hF rfl) ?_; intro a hF
            refine s_nil ?_
            refine then_n ?_
            exact ⟨(wrap64 (x13 + 1)), H, hF.sub _ ⟨rfl, rfl, trivial⟩, hM.pick [] rfl rfl⟩
          ·
            refine s_cond_t hF rfl (congrArg Bool.not (bf c19)) ?_
            refine wp_seq ?_
            refine s_region ?_
            refine s_val hF rfl rfl rfl (e_assign hF rfl) ?_; intro a hF
            refine s_nil ?_
            refine then_n ?_
            refine wp_ret ?_
            refine blk_r ?_
            refine then_r ?_
            refine then_r ?_
            exact Or.inr (⟨rfl, false, some_some H, hF.sub _ ⟨rfl, trivial⟩, hM.pick [] rfl rfl⟩)
        ·
          refine s_cond_f hF rfl (decide_eq_false c15) ?_
          refine wp_exit ?_
          refine then_x ?_
          refine then_x ?_
          exact Or.inl (⟨rfl, some_some H, hF.sub _ ⟨rfl, trivial⟩, hM.pick [] rfl rfl⟩)
      ·
        refine s_region ?_
        refine s_val hF rfl rfl rfl (e_move hF rfl) ?_; intro a hF
        refine s_val hF rfl rfl rfl (e_move hF rfl) ?_; intro a hF
        refine s_val hF rfl rfl rfl (e_len hF rfl (q0.frm hM.frm).toF Try.underlying51) ?_; intro a hF
        refine s_val hF rfl rfl rfl (e_lss hF rfl rfl) ?_; intro a hF
        refine s_val hF rfl rfl rfl (e_move hF rfl) ?_; intro a hF
        have hF := hF.topb (decide_eq_false c14)
        refine s_skip hF rfl rfl rfl ?_; intro a hF
        refine s_skip hF rfl rfl rfl ?_; intro a hF
        refine s_val hF rfl rfl rfl (e_pick_f hF rfl rfl) ?_; intro a hF
        refine s_nil ?_
        refine then_n ?_
        refine s_cond_f hF rfl rfl ?_
        refine wp_exit ?_
        refine then_x ?_
        refine then_x ?_
        exact Or.inl (⟨rfl, some_some H, hF.sub _ ⟨rfl, trivial⟩, hM.pick [] rfl rfl⟩)
  · rintro e a w (⟨rfl, rfl, hF, hM⟩ | ⟨rfl, r22, rfl, hF, hM⟩)
    ·
      dsimp only at H
      refine blk_x ?_
      refine then_n ?_
      refine wp_seq ?_
      obtain ⟨t23, h24, H⟩ := bind_some H
      refine s_region ?_
      refine s_val hF rfl rfl rfl (e_move hF rfl) ?_; intro a hF
      refine s_val hF rfl rfl rfl (e_len hF rfl (q0.frm hM.frm).toF Try.underlying51) ?_; intro a hF
      refine s_call hF rfl rfl rfl Try.call51 (spec_l1In.calls K (l0.length : Int) 1 4 t23 h24) ?_; intro a w v hF hf hR
      subst hR; have hM := hM.grow hf
      refine s_val hF rfl rfl rfl (e_assign hF rfl) ?_; intro a hF
      refine s_nil ?_
      refine then_n ?_
      refine wp_ret ?_
      obtain rfl := some_some H
      refine s_ret [Value.bool t23] hF Try.results73 ⟨rfl, trivial⟩ ?_
      exact ⟨_, rfl, hM.frm, rfl⟩
    ·
      dsimp only at H
      refine blk_r ?_
      refine then_r ?_
      obtain rfl := some_some H
      refine s_ret [Value.bool r22] hF Try.results73 ⟨rfl, trivial⟩ ?_
      exact ⟨_, rfl, hM.frm, rfl⟩

/-! ### loop.example/g01210/spec.l2Table: function 87 -/
def spec_l2Table.l12 (K : Nat) (l0 : (List (Ar 6))) (x160 : Int) (x161 : (Ar 121)) (x211 : Int) : Nat → Int → (Ar 121) → Option (Ar 121)
  | 0, _, _ => none
  | k + 1, x227, x228 => if x227 < 6 then (if (0 : Int) ≤ x211 ∧ x211 < 121 then (if 0 < (x161.get x211) then (if (0 : Int) ≤ x160 ∧ x160 < (l0.length : Int) then (if (0 : Int) ≤ x227 ∧ x227 < 6 then (if (0 : Int) ≤ (wrap64 (x211 + ((l0.getD (x160 : Int).toNat (Ar.zero 6)).get x227))) ∧ (wrap64 (x211 + ((l0.getD (x160 : Int).toNat (Ar.zero 6)).get x227))) < 121 then (spec_l2Table.l12 K l0 x160 x161 x211 k (wrap64 (x227 + 1)) (x228.set (wrap64 (x211 + ((l0.getD (x160 : Int).toNat (Ar.zero 6)).get x227))) (wrap64 ((x228.get (wrap64 (x211 + ((l0.getD (x160 : Int).toNat (Ar.zero 6)).get x227)))) + (x161.get x211))))) else none) else none) else none) else (spec_l2Table.l12 K l0 x160 x161 x211 k (wrap64 (x227 + 1)) x228)) else none) else (some x228)
def spec_l2Table.l11 (K : Nat) (l0 : (List (Ar 6))) (x160 : Int) (x161 : (Ar 121)) : Nat → Int → (Ar 121) → Option (Ar 121)
  | 0, _, _ => none
  | k + 1, x211, x212 => if x211 < 121 then ((spec_l2Table.l12 K l0 x160 x161 x211 K 0 x212).bind fun x226 => spec_l2Table.l11 K l0 x160 x161 k (wrap64 (x211 + 1)) x226) else (some x212)
def spec_l2Table.l8 (K : Nat) (l0 : (List (Ar 6))) : Nat → Int → (Ar 121) → Option (Ar 121)
  | 0, _, _ => none
  | k + 1, x160, x161 => if x160 < (l0.length : Int) then ((spec_l2Table.l11 K l0 x160 x161 K 0 (Ar.zero 121)).bind fun x210 => spec_l2Table.l8 K l0 k (wrap64 (x160 + 1)) x210) else (some x161)
def spec_l2Table.f (K : Nat) (l0 : (List (Ar 6))) : Option (Ar 121) := (spec_l2Table.l8 K l0 K 0 ((Ar.zero 121).set 0 1)).bind fun x159 => some x159
set_option maxRecDepth 100000 in
set_option maxHeartbeats 4000000 in
theorem spec_l2Table.calls {w0 : World} (K : Nat) (l0 : (List (Ar 6))) (u0 : Value) (q0 : SlR cd70 w0 u0 l0) (r : (Ar 121)) (H : spec_l2Table.f K l0 = some r) : Calls Try.prog 87 [u0].toArray w0 (Post w0 fun w v => v = ag [Pt.ar r]) := by
  rw [spec_l2Table.f] at H
  refine s_start Try.func87 rfl Try.ntmps87 rfl ?_
  intro a hF
  have hM := Ms.start w0
  skip
  refine wp_seq ?_
  refine s_region ?_
  refine s_alloc (ps := [Pt.ar (Ar.zero 121)]) hF hM rfl rfl zv74 rfl ?_; intro a w b1 hF hM
  refine s_nil ?_
  refine then_n ?_
  refine wp_seq ?_
  refine s_region ?_
  refine s_val hF rfl rfl rfl (e_build' (cells := cat [Pt.ar ((Ar.zero 121).set 0 1)]) hF rfl (by kernel_rfl)) ?_; intro a hF
  refine s_alloc (ps := [Pt.ar (Ar.zero 121)]) hF hM rfl rfl zv74 rfl ?_; intro a w b2 hF hM
  refine s_stw (i := 0) (ps' := [Pt.ar ((Ar.zero 121).set 0 1)]) hF hM rfl rfl rfl rfl rfl rfl Try.sizeOf74 rfl ?_; intro a w hF hM
  refine s_nil ?_
  refine then_n ?_
  refine wp_seq ?_
  refine wp_seq ?_
  refine s_region ?_
  refine s_val hF rfl rfl rfl (e_assign hF rfl) ?_; intro a hF
  refine s_nil ?_
  refine then_n ?_
  refine wp_block ?_
  obtain ⟨o241, h242, H⟩ := bind_some H
  refine wp_mono (Q := fun e a w => (e = Exit.exit 0 ∧ ∃ x159 : (Ar 121), x159 = o241 ∧ Fr 53 a [(2, pt b1 0), (3, pt b2 0)] ∧ Ms [] w0 w [boxR b1 [Pt.ar (Ar.zero 121)] 74, boxR b2 [Pt.ar x159] 74])) ?_ ?_
  · refine s_loop (fun kq a w => ∃ x160 : Int, ∃ x161 : (Ar 121), spec_l2Table.l8 K l0 kq x160 x161 = some o241 ∧ Fr 53 a [(0, u0), (2, pt b1 0), (3, pt b2 0), (4, Value.int .i64 x160)] ∧ Ms [] w0 w [boxR b1 [Pt.ar (Ar.zero 121)] 74, boxR b2 [Pt.ar x161] 74]) K ⟨0, ((Ar.zero 121).set 0 1), h242, hF.sub _ ⟨rfl, rfl, rfl, rfl, trivial⟩, hM.pick [1, 0] rfl rfl⟩ ?_ ?_
    · rintro a w ⟨_, _, H, _⟩; exact none_some H
    · rintro k a w ⟨x160, x161, H, hF, hM⟩; rw [spec_l2Table.l8] at H
      refine wp_seq ?_
      refine wp_seq ?_
      refine s_region ?_
      refine s_val hF rfl rfl rfl (e_move hF rfl) ?_; intro a hF
      refine s_val hF rfl rfl rfl (e_move hF rfl) ?_; intro a hF
      refine s_val hF rfl rfl rfl (e_len hF rfl (q0.frm hM.frm).toF Try.underlying51) ?_; intro a hF
      refine s_val hF rfl rfl rfl (e_lss hF rfl rfl) ?_; intro a hF
      refine s_nil ?_
      refine then_n ?_
      rcases ite_cases H with ⟨c162, H⟩ | ⟨c162, H⟩
      ·
        refine s_cond_t hF rfl (decide_eq_true c162) ?_
        refine wp_skip ?_
        refine then_n ?_
        refine wp_seq ?_
        refine wp_block ?_
        refine wp_seq ?_
        refine s_region ?_
        refine s_val hF rfl rfl rfl (e_build' (cells := cat [Pt.ar (Ar.zero 121)]) hF rfl (by kernel_rfl)) ?_; intro a hF
        refine s_alloc (ps := [Pt.ar (Ar.zero 121)]) hF hM rfl rfl zv74 rfl ?_; intro a w b163 hF hM
        refine s_stw (i := 0) (ps' := [Pt.ar (Ar.zero 121)]) hF hM rfl rfl rfl rfl rfl rfl Try.sizeOf74 rfl ?_; intro a w hF hM
        refine s_nil ?_
        refine then_n ?_
        refine wp_seq ?_
        refine wp_seq ?_
        refine s_region ?_
        refine s_val hF rfl rfl rfl (e_assign hF rfl) ?_; intro a hF
        refine s_nil ?_
        refine then_n ?_
        refine wp_block ?_
        obtain ⟨o239, h240, H⟩ := bind_some H
        refine wp_mono (Q := fun e a w => (e = Exit.exit 2 ∧ ∃ x210 : (Ar 121), x210 = o239 ∧ Fr 53 a [(0, u0), (2, pt b1 0), (3, pt b2 0), (4, Value.int .i64 x160), (5, pt b163 0)] ∧ Ms [] w0 w [boxR b1 [Pt.ar (Ar.zero 121)] 74, boxR b2 [Pt.ar x161] 74, boxR b163 [Pt.ar x210] 74])) ?_ ?_
        · refine s_loop (fun kq a w => ∃ x211 : Int, ∃ x212 : (Ar 121), spec_l2Table.l11 K l0 x160 x161 kq x211 x212 = some o239 ∧ Fr 53 a [(0, u0), (2, pt b1 0), (3, pt b2 0), (4, Value.int .i64 x160), (5, pt b163 0), (6, Value.int .i64 x211)] ∧ Ms [] w0 w [boxR b1 [Pt.ar (Ar.zero 121)] 74, boxR b2 [Pt.ar x161] 74, boxR b163 [Pt.ar x212] 74]) K ⟨0, (Ar.zero 121), h240, hF.sub _ ⟨rfl, rfl, rfl, rfl, rfl, rfl, trivial⟩, hM.pick [1, 2, 0] rfl rfl⟩ ?_ ?_
          · rintro a w ⟨_, _, H, _⟩; exact none_some H
          · rintro k a w ⟨x211, x212, H, hF, hM⟩; rw [spec_l2Table.l11] at H
            refine wp_seq ?_
            refine wp_seq ?_
            refine s_region ?_
            refine s_val hF rfl rfl rfl (e_move hF rfl) ?_; intro a hF
            refine s_val hF rfl rfl rfl (e_lss hF rfl rfl) ?_; intro a hF
            refine s_nil ?_
            refine then_n ?_
            rcases ite_cases H with ⟨c213, H⟩ | ⟨c213, H⟩
            ·
              refine s_cond_t hF rfl (decide_eq_true c213) ?_
              refine wp_skip ?_
              refine then_n ?_
              refine wp_seq ?_
              refine wp_block ?_
              refine wp_seq ?_
              refine s_region ?_
              refine s_val hF rfl rfl rfl (e_assign hF rfl) ?_; intro a hF
              refine s_nil ?_
              refine then_n ?_
              refine wp_block ?_
              obtain ⟨o237, h238, H⟩ := bind_some H
              refine wp_mono (Q := fun e a w => (e = Exit.exit 4 ∧ ∃ x226 : (Ar 121), x226 = o237 ∧ Fr 53 a [(0, u0), (2, pt b1 0), (3, pt b2 0), (4, Value.int .i64 x160), (5, pt b163 0), (6, Value.int .i64 x211)] ∧ Ms [] w0 w [boxR b1 [Pt.ar (Ar.zero 121)] 74, boxR b2 [Pt.ar x161] 74, boxR b163 [Pt.ar x226] 74])) ?_ ?_
              · refine s_loop (fun kq a w => ∃ x227 : Int, ∃ x228 : (Ar 121), spec_l2Table.l12 K l0 x160 x161 x211 kq x227 x228 = some o237 ∧ Fr 53 a [(0, u0), (2, pt b1 0), (3, pt b2 0), (4, Value.int .i64 x160), (5, pt b163 0), (6, Value.int .i64 x211), (7, Value.int .i64 x227)] ∧ Ms [] w0 w [boxR b1 [Pt.ar (Ar.zero 121)] 74, boxR b2 [Pt.ar x161] 74, boxR b163 [Pt.ar x228] 74]) K ⟨0, x212, h238, hF.sub _ ⟨rfl, rfl, rfl, rfl, rfl, rfl, rfl, trivial⟩, hM.pick [0, 1, 2] rfl rfl⟩ ?_ ?_
                · rintro a w ⟨_, _, H, _⟩; exact none_some H
                · rintro k a w ⟨x227, x228, H, hF, hM⟩; rw [spec_l2Table.l12] at H
                  refine wp_seq ?_
                  refine wp_seq ?_
                  refine s_region ?_
                  refine s_val hF rfl rfl rfl (e_move hF rfl) ?_; intro a hF
                  refine s_val hF rfl rfl rfl (e_lss hF rfl rfl) ?_; intro a hF
                  refine s_nil ?_
                  refine then_n ?_
                  rcases ite_cases H with ⟨c229, H⟩ | ⟨c229, H⟩
                  ·
                    refine s_cond_t hF rfl (decide_eq_true c229) ?_
                    refine wp_skip ?_
                    refine then_n ?_
                    refine wp_seq ?_
                    refine wp_block ?_
                    refine wp_seq ?_
                    obtain ⟨c230, H⟩ := ite_some H
                    refine s_region ?_
                    refine s_val hF rfl rfl rfl (e_move hF rfl) ?_; intro a hF
                    refine s_val hF rfl rfl rfl (e_ia hF rfl rfl Try.underlying74 Try.sizeOf3 c230.1 c230.2) ?_; intro a hF
                    refine s_val hF rfl rfl rfl (e_ldi (i := 1) (k := 0) hF hM rfl rfl rfl rfl rfl Try.isAgg3 c230.1 c230.2) ?_; intro a hF
                    refine s_val hF rfl rfl rfl (e_gtr hF rfl rfl) ?_; intro a hF
                    refine s_nil ?_
                    refine then_n ?_
                    rcases ite_cases H with ⟨c231, H⟩ | ⟨c231, H⟩
                    ·
                      refine s_cond_t hF rfl (decide_eq_true c231) ?_
                      obtain ⟨c232, H⟩ := ite_some H
                      obtain ⟨c233, H⟩ := ite_some H
                      obtain ⟨c234, H⟩ := ite_some H
                      refine s_held (fun w => Ms [] w0 w [boxR b1 [Pt.ar (Ar.zero 121)] 74, boxR b2 [Pt.ar x161] 74]) #[false, false, false, false, false, false, false, false, false, false, false, false, false, false, false, false, false, false, false, false, false, false, false, false] mixed rfl rfl hM ?_; intro w hf hM; clear hf
                      refine h_val 0 #[true, false, false, false, false, false, false, false, false, false, false, false, false, false, false, false, false, false, false, false, false, false, false, false] rfl (by kernel_rfl) hF rfl rfl rfl (fun w hS => e_move hF rfl) (hM.pick [0, 1] rfl rfl) ?_; intro a hF
                      refine h_val 1 #[true, true, false, false, false, false, false, false, false, false, false, false, false, false, false, false, false, false, false, false, false, false, false, false] rfl (by kernel_rfl) hF rfl rfl rfl (fun w hS => e_move hF rfl) (hM.pick [0, 1] rfl rfl) ?_; intro a hF
                      refine h_val 2 #[true, true, true, false, false, false, false, false, false, false, false, false, false, false, false, false, false, false, false, false, false, false, false, false] rfl (by kernel_rfl) hF rfl rfl rfl (fun w hS => e_move hF rfl) (hM.pick [0, 1] rfl rfl) ?_; intro a hF
                      refine h_val 3 #[true, true, true, true, false, false, false, false, false, false, false, false, false, false, false, false, false, false, false, false, false, false, false, false] rfl (by kernel_rfl) hF rfl rfl rfl (fun w hS => e_move hF rfl) (hM.pick [0, 1] rfl rfl) ?_; intro a hF
                      have f235 := (q0.frm hM.frm).toF
                      refine h_val 4 #[true, true, true, true, true, false, false, false, false, false, false, false, false, false, false, false, false, false, false, false, false, false, false, false] rfl (by kernel_rfl) hF rfl rfl rfl (fun w hS => e_ias cd70 hF rfl rfl f235 Try.underlying51 Try.sizeOf70 c232.1 c232.2) (hM.pick [0, 1] rfl rfl) ?_; intro a hF
                      refine h_val 5 #[true, true, true, true, true, true, false, false, false, false, false, false, false, false, false, false, false, false, false, false, false, false, false, false] rfl (by kernel_rfl) hF rfl rfl rfl (fun w hS => e_ia hF rfl rfl Try.underlying70 Try.sizeOf3 c233.1 c233.2) (hM.pick [0, 1] rfl rfl) ?_; intro a hF
                      refine h_val 6 #[true, true, true, true, true, true, true, false, false, false, false, false, false, false, false, false, false, false, false, false, false, false, false, false] rfl (by kernel_rfl) hF rfl rfl rfl (fun w hS => e_ldsi (m := x160) (p := x227) (o := 0) (k := 0) hF rfl (q0.frm hS.frm) (getD_some (z := (Ar.zero 6)) c232.1 c232.2) rfl rfl Try.isAgg3 c233.1 c233.2) (hM.pick [0, 1] rfl rfl) ?_; intro a hF
                      refine h_val 7 #[true, true, true, true, true, true, true, true, false, false, false, false, false, false, false, false, false, false, false, false, false, false, false, false] rfl (by kernel_rfl) hF rfl rfl rfl (fun w hS => e_add hF rfl rfl) (hM.pick [0, 1] rfl rfl) ?_; intro a hF
                      refine h_val 8 #[true, true, true, true, true, true, true, true, true, false, false, false, false, false, false, false, false, false, false, false, false, false, false, false] rfl (by kernel_rfl) hF rfl rfl rfl (fun w hS => e_move hF rfl) (hM.pick [0, 1] rfl rfl) ?_; intro a hF
                      refine h_val 9 #[true, true, true, true, true, true, true, true, true, true, false, false, false, false, false, false, false, false, false, false, false, false, false, false] rfl (by kernel_rfl) hF rfl rfl rfl (fun w hS => e_move hF rfl) (hM.pick [0, 1] rfl rfl) ?_; intro a hF
                      refine h_val 10 #[true, true, true, true, true, true, true, true, true, true, true, false, false, false, false, false, false, false, false, false, false, false, false, false] rfl (by kernel_rfl) hF rfl rfl rfl (fun w hS => e_move hF rfl) (hM.pick [0, 1] rfl rfl) ?_; intro a hF
                      refine h_val 11 #[true, true, true, true, true, true, true, true, true, true, true, true, false, false, false, false, false, false, false, false, false, false, false, false] rfl (by kernel_rfl) hF rfl rfl rfl (fun w hS => e_move hF rfl) (hM.pick [0, 1] rfl rfl) ?_; intro a hF
                      have f236 := (q0.frm hM.frm).toF
                      refine h_val 12 #[true, true, true, true, true, true, true, true, true, true, true, true, true, false, false, false, false, false, false, false, false, false, false, false] rfl (by kernel_rfl) hF rfl rfl rfl (fun w hS => e_ias cd70 hF rfl rfl f236 Try.underlying51 Try.sizeOf70 c232.1 c232.2) (hM.pick [0, 1] rfl rfl) ?_; intro a hF
                      refine h_val 13 #[true, true, true, true, true, true, true, true, true, true, true, true, true, true, false, false, false, false, false, false, false, false, false, false] rfl (by kernel_rfl) hF rfl rfl rfl (fun w hS => e_ia hF rfl rfl Try.underlying70 Try.sizeOf3 c233.1 c233.2) (hM.pick [0, 1] rfl rfl) ?_; intro a hF
                      refine h_val 14 #[true, true, true, true, true, true, true, true, true, true, true, true, true, true, true, false, false, false, false, false, false, false, false, false] rfl (by kernel_rfl) hF rfl rfl rfl (fun w hS => e_ldsi (m := x160) (p := x227) (o := 0) (k := 0) hF rfl (q0.frm hS.frm) (getD_some (z := (Ar.zero 6)) c232.1 c232.2) rfl rfl Try.isAgg3 c233.1 c233.2) (hM.pick [0, 1] rfl rfl) ?_; intro a hF
                      refine h_val 15 #[true, true, true, true, true, true, true, true, true, true, true, true, true, true, true, true, false, false, false, false, false, false, false, false] rfl (by kernel_rfl) hF rfl rfl rfl (fun w hS => e_add hF rfl rfl) (hM.pick [0, 1] rfl rfl) ?_; intro a hF
                      refine h_val 16 #[true, true, true, true, true, true, true, true, true, true, true, true, true, true, true, true, true, false, false, false, false, false, false, false] rfl (by kernel_rfl) hF rfl rfl rfl (fun w hS => e_ia hF rfl rfl Try.underlying74 Try.sizeOf3 c234.1 c234.2) (hM.pick [0, 1] rfl rfl) ?_; intro a hF
                      refine h_val 18 #[true, true, true, true, true, true, true, true, true, true, true, true, true, true, true, true, true, false, true, false, false, false, false, false] rfl (by kernel_rfl) hF rfl rfl rfl (fun w hS => e_move hF rfl) (hM.pick [0, 1] rfl rfl) ?_; intro a hF
                      refine h_val 19 #[true, true, true, true, true, true, true, true, true, true, true, true, true, true, true, true, true, false, true, true, false, false, false, false] rfl (by kernel_rfl) hF rfl rfl rfl (fun w hS => e_ia hF rfl rfl Try.underlying74 Try.sizeOf3 c230.1 c230.2) (hM.pick [0, 1] rfl rfl) ?_; intro a hF
                      refine h_val 20 #[true, true, true, true, true, true, true, true, true, true, true, true, true, true, true, true, true, false, true, true, true, false, false, false] rfl (by kernel_rfl) hF rfl rfl rfl (fun w hS => e_ldi (i := 1) (k := 0) hF hS rfl rfl rfl rfl rfl Try.isAgg3 c230.1 c230.2) (hM.pick [0, 1] rfl rfl) ?_; intro a hF
                      refine h_one 17 #[true, true, true, true, true, true, true, true, true, true, true, true, true, true, true, true, true, true, true, true, true, false, false, false] rfl (by kernel_rfl) ?_
                      refine s_val hF rfl rfl rfl (e_ldi (i := 2) (k := 0) hF hM rfl rfl rfl rfl rfl Try.isAgg3 c234.1 c234.2) ?_; intro a hF
                      refine s_nil ⟨rfl, (hM.pick [0, 1] rfl rfl), ?_⟩
                      refine h_val 21 #[true, true, true, true, true, true, true, true, true, true, true, true, true, true, true, true, true, true, true, true, true, true, false, false] rfl (by kernel_rfl) hF rfl rfl rfl (fun w hS => e_add hF rfl rfl) (hM.pick [0, 1] rfl rfl) ?_; intro a hF
                      refine h_val 22 #[true, true, true, true, true, true, true, true, true, true, true, true, true, true, true, true, true, true, true, true, true, true, true, false] rfl (by kernel_rfl) hF rfl rfl rfl (fun w hS => e_ia hF rfl rfl Try.underlying74 Try.sizeOf3 c234.1 c234.2) (hM.pick [0, 1] rfl rfl) ?_; intro a hF
                      refine h_one 23 #[true, true, true, true, true, true, true, true, true, true, true, true, true, true, true, true, true, true, true, true, true, true, true, true] rfl (by kernel_rfl) ?_
                      refine s_sti (i := 2) (k := 0) hF hM rfl rfl rfl rfl rfl rfl rfl Try.sizeOf3 c234.1 c234.2 ?_; intro a w hF hM
                      refine s_nil ⟨rfl, (hM.pick [0, 1] rfl rfl), ?_⟩
                      refine h_done rfl ?_
                      refine blk_n ?_
                      refine then_n ?_
                      refine s_region ?_
                      refine s_val hF rfl rfl rfl (e_move hF rfl) ?_; intro a hF
                      refine s_val hF rfl rfl rfl (e_add hF rfl rfl) ?_; intro a hF
                      refine s_val hF rfl rfl rfl (e_assign hF rfl) ?_; intro a hF
                      refine s_nil ?_
                      refine then_n ?_
                      exact ⟨(wrap64 (x227 + 1)), (x228.set (wrap64 (x211 + ((l0.getD (x160 : Int).toNat (Ar.zero 6)).get x227))) (wrap64 ((x228.get (wrap64 (x211 + ((l0.getD (x160 : Int).toNat (Ar.zero 6)).get x227)))) + (x161.get x211)))), H, hF.sub _ ⟨rfl, rfl, rfl, rfl, rfl, rfl, rfl, trivial⟩, hM.pick [0, 1, 2] rfl rfl⟩
                    ·
                      refine s_cond_f hF rfl (decide_eq_false c231) ?_
                      refine wp_skip ?_
                      refine blk_n ?_
                      refine then_n ?_
                      refine s_region ?_
                      refine s_val hF rfl rfl rfl (e_move hF rfl) ?_; intro a hF
                      refine s_val hF rfl rfl rfl (e_add hF rfl rfl) ?_; intro a hF
                      refine s_val hF rfl rfl rfl (e_assign hF rfl) ?_; intro a hF
                      refine s_nil ?_
                      refine then_n ?_
                      exact ⟨(wrap64 (x227 + 1)), x228, H, hF.sub _ ⟨rfl, rfl, rfl, rfl, rfl, rfl, rfl, trivial⟩, hM.pick [0, 1, 2] rfl rfl⟩
                  ·
                    refine s_cond_f hF rfl (decide_eq_false c229) ?_
                    refine wp_exit ?_
                    refine then_x ?_
                    refine then_x ?_
                    exact ⟨rfl, x228, some_some H, hF.sub _ ⟨rfl, rfl, rfl, rfl, rfl, rfl, trivial⟩, hM.pick [0, 1, 2] rfl rfl⟩
              · rintro e a w ⟨rfl, x226, rfl, hF, hM⟩
                skip
                refine blk_x ?_
                refine blk_n ?_
                refine then_n ?_
                refine s_region ?_
                refine s_val hF rfl rfl rfl (e_move hF rfl) ?_; intro a hF
                refine s_val hF rfl rfl rfl (e_add hF rfl rfl) ?_; intro a hF
                refine s_val hF rfl rfl rfl (e_assign hF rfl) ?_; intro a hF
                refine s_nil ?_
                refine then_n ?_
                exact ⟨(wrap64 (x211 + 1)), x226, H, hF.sub _ ⟨rfl, rfl, rfl, rfl, rfl, rfl, trivial⟩, hM.pick [0, 1, 2] rfl rfl⟩
            ·
              refine s_cond_f hF rfl (decide_eq_false c213) ?_
              refine wp_exit ?_
              refine then_x ?_
              refine then_x ?_
              exact ⟨rfl, x212, some_some H, hF.sub _ ⟨rfl, rfl, rfl, rfl, rfl, trivial⟩, hM.pick [0, 1, 2] rfl rfl⟩
        · rintro e a w ⟨rfl, x210, rfl, hF, hM⟩
          skip
          refine blk_x ?_
          refine then_n ?_
          refine s_region ?_
          refine s_val hF rfl rfl rfl (e_lda (i := 2) 0 1 hF hM rfl rfl rfl rfl Try.isAgg74 Try.sizeOf74 rfl) ?_; intro a hF
          refine s_stw (i := 1) (ps' := [Pt.ar x210]) hF hM rfl rfl rfl rfl rfl rfl Try.sizeOf74 rfl ?_; intro a w hF hM
          refine s_nil ?_
          refine blk_n ?_
          refine then_n ?_
          refine s_region ?_
          refine s_val hF rfl rfl rfl (e_move hF rfl) ?_; intro a hF
          refine s_val hF rfl rfl rfl (e_add hF rfl rfl) ?_; intro a hF
          refine s_val hF rfl rfl rfl (e_assign hF rfl) ?_; intro a hF
          refine s_nil ?_
          refine then_n ?_
          exact ⟨(wrap64 (x160 + 1)), x210, H, hF.sub _ ⟨rfl, rfl, rfl, rfl, trivial⟩, hM.pick [0, 1] rfl rfl⟩
      ·
        refine s_cond_f hF rfl (decide_eq_false c162) ?_
        refine wp_exit ?_
        refine then_x ?_
        refine then_x ?_
        exact ⟨rfl, x161, some_some H, hF.sub _ ⟨rfl, rfl, trivial⟩, hM.pick [0, 1] rfl rfl⟩
  · rintro e a w ⟨rfl, x159, rfl, hF, hM⟩
    skip
    refine blk_x ?_
    refine then_n ?_
    refine wp_seq ?_
    refine s_region ?_
    refine s_val hF rfl rfl rfl (e_lda (i := 1) 0 1 hF hM rfl rfl rfl rfl Try.isAgg74 Try.sizeOf74 rfl) ?_; intro a hF
    refine s_stw (i := 0) (ps' := [Pt.ar x159]) hF hM rfl rfl rfl rfl rfl rfl Try.sizeOf74 rfl ?_; intro a w hF hM
    refine s_nil ?_
    refine then_n ?_
    refine wp_ret ?_
    obtain rfl := some_some H
    refine s_ret [ag [Pt.ar x159]] hF Try.results87 ⟨⟨_, rfl, rv_box hM (i := 0) rfl Try.isAgg74 Try.sizeOf74 rfl⟩, trivial⟩ ?_
    exact ⟨_, rfl, hM.frm, rfl⟩

/-! ### loop.example/g01210/spec.l9Mod: function 74 -/
def spec_l9Mod.l0 (K : Nat) (l0 : (List (Ar 6))) (a1 : Int) (t3 : (Ar 121)) : Nat → Int → (List Int) → Option (List Int)
  | 0, _, _ => none
  | k + 1, x15, x16 => if x15 < 121 then (if a1 ≠ 0 then (if (0 : Int) ≤ (x15.tmod a1) ∧ (x15.tmod a1) < (x16.length : Int) then (if (0 : Int) ≤ x15 ∧ x15 < 121 then (spec_l9Mod.l0 K l0 a1 t3 k (wrap64 (x15 + 1)) (x16.set ((x15.tmod a1) : Int).toNat (wrap64 ((x16.getD ((x15.tmod a1) : Int).toNat (0 : Int)) + (t3.get x15))))) else none) else none) else none) else (some x16)
def spec_l9Mod.f (K : Nat) (l0 : (List (Ar 6))) (a1 : Int) : Option (List Int) := if (0 : Int) ≤ a1 ∧ a1 ≤ 1073741824 then ((spec_l2Table.f K l0).bind fun t3 => (spec_l9Mod.l0 K l0 a1 t3 K 0 (List.replicate a1.toNat (0 : Int))).bind fun x14 => some x14) else none
set_option maxRecDepth 100000 in
set_option maxHeartbeats 4000000 in
theorem spec_l9Mod.calls {w0 : World} (K : Nat) (l0 : (List (Ar 6))) (u0 : Value) (q0 : SlR cd70 w0 u0 l0) (a1 : Int) (r : (List Int)) (H : spec_l9Mod.f K l0 a1 = some r) : Calls Try.prog 74 [u0, Value.int .i64 a1].toArray w0 (Post w0 fun w v => Fresh cd3 w0.heap.size w v r) := by
  rw [spec_l9Mod.f] at H
  refine s_start Try.func74 rfl Try.ntmps74 rfl ?_
  intro a hF
  have hM := Ms.start w0
  skip
  refine wp_seq ?_
  refine s_region ?_
  refine s_val hF rfl rfl rfl (e_assign hF rfl) ?_; intro a hF
  refine s_nil ?_
  refine then_n ?_
  refine wp_seq ?_
  obtain ⟨c2, H⟩ := ite_some H
  obtain ⟨t3, h4, H⟩ := bind_some H
  refine wp_mono (Q := fun e a w => e = Exit.normal ∧ ∃ v1 : Value, ∃ b5 : Nat, Fr 32 a [(1, Value.int .i64 a1), (5, v1), (6, pt b5 0)] ∧ Ms [] w0 w [rowR cd3 v1 (List.replicate a1.toNat (0 : Int)), boxR b5 [Pt.ar t3] 74]) ?_ ?_
  · skip
    refine s_held (fun w => Ms [] w0 w []) #[false, false, false, false, false, false, false] mixed rfl rfl hM ?_; intro w hf hM; clear hf
    refine h_val 0 #[true, false, false, false, false, false, false] rfl (by kernel_rfl) hF rfl rfl rfl (fun w hS => e_move hF rfl) (hM.pick [] rfl rfl) ?_; intro a hF
    refine h_val 2 #[true, false, true, false, false, false, false] rfl (by kernel_rfl) hF rfl rfl rfl (fun w hS => e_move hF rfl) (hM.pick [] rfl rfl) ?_; intro a hF
    refine h_three 1 3 4 #[true, true, true, false, false, false, false] #[true, false, true, true, false, false, false] #[true, false, true, false, true, false, false] rfl rfl rfl rfl rfl rfl (by kernel_rfl) ?_ ?_ ?_
    · skip
      refine s_make (C := cd3) cdok3 hF hM rfl rfl rfl rfl Try.underlying32 c2.1 c2.2 ?_; intro a w v1 hF hM
      refine s_nil ⟨rfl, (hM.pick [] rfl rfl), ?_⟩
      refine h_two 3 4 #[true, true, true, true, false, false, false] #[true, true, true, false, true, false, false] rfl rfl rfl rfl (by kernel_rfl) ?_ ?_
      · skip
        refine s_call hF rfl rfl rfl Try.call87 (spec_l2Table.calls K l0 u0 (q0.frm hM.frm) t3 h4) ?_; intro a w v hF hf hR
        subst hR; have hM := hM.grow hf
        refine s_nil ⟨rfl, (hM.pick [] rfl rfl), ?_⟩
        refine h_one 4 #[true, true, true, true, true, false, false] rfl (by kernel_rfl) ?_
        refine s_alloc (ps := [Pt.ar (Ar.zero 121)]) hF hM rfl rfl zv74 rfl ?_; intro a w b5 hF hM
        refine s_nil ⟨rfl, (hM.pick [] rfl rfl), ?_⟩
        refine h_val 5 #[true, true, true, true, true, true, false] rfl (by kernel_rfl) hF rfl rfl rfl (fun w hS => e_assign hF rfl) (hM.pick [] rfl rfl) ?_; intro a hF
        refine h_one 6 #[true, true, true, true, true, true, true] rfl (by kernel_rfl) ?_
        refine s_stw (i := 0) (ps' := [Pt.ar t3]) hF hM rfl rfl rfl rfl rfl rfl Try.sizeOf74 rfl ?_; intro a w hF hM
        refine s_nil ⟨rfl, (hM.pick [] rfl rfl), ?_⟩
        exact h_done rfl ⟨rfl, v1, b5, hF.sub _ ⟨rfl, rfl, rfl, trivial⟩, hM.pick [1, 0] rfl rfl⟩
      · skip
        refine s_alloc (ps := [Pt.ar (Ar.zero 121)]) hF hM rfl rfl zv74 rfl ?_; intro a w b5 hF hM
        refine s_nil ⟨rfl, (hM.pick [] rfl rfl), ?_⟩
        refine h_one 3 #[true, true, true, true, true, false, false] rfl (by kernel_rfl) ?_
        refine s_call hF rfl rfl rfl Try.call87 (spec_l2Table.calls K l0 u0 (q0.frm hM.frm) t3 h4) ?_; intro a w v hF hf hR
        subst hR; have hM := hM.grow hf
        refine s_nil ⟨rfl, (hM.pick [] rfl rfl), ?_⟩
        refine h_val 5 #[true, true, true, true, true, true, false] rfl (by kernel_rfl) hF rfl rfl rfl (fun w hS => e_assign hF rfl) (hM.pick [] rfl rfl) ?_; intro a hF
        refine h_one 6 #[true, true, true, true, true, true, true] rfl (by kernel_rfl) ?_
        refine s_stw (i := 0) (ps' := [Pt.ar t3]) hF hM rfl rfl rfl rfl rfl rfl Try.sizeOf74 rfl ?_; intro a w hF hM
        refine s_nil ⟨rfl, (hM.pick [] rfl rfl), ?_⟩
        exact h_done rfl ⟨rfl, v1, b5, hF.sub _ ⟨rfl, rfl, rfl, trivial⟩, hM.pick [1, 0] rfl rfl⟩
    · skip
      refine s_call hF rfl rfl rfl Try.call87 (spec_l2Table.calls K l0 u0 (q0.frm hM.frm) t3 h4) ?_; intro a w v hF hf hR
      subst hR; have hM := hM.grow hf
      refine s_nil ⟨rfl, (hM.pick [] rfl rfl), ?_⟩
      refine h_two 1 4 #[true, true, true, true, false, false, false] #[true, false, true, true, true, false, false] rfl rfl rfl rfl (by kernel_rfl) ?_ ?_
      · skip
        refine s_make (C := cd3) cdok3 hF hM rfl rfl rfl rfl Try.underlying32 c2.1 c2.2 ?_; intro a w v1 hF hM
        refine s_nil ⟨rfl, (hM.pick [] rfl rfl), ?_⟩
        refine h_one 4 #[true, true, true, true, true, false, false] rfl (by kernel_rfl) ?_
        refine s_alloc (ps := [Pt.ar (Ar.zero 121)]) hF hM rfl rfl zv74 rfl ?_; intro a w b5 hF hM
        refine s_nil ⟨rfl, (hM.pick [] rfl rfl), ?_⟩
        refine h_val 5 #[true, true, true, true, true, true, false] rfl (by kernel_rfl) hF rfl rfl rfl (fun w hS => e_assign hF rfl) (hM.pick [] rfl rfl) ?_; intro a hF
        refine h_one 6 #[true, true, true, true, true, true, true] rfl (by kernel_rfl) ?_
        refine s_stw (i := 0) (ps' := [Pt.ar t3]) hF hM rfl rfl rfl rfl rfl rfl Try.sizeOf74 rfl ?_; intro a w hF hM
        refine s_nil ⟨rfl, (hM.pick [] rfl rfl), ?_⟩
        exact h_done rfl ⟨rfl, v1, b5, hF.sub _ ⟨rfl, rfl, rfl, trivial⟩, hM.pick [1, 0] rfl rfl⟩
      · skip
        refine s_alloc (ps := [Pt.ar (Ar.zero 121)]) hF hM rfl rfl zv74 rfl ?_; intro a w b5 hF hM
        refine s_nil ⟨rfl, (hM.pick [] rfl rfl), ?_⟩
        refine h_one 1 #[true, true, true, true, true, false, false] rfl (by kernel_rfl) ?_
        refine s_make (C := cd3) cdok3 hF hM rfl rfl rfl rfl Try.underlying32 c2.1 c2.2 ?_; intro a w v1 hF hM
        refine s_nil ⟨rfl, (hM.pick [] rfl rfl), ?_⟩
        refine h_val 5 #[true, true, true, true, true, true, false] rfl (by kernel_rfl) hF rfl rfl rfl (fun w hS => e_assign hF rfl) (hM.pick [] rfl rfl) ?_; intro a hF
        refine h_one 6 #[true, true, true, true, true, true, true] rfl (by kernel_rfl) ?_
        refine s_stw (i := 1) (ps' := [Pt.ar t3]) hF hM rfl rfl rfl rfl rfl rfl Try.sizeOf74 rfl ?_; intro a w hF hM
        refine s_nil ⟨rfl, (hM.pick [] rfl rfl), ?_⟩
        exact h_done rfl ⟨rfl, v1, b5, hF.sub _ ⟨rfl, rfl, rfl, trivial⟩, hM.pick [0, 1] rfl rfl⟩
    · skip
      refine s_alloc (ps := [Pt.ar (Ar.zero 121)]) hF hM rfl rfl zv74 rfl ?_; intro a w b5 hF hM
      refine s_nil ⟨rfl, (hM.pick [] rfl rfl), ?_⟩
      refine h_two 1 3 #[true, true, true, false, true, false, false] #[true, false, true, true, true, false, false] rfl rfl rfl rfl (by kernel_rfl) ?_ ?_
      · skip
        refine s_make (C := cd3) cdok3 hF hM rfl rfl rfl rfl Try.underlying32 c2.1 c2.2 ?_; intro a w v1 hF hM
        refine s_nil ⟨rfl, (hM.pick [] rfl rfl), ?_⟩
        refine h_one 3 #[true, true, true, true, true, false, false] rfl (by kernel_rfl) ?_
        refine s_call hF rfl rfl rfl Try.call87 (spec_l2Table.calls K l0 u0 (q0.frm hM.frm) t3 h4) ?_; intro a w v hF hf hR
        subst hR; have hM := hM.grow hf
        refine s_nil ⟨rfl, (hM.pick [] rfl rfl), ?_⟩
        refine h_val 5 #[true, true, true, true, true, true, false] rfl (by kernel_rfl) hF rfl rfl rfl (fun w hS => e_assign hF rfl) (hM.pick [] rfl rfl) ?_; intro a hF
        refine h_one 6 #[true, true, true, true, true, true, true] rfl (by kernel_rfl) ?_
        refine s_stw (i := 1) (ps' := [Pt.ar t3]) hF hM rfl rfl rfl rfl rfl rfl Try.sizeOf74 rfl ?_; intro a w hF hM
        refine s_nil ⟨rfl, (hM.pick [] rfl rfl), ?_⟩
        exact h_done rfl ⟨rfl, v1, b5, hF.sub _ ⟨rfl, rfl, rfl, trivial⟩, hM.pick [0, 1] rfl rfl⟩
      · skip
        refine s_call hF rfl rfl rfl Try.call87 (spec_l2Table.calls K l0 u0 (q0.frm hM.frm) t3 h4) ?_; intro a w v hF hf hR
        subst hR; have hM := hM.grow hf
        refine s_nil ⟨rfl, (hM.pick [] rfl rfl), ?_⟩
        refine h_one 1 #[true, true, true, true, true, false, false] rfl (by kernel_rfl) ?_
        refine s_make (C := cd3) cdok3 hF hM rfl rfl rfl rfl Try.underlying32 c2.1 c2.2 ?_; intro a w v1 hF hM
        refine s_nil ⟨rfl, (hM.pick [] rfl rfl), ?_⟩
        refine h_val 5 #[true, true, true, true, true, true, false] rfl (by kernel_rfl) hF rfl rfl rfl (fun w hS => e_assign hF rfl) (hM.pick [] rfl rfl) ?_; intro a hF
        refine h_one 6 #[true, true, true, true, true, true, true] rfl (by kernel_rfl) ?_
        refine s_stw (i := 1) (ps' := [Pt.ar t3]) hF hM rfl rfl rfl rfl rfl rfl Try.sizeOf74 rfl ?_; intro a w hF hM
        refine s_nil ⟨rfl, (hM.pick [] rfl rfl), ?_⟩
        exact h_done rfl ⟨rfl, v1, b5, hF.sub _ ⟨rfl, rfl, rfl, trivial⟩, hM.pick [0, 1] rfl rfl⟩
  rintro e a w ⟨rfl, v1, b5, hF, hM⟩
  refine then_n ?_
  refine wp_seq ?_
  refine wp_seq ?_
  refine s_region ?_
  refine s_val hF rfl rfl rfl (e_assign hF rfl) ?_; intro a hF
  refine s_nil ?_
  refine then_n ?_
  refine wp_block ?_
  obtain ⟨o23, h24, H⟩ := bind_some H
  refine wp_mono (Q := fun e a w => (e = Exit.exit 0 ∧ ∃ x14 : (List Int), x14 = o23 ∧ Fr 32 a [(5, v1)] ∧ Ms [] w0 w [rowR cd3 v1 x14])) ?_ ?_
  · refine s_loop (fun kq a w => ∃ x15 : Int, ∃ x16 : (List Int), spec_l9Mod.l0 K l0 a1 t3 kq x15 x16 = some o23 ∧ Fr 32 a [(1, Value.int .i64 a1), (5, v1), (6, pt b5 0), (7, Value.int .i64 x15)] ∧ Ms [] w0 w [rowR cd3 v1 x16, boxR b5 [Pt.ar t3] 74]) K ⟨0, (List.replicate a1.toNat (0 : Int)), h24, hF.sub _ ⟨rfl, rfl, rfl, rfl, trivial⟩, hM.pick [0, 1] rfl rfl⟩ ?_ ?_
    · rintro a w ⟨_, _, H, _⟩; exact none_some H
    · rintro k a w ⟨x15, x16, H, hF, hM⟩; rw [spec_l9Mod.l0] at H
      refine wp_seq ?_
      refine wp_seq ?_
      refine s_region ?_
      refine s_val hF rfl rfl rfl (e_move hF rfl) ?_; intro a hF
      refine s_val hF rfl rfl rfl (e_lss hF rfl rfl) ?_; intro a hF
      refine s_nil ?_
      refine then_n ?_
      rcases ite_cases H with ⟨c17, H⟩ | ⟨c17, H⟩
      ·
        refine s_cond_t hF rfl (decide_eq_true c17) ?_
        refine wp_skip ?_
        refine then_n ?_
        refine wp_seq ?_
        refine wp_block ?_
        obtain ⟨c18, H⟩ := ite_some H
        obtain ⟨c19, H⟩ := ite_some H
        obtain ⟨c20, H⟩ := ite_some H
        refine s_held (fun w => Ms [] w0 w [boxR b5 [Pt.ar t3] 74]) #[false, false, false, false, false, false, false, false, false, false, false, false, false, false, false, false] mixed rfl rfl hM ?_; intro w hf hM; clear hf
        refine h_val 0 #[true, false, false, false, false, false, false, false, false, false, false, false, false, false, false, false] rfl (by kernel_rfl) hF rfl rfl rfl (fun w hS => e_move hF rfl) (hM.pick [1] rfl rfl) ?_; intro a hF
        refine h_val 1 #[true, true, false, false, false, false, false, false, false, false, false, false, false, false, false, false] rfl (by kernel_rfl) hF rfl rfl rfl (fun w hS => e_move hF rfl) (hM.pick [1] rfl rfl) ?_; intro a hF
        refine h_val 2 #[true, true, true, false, false, false, false, false, false, false, false, false, false, false, false, false] rfl (by kernel_rfl) hF rfl rfl rfl (fun w hS => e_move hF rfl) (hM.pick [1] rfl rfl) ?_; intro a hF
        refine h_val 3 #[true, true, true, true, false, false, false, false, false, false, false, false, false, false, false, false] rfl (by kernel_rfl) hF rfl rfl rfl (fun w hS => e_rem hF rfl rfl c18) (hM.pick [1] rfl rfl) ?_; intro a hF
        refine h_val 4 #[true, true, true, true, true, false, false, false, false, false, false, false, false, false, false, false] rfl (by kernel_rfl) hF rfl rfl rfl (fun w hS => e_move hF rfl) (hM.pick [1] rfl rfl) ?_; intro a hF
        refine h_val 5 #[true, true, true, true, true, true, false, false, false, false, false, false, false, false, false, false] rfl (by kernel_rfl) hF rfl rfl rfl (fun w hS => e_move hF rfl) (hM.pick [1] rfl rfl) ?_; intro a hF
        refine h_val 6 #[true, true, true, true, true, true, true, false, false, false, false, false, false, false, false, false] rfl (by kernel_rfl) hF rfl rfl rfl (fun w hS => e_move hF rfl) (hM.pick [1] rfl rfl) ?_; intro a hF
        refine h_val 7 #[true, true, true, true, true, true, true, true, false, false, false, false, false, false, false, false] rfl (by kernel_rfl) hF rfl rfl rfl (fun w hS => e_rem hF rfl rfl c18) (hM.pick [1] rfl rfl) ?_; intro a hF
        have f21 := (hM.sl 0 rfl).toF
        refine h_val 8 #[true, true, true, true, true, true, true, true, true, false, false, false, false, false, false, false] rfl (by kernel_rfl) hF rfl rfl rfl (fun w hS => e_ias cd3 hF rfl rfl f21 Try.underlying32 Try.sizeOf3 c19.1 c19.2) (hM.pick [1] rfl rfl) ?_; intro a hF
        refine h_val 10 #[true, true, true, true, true, true, true, true, true, false, true, false, false, false, false, false] rfl (by kernel_rfl) hF rfl rfl rfl (fun w hS => e_move hF rfl) (hM.pick [1] rfl rfl) ?_; intro a hF
        refine h_val 11 #[true, true, true, true, true, true, true, true, true, false, true, true, false, false, false, false] rfl (by kernel_rfl) hF rfl rfl rfl (fun w hS => e_ia hF rfl rfl Try.underlying74 Try.sizeOf3 c20.1 c20.2) (hM.pick [1] rfl rfl) ?_; intro a hF
        refine h_val 12 #[true, true, true, true, true, true, true, true, true, false, true, true, true, false, false, false] rfl (by kernel_rfl) hF rfl rfl rfl (fun w hS => e_ldi (i := 0) (k := 0) hF hS rfl rfl rfl rfl rfl Try.isAgg3 c20.1 c20.2) (hM.pick [1] rfl rfl) ?_; intro a hF
        refine h_one 9 #[true, true, true, true, true, true, true, true, true, true, true, true, true, false, false, false] rfl (by kernel_rfl) ?_
        refine s_val hF rfl rfl rfl (e_lds (m := (x15.tmod a1)) hF rfl (hM.sl 0 rfl) (getD_some (z := (0 : Int)) c19.1 c19.2) rfl rfl Try.isAgg3) ?_; intro a hF
        refine s_nil ⟨rfl, (hM.pick [1] rfl rfl), ?_⟩
        refine h_val 13 #[true, true, true, true, true, true, true, true, true, true, true, true, true, true, false, false] rfl (by kernel_rfl) hF rfl rfl rfl (fun w hS => e_add hF rfl rfl) (hM.pick [1] rfl rfl) ?_; intro a hF
        have f22 := (hM.sl 0 rfl).toF
        refine h_val 14 #[true, true, true, true, true, true, true, true, true, true, true, true, true, true, true, false] rfl (by kernel_rfl) hF rfl rfl rfl (fun w hS => e_ias cd3 hF rfl rfl f22 Try.underlying32 Try.sizeOf3 c19.1 c19.2) (hM.pick [1] rfl rfl) ?_; intro a hF
        refine h_one 15 #[true, true, true, true, true, true, true, true, true, true, true, true, true, true, true, true] rfl (by kernel_rfl) ?_
        refine s_sts (i := 0) (wrap64 ((x16.getD ((x15.tmod a1) : Int).toNat (0 : Int)) + (t3.get x15))) hF hM rfl rfl rfl rfl rfl c19.1 c19.2 Try.sizeOf3 ?_; intro a w hF hM
        refine s_nil ⟨rfl, (hM.pick [1] rfl rfl), ?_⟩
        refine h_done rfl ?_
        refine blk_n ?_
        refine then_n ?_
        refine s_region ?_
        refine s_val hF rfl rfl rfl (e_move hF rfl) ?_; intro a hF
        refine s_val hF rfl rfl rfl (e_add hF rfl rfl) ?_; intro a hF
        refine s_val hF rfl rfl rfl (e_assign hF rfl) ?_; intro a hF
        refine s_nil ?_
        refine then_n ?_
        exact ⟨(wrap64 (x15 + 1)), (x16.set ((x15.tmod a1) : Int).toNat (wrap64 ((x16.getD ((x15.tmod a1) : Int).toNat (0 : Int)) + (t3.get x15)))), H, hF.sub _ ⟨rfl, rfl, rfl, rfl, trivial⟩, hM.pick [0, 1] rfl rfl⟩
      ·
        refine s_cond_f hF rfl (decide_eq_false c17) ?_
        refine wp_exit ?_
        refine then_x ?_
        refine then_x ?_
        exact ⟨rfl, x16, some_some H, hF.sub _ ⟨rfl, trivial⟩, hM.pick [0] rfl rfl⟩
  · rintro e a w ⟨rfl, x14, rfl, hF, hM⟩
    skip
    refine blk_x ?_
    refine then_n ?_
    refine wp_seq ?_
    refine s_region ?_
    refine s_val hF rfl rfl rfl (e_move hF rfl) ?_; intro a hF
    refine s_val hF rfl rfl rfl (e_assign hF rfl) ?_; intro a hF
    refine s_nil ?_
    refine then_n ?_
    refine wp_ret ?_
    obtain rfl := some_some H
    refine s_ret [v1] hF Try.results74 ⟨rfl, trivial⟩ ?_
    exact ⟨_, rfl, hM.frm, hM.give 0 rfl⟩

/-! ### loop.example/g01210/spec.FairSizes: function 49 -/
def spec_FairSizes.l3 (K : Nat) (x44 : Int) (t48 : (List Int)) : Nat → Bool → Int → Option Bool
  | 0, _, _ => none
  | k + 1, x61, x62 => if x62 < x44 then (if x61 = true then (if (0 : Int) ≤ x62 ∧ x62 < (t48.length : Int) then (if (0 : Int) ≤ 0 ∧ 0 < (t48.length : Int) then (spec_FairSizes.l3 K x44 t48 k (decide ((t48.getD (x62 : Int).toNat (0 : Int)) = (t48.getD (0 : Int).toNat (0 : Int)))) (wrap64 (x62 + 1))) else none) else none) else (spec_FairSizes.l3 K x44 t48 k false (wrap64 (x62 + 1)))) else (some x61)
def spec_FairSizes.l2 (K : Nat) (l0 : (List (Ar 6))) : Nat → Int → (List Int) → Option (List Int)
  | 0, _, _ => none
  | k + 1, x44, x46 => if x44 ≤ 40 then ((spec_l9Mod.f K l0 x44).bind fun t48 => (spec_FairSizes.l3 K x44 t48 K true 1).bind fun x60 => if x60 = true then (if x46.length + [x44].length ≤ 1073741824 then (spec_FairSizes.l2 K l0 k (wrap64 (x44 + 1)) (x46 ++ [x44])) else none) else (spec_FairSizes.l2 K l0 k (wrap64 (x44 + 1)) x46)) else (some x46)
def spec_FairSizes.f (K : Nat) (l0 : (List (Ar 6))) : Option ((List Int) × Bool) := (spec_l2Pool.f K l0).bind fun t2 => if t2 = true then ((spec_FairSizes.l2 K l0 K 1 ([] : List Int)).bind fun x43 => some (x43, true)) else (some (([] : List Int), false))
set_option maxRecDepth 100000 in
set_option maxHeartbeats 4000000 in
theorem spec_FairSizes.calls {w0 : World} (K : Nat) (l0 : (List (Ar 6))) (u0 : Value) (q0 : SlR cd70 w0 u0 l0) (r : ((List Int) × Bool)) (H : spec_FairSizes.f K l0 = some r) : Calls Try.prog 49 [u0].toArray w0 (Post w0 fun w v => ∃ v0 : Value, v = Value.tuple #[v0, Value.bool r.2] ∧ Fresh cd3 w0.heap.size w v0 r.1) := by
  rw [spec_FairSizes.f] at H
  refine s_start Try.func49 rfl Try.ntmps49 rfl ?_
  intro a hF
  have hM := Ms.start w0
  skip
  refine wp_seq ?_
  refine s_region ?_
  refine s_val hF rfl rfl rfl (e_assign hF rfl) ?_; intro a hF
  refine s_val hF rfl rfl rfl (e_assign hF rfl) ?_; intro a hF
  refine s_nil ?_
  refine then_n ?_
  refine wp_seq ?_
  refine s_region ?_
  refine s_bsl (C := cd3) ([] : List Int) cdok3 hF hM rfl rfl rfl rfl Try.underlying32 rfl ?_; intro a w v1 hF hM
  refine s_val hF rfl rfl rfl (e_assign hF rfl) ?_; intro a hF
  refine s_nil ?_
  refine then_n ?_
  refine wp_seq ?_
  refine wp_seq ?_
  obtain ⟨t2, h3, H⟩ := bind_some H
  refine s_region ?_
  refine s_val hF rfl rfl rfl (e_move hF rfl) ?_; intro a hF
  refine s_call hF rfl rfl rfl Try.call73 (spec_l2Pool.calls K l0 u0 (q0.frm hM.frm) t2 h3) ?_; intro a w v hF hf hR
  subst hR; have hM := hM.grow hf
  refine s_val hF rfl rfl rfl (e_not hF rfl) ?_; intro a hF
  refine s_nil ?_
  refine then_n ?_
  rcases ite_cases H with ⟨c4, H⟩ | ⟨c4, H⟩
  ·
    refine s_cond_f hF rfl (congrArg Bool.not c4) ?_
    refine wp_skip ?_
    refine then_n ?_
    refine wp_seq ?_
    refine wp_seq ?_
    refine s_region ?_
    refine s_val hF rfl rfl rfl (e_assign hF rfl) ?_; intro a hF
    refine s_nil ?_
    refine then_n ?_
    refine wp_block ?_
    obtain ⟨o75, h76, H⟩ := bind_some H
    refine wp_mono (Q := fun e a w => (e = Exit.exit 0 ∧ ∃ v42 : Value, ∃ x43 : (List Int), x43 = o75 ∧ Fr 43 a [(4, v42)] ∧ Ms [] w0 w [rowR cd3 v42 x43])) ?_ ?_
    · refine s_loop (fun kq a w => ∃ v45 : Value, ∃ x44 : Int, ∃ x46 : (List Int), spec_FairSizes.l2 K l0 kq x44 x46 = some o75 ∧ Fr 43 a [(0, u0), (4, v45), (5, Value.int .i64 x44)] ∧ Ms [] w0 w [rowR cd3 v45 x46]) K ⟨v1, 1, ([] : List Int), h76, hF.sub _ ⟨rfl, rfl, rfl, trivial⟩, hM.pick [0] rfl rfl⟩ ?_ ?_
      · rintro a w ⟨_, _, _, H, _⟩; exact none_some H
      · rintro k a w ⟨v45, x44, x46, H, hF, hM⟩; rw [spec_FairSizes.l2] at H
        refine wp_seq ?_
        refine wp_seq ?_
        refine s_region ?_
        refine s_val hF rfl rfl rfl (e_move hF rfl) ?_; intro a hF
        refine s_val hF rfl rfl rfl (e_leq hF rfl rfl) ?_; intro a hF
        refine s_nil ?_
        refine then_n ?_
        rcases ite_cases H with ⟨c47, H⟩ | ⟨c47, H⟩
        ·
          refine s_cond_t hF rfl (decide_eq_true c47) ?_
          refine wp_skip ?_
          refine then_n ?_
          refine wp_seq ?_
          refine wp_block ?_
          refine wp_seq ?_
          obtain ⟨t48, h49, H⟩ := bind_some H
          refine s_region ?_
          refine s_val hF rfl rfl rfl (e_move hF rfl) ?_; intro a hF
          refine s_val hF rfl rfl rfl (e_move hF rfl) ?_; intro a hF
          refine s_call hF rfl rfl rfl Try.call74 (spec_l9Mod.calls K l0 u0 (q0.frm hM.frm) x44 t48 h49) ?_; intro a w v50 hF hf hR
          have hM := hM.fresh hf hR
          refine s_val hF rfl rfl rfl (e_assign hF rfl) ?_; intro a hF
          refine s_val hF rfl rfl rfl (e_assign hF rfl) ?_; intro a hF
          refine s_nil ?_
          refine then_n ?_
          refine wp_seq ?_
          refine wp_seq ?_
          refine s_region ?_
          refine s_val hF rfl rfl rfl (e_assign hF rfl) ?_; intro a hF
          refine s_nil ?_
          refine then_n ?_
          refine wp_block ?_
          obtain ⟨o69, h70, H⟩ := bind_some H
          refine wp_mono (Q := fun e a w => (e = Exit.exit 2 ∧ ∃ x60 : Bool, x60 = o69 ∧ Fr 43 a [(0, u0), (4, v45), (5, Value.int .i64 x44), (7, Value.bool x60)] ∧ Ms [] w0 w [rowR cd3 v45 x46])) ?_ ?_
          · refine s_loop (fun kq a w => ∃ x61 : Bool, ∃ x62 : Int, spec_FairSizes.l3 K x44 t48 kq x61 x62 = some o69 ∧ Fr 43 a [(0, u0), (4, v45), (5, Value.int .i64 x44), (6, v50), (7, Value.bool x61), (8, Value.int .i64 x62)] ∧ Ms [] w0 w [rowR cd3 v45 x46, rowR cd3 v50 t48]) K ⟨true, 1, h70, hF.sub _ ⟨rfl, rfl, rfl, rfl, rfl, rfl, trivial⟩, hM.pick [1, 0] rfl rfl⟩ ?_ ?_
            · rintro a w ⟨_, _, H, _⟩; exact none_some H
            · rintro k a w ⟨x61, x62, H, hF, hM⟩; rw [spec_FairSizes.l3] at H
              refine wp_seq ?_
              refine wp_seq ?_
              refine s_region ?_
              refine s_val hF rfl rfl rfl (e_move hF rfl) ?_; intro a hF
              refine s_val hF rfl rfl rfl (e_move hF rfl) ?_; intro a hF
              refine s_val hF rfl rfl rfl (e_lss hF rfl rfl) ?_; intro a hF
              refine s_nil ?_
              refine then_n ?_
              rcases ite_cases H with ⟨c63, H⟩ | ⟨c63, H⟩
              ·
                refine s_cond_t hF rfl (decide_eq_true c63) ?_
                refine wp_skip ?_
                refine then_n ?_
                refine wp_seq ?_
                refine wp_block ?_
                rcases ite_cases H with ⟨c64, H⟩ | ⟨c64, H⟩
                ·
                  obtain ⟨c65, H⟩ := ite_some H
                  obtain ⟨c66, H⟩ := ite_some H
                  refine s_held (fun w => Ms [] w0 w [rowR cd3 v45 x46, rowR cd3 v50 t48]) #[false, false, false, false, false, false, false, false, false, false, false, false] mixed rfl rfl hM ?_; intro w hf hM; clear hf
                  refine h_val 0 #[true, false, false, false, false, false, false, false, false, false, false, false] rfl (by kernel_rfl) hF rfl rfl rfl (fun w hS => e_move hF rfl) (hM.pick [0, 1] rfl rfl) ?_; intro a hF
                  refine h_val 1 #[true, true, false, false, false, false, false, false, false, false, false, false] rfl (by kernel_rfl) hF rfl rfl rfl (fun w hS => e_move hF rfl) (hM.pick [0, 1] rfl rfl) ?_; intro a hF
                  have hF := hF.topb c64
                  refine h_val 2 #[true, true, true, false, false, false, false, false, false, false, false, false] rfl (by kernel_rfl) hF rfl rfl rfl (fun w hS => e_move hF rfl) (hM.pick [0, 1] rfl rfl) ?_; intro a hF
                  refine h_val 3 #[true, true, true, true, false, false, false, false, false, false, false, false] rfl (by kernel_rfl) hF rfl rfl rfl (fun w hS => e_move hF rfl) (hM.pick [0, 1] rfl rfl) ?_; intro a hF
                  have f67 := (hM.sl 1 rfl).toF
                  refine h_val 4 #[true, true, true, true, true, false, false, false, false, false, false, false] rfl (by kernel_rfl) hF rfl rfl rfl (fun w hS => e_ias cd3 hF rfl rfl f67 Try.underlying32 Try.sizeOf3 c65.1 c65.2) (hM.pick [0, 1] rfl rfl) ?_; intro a hF
                  refine h_val 5 #[true, true, true, true, true, true, false, false, false, false, false, false] rfl (by kernel_rfl) hF rfl rfl rfl (fun w hS => e_lds (m := x62) hF rfl (hS.sl 1 rfl) (getD_some (z := (0 : Int)) c65.1 c65.2) rfl rfl Try.isAgg3) (hM.pick [0, 1] rfl rfl) ?_; intro a hF
                  refine h_val 6 #[true, true, true, true, true, true, true, false, false, false, false, false] rfl (by kernel_rfl) hF rfl rfl rfl (fun w hS => e_move hF rfl) (hM.pick [0, 1] rfl rfl) ?_; intro a hF
                  have f68 := (hM.sl 1 rfl).toF
                  refine h_val 7 #[true, true, true, true, true, true, true, true, false, false, false, false] rfl (by kernel_rfl) hF rfl rfl rfl (fun w hS => e_ias cd3 hF rfl rfl f68 Try.underlying32 Try.sizeOf3 c66.1 c66.2) (hM.pick [0, 1] rfl rfl) ?_; intro a hF
                  refine h_val 8 #[true, true, true, true, true, true, true, true, true, false, false, false] rfl (by kernel_rfl) hF rfl rfl rfl (fun w hS => e_lds (m := 0) hF rfl (hS.sl 1 rfl) (getD_some (z := (0 : Int)) c66.1 c66.2) rfl rfl Try.isAgg3) (hM.pick [0, 1] rfl rfl) ?_; intro a hF
                  refine h_val 9 #[true, true, true, true, true, true, true, true, true, true, false, false] rfl (by kernel_rfl) hF rfl rfl rfl (fun w hS => e_eql hF rfl rfl) (hM.pick [0, 1] rfl rfl) ?_; intro a hF
                  refine h_val 10 #[true, true, true, true, true, true, true, true, true, true, true, false] rfl (by kernel_rfl) hF rfl rfl rfl (fun w hS => e_pick_t hF rfl rfl) (hM.pick [0, 1] rfl rfl) ?_; intro a hF
                  refine h_val 11 #[true, true, true, true, true, true, true, true, true, true, true, true] rfl (by kernel_rfl) hF rfl rfl rfl (fun w hS => e_assign hF rfl) (hM.pick [0, 1] rfl rfl) ?_; intro a hF
                  refine h_done rfl ?_
                  refine blk_n ?_
                  refine then_n ?_
                  refine s_region ?_
                  refine s_val hF rfl rfl rfl (e_move hF rfl) ?_; intro a hF
                  refine s_val hF rfl rfl rfl (e_add hF rfl rfl) ?_; intro a hF
                  refine s_val hF rfl rfl rfl (e_assign hF rfl) ?_; intro a hF
                  refine s_nil ?_
                  refine then_n ?_
                  exact ⟨(decide ((t48.getD (x62 : Int).toNat (0 : Int)) = (t48.getD (0 : Int).toNat (0 : Int)))), (wrap64 (x62 + 1)), H, hF.sub _ ⟨rfl, rfl, rfl, rfl, rfl, rfl, trivial⟩, hM.pick [0, 1] rfl rfl⟩
                ·
                  refine s_held (fun w => Ms [] w0 w [rowR cd3 v45 x46, rowR cd3 v50 t48]) #[false, false, false, false, false, false, false, false, false, false, false, false] mixed rfl rfl hM ?_; intro w hf hM; clear hf
                  refine h_val 0 #[true, false, false, false, false, false, false, false, false, false, false, false] rfl (by kernel_rfl) hF rfl rfl rfl (fun w hS => e_move hF rfl) (hM.pick [0, 1] rfl rfl) ?_; intro a hF
                  refine h_val 1 #[true, true, false, false, false, false, false, false, false, false, false, false] rfl (by kernel_rfl) hF rfl rfl rfl (fun w hS => e_move hF rfl) (hM.pick [0, 1] rfl rfl) ?_; intro a hF
                  have hF := hF.topb (bf c64)
                  refine h_skip 2 #[true, true, true, false, false, false, false, false, false, false, false, false] rfl (by kernel_rfl) hF rfl rfl rfl (hM.pick [0, 1] rfl rfl) ?_; intro a hF
                  refine h_skip 3 #[true, true, true, true, false, false, false, false, false, false, false, false] rfl (by kernel_rfl) hF rfl rfl rfl (hM.pick [0, 1] rfl rfl) ?_; intro a hF
                  refine h_skip 4 #[true, true, true, true, true, false, false, false, false, false, false, false] rfl (by kernel_rfl) hF rfl rfl rfl (hM.pick [0, 1] rfl rfl) ?_; intro a hF
                  refine h_skip 5 #[true, true, true, true, true, true, false, false, false, false, false, false] rfl (by kernel_rfl) hF rfl rfl rfl (hM.pick [0, 1] rfl rfl) ?_; intro a hF
                  refine h_skip 6 #[true, true, true, true, true, true, true, false, false, false, false, false] rfl (by kernel_rfl) hF rfl rfl rfl (hM.pick [0, 1] rfl rfl) ?_; intro a hF
                  refine h_skip 7 #[true, true, true, true, true, true, true, true, false, false, false, false] rfl (by kernel_rfl) hF rfl rfl rfl (hM.pick [0, 1] rfl rfl) ?_; intro a hF
                  refine h_skip 8 #[true, true, true, true, true, true, true, true, true, false, false, false] rfl (by kernel_rfl) hF rfl rfl rfl (hM.pick [0, 1] rfl rfl) ?_; intro a hF
                  refine h_skip 9 #[true, true, true, true, true, true, true, true, true, true, false, false] rfl (by kernel_rfl) hF rfl rfl rfl (hM.pick [0, 1] rfl rfl) ?_; intro a hF
                  refine h_val 10 #[true, true, true, true, true, true, true, true, true, true, true, false] rfl (by kernel_rfl) hF rfl rfl rfl (fun w hS => e_pick_f hF rfl rfl) (hM.pick [0, 1] rfl rfl) ?_; intro a hF
                  refine h_val 11 #[true, true, true, true, true, true, true, true, true, true, true, true] rfl (by kernel_rfl) hF rfl rfl rfl (fun w hS => e_assign hF rfl) (hM.pick [0, 1] rfl rfl) ?_; intro a hF
                  refine h_done rfl ?_
                  refine blk_n ?_
                  refine then_n ?_
                  refine s_region ?_
                  refine s_val hF rfl rfl rfl (e_move hF rfl) ?_; intro a hF
                  refine s_val hF rfl rfl rfl (e_add hF rfl rfl) ?_; intro a hF
                  refine s_val hF rfl rfl rfl (e_assign hF rfl) ?_; intro a hF
                  refine s_nil ?_
                  refine then_n ?_
                  exact ⟨false, (wrap64 (x62 + 1)), H, hF.sub _ ⟨rfl, rfl, rfl, rfl, rfl, rfl, trivial⟩, hM.pick [0, 1] rfl rfl⟩
              ·
                refine s_cond_f hF rfl (decide_eq_false c63) ?_
                refine wp_exit ?_
                refine then_x ?_
                refine then_x ?_
                exact ⟨rfl, x61, some_some H, hF.sub _ ⟨rfl, rfl, rfl, rfl, trivial⟩, hM.pick [0] rfl rfl⟩
          · rintro e a w ⟨rfl, x60, rfl, hF, hM⟩
            skip
            refine blk_x ?_
            refine then_n ?_
            refine wp_seq ?_
            refine s_region ?_
            refine s_val hF rfl rfl rfl (e_move hF rfl) ?_; intro a hF
            refine s_nil ?_
            refine then_n ?_
            rcases ite_cases H with ⟨c71, H⟩ | ⟨c71, H⟩
            ·
              refine s_cond_t hF rfl c71 ?_
              obtain ⟨c74, H⟩ := ite_some H
              refine s_region ?_
              refine s_val hF rfl rfl rfl (e_move hF rfl) ?_; intro a hF
              refine s_val hF rfl rfl rfl (e_move hF rfl) ?_; intro a hF
              refine s_bsl (C := cd3) [x44] cdok3 hF hM rfl rfl rfl rfl Try.underlying32 rfl ?_; intro a w v72 hF hM
              refine s_append (i := 1) cdok3 hF hM rfl rfl rfl rfl rfl (hM.sl 0 rfl) Try.underlying32 c74 ?_; intro a w v73 hF hM
              refine s_val hF rfl rfl rfl (e_assign hF rfl) ?_; intro a hF
              refine s_nil ?_
              refine blk_n ?_
              refine then_n ?_
              refine s_region ?_
              refine s_val hF rfl rfl rfl (e_move hF rfl) ?_; intro a hF
              refine s_val hF rfl rfl rfl (e_add hF rfl rfl) ?_; intro a hF
              refine s_val hF rfl rfl rfl (e_assign hF rfl) ?_; intro a hF
              refine s_nil ?_
              refine then_n ?_
              exact ⟨v73, (wrap64 (x44 + 1)), (x46 ++ [x44]), H, hF.sub _ ⟨rfl, rfl, rfl, trivial⟩, hM.pick [1] rfl rfl⟩
            ·
              refine s_cond_f hF rfl (bf c71) ?_
              refine wp_skip ?_
              refine blk_n ?_
              refine then_n ?_
              refine s_region ?_
              refine s_val hF rfl rfl rfl (e_move hF rfl) ?_; intro a hF
              refine s_val hF rfl rfl rfl (e_add hF rfl rfl) ?_; intro a hF
              refine s_val hF rfl rfl rfl (e_assign hF rfl) ?_; intro a hF
              refine s_nil ?_
              refine then_n ?_
              exact ⟨v45, (wrap64 (x44 + 1)), x46, H, hF.sub _ ⟨rfl, rfl, rfl, trivial⟩, hM.pick [0] rfl rfl⟩
        ·
          refine s_cond_f hF rfl (decide_eq_false c47) ?_
          refine wp_exit ?_
          refine then_x ?_
          refine then_x ?_
          exact ⟨rfl, v45, x46, some_some H, hF.sub _ ⟨rfl, trivial⟩, hM.pick [0] rfl rfl⟩
    · rintro e a w ⟨rfl, v42, x43, rfl, hF, hM⟩
      skip
      refine blk_x ?_
      refine then_n ?_
      refine wp_seq ?_
      refine s_region ?_
      refine s_val hF rfl rfl rfl (e_move hF rfl) ?_; intro a hF
      refine s_val hF rfl rfl rfl (e_assign hF rfl) ?_; intro a hF
      refine s_val hF rfl rfl rfl (e_assign hF rfl) ?_; intro a hF
      refine s_nil ?_
      refine then_n ?_
      refine wp_ret ?_
      obtain rfl := some_some H
      refine s_ret [v42, Value.bool true] hF Try.results49 ⟨rfl, rfl, trivial⟩ ?_
      exact ⟨_, rfl, hM.frm, ⟨v42, rfl, hM.give 0 rfl⟩⟩
  ·
    refine s_cond_t hF rfl (congrArg Bool.not (bf c4)) ?_
    refine wp_seq ?_
    refine s_region ?_
    refine s_val hF rfl rfl rfl (e_move hF rfl) ?_; intro a hF
    refine s_val hF rfl rfl rfl (e_assign hF rfl) ?_; intro a hF
    refine s_val hF rfl rfl rfl (e_assign hF rfl) ?_; intro a hF
    refine s_nil ?_
    refine then_n ?_
    refine wp_ret ?_
    refine then_r ?_
    obtain rfl := some_some H
    refine s_ret [v1, Value.bool false] hF Try.results49 ⟨rfl, rfl, trivial⟩ ?_
    exact ⟨_, rfl, hM.frm, ⟨v1, rfl, hM.give 0 rfl⟩⟩

/-! ### loop.example/g01210/impl.within: function 53 -/
def impl_within.f (K : Nat) (a0 : Int) (a1 : Int) (a2 : Int) : Option Bool := if a1 ≤ a0 then (some (decide (a0 ≤ a2))) else (some false)
set_option maxRecDepth 100000 in
set_option maxHeartbeats 4000000 in
theorem impl_within.calls {w0 : World} (K : Nat) (a0 : Int) (a1 : Int) (a2 : Int) (r : Bool) (H : impl_within.f K a0 a1 a2 = some r) : Calls Try.prog 53 [Value.int .i64 a0, Value.int .i64 a1, Value.int .i64 a2].toArray w0 (Post w0 fun w v => v = Value.bool r) := by
  rw [impl_within.f] at H
  refine s_start Try.func53 rfl Try.ntmps53 rfl ?_
  intro a hF
  have hM := Ms.start w0
  skip
  refine wp_seq ?_
  refine s_region ?_
  refine s_val hF rfl rfl rfl (e_assign hF rfl) ?_; intro a hF
  refine s_nil ?_
  refine then_n ?_
  refine wp_seq ?_
  rcases ite_cases H with ⟨c1, H⟩ | ⟨c1, H⟩
  ·
    refine s_region ?_
    refine s_val hF rfl rfl rfl (e_move hF rfl) ?_; intro a hF
    refine s_val hF rfl rfl rfl (e_move hF rfl) ?_; intro a hF
    refine s_val hF rfl rfl rfl (e_leq hF rfl rfl) ?_; intro a hF
    refine s_val hF rfl rfl rfl (e_move hF rfl) ?_; intro a hF
    have hF := hF.topb (decide_eq_true c1)
    refine s_val hF rfl rfl rfl (e_move hF rfl) ?_; intro a hF
    refine s_val hF rfl rfl rfl (e_move hF rfl) ?_; intro a hF
    refine s_val hF rfl rfl rfl (e_leq hF rfl rfl) ?_; intro a hF
    refine s_val hF rfl rfl rfl (e_pick_t hF rfl rfl) ?_; intro a hF
    refine s_val hF rfl rfl rfl (e_assign hF rfl) ?_; intro a hF
    refine s_nil ?_
    refine then_n ?_
    refine wp_ret ?_
    obtain rfl := some_some H
    refine s_ret [Value.bool (decide (a0 ≤ a2))] hF Try.results53 ⟨rfl, trivial⟩ ?_
    exact ⟨_, rfl, hM.frm, rfl⟩
  ·
    refine s_region ?_
    refine s_val hF rfl rfl rfl (e_move hF rfl) ?_; intro a hF
    refine s_val hF rfl rfl rfl (e_move hF rfl) ?_; intro a hF
    refine s_val hF rfl rfl rfl (e_leq hF rfl rfl) ?_; intro a hF
    refine s_val hF rfl rfl rfl (e_move hF rfl) ?_; intro a hF
    have hF := hF.topb (decide_eq_false c1)
    refine s_skip hF rfl rfl rfl ?_; intro a hF
    refine s_skip hF rfl rfl rfl ?_; intro a hF
    refine s_skip hF rfl rfl rfl ?_; intro a hF
    refine s_val hF rfl rfl rfl (e_pick_f hF rfl rfl) ?_; intro a hF
    refine s_val hF rfl rfl rfl (e_assign hF rfl) ?_; intro a hF
    refine s_nil ?_
    refine then_n ?_
    refine wp_ret ?_
    obtain rfl := some_some H
    refine s_ret [Value.bool false] hF Try.results53 ⟨rfl, trivial⟩ ?_
    exact ⟨_, rfl, hM.frm, rfl⟩

/-! ### loop.example/g01210/impl.isFace: function 94 -/
def impl_isFace.f (K : Nat) (a0 : Int) : Option Bool := (impl_within.f K a0 0 30).bind fun t1 => some t1
set_option maxRecDepth 100000 in
set_option maxHeartbeats 4000000 in
theorem impl_isFace.calls {w0 : World} (K : Nat) (a0 : Int) (r : Bool) (H : impl_isFace.f K a0 = some r) : Calls Try.prog 94 [Value.int .i64 a0].toArray w0 (Post w0 fun w v => v = Value.bool r) := by
  rw [impl_isFace.f] at H
  refine s_start Try.func94 rfl Try.ntmps94 rfl ?_
  intro a hF
  have hM := Ms.start w0
  skip
  refine wp_seq ?_
  refine s_region ?_
  refine s_val hF rfl rfl rfl (e_assign hF rfl) ?_; intro a hF
  refine s_nil ?_
  refine then_n ?_
  refine wp_seq ?_
  obtain ⟨t1, h2, H⟩ := bind_some H
  refine s_region ?_
  refine s_val hF rfl rfl rfl (e_move hF rfl) ?_; intro a hF
  refine s_call hF rfl rfl rfl Try.call53 (impl_within.calls K a0 0 30 t1 h2) ?_; intro a w v hF hf hR
  subst hR; have hM := hM.grow hf
  refine s_val hF rfl rfl rfl (e_assign hF rfl) ?_; intro a hF
  refine s_nil ?_
  refine then_n ?_
  refine wp_ret ?_
  obtain rfl := some_some H
  refine s_ret [Value.bool t1] hF Try.results94 ⟨rfl, trivial⟩ ?_
  exact ⟨_, rfl, hM.frm, rfl⟩

/-! ### loop.example/g01210/impl.areAll[int]$1: function 84 -/
def impl_areAll_int_1__isFace.f (K : Nat) (a0 : Int) : Option Bool := (impl_isFace.f K a0).bind fun t3 => some (!t3)
set_option maxRecDepth 100000 in
set_option maxHeartbeats 4000000 in
theorem impl_areAll_int_1__isFace.calls {w0 : World} (K : Nat) (a0 : Int) (b1 : Nat) (q2 : (boxR b1 [Pt.val (Value.func (.func 94) #[] #[]) rfl] 24).holds w0) (r : Bool) (H : impl_areAll_int_1__isFace.f K a0 = some r) : Calls Try.prog 84 [Value.int .i64 a0, pt b1 0].toArray w0 (Post w0 fun w v => v = Value.bool r) := by
  rw [impl_areAll_int_1__isFace.f] at H
  refine s_start Try.func84 rfl Try.ntmps84 rfl ?_
  intro a hF
  have hM := Ms.start w0
  skip
  refine wp_seq ?_
  refine s_region ?_
  refine s_val hF rfl rfl rfl (e_assign hF rfl) ?_; intro a hF
  refine s_nil ?_
  refine then_n ?_
  refine wp_seq ?_
  obtain ⟨t3, h4, H⟩ := bind_some H
  refine s_region ?_
  refine s_val hF rfl rfl rfl (e_ldb (k := 0) hF (box_frm q2 hM.frm) rfl rfl rfl Try.isAgg24 rfl) ?_; intro a hF
  refine s_val hF rfl rfl rfl (e_move hF rfl) ?_; intro a hF
  refine s_callv hF rfl rfl rfl rfl (callsV_of Try.call94 (impl_isFace.calls K a0 t3 h4)) ?_; intro a w v hF ⟨hf, hR⟩
  subst hR; have hM := hM.grow hf
  refine s_val hF rfl rfl rfl (e_not hF rfl) ?_; intro a hF
  refine s_val hF rfl rfl rfl (e_assign hF rfl) ?_; intro a hF
  refine s_nil ?_
  refine then_n ?_
  refine wp_ret ?_
  obtain rfl := some_some H
  refine s_ret [Value.bool (!t3)] hF Try.results84 ⟨rfl, trivial⟩ ?_
  exact ⟨_, rfl, hM.frm, rfl⟩

/-! ### slices.IndexFunc[[]int,int]: function 91 -/
def slices_IndexFunc_int_int__areAll_int_1_isFace.l0 (K : Nat) (l0 : (List Int)) : Nat → Int → Option (Sum Unit Int)
  | 0, _ => none
  | k + 1, x14 => if x14 < (l0.length : Int) then (if (0 : Int) ≤ x14 ∧ x14 < (l0.length : Int) then ((impl_areAll_int_1__isFace.f K (l0.getD (x14 : Int).toNat (0 : Int))).bind fun t17 => if t17 = true then (some (Sum.inr x14)) else (slices_IndexFunc_int_int__areAll_int_1_isFace.l0 K l0 k (wrap64 (x14 + 1)))) else none) else (some (Sum.inl ()))
def slices_IndexFunc_int_int__areAll_int_1_isFace.f (K : Nat) (l0 : (List Int)) : Option Int := (slices_IndexFunc_int_int__areAll_int_1_isFace.l0 K l0 K 0).bind fun o20 => (match o20 with | .inl () => some (-1) | .inr r22 => some r22)
set_option maxRecDepth 100000 in
set_option maxHeartbeats 4000000 in
theorem slices_IndexFunc_int_int__areAll_int_1_isFace.calls {w0 : World} (K : Nat) (l0 : (List Int)) (u0 : Value) (q0 : SlR cd3 w0 u0 l0) (b1 : Nat) (q2 : (boxR b1 [Pt.val (Value.func (.func 94) #[] #[]) rfl] 24).holds w0) (r : Int) (H : slices_IndexFunc_int_int__areAll_int_1_isFace.f K l0 = some r) : Calls Try.prog 91 [u0, Value.func (.func 84) #[] #[pt b1 0]].toArray w0 (Post w0 fun w v => v = Value.int .i64 r) := by
  rw [slices_IndexFunc_int_int__areAll_int_1_isFace.f] at H
  refine s_start Try.func91 rfl Try.ntmps91 rfl ?_
  intro a hF
  have hM := Ms.start w0
  skip
  refine wp_seq ?_
  refine s_region ?_
  refine s_val hF rfl rfl rfl (e_assign hF rfl) ?_; intro a hF
  refine s_nil ?_
  refine then_n ?_
  refine wp_seq ?_
  refine wp_seq ?_
  refine s_region ?_
  refine s_val hF rfl rfl rfl (e_move hF rfl) ?_; intro a hF
  refine s_val hF rfl rfl rfl (e_len hF rfl (q0.frm hM.frm).toF Try.underlying32) ?_; intro a hF
  refine s_val hF rfl rfl rfl (e_move hF rfl) ?_; intro a hF
  refine s_nil ?_
  refine then_n ?_
  refine wp_block ?_
  obtain ⟨o20, h21, H⟩ := bind_some H
  refine wp_mono (Q := fun e a w => (e = Exit.exit 0 ∧ Sum.inl () = o20 ∧ Fr 19 a [] ∧ Ms [] w0 w []) ∨ (e = Exit.ret ∧ ∃ r22 : Int, Sum.inr r22 = o20 ∧ Fr 19 a [(4, Value.int .i64 r22)] ∧ Ms [] w0 w [])) ?_ ?_
  · refine s_loop (fun kq a w => ∃ x14 : Int, slices_IndexFunc_int_int__areAll_int_1_isFace.l0 K l0 kq x14 = some o20 ∧ Fr 19 a [(0, u0), (1, Value.func (.func 84) #[] #[pt b1 0]), (7, Value.int .i64 (l0.length : Int)), (8, Value.int .i64 x14)] ∧ Ms [] w0 w []) K ⟨0, h21, hF.sub _ ⟨rfl, rfl, rfl, rfl, trivial⟩, hM.pick [] rfl rfl⟩ ?_ ?_
    · rintro a w ⟨_, H, _⟩; exact none_some H
    · rintro k a w ⟨x14, H, hF, hM⟩; rw [slices_IndexFunc_int_int__areAll_int_1_isFace.l0] at H
      refine wp_seq ?_
      refine s_region ?_
      refine s_val hF rfl rfl rfl (e_lss hF rfl rfl) ?_; intro a hF
      refine s_nil ?_
      refine then_n ?_
      refine wp_seq ?_
      rcases ite_cases H with ⟨c15, H⟩ | ⟨c15, H⟩
      ·
        refine s_cond_t hF rfl (decide_eq_true c15) ?_
        refine wp_skip ?_
        refine then_n ?_
        refine wp_seq ?_
        refine wp_block ?_
        refine wp_seq ?_
        refine s_region ?_
        refine s_val hF rfl rfl rfl (e_move hF rfl) ?_; intro a hF
        refine s_val hF rfl rfl rfl (e_assign hF rfl) ?_; intro a hF
        refine s_nil ?_
        refine then_n ?_
        refine wp_seq ?_
        obtain ⟨c16, H⟩ := ite_some H
        obtain ⟨t17, h18, H⟩ := bind_some H
        refine s_region ?_
        refine s_val hF rfl rfl rfl (e_move hF rfl) ?_; intro a hF
        refine s_val hF rfl rfl rfl (e_move hF rfl) ?_; intro a hF
        refine s_val hF rfl rfl rfl (e_move hF rfl) ?_; intro a hF
        refine s_val hF rfl rfl rfl (e_ias cd3 hF rfl rfl (q0.frm hM.frm).toF Try.underlying32 Try.sizeOf3 c16.1 c16.2) ?_; intro a hF
        refine s_val hF rfl rfl rfl (e_lds (m := x14) hF rfl (q0.frm hM.frm) (getD_some (z := (0 : Int)) c16.1 c16.2) rfl rfl Try.isAgg3) ?_; intro a hF
        refine s_callv hF rfl rfl rfl rfl (callsV_of Try.call84 (impl_areAll_int_1__isFace.calls K (l0.getD (x14 : Int).toNat (0 : Int)) b1 (box_frm q2 hM.frm) t17 h18)) ?_; intro a w v hF ⟨hf, hR⟩
        subst hR; have hM := hM.grow hf
        refine s_nil ?_
        refine then_n ?_
        rcases ite_cases H with ⟨c19, H⟩ | ⟨c19, H⟩
        ·
          refine s_cond_t hF rfl c19 ?_
          refine wp_seq ?_
          refine s_region ?_
          refine s_val hF rfl rfl rfl (e_move hF rfl) ?_; intro a hF
          refine s_val hF rfl rfl rfl (e_assign hF rfl) ?_; intro a hF
          refine s_nil ?_
          refine then_n ?_
          refine wp_ret ?_
          refine blk_r ?_
          refine then_r ?_
          refine then_r ?_
          exact Or.inr (⟨rfl, x14, some_some H, hF.sub _ ⟨rfl, trivial⟩, hM.pick [] rfl rfl⟩)
        ·
          refine s_cond_f hF rfl (bf c19) ?_
          refine wp_skip ?_
          refine blk_n ?_
          refine then_n ?_
          refine s_region ?_
          refine s_val hF rfl rfl rfl (e_add hF rfl rfl) ?_; intro a hF
          refine s_val hF rfl rfl rfl (e_move hF rfl) ?_; intro a hF
          refine s_nil ?_
          refine then_n ?_
          exact ⟨(wrap64 (x14 + 1)), H, hF.sub _ ⟨rfl, rfl, rfl, rfl, trivial⟩, hM.pick [] rfl rfl⟩
      ·
        refine s_cond_f hF rfl (decide_eq_false c15) ?_
        refine wp_exit ?_
        refine then_x ?_
        refine then_x ?_
        exact Or.inl (⟨rfl, some_some H, hF.sub _ trivial, hM.pick [] rfl rfl⟩)
  · rintro e a w (⟨rfl, rfl, hF, hM⟩ | ⟨rfl, r22, rfl, hF, hM⟩)
    ·
      dsimp only at H
      refine blk_x ?_
      refine then_n ?_
      refine wp_seq ?_
      refine s_region ?_
      refine s_val hF rfl rfl rfl (e_assign hF rfl) ?_; intro a hF
      refine s_nil ?_
      refine then_n ?_
      refine wp_ret ?_
      obtain rfl := some_some H
      refine s_ret [Value.int .i64 (-1)] hF Try.results91 ⟨rfl, trivial⟩ ?_
      exact ⟨_, rfl, hM.frm, rfl⟩
    ·
      dsimp only at H
      refine blk_r ?_
      refine then_r ?_
      obtain rfl := some_some H
      refine s_ret [Value.int .i64 r22] hF Try.results91 ⟨rfl, trivial⟩ ?_
      exact ⟨_, rfl, hM.frm, rfl⟩

/-! ### slices.ContainsFunc[[]int,int]: function 83 -/
def slices_ContainsFunc_int_int__areAll_int_1_isFace.f (K : Nat) (l0 : (List Int)) : Option Bool := (slices_IndexFunc_int_int__areAll_int_1_isFace.f K l0).bind fun t3 => some (decide (0 ≤ t3))
set_option maxRecDepth 100000 in
set_option maxHeartbeats 4000000 in
theorem slices_ContainsFunc_int_int__areAll_int_1_isFace.calls {w0 : World} (K : Nat) (l0 : (List Int)) (u0 : Value) (q0 : SlR cd3 w0 u0 l0) (b1 : Nat) (q2 : (boxR b1 [Pt.val (Value.func (.func 94) #[] #[]) rfl] 24).holds w0) (r : Bool) (H : slices_ContainsFunc_int_int__areAll_int_1_isFace.f K l0 = some r) : Calls Try.prog 83 [u0, Value.func (.func 84) #[] #[pt b1 0]].toArray w0 (Post w0 fun w v => v = Value.bool r) := by
  rw [slices_ContainsFunc_int_int__areAll_int_1_isFace.f] at H
  refine s_start Try.func83 rfl Try.ntmps83 rfl ?_
  intro a hF
  have hM := Ms.start w0
  skip
  refine wp_seq ?_
  refine s_region ?_
  refine s_val hF rfl rfl rfl (e_assign hF rfl) ?_; intro a hF
  refine s_nil ?_
  refine then_n ?_
  refine wp_seq ?_
  obtain ⟨t3, h4, H⟩ := bind_some H
  refine s_region ?_
  refine s_val hF rfl rfl rfl (e_move hF rfl) ?_; intro a hF
  refine s_val hF rfl rfl rfl (e_move hF rfl) ?_; intro a hF
  refine s_call hF rfl rfl rfl Try.call91 (slices_IndexFunc_int_int__areAll_int_1_isFace.calls K l0 u0 (q0.frm hM.frm) b1 (box_frm q2 hM.frm) t3 h4) ?_; intro a w v hF hf hR
  subst hR; have hM := hM.grow hf
  refine s_val hF rfl rfl rfl (e_geq hF rfl rfl) ?_; intro a hF
  refine s_val hF rfl rfl rfl (e_assign hF rfl) ?_; intro a hF
  refine s_nil ?_
  refine then_n ?_
  refine wp_ret ?_
  obtain rfl := some_some H
  refine s_ret [Value.bool (decide (0 ≤ t3))] hF Try.results83 ⟨rfl, trivial⟩ ?_
  exact ⟨_, rfl, hM.frm, rfl⟩

/-! ### loop.example/g01210/impl.areAll[int]: function 69 -/
def impl_areAll_int__isFace.f (K : Nat) (l0 : (List Int)) : Option Bool := (slices_ContainsFunc_int_int__areAll_int_1_isFace.f K l0).bind fun t2 => some (!t2)
set_option maxRecDepth 100000 in
set_option maxHeartbeats 4000000 in
theorem impl_areAll_int__isFace.calls {w0 : World} (K : Nat) (l0 : (List Int)) (u0 : Value) (q0 : SlR cd3 w0 u0 l0) (r : Bool) (H : impl_areAll_int__isFace.f K l0 = some r) : Calls Try.prog 69 [u0, Value.func (.func 94) #[] #[]].toArray w0 (Post w0 fun w v => v = Value.bool r) := by
  rw [impl_areAll_int__isFace.f] at H
  refine s_start Try.func69 rfl Try.ntmps69 rfl ?_
  intro a hF
  have hM := Ms.start w0
  skip
  refine wp_seq ?_
  refine s_region ?_
  refine s_box (ps := [Pt.val (Value.func (.func 94) #[] #[]) rfl]) hF hM rfl rfl rfl rfl ?_; intro a w b1 hF hM
  refine s_val hF rfl rfl rfl (e_assign hF rfl) ?_; intro a hF
  refine s_nil ?_
  refine then_n ?_
  refine wp_seq ?_
  obtain ⟨t2, h3, H⟩ := bind_some H
  refine s_region ?_
  refine s_val hF rfl rfl rfl (e_move hF rfl) ?_; intro a hF
  refine s_val hF rfl rfl rfl (e_mkfunc (hF.evs' rfl)) ?_; intro a hF
  refine s_call hF rfl rfl rfl Try.call83 (slices_ContainsFunc_int_int__areAll_int_1_isFace.calls K l0 u0 (q0.frm hM.frm) b1 (hM.get 0 rfl) t2 h3) ?_; intro a w v hF hf hR
  subst hR; have hM := hM.grow hf
  refine s_val hF rfl rfl rfl (e_not hF rfl) ?_; intro a hF
  refine s_val hF rfl rfl rfl (e_assign hF rfl) ?_; intro a hF
  refine s_nil ?_
  refine then_n ?_
  refine wp_ret ?_
  obtain rfl := some_some H
  refine s_ret [Value.bool (!t2)] hF Try.results69 ⟨rfl, trivial⟩ ?_
  exact ⟨_, rfl, hM.frm, rfl⟩

/-! ### cmp.isNaN[int]: function 98 -/
def cmp_isNaN_int.f (K : Nat) (a0 : Int) : Option Bool := some (!(decide (a0 = a0)))
set_option maxRecDepth 100000 in
set_option maxHeartbeats 4000000 in
theorem cmp_isNaN_int.calls {w0 : World} (K : Nat) (a0 : Int) (r : Bool) (H : cmp_isNaN_int.f K a0 = some r) : Calls Try.prog 98 [Value.int .i64 a0].toArray w0 (Post w0 fun w v => v = Value.bool r) := by
  rw [cmp_isNaN_int.f] at H
  refine s_start Try.func98 rfl Try.ntmps98 rfl ?_
  intro a hF
  have hM := Ms.start w0
  skip
  refine wp_seq ?_
  refine s_region ?_
  refine s_val hF rfl rfl rfl (e_assign hF rfl) ?_; intro a hF
  refine s_nil ?_
  refine then_n ?_
  refine wp_seq ?_
  refine s_region ?_
  refine s_val hF rfl rfl rfl (e_move hF rfl) ?_; intro a hF
  refine s_val hF rfl rfl rfl (e_move hF rfl) ?_; intro a hF
  refine s_val hF rfl rfl rfl (e_neq hF rfl rfl) ?_; intro a hF
  refine s_val hF rfl rfl rfl (e_assign hF rfl) ?_; intro a hF
  refine s_nil ?_
  refine then_n ?_
  refine wp_ret ?_
  obtain rfl := some_some H
  refine s_ret [Value.bool (!(decide (a0 = a0)))] hF Try.results98 ⟨rfl, trivial⟩ ?_
  exact ⟨_, rfl, hM.frm, rfl⟩

/-! ### cmp.Less[int]: function 97 -/
def cmp_Less_int.f (K : Nat) (a0 : Int) (a1 : Int) : Option Bool := (cmp_isNaN_int.f K a0).bind fun t1 => if t1 = true then ((cmp_isNaN_int.f K a1).bind fun t4 => if t4 = true then (some (decide (a0 < a1))) else (some true)) else (some (decide (a0 < a1)))
set_option maxRecDepth 100000 in
set_option maxHeartbeats 4000000 in
theorem cmp_Less_int.calls {w0 : World} (K : Nat) (a0 : Int) (a1 : Int) (r : Bool) (H : cmp_Less_int.f K a0 a1 = some r) : Calls Try.prog 97 [Value.int .i64 a0, Value.int .i64 a1].toArray w0 (Post w0 fun w v => v = Value.bool r) := by
  rw [cmp_Less_int.f] at H
  refine s_start Try.func97 rfl Try.ntmps97 rfl ?_
  intro a hF
  have hM := Ms.start w0
  skip
  refine wp_seq ?_
  refine s_region ?_
  refine s_val hF rfl rfl rfl (e_assign hF rfl) ?_; intro a hF
  refine s_nil ?_
  refine then_n ?_
  refine wp_seq ?_
  obtain ⟨t1, h2, H⟩ := bind_some H
  rcases ite_cases H with ⟨c3, H⟩ | ⟨c3, H⟩
  ·
    obtain ⟨t4, h5, H⟩ := bind_some H
    rcases ite_cases H with ⟨c6, H⟩ | ⟨c6, H⟩
    ·
      refine s_region ?_
      refine s_val hF rfl rfl rfl (e_move hF rfl) ?_; intro a hF
      refine s_call hF rfl rfl rfl Try.call98 (cmp_isNaN_int.calls K a0 t1 h2) ?_; intro a w v hF hf hR
      subst hR; have hM := hM.grow hf
      refine s_val hF rfl rfl rfl (e_move hF rfl) ?_; intro a hF
      have hF := hF.topb c3
      refine s_val hF rfl rfl rfl (e_move hF rfl) ?_; intro a hF
      refine s_call hF rfl rfl rfl Try.call98 (cmp_isNaN_int.calls K a1 t4 h5) ?_; intro a w v hF hf hR
      subst hR; have hM := hM.grow hf
      refine s_val hF rfl rfl rfl (e_not hF rfl) ?_; intro a hF
      refine s_val hF rfl rfl rfl (e_pick_t hF rfl rfl) ?_; intro a hF
      refine s_val hF rfl rfl rfl (e_move hF rfl) ?_; intro a hF
      have hF := hF.topb (congrArg Bool.not c6)
      refine s_val hF rfl rfl rfl (e_move hF rfl) ?_; intro a hF
      refine s_val hF rfl rfl rfl (e_move hF rfl) ?_; intro a hF
      refine s_val hF rfl rfl rfl (e_lss hF rfl rfl) ?_; intro a hF
      refine s_val hF rfl rfl rfl (e_pick_f hF rfl rfl) ?_; intro a hF
      refine s_val hF rfl rfl rfl (e_assign hF rfl) ?_; intro a hF
      refine s_nil ?_
      refine then_n ?_
      refine wp_ret ?_
      obtain rfl := some_some H
      refine s_ret [Value.bool (decide (a0 < a1))] hF Try.results97 ⟨rfl, trivial⟩ ?_
      exact ⟨_, rfl, hM.frm, rfl⟩
    ·
      refine s_region ?_
      refine s_val hF rfl rfl rfl (e_move hF rfl) ?_; intro a hF
      refine s_call hF rfl rfl rfl Try.call98 (cmp_isNaN_int.calls K a0 t1 h2) ?_; intro a w v hF hf hR
      subst hR; have hM := hM.grow hf
      refine s_val hF rfl rfl rfl (e_move hF rfl) ?_; intro a hF
      have hF := hF.topb c3
      refine s_val hF rfl rfl rfl (e_move hF rfl) ?_; intro a hF
      refine s_call hF rfl rfl rfl Try.call98 (cmp_isNaN_int.calls K a1 t4 h5) ?_; intro a w v hF hf hR
      subst hR; have hM := hM.grow hf
      refine s_val hF rfl rfl rfl (e_not hF rfl) ?_; intro a hF
      refine s_val hF rfl rfl rfl (e_pick_t hF rfl rfl) ?_; intro a hF
      refine s_val hF rfl rfl rfl (e_move hF rfl) ?_; intro a hF
      have hF := hF.topb (congrArg Bool.not (bf c6))
      refine s_skip hF rfl rfl rfl ?_; intro a hF
      refine s_skip hF rfl rfl rfl ?_; intro a hF
      refine s_skip hF rfl rfl rfl ?_; intro a hF
      refine s_val hF rfl rfl rfl (e_pick_t hF rfl rfl) ?_; intro a hF
      refine s_val hF rfl rfl rfl (e_assign hF rfl) ?_; intro a hF
      refine s_nil ?_
      refine then_n ?_
      refine wp_ret ?_
      obtain rfl := some_some H
      refine s_ret [Value.bool true] hF Try.results97 ⟨rfl, trivial⟩ ?_
      exact ⟨_, rfl, hM.frm, rfl⟩
  ·
    refine s_region ?_
    refine s_val hF rfl rfl rfl (e_move hF rfl) ?_; intro a hF
    refine s_call hF rfl rfl rfl Try.call98 (cmp_isNaN_int.calls K a0 t1 h2) ?_; intro a w v hF hf hR
    subst hR; have hM := hM.grow hf
    refine s_val hF rfl rfl rfl (e_move hF rfl) ?_; intro a hF
    have hF := hF.topb (bf c3)
    refine s_skip hF rfl rfl rfl ?_; intro a hF
    refine s_skip hF rfl rfl rfl ?_; intro a hF
    refine s_skip hF rfl rfl rfl ?_; intro a hF
    refine s_val hF rfl rfl rfl (e_pick_f hF rfl rfl) ?_; intro a hF
    refine s_val hF rfl rfl rfl (e_move hF rfl) ?_; intro a hF
    refine s_val hF rfl rfl rfl (e_move hF rfl) ?_; intro a hF
    refine s_val hF rfl rfl rfl (e_move hF rfl) ?_; intro a hF
    refine s_val hF rfl rfl rfl (e_lss hF rfl rfl) ?_; intro a hF
    refine s_val hF rfl rfl rfl (e_pick_f hF rfl rfl) ?_; intro a hF
    refine s_val hF rfl rfl rfl (e_assign hF rfl) ?_; intro a hF
    refine s_nil ?_
    refine then_n ?_
    refine wp_ret ?_
    obtain rfl := some_some H
    refine s_ret [Value.bool (decide (a0 < a1))] hF Try.results97 ⟨rfl, trivial⟩ ?_
    exact ⟨_, rfl, hM.frm, rfl⟩

/-! ### slices.IsSorted[[]int,int]: function 95 -/
def slices_IsSorted_int_int.l0 (K : Nat) (l0 : (List Int)) : Nat → Int → Option (Sum Unit Bool)
  | 0, _ => none
  | k + 1, x14 => if 0 < x14 then (if (0 : Int) ≤ x14 ∧ x14 < (l0.length : Int) then (if (0 : Int) ≤ (wrap64 (x14 - 1)) ∧ (wrap64 (x14 - 1)) < (l0.length : Int) then ((cmp_Less_int.f K (l0.getD (x14 : Int).toNat (0 : Int)) (l0.getD ((wrap64 (x14 - 1)) : Int).toNat (0 : Int))).bind fun t18 => if t18 = true then (some (Sum.inr false)) else (slices_IsSorted_int_int.l0 K l0 k (wrap64 (x14 - 1)))) else none) else none) else (some (Sum.inl ()))
def slices_IsSorted_int_int.f (K : Nat) (l0 : (List Int)) : Option Bool := (slices_IsSorted_int_int.l0 K l0 K (wrap64 ((l0.length : Int) - 1))).bind fun o23 => (match o23 with | .inl () => some true | .inr r25 => some r25)
set_option maxRecDepth 100000 in
set_option maxHeartbeats 4000000 in
theorem slices_IsSorted_int_int.calls {w0 : World} (K : Nat) (l0 : (List Int)) (u0 : Value) (q0 : SlR cd3 w0 u0 l0) (r : Bool) (H : slices_IsSorted_int_int.f K l0 = some r) : Calls Try.prog 95 [u0].toArray w0 (Post w0 fun w v => v = Value.bool r) := by
  rw [slices_IsSorted_int_int.f] at H
  refine s_start Try.func95 rfl Try.ntmps95 rfl ?_
  intro a hF
  have hM := Ms.start w0
  skip
  refine wp_seq ?_
  refine s_region ?_
  refine s_val hF rfl rfl rfl (e_assign hF rfl) ?_; intro a hF
  refine s_nil ?_
  refine then_n ?_
  refine wp_seq ?_
  refine wp_seq ?_
  refine s_region ?_
  refine s_val hF rfl rfl rfl (e_move hF rfl) ?_; intro a hF
  refine s_val hF rfl rfl rfl (e_len hF rfl (q0.frm hM.frm).toF Try.underlying32) ?_; intro a hF
  refine s_val hF rfl rfl rfl (e_sub hF rfl rfl) ?_; intro a hF
  refine s_val hF rfl rfl rfl (e_assign hF rfl) ?_; intro a hF
  refine s_nil ?_
  refine then_n ?_
  refine wp_block ?_
  obtain ⟨o23, h24, H⟩ := bind_some H
  refine wp_mono (Q := fun e a w => (e = Exit.exit 0 ∧ Sum.inl () = o23 ∧ Fr 21 a [] ∧ Ms [] w0 w []) ∨ (e = Exit.ret ∧ ∃ r25 : Bool, Sum.inr r25 = o23 ∧ Fr 21 a [(2, Value.bool r25)] ∧ Ms [] w0 w [])) ?_ ?_
  · refine s_loop (fun kq a w => ∃ x14 : Int, slices_IsSorted_int_int.l0 K l0 kq x14 = some o23 ∧ Fr 21 a [(0, u0), (3, Value.int .i64 x14)] ∧ Ms [] w0 w []) K ⟨(wrap64 ((l0.length : Int) - 1)), h24, hF.sub _ ⟨rfl, rfl, trivial⟩, hM.pick [] rfl rfl⟩ ?_ ?_
    · rintro a w ⟨_, H, _⟩; exact none_some H
    · rintro k a w ⟨x14, H, hF, hM⟩; rw [slices_IsSorted_int_int.l0] at H
      refine wp_seq ?_
      refine wp_seq ?_
      refine s_region ?_
      refine s_val hF rfl rfl rfl (e_move hF rfl) ?_; intro a hF
      refine s_val hF rfl rfl rfl (e_gtr hF rfl rfl) ?_; intro a hF
      refine s_nil ?_
      refine then_n ?_
      rcases ite_cases H with ⟨c15, H⟩ | ⟨c15, H⟩
      ·
        refine s_cond_t hF rfl (decide_eq_true c15) ?_
        refine wp_skip ?_
        refine then_n ?_
        refine wp_seq ?_
        refine wp_block ?_
        refine wp_seq ?_
        obtain ⟨c16, H⟩ := ite_some H
        obtain ⟨c17, H⟩ := ite_some H
        obtain ⟨t18, h19, H⟩ := bind_some H
        refine s_held (fun w => Ms [] w0 w []) #[false, false, false, false, false, false, false, false, false, false] mixed rfl rfl hM ?_; intro w hf hM; clear hf
        refine h_val 0 #[true, false, false, false, false, false, false, false, false, false] rfl (by kernel_rfl) hF rfl rfl rfl (fun w hS => e_move hF rfl) (hM.pick [] rfl rfl) ?_; intro a hF
        refine h_val 1 #[true, true, false, false, false, false, false, false, false, false] rfl (by kernel_rfl) hF rfl rfl rfl (fun w hS => e_move hF rfl) (hM.pick [] rfl rfl) ?_; intro a hF
        have f20 := (q0.frm hM.frm).toF
        refine h_val 2 #[true, true, true, false, false, false, false, false, false, false] rfl (by kernel_rfl) hF rfl rfl rfl (fun w hS => e_ias cd3 hF rfl rfl f20 Try.underlying32 Try.sizeOf3 c16.1 c16.2) (hM.pick [] rfl rfl) ?_; intro a hF
        refine h_val 3 #[true, true, true, true, false, false, false, false, false, false] rfl (by kernel_rfl) hF rfl rfl rfl (fun w hS => e_lds (m := x14) hF rfl (q0.frm hS.frm) (getD_some (z := (0 : Int)) c16.1 c16.2) rfl rfl Try.isAgg3) (hM.pick [] rfl rfl) ?_; intro a hF
        refine h_val 4 #[true, true, true, true, true, false, false, false, false, false] rfl (by kernel_rfl) hF rfl rfl rfl (fun w hS => e_move hF rfl) (hM.pick [] rfl rfl) ?_; intro a hF
        refine h_val 5 #[true, true, true, true, true, true, false, false, false, false] rfl (by kernel_rfl) hF rfl rfl rfl (fun w hS => e_move hF rfl) (hM.pick [] rfl rfl) ?_; intro a hF
        refine h_val 6 #[true, true, true, true, true, true, true, false, false, false] rfl (by kernel_rfl) hF rfl rfl rfl (fun w hS => e_sub hF rfl rfl) (hM.pick [] rfl rfl) ?_; intro a hF
        have f21 := (q0.frm hM.frm).toF
        refine h_val 7 #[true, true, true, true, true, true, true, true, false, false] rfl (by kernel_rfl) hF rfl rfl rfl (fun w hS => e_ias cd3 hF rfl rfl f21 Try.underlying32 Try.sizeOf3 c17.1 c17.2) (hM.pick [] rfl rfl) ?_; intro a hF
        refine h_val 8 #[true, true, true, true, true, true, true, true, true, false] rfl (by kernel_rfl) hF rfl rfl rfl (fun w hS => e_lds (m := (wrap64 (x14 - 1))) hF rfl (q0.frm hS.frm) (getD_some (z := (0 : Int)) c17.1 c17.2) rfl rfl Try.isAgg3) (hM.pick [] rfl rfl) ?_; intro a hF
        refine h_one 9 #[true, true, true, true, true, true, true, true, true, true] rfl (by kernel_rfl) ?_
        refine s_call hF rfl rfl rfl Try.call97 (cmp_Less_int.calls K (l0.getD (x14 : Int).toNat (0 : Int)) (l0.getD ((wrap64 (x14 - 1)) : Int).toNat (0 : Int)) t18 h19) ?_; intro a w v hF hf hR
        subst hR; have hM := hM.grow hf
        refine s_nil ⟨rfl, (hM.pick [] rfl rfl), ?_⟩
        refine h_done rfl ?_
        refine then_n ?_
        rcases ite_cases H with ⟨c22, H⟩ | ⟨c22, H⟩
        ·
          refine s_cond_t hF rfl c22 ?_
          refine wp_seq ?_
          refine s_region ?_
          refine s_val hF rfl rfl rfl (e_assign hF rfl) ?_; intro a hF
          refine s_nil ?_
          refine then_n ?_
          refine wp_ret ?_
          refine blk_r ?_
          refine then_r ?_
          refine then_r ?_
          exact Or.inr (⟨rfl, false, some_some H, hF.sub _ ⟨rfl, trivial⟩, hM.pick [] rfl rfl⟩)
        ·
          refine s_cond_f hF rfl (bf c22) ?_
          refine wp_skip ?_
          refine blk_n ?_
          refine then_n ?_
          refine s_region ?_
          refine s_val hF rfl rfl rfl (e_move hF rfl) ?_; intro a hF
          refine s_val hF rfl rfl rfl (e_sub hF rfl rfl) ?_; intro a hF
          refine s_val hF rfl rfl rfl (e_assign hF rfl) ?_; intro a hF
          refine s_nil ?_
          refine then_n ?_
          exact ⟨(wrap64 (x14 - 1)), H, hF.sub _ ⟨rfl, rfl, trivial⟩, hM.pick [] rfl rfl⟩
      ·
        refine s_cond_f hF rfl (decide_eq_false c15) ?_
        refine wp_exit ?_
        refine then_x ?_
        refine then_x ?_
        exact Or.inl (⟨rfl, some_some H, hF.sub _ trivial, hM.pick [] rfl rfl⟩)
  · rintro e a w (⟨rfl, rfl, hF, hM⟩ | ⟨rfl, r25, rfl, hF, hM⟩)
    ·
      dsimp only at H
      refine blk_x ?_
      refine then_n ?_
      refine wp_seq ?_
      refine s_region ?_
      refine s_val hF rfl rfl rfl (e_assign hF rfl) ?_; intro a hF
      refine s_nil ?_
      refine then_n ?_
      refine wp_ret ?_
      obtain rfl := some_some H
      refine s_ret [Value.bool true] hF Try.results95 ⟨rfl, trivial⟩ ?_
      exact ⟨_, rfl, hM.frm, rfl⟩
    ·
      dsimp only at H
      refine blk_r ?_
      refine then_r ?_
      obtain rfl := some_some H
      refine s_ret [Value.bool r25] hF Try.results95 ⟨rfl, trivial⟩ ?_
      exact ⟨_, rfl, hM.frm, rfl⟩

/-! ### loop.example/g01210/impl.IsDie: function 89 -/
def impl_IsDie.f (K : Nat) (a0 : (Ar 6)) : Option Bool := (impl_areAll_int__isFace.f K a0.l).bind fun t2 => if t2 = true then ((slices_IsSorted_int_int.f K a0.l).bind fun t5 => some t5) else (some false)
set_option maxRecDepth 100000 in
set_option maxHeartbeats 4000000 in
theorem impl_IsDie.calls {w0 : World} (K : Nat) (a0 : (Ar 6)) (r : Bool) (H : impl_IsDie.f K a0 = some r) : Calls Try.prog 89 [ag [Pt.ar a0]].toArray w0 (Post w0 fun w v => v = Value.bool r) := by
  rw [impl_IsDie.f] at H
  refine s_start Try.func89 rfl Try.ntmps89 rfl ?_
  intro a hF
  have hM := Ms.start w0
  skip
  refine wp_seq ?_
  refine s_region ?_
  refine s_box (ps := [Pt.ar a0]) hF hM rfl rfl rfl rfl ?_; intro a w b1 hF hM
  refine s_val hF rfl rfl rfl (e_assign hF rfl) ?_; intro a hF
  refine s_nil ?_
  refine then_n ?_
  refine wp_seq ?_
  obtain ⟨t2, h3, H⟩ := bind_some H
  rcases ite_cases H with ⟨c4, H⟩ | ⟨c4, H⟩
  ·
    obtain ⟨t5, h6, H⟩ := bind_some H
    refine s_region ?_
    refine s_val hF rfl rfl rfl (e_slA0 hF rfl Try.underlying70 Try.sizeOf3) ?_; intro a hF
    refine s_call hF rfl rfl rfl Try.call69 (impl_areAll_int__isFace.calls K a0.l (Value.slice (some ⟨b1, 0, none⟩) 6 6) (hM.boxSl (k := 0) (m := 6) 0 rfl rfl rfl cd3 (fun _ => rfl) 6 (by decide)) t2 h3) ?_; intro a w v hF hf hR
    subst hR; have hM := hM.grow hf
    refine s_val hF rfl rfl rfl (e_move hF rfl) ?_; intro a hF
    have hF := hF.topb c4
    refine s_val hF rfl rfl rfl (e_slA0 hF rfl Try.underlying70 Try.sizeOf3) ?_; intro a hF
    refine s_call hF rfl rfl rfl Try.call95 (slices_IsSorted_int_int.calls K a0.l (Value.slice (some ⟨b1, 0, none⟩) 6 6) (hM.boxSl (k := 0) (m := 6) 0 rfl rfl rfl cd3 (fun _ => rfl) 6 (by decide)) t5 h6) ?_; intro a w v hF hf hR
    subst hR; have hM := hM.grow hf
    refine s_val hF rfl rfl rfl (e_pick_t hF rfl rfl) ?_; intro a hF
    refine s_val hF rfl rfl rfl (e_assign hF rfl) ?_; intro a hF
    refine s_nil ?_
    refine then_n ?_
    refine wp_ret ?_
    obtain rfl := some_some H
    refine s_ret [Value.bool t5] hF Try.results89 ⟨rfl, trivial⟩ ?_
    exact ⟨_, rfl, hM.frm, rfl⟩
  ·
    refine s_region ?_
    refine s_val hF rfl rfl rfl (e_slA0 hF rfl Try.underlying70 Try.sizeOf3) ?_; intro a hF
    refine s_call hF rfl rfl rfl Try.call69 (impl_areAll_int__isFace.calls K a0.l (Value.slice (some ⟨b1, 0, none⟩) 6 6) (hM.boxSl (k := 0) (m := 6) 0 rfl rfl rfl cd3 (fun _ => rfl) 6 (by decide)) t2 h3) ?_; intro a w v hF hf hR
    subst hR; have hM := hM.grow hf
    refine s_val hF rfl rfl rfl (e_move hF rfl) ?_; intro a hF
    have hF := hF.topb (bf c4)
    refine s_skip hF rfl rfl rfl ?_; intro a hF
    refine s_skip hF rfl rfl rfl ?_; intro a hF
    refine s_val hF rfl rfl rfl (e_pick_f hF rfl rfl) ?_; intro a hF
    refine s_val hF rfl rfl rfl (e_assign hF rfl) ?_; intro a hF
    refine s_nil ?_
    refine then_n ?_
    refine wp_ret ?_
    obtain rfl := some_some H
    refine s_ret [Value.bool false] hF Try.results89 ⟨rfl, trivial⟩ ?_
    exact ⟨_, rfl, hM.frm, rfl⟩

/-! ### loop.example/g01210/impl.areAll[[6]int]$1: function 93 -/
def impl_areAll_6_int_1__IsDie.f (K : Nat) (a0 : (Ar 6)) : Option Bool := (impl_IsDie.f K a0).bind fun t4 => some (!t4)
set_option maxRecDepth 100000 in
set_option maxHeartbeats 4000000 in
theorem impl_areAll_6_int_1__IsDie.calls {w0 : World} (K : Nat) (a0 : (Ar 6)) (b1 : Nat) (q2 : (boxR b1 [Pt.val (Value.func (.func 89) #[] #[]) rfl] 73).holds w0) (r : Bool) (H : impl_areAll_6_int_1__IsDie.f K a0 = some r) : Calls Try.prog 93 [ag [Pt.ar a0], pt b1 0].toArray w0 (Post w0 fun w v => v = Value.bool r) := by
  rw [impl_areAll_6_int_1__IsDie.f] at H
  refine s_start Try.func93 rfl Try.ntmps93 rfl ?_
  intro a hF
  have hM := Ms.start w0
  skip
  refine wp_seq ?_
  refine s_region ?_
  refine s_box (ps := [Pt.ar a0]) hF hM rfl rfl rfl rfl ?_; intro a w b3 hF hM
  refine s_val hF rfl rfl rfl (e_assign hF rfl) ?_; intro a hF
  refine s_nil ?_
  refine then_n ?_
  refine wp_seq ?_
  obtain ⟨t4, h5, H⟩ := bind_some H
  refine s_region ?_
  refine s_val hF rfl rfl rfl (e_ldb (k := 0) hF (box_frm q2 hM.frm) rfl rfl rfl Try.isAgg73 rfl) ?_; intro a hF
  refine s_val hF rfl rfl rfl (e_lda (i := 0) 0 1 hF hM rfl rfl rfl rfl Try.isAgg70 Try.sizeOf70 rfl) ?_; intro a hF
  refine s_callv hF rfl rfl rfl rfl (callsV_of Try.call89 (impl_IsDie.calls K a0 t4 h5)) ?_; intro a w v hF ⟨hf, hR⟩
  subst hR; have hM := hM.grow hf
  refine s_val hF rfl rfl rfl (e_not hF rfl) ?_; intro a hF
  refine s_val hF rfl rfl rfl (e_assign hF rfl) ?_; intro a hF
  refine s_nil ?_
  refine then_n ?_
  refine wp_ret ?_
  obtain rfl := some_some H
  refine s_ret [Value.bool (!t4)] hF Try.results93 ⟨rfl, trivial⟩ ?_
  exact ⟨_, rfl, hM.frm, rfl⟩

/-! ### slices.IndexFunc[[][6]int,[6]int]: function 96 -/
def slices_IndexFunc_6_int_6_int__areAll_6_int_1_IsDie.l0 (K : Nat) (l0 : (List (Ar 6))) : Nat → Int → Option (Sum Unit Int)
  | 0, _ => none
  | k + 1, x14 => if x14 < (l0.length : Int) then (if (0 : Int) ≤ x14 ∧ x14 < (l0.length : Int) then ((impl_areAll_6_int_1__IsDie.f K (l0.getD (x14 : Int).toNat (Ar.zero 6))).bind fun t17 => if t17 = true then (some (Sum.inr x14)) else (slices_IndexFunc_6_int_6_int__areAll_6_int_1_IsDie.l0 K l0 k (wrap64 (x14 + 1)))) else none) else (some (Sum.inl ()))
def slices_IndexFunc_6_int_6_int__areAll_6_int_1_IsDie.f (K : Nat) (l0 : (List (Ar 6))) : Option Int := (slices_IndexFunc_6_int_6_int__areAll_6_int_1_IsDie.l0 K l0 K 0).bind fun o20 => (match o20 with | .inl () => some (-1) | .inr r22 => some r22)
set_option maxRecDepth 100000 in
set_option maxHeartbeats 4000000 in
theorem slices_IndexFunc_6_int_6_int__areAll_6_int_1_IsDie.calls {w0 : World} (K : Nat) (l0 : (List (Ar 6))) (u0 : Value) (q0 : SlR cd70 w0 u0 l0) (b1 : Nat) (q2 : (boxR b1 [Pt.val (Value.func (.func 89) #[] #[]) rfl] 73).holds w0) (r : Int) (H : slices_IndexFunc_6_int_6_int__areAll_6_int_1_IsDie.f K l0 = some r) : Calls Try.prog 96 [u0, Value.func (.func 93) #[] #[pt b1 0]].toArray w0 (Post w0 fun w v => v = Value.int .i64 r) := by
  rw [slices_IndexFunc_6_int_6_int__areAll_6_int_1_IsDie.f] at H
  refine s_start Try.func96 rfl Try.ntmps96 rfl ?_
  intro a hF
  have hM := Ms.start w0
  skip
  refine wp_seq ?_
  refine s_region ?_
  refine s_val hF rfl rfl rfl (e_assign hF rfl) ?_; intro a hF
  refine s_nil ?_
  refine then_n ?_
  refine wp_seq ?_
  refine wp_seq ?_
  refine s_region ?_
  refine s_val hF rfl rfl rfl (e_move hF rfl) ?_; intro a hF
  refine s_val hF rfl rfl rfl (e_len hF rfl (q0.frm hM.frm).toF Try.underlying51) ?_; intro a hF
  refine s_val hF rfl rfl rfl (e_move hF rfl) ?_; intro a hF
  refine s_nil ?_
  refine then_n ?_
  refine wp_block ?_
  obtain ⟨o20, h21, H⟩ := bind_some H
  refine wp_mono (Q := fun e a w => (e = Exit.exit 0 ∧ Sum.inl () = o20 ∧ Fr 19 a [] ∧ Ms [] w0 w []) ∨ (e = Exit.ret ∧ ∃ r22 : Int, Sum.inr r22 = o20 ∧ Fr 19 a [(4, Value.int .i64 r22)] ∧ Ms [] w0 w [])) ?_ ?_
  · refine s_loop (fun kq a w => ∃ x14 : Int, slices_IndexFunc_6_int_6_int__areAll_6_int_1_IsDie.l0 K l0 kq x14 = some o20 ∧ Fr 19 a [(0, u0), (1, Value.func (.func 93) #[] #[pt b1 0]), (7, Value.int .i64 (l0.length : Int)), (8, Value.int .i64 x14)] ∧ Ms [] w0 w []) K ⟨0, h21, hF.sub _ ⟨rfl, rfl, rfl, rfl, trivial⟩, hM.pick [] rfl rfl⟩ ?_ ?_
    · rintro a w ⟨_, H, _⟩; exact none_some H
    · rintro k a w ⟨x14, H, hF, hM⟩; rw [slices_IndexFunc_6_int_6_int__areAll_6_int_1_IsDie.l0] at H
      refine wp_seq ?_
      refine s_region ?_
      refine s_val hF rfl rfl rfl (e_lss hF rfl rfl) ?_; intro a hF
      refine s_nil ?_
      refine then_n ?_
      refine wp_seq ?_
      rcases ite_cases H with ⟨c15, H⟩ | ⟨c15, H⟩
      ·
        refine s_cond_t hF rfl (decide_eq_true c15) ?_
        refine wp_skip ?_
        refine then_n ?_
        refine wp_seq ?_
        refine wp_block ?_
        refine wp_seq ?_
        refine s_region ?_
        refine s_val hF rfl rfl rfl (e_move hF rfl) ?_; intro a hF
        refine s_val hF rfl rfl rfl (e_assign hF rfl) ?_; intro a hF
        refine s_nil ?_
        refine then_n ?_
        refine wp_seq ?_
        obtain ⟨c16, H⟩ := ite_some H
        obtain ⟨t17, h18, H⟩ := bind_some H
        refine s_region ?_
        refine s_val hF rfl rfl rfl (e_move hF rfl) ?_; intro a hF
        refine s_val hF rfl rfl rfl (e_move hF rfl) ?_; intro a hF
        refine s_val hF rfl rfl rfl (e_move hF rfl) ?_; intro a hF
        refine s_val hF rfl rfl rfl (e_ias cd70 hF rfl rfl (q0.frm hM.frm).toF Try.underlying51 Try.sizeOf70 c16.1 c16.2) ?_; intro a hF
        refine s_val hF rfl rfl rfl (e_ldsa (m := x14) hF rfl (q0.frm hM.frm) (getD_some (z := (Ar.zero 6)) c16.1 c16.2) Try.isAgg70 Try.sizeOf70) ?_; intro a hF
        refine s_callv hF rfl rfl rfl rfl (callsV_of Try.call93 (impl_areAll_6_int_1__IsDie.calls K (l0.getD (x14 : Int).toNat (Ar.zero 6)) b1 (box_frm q2 hM.frm) t17 h18)) ?_; intro a w v hF ⟨hf, hR⟩
        subst hR; have hM := hM.grow hf
        refine s_nil ?_
        refine then_n ?_
        rcases ite_cases H with ⟨c19, H⟩ | ⟨c19, H⟩
        ·
          refine s_cond_t hF rfl c19 ?_
          refine wp_seq ?_
          refine s_region ?_
          refine s_val hF rfl rfl rfl (e_move hF rfl) ?_; intro a hF
          refine s_val hF rfl rfl rfl (e_assign hF rfl) ?_; intro a hF
          refine s_nil ?_
          refine then_n ?_
          refine wp_ret ?_
          refine blk_r ?_
          refine then_r ?_
          refine then_r ?_
          exact Or.inr (⟨rfl, x14, some_some H, hF.sub _ ⟨rfl, trivial⟩, hM.pick [] rfl rfl⟩)
        ·
          refine s_cond_f hF rfl (bf c19) ?_
          refine wp_skip ?_
          refine blk_n ?_
          refine then_n ?_
          refine s_region ?_
          refine s_val hF rfl rfl rfl (e_add hF rfl rfl) ?_; intro a hF
          refine s_val hF rfl rfl rfl (e_move hF rfl) ?_; intro a hF
          refine s_nil ?_
          refine then_n ?_
          exact ⟨(wrap64 (x14 + 1)), H, hF.sub _ ⟨rfl, rfl, rfl, rfl, trivial⟩, hM.pick [] rfl rfl⟩
      ·
        refine s_cond_f hF rfl (decide_eq_false c15) ?_
        refine wp_exit ?_
        refine then_x ?_
        refine then_x ?_
        exact Or.inl (⟨rfl, some_some H, hF.sub _ trivial, hM.pick [] rfl rfl⟩)
  · rintro e a w (⟨rfl, rfl, hF, hM⟩ | ⟨rfl, r22, rfl, hF, hM⟩)
    ·
      dsimp only at H
      refine blk_x ?_
      refine then_n ?_
      refine wp_seq ?_
      refine s_region ?_
      refine s_val hF rfl rfl rfl (e_assign hF rfl) ?_; intro a hF
      refine s_nil ?_
      refine then_n ?_
      refine wp_ret ?_
      obtain rfl := some_some H
      refine s_ret [Value.int .i64 (-1)] hF Try.results96 ⟨rfl, trivial⟩ ?_
      exact ⟨_, rfl, hM.frm, rfl⟩
    ·
      dsimp only at H
      refine blk_r ?_
      refine then_r ?_
      obtain rfl := some_some H
      refine s_ret [Value.int .i64 r22] hF Try.results96 ⟨rfl, trivial⟩ ?_
      exact ⟨_, rfl, hM.frm, rfl⟩

/-! ### slices.ContainsFunc[[][6]int,[6]int]: function 92 -/
def slices_ContainsFunc_6_int_6_int__areAll_6_int_1_IsDie.f (K : Nat) (l0 : (List (Ar 6))) : Option Bool := (slices_IndexFunc_6_int_6_int__areAll_6_int_1_IsDie.f K l0).bind fun t3 => some (decide (0 ≤ t3))
set_option maxRecDepth 100000 in
set_option maxHeartbeats 4000000 in
theorem slices_ContainsFunc_6_int_6_int__areAll_6_int_1_IsDie.calls {w0 : World} (K : Nat) (l0 : (List (Ar 6))) (u0 : Value) (q0 : SlR cd70 w0 u0 l0) (b1 : Nat) (q2 : (boxR b1 [Pt.val (Value.func (.func 89) #[] #[]) rfl] 73).holds w0) (r : Bool) (H : slices_ContainsFunc_6_int_6_int__areAll_6_int_1_IsDie.f K l0 = some r) : Calls Try.prog 92 [u0, Value.func (.func 93) #[] #[pt b1 0]].toArray w0 (Post w0 fun w v => v = Value.bool r) := by
  rw [slices_ContainsFunc_6_int_6_int__areAll_6_int_1_IsDie.f] at H
  refine s_start Try.func92 rfl Try.ntmps92 rfl ?_
  intro a hF
  have hM := Ms.start w0
  skip
  refine wp_seq ?_
  refine s_region ?_
  refine s_val hF rfl rfl rfl (e_assign hF rfl) ?_; intro a hF
  refine s_nil ?_
  refine then_n ?_
  refine wp_seq ?_
  obtain ⟨t3, h4, H⟩ := bind_some H
  refine s_region ?_
  refine s_val hF rfl rfl rfl (e_move hF rfl) ?_; intro a hF
  refine s_val hF rfl rfl rfl (e_move hF rfl) ?_; intro a hF
  refine s_call hF rfl rfl rfl Try.call96 (slices_IndexFunc_6_int_6_int__areAll_6_int_1_IsDie.calls K l0 u0 (q0.frm hM.frm) b1 (box_frm q2 hM.frm) t3 h4) ?_; intro a w v hF hf hR
  subst hR; have hM := hM.grow hf
  refine s_val hF rfl rfl rfl (e_geq hF rfl rfl) ?_; intro a hF
  refine s_val hF rfl rfl rfl (e_assign hF rfl) ?_; intro a hF
  refine s_nil ?_
  refine then_n ?_
  refine wp_ret ?_
  obtain rfl := some_some H
  refine s_ret [Value.bool (decide (0 ≤ t3))] hF Try.results92 ⟨rfl, trivial⟩ ?_
  exact ⟨_, rfl, hM.frm, rfl⟩

/-! ### loop.example/g01210/impl.areAll[[6]int]: function 88 -/
def impl_areAll_6_int__IsDie.f (K : Nat) (l0 : (List (Ar 6))) : Option Bool := (slices_ContainsFunc_6_int_6_int__areAll_6_int_1_IsDie.f K l0).bind fun t2 => some (!t2)
set_option maxRecDepth 100000 in
set_option maxHeartbeats 4000000 in
theorem impl_areAll_6_int__IsDie.calls {w0 : World} (K : Nat) (l0 : (List (Ar 6))) (u0 : Value) (q0 : SlR cd70 w0 u0 l0) (r : Bool) (H : impl_areAll_6_int__IsDie.f K l0 = some r) : Calls Try.prog 88 [u0, Value.func (.func 89) #[] #[]].toArray w0 (Post w0 fun w v => v = Value.bool r) := by
  rw [impl_areAll_6_int__IsDie.f] at H
  refine s_start Try.func88 rfl Try.ntmps88 rfl ?_
  intro a hF
  have hM := Ms.start w0
  skip
  refine wp_seq ?_
  refine s_region ?_
  refine s_box (ps := [Pt.val (Value.func (.func 89) #[] #[]) rfl]) hF hM rfl rfl rfl rfl ?_; intro a w b1 hF hM
  refine s_val hF rfl rfl rfl (e_assign hF rfl) ?_; intro a hF
  refine s_nil ?_
  refine then_n ?_
  refine wp_seq ?_
  obtain ⟨t2, h3, H⟩ := bind_some H
  refine s_region ?_
  refine s_val hF rfl rfl rfl (e_move hF rfl) ?_; intro a hF
  refine s_val hF rfl rfl rfl (e_mkfunc (hF.evs' rfl)) ?_; intro a hF
  refine s_call hF rfl rfl rfl Try.call92 (slices_ContainsFunc_6_int_6_int__areAll_6_int_1_IsDie.calls K l0 u0 (q0.frm hM.frm) b1 (hM.get 0 rfl) t2 h3) ?_; intro a w v hF hf hR
  subst hR; have hM := hM.grow hf
  refine s_val hF rfl rfl rfl (e_not hF rfl) ?_; intro a hF
  refine s_val hF rfl rfl rfl (e_assign hF rfl) ?_; intro a hF
  refine s_nil ?_
  refine then_n ?_
  refine wp_ret ?_
  obtain rfl := some_some H
  refine s_ret [Value.bool (!t2)] hF Try.results88 ⟨rfl, trivial⟩ ?_
  exact ⟨_, rfl, hM.frm, rfl⟩

/-! ### loop.example/g01210/impl.IsPool: function 76 -/
def impl_IsPool.f (K : Nat) (l0 : (List (Ar 6))) : Option Bool := (impl_within.f K (l0.length : Int) 1 4).bind fun t1 => if t1 = true then ((impl_areAll_6_int__IsDie.f K l0).bind fun t4 => some t4) else (some false)
set_option maxRecDepth 100000 in
set_option maxHeartbeats 4000000 in
theorem impl_IsPool.calls {w0 : World} (K : Nat) (l0 : (List (Ar 6))) (u0 : Value) (q0 : SlR cd70 w0 u0 l0) (r : Bool) (H : impl_IsPool.f K l0 = some r) : Calls Try.prog 76 [u0].toArray w0 (Post w0 fun w v => v = Value.bool r) := by
  rw [impl_IsPool.f] at H
  refine s_start Try.func76 rfl Try.ntmps76 rfl ?_
  intro a hF
  have hM := Ms.start w0
  skip
  refine wp_seq ?_
  refine s_region ?_
  refine s_val hF rfl rfl rfl (e_assign hF rfl) ?_; intro a hF
  refine s_nil ?_
  refine then_n ?_
  refine wp_seq ?_
  obtain ⟨t1, h2, H⟩ := bind_some H
  rcases ite_cases H with ⟨c3, H⟩ | ⟨c3, H⟩
  ·
    obtain ⟨t4, h5, H⟩ := bind_some H
    refine s_region ?_
    refine s_val hF rfl rfl rfl (e_move hF rfl) ?_; intro a hF
    refine s_val hF rfl rfl rfl (e_len hF rfl (q0.frm hM.frm).toF Try.underlying51) ?_; intro a hF
    refine s_call hF rfl rfl rfl Try.call53 (impl_within.calls K (l0.length : Int) 1 4 t1 h2) ?_; intro a w v hF hf hR
    subst hR; have hM := hM.grow hf
    refine s_val hF rfl rfl rfl (e_move hF rfl) ?_; intro a hF
    have hF := hF.topb c3
    refine s_val hF rfl rfl rfl (e_move hF rfl) ?_; intro a hF
    refine s_call hF rfl rfl rfl Try.call88 (impl_areAll_6_int__IsDie.calls K l0 u0 (q0.frm hM.frm) t4 h5) ?_; intro a w v hF hf hR
    subst hR; have hM := hM.grow hf
    refine s_val hF rfl rfl rfl (e_pick_t hF rfl rfl) ?_; intro a hF
    refine s_val hF rfl rfl rfl (e_assign hF rfl) ?_; intro a hF
    refine s_nil ?_
    refine then_n ?_
    refine wp_ret ?_
    obtain rfl := some_some H
    refine s_ret [Value.bool t4] hF Try.results76 ⟨rfl, trivial⟩ ?_
    exact ⟨_, rfl, hM.frm, rfl⟩
  ·
    refine s_region ?_
    refine s_val hF rfl rfl rfl (e_move hF rfl) ?_; intro a hF
    refine s_val hF rfl rfl rfl (e_len hF rfl (q0.frm hM.frm).toF Try.underlying51) ?_; intro a hF
    refine s_call hF rfl rfl rfl Try.call53 (impl_within.calls K (l0.length : Int) 1 4 t1 h2) ?_; intro a w v hF hf hR
    subst hR; have hM := hM.grow hf
    refine s_val hF rfl rfl rfl (e_move hF rfl) ?_; intro a hF
    have hF := hF.topb (bf c3)
    refine s_skip hF rfl rfl rfl ?_; intro a hF
    refine s_skip hF rfl rfl rfl ?_; intro a hF
    refine s_val hF rfl rfl rfl (e_pick_f hF rfl rfl) ?_; intro a hF
    refine s_val hF rfl rfl rfl (e_assign hF rfl) ?_; intro a hF
    refine s_nil ?_
    refine then_n ?_
    refine wp_ret ?_
    obtain rfl := some_some H
    refine s_ret [Value.bool false] hF Try.results76 ⟨rfl, trivial⟩ ?_
    exact ⟨_, rfl, hM.frm, rfl⟩

/-! ### loop.example/g01210/impl.sums: function 90 -/
def impl_sums.l12 (K : Nat) (l0 : (List (Ar 6))) (x126 : Int) (x127 : (Ar 121)) (x167 : Int) : Nat → Int → (Ar 121) → Option (Ar 121)
  | 0, _, _ => none
  | k + 1, x179, x180 => if x179 < 6 then (if (0 : Int) ≤ x179 ∧ x179 < 6 then (if (0 : Int) ≤ (wrap64 (x167 + ((l0.getD (x126 : Int).toNat (Ar.zero 6)).get x179))) ∧ (wrap64 (x167 + ((l0.getD (x126 : Int).toNat (Ar.zero 6)).get x179))) < 121 then (impl_sums.l12 K l0 x126 x127 x167 k (wrap64 (x179 + 1)) (x180.set (wrap64 (x167 + ((l0.getD (x126 : Int).toNat (Ar.zero 6)).get x179))) (wrap64 ((x180.get (wrap64 (x167 + ((l0.getD (x126 : Int).toNat (Ar.zero 6)).get x179)))) + (x127.get x167))))) else none) else none) else (some x180)
def impl_sums.l11 (K : Nat) (l0 : (List (Ar 6))) (x126 : Int) (x127 : (Ar 121)) : Nat → Int → (Ar 121) → Option (Ar 121)
  | 0, _, _ => none
  | k + 1, x167, x168 => if x167 < 121 then (if (0 : Int) ≤ x167 ∧ x167 < 121 then (if (x127.get x167) = 0 then (impl_sums.l11 K l0 x126 x127 k (wrap64 (x167 + 1)) x168) else ((impl_sums.l12 K l0 x126 x127 x167 K 0 x168).bind fun x178 => impl_sums.l11 K l0 x126 x127 k (wrap64 (x167 + 1)) x178)) else none) else (some x168)
def impl_sums.l8 (K : Nat) (l0 : (List (Ar 6))) : Nat → Int → (Ar 121) → Option (Ar 121)
  | 0, _, _ => none
  | k + 1, x126, x127 => if x126 < (l0.length : Int) then (if (0 : Int) ≤ x126 ∧ x126 < (l0.length : Int) then ((impl_sums.l11 K l0 x126 x127 K 0 (Ar.zero 121)).bind fun x166 => impl_sums.l8 K l0 k (wrap64 (x126 + 1)) x166) else none) else (some x127)
def impl_sums.f (K : Nat) (l0 : (List (Ar 6))) : Option (Ar 121) := (impl_sums.l8 K l0 K 0 ((Ar.zero 121).set 0 1)).bind fun x125 => some x125
set_option maxRecDepth 100000 in
set_option maxHeartbeats 4000000 in
theorem impl_sums.calls {w0 : World} (K : Nat) (l0 : (List (Ar 6))) (u0 : Value) (q0 : SlR cd70 w0 u0 l0) (r : (Ar 121)) (H : impl_sums.f K l0 = some r) : Calls Try.prog 90 [u0].toArray w0 (Post w0 fun w v => v = ag [Pt.ar r]) := by
  rw [impl_sums.f] at H
  refine s_start Try.func90 rfl Try.ntmps90 rfl ?_
  intro a hF
  have hM := Ms.start w0
  skip
  refine wp_seq ?_
  refine s_region ?_
  refine s_alloc (ps := [Pt.ar (Ar.zero 121)]) hF hM rfl rfl zv74 rfl ?_; intro a w b1 hF hM
  refine s_nil ?_
  refine then_n ?_
  refine wp_seq ?_
  refine s_region ?_
  refine s_alloc (ps := [Pt.ar (Ar.zero 121)]) hF hM rfl rfl zv74 rfl ?_; intro a w b2 hF hM
  refine s_nil ?_
  refine then_n ?_
  refine wp_seq ?_
  refine s_region ?_
  refine s_val hF rfl rfl rfl (e_ia hF rfl rfl Try.underlying74 Try.sizeOf3 (by decide) (by decide)) ?_; intro a hF
  refine s_sti (i := 0) (k := 0) hF hM rfl rfl rfl rfl rfl rfl rfl Try.sizeOf3 (by decide) (by decide) ?_; intro a w hF hM
  refine s_nil ?_
  refine then_n ?_
  refine wp_seq ?_
  refine wp_seq ?_
  refine s_region ?_
  refine s_val hF rfl rfl rfl (e_move hF rfl) ?_; intro a hF
  refine s_val hF rfl rfl rfl (e_len hF rfl (q0.frm hM.frm).toF Try.underlying51) ?_; intro a hF
  refine s_val hF rfl rfl rfl (e_move hF rfl) ?_; intro a hF
  refine s_nil ?_
  refine then_n ?_
  refine wp_block ?_
  obtain ⟨o188, h189, H⟩ := bind_some H
  refine wp_mono (Q := fun e a w => (e = Exit.exit 0 ∧ ∃ x125 : (Ar 121), x125 = o188 ∧ Fr 42 a [(2, pt b1 0), (3, pt b2 0)] ∧ Ms [] w0 w [boxR b1 [Pt.ar (Ar.zero 121)] 74, boxR b2 [Pt.ar x125] 74])) ?_ ?_
  · refine s_loop (fun kq a w => ∃ x126 : Int, ∃ x127 : (Ar 121), impl_sums.l8 K l0 kq x126 x127 = some o188 ∧ Fr 42 a [(2, pt b1 0), (3, pt b2 0), (12, u0), (13, Value.int .i64 (l0.length : Int)), (14, Value.int .i64 x126)] ∧ Ms [] w0 w [boxR b1 [Pt.ar (Ar.zero 121)] 74, boxR b2 [Pt.ar x127] 74]) K ⟨0, ((Ar.zero 121).set 0 1), h189, hF.sub _ ⟨rfl, rfl, rfl, rfl, rfl, trivial⟩, hM.pick [1, 0] rfl rfl⟩ ?_ ?_
    · rintro a w ⟨_, _, H, _⟩; exact none_some H
    · rintro k a w ⟨x126, x127, H, hF, hM⟩; rw [impl_sums.l8] at H
      refine wp_seq ?_
      refine s_region ?_
      refine s_val hF rfl rfl rfl (e_lss hF rfl rfl) ?_; intro a hF
      refine s_nil ?_
      refine then_n ?_
      refine wp_seq ?_
      rcases ite_cases H with ⟨c128, H⟩ | ⟨c128, H⟩
      ·
        refine s_cond_t hF rfl (decide_eq_true c128) ?_
        refine wp_skip ?_
        refine then_n ?_
        refine wp_seq ?_
        refine wp_block ?_
        refine wp_seq ?_
        obtain ⟨c129, H⟩ := ite_some H
        refine s_region ?_
        refine s_val hF rfl rfl rfl (e_ias cd70 hF rfl rfl (q0.frm hM.frm).toF Try.underlying51 Try.sizeOf70 c129.1 c129.2) ?_; intro a hF
        refine s_val hF rfl rfl rfl (e_ldsa (m := x126) hF rfl (q0.frm hM.frm) (getD_some (z := (Ar.zero 6)) c129.1 c129.2) Try.isAgg70 Try.sizeOf70) ?_; intro a hF
        refine s_alloc (ps := [Pt.ar (Ar.zero 6)]) hF hM rfl rfl zv70 rfl ?_; intro a w b130 hF hM
        refine s_stw (i := 0) (ps' := [Pt.ar (l0.getD (x126 : Int).toNat (Ar.zero 6))]) hF hM rfl rfl rfl rfl rfl rfl Try.sizeOf70 rfl ?_; intro a w hF hM
        refine s_nil ?_
        refine then_n ?_
        refine wp_seq ?_
        refine s_region ?_
        refine s_alloc (ps := [Pt.ar (Ar.zero 121)]) hF hM rfl rfl zv74 rfl ?_; intro a w b131 hF hM
        refine s_nil ?_
        refine then_n ?_
        refine wp_seq ?_
        refine wp_seq ?_
        refine s_region ?_
        refine s_val hF rfl rfl rfl (e_lda (i := 3) 0 1 hF hM rfl rfl rfl rfl Try.isAgg74 Try.sizeOf74 rfl) ?_; intro a hF
        refine s_val hF rfl rfl rfl (e_move hF rfl) ?_; intro a hF
        refine s_nil ?_
        refine then_n ?_
        refine wp_block ?_
        obtain ⟨o186, h187, H⟩ := bind_some H
        refine wp_mono (Q := fun e a w => (e = Exit.exit 2 ∧ ∃ x166 : (Ar 121), x166 = o186 ∧ Fr 42 a [(2, pt b1 0), (3, pt b2 0), (6, pt b131 0), (12, u0), (13, Value.int .i64 (l0.length : Int)), (14, Value.int .i64 x126)] ∧ Ms [] w0 w [boxR b1 [Pt.ar (Ar.zero 121)] 74, boxR b2 [Pt.ar x127] 74, boxR b131 [Pt.ar x166] 74])) ?_ ?_
        · refine s_loop (fun kq a w => ∃ x167 : Int, ∃ x168 : (Ar 121), impl_sums.l11 K l0 x126 x127 kq x167 x168 = some o186 ∧ Fr 42 a [(2, pt b1 0), (3, pt b2 0), (5, pt b130 0), (6, pt b131 0), (12, u0), (13, Value.int .i64 (l0.length : Int)), (14, Value.int .i64 x126), (18, ag [Pt.ar x127]), (19, Value.int .i64 x167)] ∧ Ms [] w0 w [boxR b1 [Pt.ar (Ar.zero 121)] 74, boxR b2 [Pt.ar x127] 74, boxR b130 [Pt.ar (l0.getD (x126 : Int).toNat (Ar.zero 6))] 70, boxR b131 [Pt.ar x168] 74]) K ⟨0, (Ar.zero 121), h187, hF.sub _ ⟨rfl, rfl, rfl, rfl, rfl, rfl, rfl, rfl, rfl, trivial⟩, hM.pick [2, 3, 1, 0] rfl rfl⟩ ?_ ?_
          · rintro a w ⟨_, _, H, _⟩; exact none_some H
          · rintro k a w ⟨x167, x168, H, hF, hM⟩; rw [impl_sums.l11] at H
            refine wp_seq ?_
            refine s_region ?_
            refine s_val hF rfl rfl rfl (e_lss hF rfl rfl) ?_; intro a hF
            refine s_nil ?_
            refine then_n ?_
            refine wp_seq ?_
            rcases ite_cases H with ⟨c169, H⟩ | ⟨c169, H⟩
            ·
              refine s_cond_t hF rfl (decide_eq_true c169) ?_
              refine wp_skip ?_
              refine then_n ?_
              refine wp_seq ?_
              refine wp_block ?_
              refine wp_seq ?_
              obtain ⟨c170, H⟩ := ite_some H
              refine s_region ?_
              refine s_val hF rfl rfl rfl (e_move hF rfl) ?_; intro a hF
              refine s_val hF rfl rfl rfl (e_ix hF rfl rfl Try.underlying74 Try.sizeOf3 Try.isAgg3 c170.1 c170.2) ?_; intro a hF
              refine s_val hF rfl rfl rfl (e_assign hF rfl) ?_; intro a hF
              refine s_val hF rfl rfl rfl (e_assign hF rfl) ?_; intro a hF
              refine s_nil ?_
              refine then_n ?_
              refine wp_seq ?_
              refine wp_seq ?_
              refine s_region ?_
              refine s_val hF rfl rfl rfl (e_move hF rfl) ?_; intro a hF
              refine s_val hF rfl rfl rfl (e_eql hF rfl rfl) ?_; intro a hF
              refine s_nil ?_
              refine then_n ?_
              rcases ite_cases H with ⟨c171, H⟩ | ⟨c171, H⟩
              ·
                refine s_cond_t hF rfl (decide_eq_true c171) ?_
                refine wp_exit ?_
                refine then_x ?_
                refine blk_x ?_
                refine then_n ?_
                refine s_region ?_
                refine s_val hF rfl rfl rfl (e_add hF rfl rfl) ?_; intro a hF
                refine s_val hF rfl rfl rfl (e_move hF rfl) ?_; intro a hF
                refine s_nil ?_
                refine then_n ?_
                exact ⟨(wrap64 (x167 + 1)), x168, H, hF.sub _ ⟨rfl, rfl, rfl, rfl, rfl, rfl, rfl, rfl, rfl, trivial⟩, hM.pick [0, 1, 2, 3] rfl rfl⟩
              ·
                refine s_cond_f hF rfl (decide_eq_false c171) ?_
                refine wp_skip ?_
                refine then_n ?_
                refine wp_seq ?_
                refine s_region ?_
                refine s_val hF rfl rfl rfl (e_lda (i := 2) 0 1 hF hM rfl rfl rfl rfl Try.isAgg70 Try.sizeOf70 rfl) ?_; intro a hF
                refine s_val hF rfl rfl rfl (e_move hF rfl) ?_; intro a hF
                refine s_nil ?_
                refine then_n ?_
                refine wp_block ?_
                obtain ⟨o184, h185, H⟩ := bind_some H
                refine wp_mono (Q := fun e a w => (e = Exit.exit 4 ∧ ∃ x178 : (Ar 121), x178 = o184 ∧ Fr 42 a [(2, pt b1 0), (3, pt b2 0), (5, pt b130 0), (6, pt b131 0), (12, u0), (13, Value.int .i64 (l0.length : Int)), (14, Value.int .i64 x126), (18, ag [Pt.ar x127]), (19, Value.int .i64 x167)] ∧ Ms [] w0 w [boxR b1 [Pt.ar (Ar.zero 121)] 74, boxR b2 [Pt.ar x127] 74, boxR b130 [Pt.ar (l0.getD (x126 : Int).toNat (Ar.zero 6))] 70, boxR b131 [Pt.ar x178] 74])) ?_ ?_
                · refine s_loop (fun kq a w => ∃ x179 : Int, ∃ x180 : (Ar 121), impl_sums.l12 K l0 x126 x127 x167 kq x179 x180 = some o184 ∧ Fr 42 a [(2, pt b1 0), (3, pt b2 0), (5, pt b130 0), (6, pt b131 0), (7, Value.int .i64 x167), (8, Value.int .i64 (x127.get x167)), (12, u0), (13, Value.int .i64 (l0.length : Int)), (14, Value.int .i64 x126), (18, ag [Pt.ar x127]), (19, Value.int .i64 x167), (25, ag [Pt.ar (l0.getD (x126 : Int).toNat (Ar.zero 6))]), (26, Value.int .i64 x179)] ∧ Ms [] w0 w [boxR b1 [Pt.ar (Ar.zero 121)] 74, boxR b2 [Pt.ar x127] 74, boxR b130 [Pt.ar (l0.getD (x126 : Int).toNat (Ar.zero 6))] 70, boxR b131 [Pt.ar x180] 74]) K ⟨0, x168, h185, hF.sub _ ⟨rfl, rfl, rfl, rfl, rfl, rfl, rfl, rfl, rfl, rfl, rfl, rfl, rfl, trivial⟩, hM.pick [0, 1, 2, 3] rfl rfl⟩ ?_ ?_
                  · rintro a w ⟨_, _, H, _⟩; exact none_some H
                  · rintro k a w ⟨x179, x180, H, hF, hM⟩; rw [impl_sums.l12] at H
                    refine wp_seq ?_
                    refine s_region ?_
                    refine s_val hF rfl rfl rfl (e_lss hF rfl rfl) ?_; intro a hF
                    refine s_nil ?_
                    refine then_n ?_
                    refine wp_seq ?_
                    rcases ite_cases H with ⟨c181, H⟩ | ⟨c181, H⟩
                    ·
                      refine s_cond_t hF rfl (decide_eq_true c181) ?_
                      refine wp_skip ?_
                      refine then_n ?_
                      refine wp_seq ?_
                      refine wp_block ?_
                      refine wp_seq ?_
                      obtain ⟨c182, H⟩ := ite_some H
                      refine s_region ?_
                      refine s_val hF rfl rfl rfl (e_ix hF rfl rfl Try.underlying70 Try.sizeOf3 Try.isAgg3 c182.1 c182.2) ?_; intro a hF
                      refine s_val hF rfl rfl rfl (e_assign hF rfl) ?_; intro a hF
                      refine s_nil ?_
                      refine then_n ?_
                      obtain ⟨c183, H⟩ := ite_some H
                      refine s_region ?_
                      refine s_val hF rfl rfl rfl (e_move hF rfl) ?_; intro a hF
                      refine s_val hF rfl rfl rfl (e_move hF rfl) ?_; intro a hF
                      refine s_val hF rfl rfl rfl (e_add hF rfl rfl) ?_; intro a hF
                      refine s_val hF rfl rfl rfl (e_ia hF rfl rfl Try.underlying74 Try.sizeOf3 c183.1 c183.2) ?_; intro a hF
                      refine s_val hF rfl rfl rfl (e_ldi (i := 3) (k := 0) hF hM rfl rfl rfl rfl rfl Try.isAgg3 c183.1 c183.2) ?_; intro a hF
                      refine s_val hF rfl rfl rfl (e_move hF rfl) ?_; intro a hF
                      refine s_val hF rfl rfl rfl (e_add hF rfl rfl) ?_; intro a hF
                      refine s_val hF rfl rfl rfl (e_ia hF rfl rfl Try.underlying74 Try.sizeOf3 c183.1 c183.2) ?_; intro a hF
                      refine s_sti (i := 3) (k := 0) hF hM rfl rfl rfl rfl rfl rfl rfl Try.sizeOf3 c183.1 c183.2 ?_; intro a w hF hM
                      refine s_nil ?_
                      refine blk_n ?_
                      refine then_n ?_
                      refine s_region ?_
                      refine s_val hF rfl rfl rfl (e_add hF rfl rfl) ?_; intro a hF
                      refine s_val hF rfl rfl rfl (e_move hF rfl) ?_; intro a hF
                      refine s_nil ?_
                      refine then_n ?_
                      exact ⟨(wrap64 (x179 + 1)), (x180.set (wrap64 (x167 + ((l0.getD (x126 : Int).toNat (Ar.zero 6)).get x179))) (wrap64 ((x180.get (wrap64 (x167 + ((l0.getD (x126 : Int).toNat (Ar.zero 6)).get x179)))) + (x127.get x167)))), H, hF.sub _ ⟨rfl, rfl, rfl, rfl, rfl, rfl, rfl, rfl, rfl, rfl, rfl, rfl, rfl, trivial⟩, hM.pick [0, 1, 2, 3] rfl rfl⟩
                    ·
                      refine s_cond_f hF rfl (decide_eq_false c181) ?_
                      refine wp_exit ?_
                      refine then_x ?_
                      refine then_x ?_
                      exact ⟨rfl, x180, some_some H, hF.sub _ ⟨rfl, rfl, rfl, rfl, rfl, rfl, rfl, rfl, rfl, trivial⟩, hM.pick [0, 1, 2, 3] rfl rfl⟩
                · rintro e a w ⟨rfl, x178, rfl, hF, hM⟩
                  skip
                  refine blk_x ?_
                  refine blk_n ?_
                  refine then_n ?_
                  refine s_region ?_
                  refine s_val hF rfl rfl rfl (e_add hF rfl rfl) ?_; intro a hF
                  refine s_val hF rfl rfl rfl (e_move hF rfl) ?_; intro a hF
                  refine s_nil ?_
                  refine then_n ?_
                  exact ⟨(wrap64 (x167 + 1)), x178, H, hF.sub _ ⟨rfl, rfl, rfl, rfl, rfl, rfl, rfl, rfl, rfl, trivial⟩, hM.pick [0, 1, 2, 3] rfl rfl⟩
            ·
              refine s_cond_f hF rfl (decide_eq_false c169) ?_
              refine wp_exit ?_
              refine then_x ?_
              refine then_x ?_
              exact ⟨rfl, x168, some_some H, hF.sub _ ⟨rfl, rfl, rfl, rfl, rfl, rfl, trivial⟩, hM.pick [0, 1, 3] rfl rfl⟩
        · rintro e a w ⟨rfl, x166, rfl, hF, hM⟩
          skip
          refine blk_x ?_
          refine then_n ?_
          refine s_region ?_
          refine s_val hF rfl rfl rfl (e_lda (i := 2) 0 1 hF hM rfl rfl rfl rfl Try.isAgg74 Try.sizeOf74 rfl) ?_; intro a hF
          refine s_stw (i := 1) (ps' := [Pt.ar x166]) hF hM rfl rfl rfl rfl rfl rfl Try.sizeOf74 rfl ?_; intro a w hF hM
          refine s_nil ?_
          refine blk_n ?_
          refine then_n ?_
          refine s_region ?_
          refine s_val hF rfl rfl rfl (e_add hF rfl rfl) ?_; intro a hF
          refine s_val hF rfl rfl rfl (e_move hF rfl) ?_; intro a hF
          refine s_nil ?_
          refine then_n ?_
          exact ⟨(wrap64 (x126 + 1)), x166, H, hF.sub _ ⟨rfl, rfl, rfl, rfl, rfl, trivial⟩, hM.pick [0, 1] rfl rfl⟩
      ·
        refine s_cond_f hF rfl (decide_eq_false c128) ?_
        refine wp_exit ?_
        refine then_x ?_
        refine then_x ?_
        exact ⟨rfl, x127, some_some H, hF.sub _ ⟨rfl, rfl, trivial⟩, hM.pick [0, 1] rfl rfl⟩
  · rintro e a w ⟨rfl, x125, rfl, hF, hM⟩
    skip
    refine blk_x ?_
    refine then_n ?_
    refine wp_seq ?_
    refine s_region ?_
    refine s_val hF rfl rfl rfl (e_lda (i := 1) 0 1 hF hM rfl rfl rfl rfl Try.isAgg74 Try.sizeOf74 rfl) ?_; intro a hF
    refine s_stw (i := 0) (ps' := [Pt.ar x125]) hF hM rfl rfl rfl rfl rfl rfl Try.sizeOf74 rfl ?_; intro a w hF hM
    refine s_nil ?_
    refine then_n ?_
    refine wp_ret ?_
    obtain rfl := some_some H
    refine s_ret [ag [Pt.ar x125]] hF Try.results90 ⟨⟨_, rfl, rv_box hM (i := 0) rfl Try.isAgg74 Try.sizeOf74 rfl⟩, trivial⟩ ?_
    exact ⟨_, rfl, hM.frm, rfl⟩

/-! ### loop.example/g01210/impl.remainders: function 78 -/
def impl_remainders.l0 (K : Nat) (l0 : (List (Ar 6))) (a1 : Int) (t3 : (Ar 121)) : Nat → Int → (List Int) → Option (List Int)
  | 0, _, _ => none
  | k + 1, x14, x15 => if x14 < 121 then (if (0 : Int) ≤ x14 ∧ x14 < 121 then (if a1 ≠ 0 then (if (0 : Int) ≤ (x14.tmod a1) ∧ (x14.tmod a1) < (x15.length : Int) then (impl_remainders.l0 K l0 a1 t3 k (wrap64 (x14 + 1)) (x15.set ((x14.tmod a1) : Int).toNat (wrap64 ((x15.getD ((x14.tmod a1) : Int).toNat (0 : Int)) + (t3.get x14))))) else none) else none) else none) else (some x15)
def impl_remainders.f (K : Nat) (l0 : (List (Ar 6))) (a1 : Int) : Option (List Int) := if (0 : Int) ≤ a1 ∧ a1 ≤ 1073741824 then ((impl_sums.f K l0).bind fun t3 => (impl_remainders.l0 K l0 a1 t3 K 0 (List.replicate a1.toNat (0 : Int))).bind fun x13 => some x13) else none
set_option maxRecDepth 100000 in
set_option maxHeartbeats 4000000 in
theorem impl_remainders.calls {w0 : World} (K : Nat) (l0 : (List (Ar 6))) (u0 : Value) (q0 : SlR cd70 w0 u0 l0) (a1 : Int) (r : (List Int)) (H : impl_remainders.f K l0 a1 = some r) : Calls Try.prog 78 [u0, Value.int .i64 a1].toArray w0 (Post w0 fun w v => Fresh cd3 w0.heap.size w v r) := by
  rw [impl_remainders.f] at H
  refine s_start Try.func78 rfl Try.ntmps78 rfl ?_
  intro a hF
  have hM := Ms.start w0
  skip
  refine wp_seq ?_
  refine s_region ?_
  refine s_val hF rfl rfl rfl (e_assign hF rfl) ?_; intro a hF
  refine s_nil ?_
  refine then_n ?_
  refine wp_seq ?_
  obtain ⟨c2, H⟩ := ite_some H
  refine s_region ?_
  refine s_val hF rfl rfl rfl (e_move hF rfl) ?_; intro a hF
  refine s_make (C := cd3) cdok3 hF hM rfl rfl rfl rfl Try.underlying32 c2.1 c2.2 ?_; intro a w v1 hF hM
  refine s_val hF rfl rfl rfl (e_assign hF rfl) ?_; intro a hF
  refine s_nil ?_
  refine then_n ?_
  refine wp_seq ?_
  refine wp_seq ?_
  obtain ⟨t3, h4, H⟩ := bind_some H
  refine s_region ?_
  refine s_val hF rfl rfl rfl (e_move hF rfl) ?_; intro a hF
  refine s_call hF rfl rfl rfl Try.call90 (impl_sums.calls K l0 u0 (q0.frm hM.frm) t3 h4) ?_; intro a w v hF hf hR
  subst hR; have hM := hM.grow hf
  refine s_val hF rfl rfl rfl (e_move hF rfl) ?_; intro a hF
  refine s_nil ?_
  refine then_n ?_
  refine wp_block ?_
  obtain ⟨o20, h21, H⟩ := bind_some H
  refine wp_mono (Q := fun e a w => (e = Exit.exit 0 ∧ ∃ x13 : (List Int), x13 = o20 ∧ Fr 27 a [(5, v1)] ∧ Ms [] w0 w [rowR cd3 v1 x13])) ?_ ?_
  · refine s_loop (fun kq a w => ∃ x14 : Int, ∃ x15 : (List Int), impl_remainders.l0 K l0 a1 t3 kq x14 x15 = some o20 ∧ Fr 27 a [(1, Value.int .i64 a1), (5, v1), (11, ag [Pt.ar t3]), (12, Value.int .i64 x14)] ∧ Ms [] w0 w [rowR cd3 v1 x15]) K ⟨0, (List.replicate a1.toNat (0 : Int)), h21, hF.sub _ ⟨rfl, rfl, rfl, rfl, trivial⟩, hM.pick [0] rfl rfl⟩ ?_ ?_
    · rintro a w ⟨_, _, H, _⟩; exact none_some H
    · rintro k a w ⟨x14, x15, H, hF, hM⟩; rw [impl_remainders.l0] at H
      refine wp_seq ?_
      refine s_region ?_
      refine s_val hF rfl rfl rfl (e_lss hF rfl rfl) ?_; intro a hF
      refine s_nil ?_
      refine then_n ?_
      refine wp_seq ?_
      rcases ite_cases H with ⟨c16, H⟩ | ⟨c16, H⟩
      ·
        refine s_cond_t hF rfl (decide_eq_true c16) ?_
        refine wp_skip ?_
        refine then_n ?_
        refine wp_seq ?_
        refine wp_block ?_
        refine wp_seq ?_
        obtain ⟨c17, H⟩ := ite_some H
        refine s_region ?_
        refine s_val hF rfl rfl rfl (e_move hF rfl) ?_; intro a hF
        refine s_val hF rfl rfl rfl (e_ix hF rfl rfl Try.underlying74 Try.sizeOf3 Try.isAgg3 c17.1 c17.2) ?_; intro a hF
        refine s_val hF rfl rfl rfl (e_assign hF rfl) ?_; intro a hF
        refine s_val hF rfl rfl rfl (e_assign hF rfl) ?_; intro a hF
        refine s_nil ?_
        refine then_n ?_
        obtain ⟨c18, H⟩ := ite_some H
        obtain ⟨c19, H⟩ := ite_some H
        refine s_region ?_
        refine s_val hF rfl rfl rfl (e_move hF rfl) ?_; intro a hF
        refine s_val hF rfl rfl rfl (e_move hF rfl) ?_; intro a hF
        refine s_val hF rfl rfl rfl (e_move hF rfl) ?_; intro a hF
        refine s_val hF rfl rfl rfl (e_rem hF rfl rfl c18) ?_; intro a hF
        refine s_val hF rfl rfl rfl (e_ias cd3 hF rfl rfl (hM.sl 0 rfl).toF Try.underlying32 Try.sizeOf3 c19.1 c19.2) ?_; intro a hF
        refine s_val hF rfl rfl rfl (e_lds (m := (x14.tmod a1)) hF rfl (hM.sl 0 rfl) (getD_some (z := (0 : Int)) c19.1 c19.2) rfl rfl Try.isAgg3) ?_; intro a hF
        refine s_val hF rfl rfl rfl (e_move hF rfl) ?_; intro a hF
        refine s_val hF rfl rfl rfl (e_add hF rfl rfl) ?_; intro a hF
        refine s_val hF rfl rfl rfl (e_ias cd3 hF rfl rfl (hM.sl 0 rfl).toF Try.underlying32 Try.sizeOf3 c19.1 c19.2) ?_; intro a hF
        refine s_sts (i := 0) (wrap64 ((x15.getD ((x14.tmod a1) : Int).toNat (0 : Int)) + (t3.get x14))) hF hM rfl rfl rfl rfl rfl c19.1 c19.2 Try.sizeOf3 ?_; intro a w hF hM
        refine s_nil ?_
        refine blk_n ?_
        refine then_n ?_
        refine s_region ?_
        refine s_val hF rfl rfl rfl (e_add hF rfl rfl) ?_; intro a hF
        refine s_val hF rfl rfl rfl (e_move hF rfl) ?_; intro a hF
        refine s_nil ?_
        refine then_n ?_
        exact ⟨(wrap64 (x14 + 1)), (x15.set ((x14.tmod a1) : Int).toNat (wrap64 ((x15.getD ((x14.tmod a1) : Int).toNat (0 : Int)) + (t3.get x14)))), H, hF.sub _ ⟨rfl, rfl, rfl, rfl, trivial⟩, hM.pick [0] rfl rfl⟩
      ·
        refine s_cond_f hF rfl (decide_eq_false c16) ?_
        refine wp_exit ?_
        refine then_x ?_
        refine then_x ?_
        exact ⟨rfl, x15, some_some H, hF.sub _ ⟨rfl, trivial⟩, hM.pick [0] rfl rfl⟩
  · rintro e a w ⟨rfl, x13, rfl, hF, hM⟩
    skip
    refine blk_x ?_
    refine then_n ?_
    refine wp_seq ?_
    refine s_region ?_
    refine s_val hF rfl rfl rfl (e_move hF rfl) ?_; intro a hF
    refine s_val hF rfl rfl rfl (e_assign hF rfl) ?_; intro a hF
    refine s_nil ?_
    refine then_n ?_
    refine wp_ret ?_
    obtain rfl := some_some H
    refine s_ret [v1] hF Try.results78 ⟨rfl, trivial⟩ ?_
    exact ⟨_, rfl, hM.frm, hM.give 0 rfl⟩

/-! ### slices.Max[[]int,int]: function 80 -/
def slices_Max_int_int.l0 (K : Nat) (l0 : (List Int)) : Nat → Int → Int → Option Int
  | 0, _, _ => none
  | k + 1, x10, x11 => if x11 < (l0.length : Int) then (if (0 : Int) ≤ x11 ∧ x11 < (l0.length : Int) then (slices_Max_int_int.l0 K l0 k (if (l0.getD (x11 : Int).toNat (0 : Int)) > x10 then (l0.getD (x11 : Int).toNat (0 : Int)) else x10) (wrap64 (x11 + 1))) else none) else (some x10)
def slices_Max_int_int.f (K : Nat) (l0 : (List Int)) : Option Int := if (l0.length : Int) < 1 then (none) else (if (0 : Int) ≤ 0 ∧ 0 < (l0.length : Int) then ((slices_Max_int_int.l0 K l0 K (l0.getD (0 : Int).toNat (0 : Int)) 1).bind fun x9 => some x9) else none)
set_option maxRecDepth 100000 in
set_option maxHeartbeats 4000000 in
theorem slices_Max_int_int.calls {w0 : World} (K : Nat) (l0 : (List Int)) (u0 : Value) (q0 : SlR cd3 w0 u0 l0) (r : Int) (H : slices_Max_int_int.f K l0 = some r) : Calls Try.prog 80 [u0].toArray w0 (Post w0 fun w v => v = Value.int .i64 r) := by
  rw [slices_Max_int_int.f] at H
  refine s_start Try.func80 rfl Try.ntmps80 rfl ?_
  intro a hF
  have hM := Ms.start w0
  skip
  refine wp_seq ?_
  refine s_region ?_
  refine s_val hF rfl rfl rfl (e_assign hF rfl) ?_; intro a hF
  refine s_nil ?_
  refine then_n ?_
  refine wp_seq ?_
  refine wp_seq ?_
  refine s_region ?_
  refine s_val hF rfl rfl rfl (e_move hF rfl) ?_; intro a hF
  refine s_val hF rfl rfl rfl (e_len hF rfl (q0.frm hM.frm).toF Try.underlying32) ?_; intro a hF
  refine s_val hF rfl rfl rfl (e_lss hF rfl rfl) ?_; intro a hF
  refine s_nil ?_
  refine then_n ?_
  rcases ite_cases H with ⟨c1, H⟩ | ⟨c1, H⟩
  ·
    refine s_cond_t hF rfl (decide_eq_true c1) ?_
    exact none_some H
  ·
    refine s_cond_f hF rfl (decide_eq_false c1) ?_
    refine wp_skip ?_
    refine then_n ?_
    refine wp_seq ?_
    obtain ⟨c2, H⟩ := ite_some H
    refine s_region ?_
    refine s_val hF rfl rfl rfl (e_move hF rfl) ?_; intro a hF
    refine s_val hF rfl rfl rfl (e_ias cd3 hF rfl rfl (q0.frm hM.frm).toF Try.underlying32 Try.sizeOf3 c2.1 c2.2) ?_; intro a hF
    refine s_val hF rfl rfl rfl (e_lds (m := 0) hF rfl (q0.frm hM.frm) (getD_some (z := (0 : Int)) c2.1 c2.2) rfl rfl Try.isAgg3) ?_; intro a hF
    refine s_val hF rfl rfl rfl (e_assign hF rfl) ?_; intro a hF
    refine s_nil ?_
    refine then_n ?_
    refine wp_seq ?_
    refine wp_seq ?_
    refine s_region ?_
    refine s_val hF rfl rfl rfl (e_assign hF rfl) ?_; intro a hF
    refine s_nil ?_
    refine then_n ?_
    refine wp_block ?_
    obtain ⟨o14, h15, H⟩ := bind_some H
    refine wp_mono (Q := fun e a w => (e = Exit.exit 0 ∧ ∃ x9 : Int, x9 = o14 ∧ Fr 25 a [(3, Value.int .i64 x9)] ∧ Ms [] w0 w [])) ?_ ?_
    · refine s_loop (fun kq a w => ∃ x10 : Int, ∃ x11 : Int, slices_Max_int_int.l0 K l0 kq x10 x11 = some o14 ∧ Fr 25 a [(0, u0), (3, Value.int .i64 x10), (4, Value.int .i64 x11)] ∧ Ms [] w0 w []) K ⟨(l0.getD (0 : Int).toNat (0 : Int)), 1, h15, hF.sub _ ⟨rfl, rfl, rfl, trivial⟩, hM.pick [] rfl rfl⟩ ?_ ?_
      · rintro a w ⟨_, _, H, _⟩; exact none_some H
      · rintro k a w ⟨x10, x11, H, hF, hM⟩; rw [slices_Max_int_int.l0] at H
        refine wp_seq ?_
        refine wp_seq ?_
        refine s_region ?_
        refine s_val hF rfl rfl rfl (e_move hF rfl) ?_; intro a hF
        refine s_val hF rfl rfl rfl (e_move hF rfl) ?_; intro a hF
        refine s_val hF rfl rfl rfl (e_len hF rfl (q0.frm hM.frm).toF Try.underlying32) ?_; intro a hF
        refine s_val hF rfl rfl rfl (e_lss hF rfl rfl) ?_; intro a hF
        refine s_nil ?_
        refine then_n ?_
        rcases ite_cases H with ⟨c12, H⟩ | ⟨c12, H⟩
        ·
          refine s_cond_t hF rfl (decide_eq_true c12) ?_
          refine wp_skip ?_
          refine then_n ?_
          refine wp_seq ?_
          refine wp_block ?_
          obtain ⟨c13, H⟩ := ite_some H
          refine s_region ?_
          refine s_val hF rfl rfl rfl (e_move hF rfl) ?_; intro a hF
          refine s_val hF rfl rfl rfl (e_move hF rfl) ?_; intro a hF
          refine s_val hF rfl rfl rfl (e_move hF rfl) ?_; intro a hF
          refine s_val hF rfl rfl rfl (e_ias cd3 hF rfl rfl (q0.frm hM.frm).toF Try.underlying32 Try.sizeOf3 c13.1 c13.2) ?_; intro a hF
          refine s_val hF rfl rfl rfl (e_lds (m := x11) hF rfl (q0.frm hM.frm) (getD_some (z := (0 : Int)) c13.1 c13.2) rfl rfl Try.isAgg3) ?_; intro a hF
          refine s_val hF rfl rfl rfl (e_max hF rfl rfl) ?_; intro a hF
          refine s_val hF rfl rfl rfl (e_assign hF rfl) ?_; intro a hF
          refine s_nil ?_
          refine blk_n ?_
          refine then_n ?_
          refine s_region ?_
          refine s_val hF rfl rfl rfl (e_move hF rfl) ?_; intro a hF
          refine s_val hF rfl rfl rfl (e_add hF rfl rfl) ?_; intro a hF
          refine s_val hF rfl rfl rfl (e_assign hF rfl) ?_; intro a hF
          refine s_nil ?_
          refine then_n ?_
          exact ⟨(if (l0.getD (x11 : Int).toNat (0 : Int)) > x10 then (l0.getD (x11 : Int).toNat (0 : Int)) else x10), (wrap64 (x11 + 1)), H, hF.sub _ ⟨rfl, rfl, rfl, trivial⟩, hM.pick [] rfl rfl⟩
        ·
          refine s_cond_f hF rfl (decide_eq_false c12) ?_
          refine wp_exit ?_
          refine then_x ?_
          refine then_x ?_
          exact ⟨rfl, x10, some_some H, hF.sub _ ⟨rfl, trivial⟩, hM.pick [] rfl rfl⟩
    · rintro e a w ⟨rfl, x9, rfl, hF, hM⟩
      skip
      refine blk_x ?_
      refine then_n ?_
      refine wp_seq ?_
      refine s_region ?_
      refine s_val hF rfl rfl rfl (e_move hF rfl) ?_; intro a hF
      refine s_val hF rfl rfl rfl (e_assign hF rfl) ?_; intro a hF
      refine s_nil ?_
      refine then_n ?_
      refine wp_ret ?_
      obtain rfl := some_some H
      refine s_ret [Value.int .i64 x9] hF Try.results80 ⟨rfl, trivial⟩ ?_
      exact ⟨_, rfl, hM.frm, rfl⟩

/-! ### slices.Min[[]int,int]: function 81 -/
def slices_Min_int_int.l0 (K : Nat) (l0 : (List Int)) : Nat → Int → Int → Option Int
  | 0, _, _ => none
  | k + 1, x10, x11 => if x11 < (l0.length : Int) then (if (0 : Int) ≤ x11 ∧ x11 < (l0.length : Int) then (slices_Min_int_int.l0 K l0 k (if (l0.getD (x11 : Int).toNat (0 : Int)) < x10 then (l0.getD (x11 : Int).toNat (0 : Int)) else x10) (wrap64 (x11 + 1))) else none) else (some x10)
def slices_Min_int_int.f (K : Nat) (l0 : (List Int)) : Option Int := if (l0.length : Int) < 1 then (none) else (if (0 : Int) ≤ 0 ∧ 0 < (l0.length : Int) then ((slices_Min_int_int.l0 K l0 K (l0.getD (0 : Int).toNat (0 : Int)) 1).bind fun x9 => some x9) else none)
set_option maxRecDepth 100000 in
set_option maxHeartbeats 4000000 in
theorem slices_Min_int_int.calls {w0 : World} (K : Nat) (l0 : (List Int)) (u0 : Value) (q0 : SlR cd3 w0 u0 l0) (r : Int) (H : slices_Min_int_int.f K l0 = some r) : Calls Try.prog 81 [u0].toArray w0 (Post w0 fun w v => v = Value.int .i64 r) := by
  rw [slices_Min_int_int.f] at H
  refine s_start Try.func81 rfl Try.ntmps81 rfl ?_
  intro a hF
  have hM := Ms.start w0
  skip
  refine wp_seq ?_
  refine s_region ?_
  refine s_val hF rfl rfl rfl (e_assign hF rfl) ?_; intro a hF
  refine s_nil ?_
  refine then_n ?_
  refine wp_seq ?_
  refine wp_seq ?_
  refine s_region ?_
  refine s_val hF rfl rfl rfl (e_move hF rfl) ?_; intro a hF
  refine s_val hF rfl rfl rfl (e_len hF rfl (q0.frm hM.frm).toF Try.underlying32) ?_; intro a hF
  refine s_val hF rfl rfl rfl (e_lss hF rfl rfl) ?_; intro a hF
  refine s_nil ?_
  refine then_n ?_
  rcases ite_cases H with ⟨c1, H⟩ | ⟨c1, H⟩
  ·
    refine s_cond_t hF rfl (decide_eq_true c1) ?_
    exact none_some H
  ·
    refine s_cond_f hF rfl (decide_eq_false c1) ?_
    refine wp_skip ?_
    refine then_n ?_
    refine wp_seq ?_
    obtain ⟨c2, H⟩ := ite_some H
    refine s_region ?_
    refine s_val hF rfl rfl rfl (e_move hF rfl) ?_; intro a hF
    refine s_val hF rfl rfl rfl (e_ias cd3 hF rfl rfl (q0.frm hM.frm).toF Try.underlying32 Try.sizeOf3 c2.1 c2.2) ?_; intro a hF
    refine s_val hF rfl rfl rfl (e_lds (m := 0) hF rfl (q0.frm hM.frm) (getD_some (z := (0 : Int)) c2.1 c2.2) rfl rfl Try.isAgg3) ?_; intro a hF
    refine s_val hF rfl rfl rfl (e_assign hF rfl) ?_; intro a hF
    refine s_nil ?_
    refine then_n ?_
    refine wp_seq ?_
    refine wp_seq ?_
    refine s_region ?_
    refine s_val hF rfl rfl rfl (e_assign hF rfl) ?_; intro a hF
    refine s_nil ?_
    refine then_n ?_
    refine wp_block ?_
    obtain ⟨o14, h15, H⟩ := bind_some H
    refine wp_mono (Q := fun e a w => (e = Exit.exit 0 ∧ ∃ x9 : Int, x9 = o14 ∧ Fr 25 a [(3, Value.int .i64 x9)] ∧ Ms [] w0 w [])) ?_ ?_
    · refine s_loop (fun kq a w => ∃ x10 : Int, ∃ x11 : Int, slices_Min_int_int.l0 K l0 kq x10 x11 = some o14 ∧ Fr 25 a [(0, u0), (3, Value.int .i64 x10), (4, Value.int .i64 x11)] ∧ Ms [] w0 w []) K ⟨(l0.getD (0 : Int).toNat (0 : Int)), 1, h15, hF.sub _ ⟨rfl, rfl, rfl, trivial⟩, hM.pick [] rfl rfl⟩ ?_ ?_
      · rintro a w ⟨_, _, H, _⟩; exact none_some H
      · rintro k a w ⟨x10, x11, H, hF, hM⟩; rw [slices_Min_int_int.l0] at H
        refine wp_seq ?_
        refine wp_seq ?_
        refine s_region ?_
        refine s_val hF rfl rfl rfl (e_move hF rfl) ?_; intro a hF
        refine s_val hF rfl rfl rfl (e_move hF rfl) ?_; intro a hF
        refine s_val hF rfl rfl rfl (e_len hF rfl (q0.frm hM.frm).toF Try.underlying32) ?_; intro a hF
        refine s_val hF rfl rfl rfl (e_lss hF rfl rfl) ?_; intro a hF
        refine s_nil ?_
        refine then_n ?_
        rcases ite_cases H with ⟨c12, H⟩ | ⟨c12, H⟩
        ·
          refine s_cond_t hF rfl (decide_eq_true c12) ?_
          refine wp_skip ?_
          refine then_n ?_
          refine wp_seq ?_
          refine wp_block ?_
          obtain ⟨c13, H⟩ := ite_some H
          refine s_region ?_
          refine s_val hF rfl rfl rfl (e_move hF rfl) ?_; intro a hF
          refine s_val hF rfl rfl rfl (e_move hF rfl) ?_; intro a hF
          refine s_val hF rfl rfl rfl (e_move hF rfl) ?_; intro a hF
          refine s_val hF rfl rfl rfl (e_ias cd3 hF rfl rfl (q0.frm hM.frm).toF Try.underlying32 Try.sizeOf3 c13.1 c13.2) ?_; intro a hF
          refine s_val hF rfl rfl rfl (e_lds (m := x11) hF rfl (q0.frm hM.frm) (getD_some (z := (0 : Int)) c13.1 c13.2) rfl rfl Try.isAgg3) ?_; intro a hF
          refine s_val hF rfl rfl rfl (e_min hF rfl rfl) ?_; intro a hF
          refine s_val hF rfl rfl rfl (e_assign hF rfl) ?_; intro a hF
          refine s_nil ?_
          refine blk_n ?_
          refine then_n ?_
          refine s_region ?_
          refine s_val hF rfl rfl rfl (e_move hF rfl) ?_; intro a hF
          refine s_val hF rfl rfl rfl (e_add hF rfl rfl) ?_; intro a hF
          refine s_val hF rfl rfl rfl (e_assign hF rfl) ?_; intro a hF
          refine s_nil ?_
          refine then_n ?_
          exact ⟨(if (l0.getD (x11 : Int).toNat (0 : Int)) < x10 then (l0.getD (x11 : Int).toNat (0 : Int)) else x10), (wrap64 (x11 + 1)), H, hF.sub _ ⟨rfl, rfl, rfl, trivial⟩, hM.pick [] rfl rfl⟩
        ·
          refine s_cond_f hF rfl (decide_eq_false c12) ?_
          refine wp_exit ?_
          refine then_x ?_
          refine then_x ?_
          exact ⟨rfl, x10, some_some H, hF.sub _ ⟨rfl, trivial⟩, hM.pick [] rfl rfl⟩
    · rintro e a w ⟨rfl, x9, rfl, hF, hM⟩
      skip
      refine blk_x ?_
      refine then_n ?_
      refine wp_seq ?_
      refine s_region ?_
      refine s_val hF rfl rfl rfl (e_move hF rfl) ?_; intro a hF
      refine s_val hF rfl rfl rfl (e_assign hF rfl) ?_; intro a hF
      refine s_nil ?_
      refine then_n ?_
      refine wp_ret ?_
      obtain rfl := some_some H
      refine s_ret [Value.int .i64 x9] hF Try.results81 ⟨rfl, trivial⟩ ?_
      exact ⟨_, rfl, hM.frm, rfl⟩

/-! ### loop.example/g01210/impl.FairSizes: function 50 -/
def impl_FairSizes.l0 (K : Nat) (l0 : (List (Ar 6))) : Nat → Int → (List Int) → Option (List Int)
  | 0, _, _ => none
  | k + 1, x45, x47 => if x45 ≤ 40 then ((impl_remainders.f K l0 x45).bind fun t49 => (slices_Max_int_int.f K t49).bind fun t52 => (slices_Min_int_int.f K t49).bind fun t54 => if t52 = t54 then (if x47.length + [x45].length ≤ 1073741824 then (impl_FairSizes.l0 K l0 k (wrap64 (x45 + 1)) (x47 ++ [x45])) else none) else (impl_FairSizes.l0 K l0 k (wrap64 (x45 + 1)) x47)) else (some x47)
def impl_FairSizes.f (K : Nat) (l0 : (List (Ar 6))) : Option ((List Int) × Bool) := (impl_IsPool.f K l0).bind fun t1 => if t1 = true then ((impl_FairSizes.l0 K l0 K 1 ([] : List Int)).bind fun x44 => some (x44, true)) else (some ([], false))
set_option maxRecDepth 100000 in
set_option maxHeartbeats 4000000 in
theorem impl_FairSizes.calls {w0 : World} (K : Nat) (l0 : (List (Ar 6))) (u0 : Value) (q0 : SlR cd70 w0 u0 l0) (r : ((List Int) × Bool)) (H : impl_FairSizes.f K l0 = some r) : Calls Try.prog 50 [u0].toArray w0 (Post w0 fun w v => ∃ v0 : Value, v = Value.tuple #[v0, Value.bool r.2] ∧ Fresh cd3 w0.heap.size w v0 r.1) := by
  rw [impl_FairSizes.f] at H
  refine s_start Try.func50 rfl Try.ntmps50 rfl ?_
  intro a hF
  have hM := Ms.start w0
  skip
  refine wp_seq ?_
  refine s_region ?_
  refine s_val hF rfl rfl rfl (e_assign hF rfl) ?_; intro a hF
  refine s_val hF rfl rfl rfl (e_assign hF rfl) ?_; intro a hF
  refine s_nil ?_
  refine then_n ?_
  refine wp_seq ?_
  refine wp_seq ?_
  obtain ⟨t1, h2, H⟩ := bind_some H
  refine s_region ?_
  refine s_val hF rfl rfl rfl (e_move hF rfl) ?_; intro a hF
  refine s_call hF rfl rfl rfl Try.call76 (impl_IsPool.calls K l0 u0 (q0.frm hM.frm) t1 h2) ?_; intro a w v hF hf hR
  subst hR; have hM := hM.grow hf
  refine s_val hF rfl rfl rfl (e_not hF rfl) ?_; intro a hF
  refine s_nil ?_
  refine then_n ?_
  rcases ite_cases H with ⟨c3, H⟩ | ⟨c3, H⟩
  ·
    refine s_cond_f hF rfl (congrArg Bool.not c3) ?_
    refine wp_skip ?_
    refine then_n ?_
    refine wp_seq ?_
    refine s_region ?_
    refine s_val hF rfl rfl rfl (e_assign hF rfl) ?_; intro a hF
    refine s_nil ?_
    refine then_n ?_
    refine wp_seq ?_
    refine wp_seq ?_
    refine s_region ?_
    refine s_val hF rfl rfl rfl (e_assign hF rfl) ?_; intro a hF
    refine s_nil ?_
    refine then_n ?_
    refine wp_block ?_
    have hM := hM.nilRow cd3
    obtain ⟨o60, h61, H⟩ := bind_some H
    refine wp_mono (Q := fun e a w => (e = Exit.exit 0 ∧ ∃ v43 : Value, ∃ x44 : (List Int), x44 = o60 ∧ Fr 27 a [(4, v43)] ∧ Ms [] w0 w [rowR cd3 v43 x44])) ?_ ?_
    · refine s_loop (fun kq a w => ∃ v46 : Value, ∃ x45 : Int, ∃ x47 : (List Int), impl_FairSizes.l0 K l0 kq x45 x47 = some o60 ∧ Fr 27 a [(0, u0), (4, v46), (5, Value.int .i64 x45)] ∧ Ms [] w0 w [rowR cd3 v46 x47]) K ⟨(Value.slice none 0 0), 1, ([] : List Int), h61, hF.sub _ ⟨rfl, rfl, rfl, trivial⟩, hM.pick [0] rfl rfl⟩ ?_ ?_
      · rintro a w ⟨_, _, _, H, _⟩; exact none_some H
      · rintro k a w ⟨v46, x45, x47, H, hF, hM⟩; rw [impl_FairSizes.l0] at H
        refine wp_seq ?_
        refine wp_seq ?_
        refine s_region ?_
        refine s_val hF rfl rfl rfl (e_move hF rfl) ?_; intro a hF
        refine s_val hF rfl rfl rfl (e_leq hF rfl rfl) ?_; intro a hF
        refine s_nil ?_
        refine then_n ?_
        rcases ite_cases H with ⟨c48, H⟩ | ⟨c48, H⟩
        ·
          refine s_cond_t hF rfl (decide_eq_true c48) ?_
          refine wp_skip ?_
          refine then_n ?_
          refine wp_seq ?_
          refine wp_block ?_
          refine wp_seq ?_
          obtain ⟨t49, h50, H⟩ := bind_some H
          refine s_region ?_
          refine s_val hF rfl rfl rfl (e_move hF rfl) ?_; intro a hF
          refine s_val hF rfl rfl rfl (e_move hF rfl) ?_; intro a hF
          refine s_call hF rfl rfl rfl Try.call78 (impl_remainders.calls K l0 u0 (q0.frm hM.frm) x45 t49 h50) ?_; intro a w v51 hF hf hR
          have hM := hM.fresh hf hR
          refine s_val hF rfl rfl rfl (e_assign hF rfl) ?_; intro a hF
          refine s_nil ?_
          refine then_n ?_
          refine wp_seq ?_
          obtain ⟨t52, h53, H⟩ := bind_some H
          obtain ⟨t54, h55, H⟩ := bind_some H
          refine s_region ?_
          refine s_val hF rfl rfl rfl (e_move hF rfl) ?_; intro a hF
          refine s_call hF rfl rfl rfl Try.call80 (slices_Max_int_int.calls K t49 v51 (hM.sl 0 rfl) t52 h53) ?_; intro a w v hF hf hR
          subst hR; have hM := hM.grow hf
          refine s_val hF rfl rfl rfl (e_move hF rfl) ?_; intro a hF
          refine s_call hF rfl rfl rfl Try.call81 (slices_Min_int_int.calls K t49 v51 (hM.sl 0 rfl) t54 h55) ?_; intro a w v hF hf hR
          subst hR; have hM := hM.grow hf
          refine s_val hF rfl rfl rfl (e_eql hF rfl rfl) ?_; intro a hF
          refine s_nil ?_
          refine then_n ?_
          rcases ite_cases H with ⟨c56, H⟩ | ⟨c56, H⟩
          ·
            refine s_cond_t hF rfl (decide_eq_true c56) ?_
            obtain ⟨c59, H⟩ := ite_some H
            refine s_region ?_
            refine s_val hF rfl rfl rfl (e_move hF rfl) ?_; intro a hF
            refine s_val hF rfl rfl rfl (e_move hF rfl) ?_; intro a hF
            refine s_bsl (C := cd3) [x45] cdok3 hF hM rfl rfl rfl rfl Try.underlying32 rfl ?_; intro a w v57 hF hM
            refine s_append (i := 2) cdok3 hF hM rfl rfl rfl rfl rfl (hM.sl 0 rfl) Try.underlying32 c59 ?_; intro a w v58 hF hM
            refine s_val hF rfl rfl rfl (e_assign hF rfl) ?_; intro a hF
            refine s_nil ?_
            refine blk_n ?_
            refine then_n ?_
            refine s_region ?_
            refine s_val hF rfl rfl rfl (e_move hF rfl) ?_; intro a hF
            refine s_val hF rfl rfl rfl (e_add hF rfl rfl) ?_; intro a hF
            refine s_val hF rfl rfl rfl (e_assign hF rfl) ?_; intro a hF
            refine s_nil ?_
            refine then_n ?_
            exact ⟨v58, (wrap64 (x45 + 1)), (x47 ++ [x45]), H, hF.sub _ ⟨rfl, rfl, rfl, trivial⟩, hM.pick [2] rfl rfl⟩
          ·
            refine s_cond_f hF rfl (decide_eq_false c56) ?_
            refine wp_skip ?_
            refine blk_n ?_
            refine then_n ?_
            refine s_region ?_
            refine s_val hF rfl rfl rfl (e_move hF rfl) ?_; intro a hF
            refine s_val hF rfl rfl rfl (e_add hF rfl rfl) ?_; intro a hF
            refine s_val hF rfl rfl rfl (e_assign hF rfl) ?_; intro a hF
            refine s_nil ?_
            refine then_n ?_
            exact ⟨v46, (wrap64 (x45 + 1)), x47, H, hF.sub _ ⟨rfl, rfl, rfl, trivial⟩, hM.pick [1] rfl rfl⟩
        ·
          refine s_cond_f hF rfl (decide_eq_false c48) ?_
          refine wp_exit ?_
          refine then_x ?_
          refine then_x ?_
          exact ⟨rfl, v46, x47, some_some H, hF.sub _ ⟨rfl, trivial⟩, hM.pick [0] rfl rfl⟩
    · rintro e a w ⟨rfl, v43, x44, rfl, hF, hM⟩
      skip
      refine blk_x ?_
      refine then_n ?_
      refine wp_seq ?_
      refine s_region ?_
      refine s_val hF rfl rfl rfl (e_move hF rfl) ?_; intro a hF
      refine s_val hF rfl rfl rfl (e_assign hF rfl) ?_; intro a hF
      refine s_val hF rfl rfl rfl (e_assign hF rfl) ?_; intro a hF
      refine s_nil ?_
      refine then_n ?_
      refine wp_ret ?_
      obtain rfl := some_some H
      refine s_ret [v43, Value.bool true] hF Try.results50 ⟨rfl, rfl, trivial⟩ ?_
      exact ⟨_, rfl, hM.frm, ⟨v43, rfl, hM.give 0 rfl⟩⟩
  ·
    refine s_cond_t hF rfl (congrArg Bool.not (bf c3)) ?_
    refine wp_seq ?_
    refine s_region ?_
    refine s_val hF rfl rfl rfl (e_assign hF rfl) ?_; intro a hF
    refine s_val hF rfl rfl rfl (e_assign hF rfl) ?_; intro a hF
    refine s_nil ?_
    refine then_n ?_
    refine wp_ret ?_
    refine then_r ?_
    obtain rfl := some_some H
    refine s_ret [(Value.slice none 0 0), Value.bool false] hF Try.results50 ⟨rfl, rfl, trivial⟩ ?_
    exact ⟨_, rfl, hM.frm, ⟨(Value.slice none 0 0), rfl, Fresh.nil _ _ _⟩⟩

/-! ### loop.example/g01210/laws.eqIntS: function 28 -/
def laws_eqIntS.l0 (K : Nat) (l0 : (List Int)) (l1 : (List Int)) : Nat → Int → Option (Sum Unit Bool)
  | 0, _ => none
  | k + 1, x11 => if x11 < (l0.length : Int) then (if (0 : Int) ≤ x11 ∧ x11 < (l0.length : Int) then (if (0 : Int) ≤ x11 ∧ x11 < (l1.length : Int) then (if (l0.getD (x11 : Int).toNat (0 : Int)) = (l1.getD (x11 : Int).toNat (0 : Int)) then (laws_eqIntS.l0 K l0 l1 k (wrap64 (x11 + 1))) else (some (Sum.inr false))) else none) else none) else (some (Sum.inl ()))
def laws_eqIntS.f (K : Nat) (l0 : (List Int)) (l1 : (List Int)) : Option Bool := if (l0.length : Int) = (l1.length : Int) then ((laws_eqIntS.l0 K l0 l1 K 0).bind fun o18 => (match o18 with | .inl () => some true | .inr r20 => some r20)) else (some false)
set_option maxRecDepth 100000 in
set_option maxHeartbeats 4000000 in
theorem laws_eqIntS.calls {w0 : World} (K : Nat) (l0 : (List Int)) (u0 : Value) (q0 : SlR cd3 w0 u0 l0) (l1 : (List Int)) (u1 : Value) (q1 : SlR cd3 w0 u1 l1) (r : Bool) (H : laws_eqIntS.f K l0 l1 = some r) : Calls Try.prog 28 [u0, u1].toArray w0 (Post w0 fun w v => v = Value.bool r) := by
  rw [laws_eqIntS.f] at H
  refine s_start Try.func28 rfl Try.ntmps28 rfl ?_
  intro a hF
  have hM := Ms.start w0
  skip
  refine wp_seq ?_
  refine s_region ?_
  refine s_val hF rfl rfl rfl (e_assign hF rfl) ?_; intro a hF
  refine s_nil ?_
  refine then_n ?_
  refine wp_seq ?_
  refine wp_seq ?_
  refine s_region ?_
  refine s_val hF rfl rfl rfl (e_move hF rfl) ?_; intro a hF
  refine s_val hF rfl rfl rfl (e_len hF rfl (q0.frm hM.frm).toF Try.underlying32) ?_; intro a hF
  refine s_val hF rfl rfl rfl (e_move hF rfl) ?_; intro a hF
  refine s_val hF rfl rfl rfl (e_len hF rfl (q1.frm hM.frm).toF Try.underlying32) ?_; intro a hF
  refine s_val hF rfl rfl rfl (e_neq hF rfl rfl) ?_; intro a hF
  refine s_nil ?_
  refine then_n ?_
  rcases ite_cases H with ⟨c1, H⟩ | ⟨c1, H⟩
  ·
    refine s_cond_f hF rfl (congrArg Bool.not (decide_eq_true c1)) ?_
    refine wp_skip ?_
    refine then_n ?_
    refine wp_seq ?_
    refine wp_seq ?_
    refine s_region ?_
    refine s_val hF rfl rfl rfl (e_assign hF rfl) ?_; intro a hF
    refine s_nil ?_
    refine then_n ?_
    refine wp_block ?_
    obtain ⟨o18, h19, H⟩ := bind_some H
    refine wp_mono (Q := fun e a w => (e = Exit.exit 0 ∧ Sum.inl () = o18 ∧ Fr 26 a [] ∧ Ms [] w0 w []) ∨ (e = Exit.ret ∧ ∃ r20 : Bool, Sum.inr r20 = o18 ∧ Fr 26 a [(4, Value.bool r20)] ∧ Ms [] w0 w [])) ?_ ?_
    · refine s_loop (fun kq a w => ∃ x11 : Int, laws_eqIntS.l0 K l0 l1 kq x11 = some o18 ∧ Fr 26 a [(0, u0), (1, u1), (5, Value.int .i64 x11)] ∧ Ms [] w0 w []) K ⟨0, h19, hF.sub _ ⟨rfl, rfl, rfl, trivial⟩, hM.pick [] rfl rfl⟩ ?_ ?_
      · rintro a w ⟨_, H, _⟩; exact none_some H
      · rintro k a w ⟨x11, H, hF, hM⟩; rw [laws_eqIntS.l0] at H
        refine wp_seq ?_
        refine wp_seq ?_
        refine s_region ?_
        refine s_val hF rfl rfl rfl (e_move hF rfl) ?_; intro a hF
        refine s_val hF rfl rfl rfl (e_move hF rfl) ?_; intro a hF
        refine s_val hF rfl rfl rfl (e_len hF rfl (q0.frm hM.frm).toF Try.underlying32) ?_; intro a hF
        refine s_val hF rfl rfl rfl (e_lss hF rfl rfl) ?_; intro a hF
        refine s_nil ?_
        refine then_n ?_
        rcases ite_cases H with ⟨c12, H⟩ | ⟨c12, H⟩
        ·
          refine s_cond_t hF rfl (decide_eq_true c12) ?_
          refine wp_skip ?_
          refine then_n ?_
          refine wp_seq ?_
          refine wp_block ?_
          refine wp_seq ?_
          obtain ⟨c13, H⟩ := ite_some H
          obtain ⟨c14, H⟩ := ite_some H
          refine s_held (fun w => Ms [] w0 w []) #[false, false, false, false, false, false, false, false, false] mixed rfl rfl hM ?_; intro w hf hM; clear hf
          refine h_val 0 #[true, false, false, false, false, false, false, false, false] rfl (by kernel_rfl) hF rfl rfl rfl (fun w hS => e_move hF rfl) (hM.pick [] rfl rfl) ?_; intro a hF
          refine h_val 1 #[true, true, false, false, false, false, false, false, false] rfl (by kernel_rfl) hF rfl rfl rfl (fun w hS => e_move hF rfl) (hM.pick [] rfl rfl) ?_; intro a hF
          have f15 := (q0.frm hM.frm).toF
          refine h_val 2 #[true, true, true, false, false, false, false, false, false] rfl (by kernel_rfl) hF rfl rfl rfl (fun w hS => e_ias cd3 hF rfl rfl f15 Try.underlying32 Try.sizeOf3 c13.1 c13.2) (hM.pick [] rfl rfl) ?_; intro a hF
          refine h_val 3 #[true, true, true, true, false, false, false, false, false] rfl (by kernel_rfl) hF rfl rfl rfl (fun w hS => e_lds (m := x11) hF rfl (q0.frm hS.frm) (getD_some (z := (0 : Int)) c13.1 c13.2) rfl rfl Try.isAgg3) (hM.pick [] rfl rfl) ?_; intro a hF
          refine h_val 4 #[true, true, true, true, true, false, false, false, false] rfl (by kernel_rfl) hF rfl rfl rfl (fun w hS => e_move hF rfl) (hM.pick [] rfl rfl) ?_; intro a hF
          refine h_val 5 #[true, true, true, true, true, true, false, false, false] rfl (by kernel_rfl) hF rfl rfl rfl (fun w hS => e_move hF rfl) (hM.pick [] rfl rfl) ?_; intro a hF
          have f16 := (q1.frm hM.frm).toF
          refine h_val 6 #[true, true, true, true, true, true, true, false, false] rfl (by kernel_rfl) hF rfl rfl rfl (fun w hS => e_ias cd3 hF rfl rfl f16 Try.underlying32 Try.sizeOf3 c14.1 c14.2) (hM.pick [] rfl rfl) ?_; intro a hF
          refine h_val 7 #[true, true, true, true, true, true, true, true, false] rfl (by kernel_rfl) hF rfl rfl rfl (fun w hS => e_lds (m := x11) hF rfl (q1.frm hS.frm) (getD_some (z := (0 : Int)) c14.1 c14.2) rfl rfl Try.isAgg3) (hM.pick [] rfl rfl) ?_; intro a hF
          refine h_val 8 #[true, true, true, true, true, true, true, true, true] rfl (by kernel_rfl) hF rfl rfl rfl (fun w hS => e_neq hF rfl rfl) (hM.pick [] rfl rfl) ?_; intro a hF
          refine h_done rfl ?_
          refine then_n ?_
          rcases ite_cases H with ⟨c17, H⟩ | ⟨c17, H⟩
          ·
            refine s_cond_f hF rfl (congrArg Bool.not (decide_eq_true c17)) ?_
            refine wp_skip ?_
            refine blk_n ?_
            refine then_n ?_
            refine s_region ?_
            refine s_val hF rfl rfl rfl (e_move hF rfl) ?_; intro a hF
            refine s_val hF rfl rfl rfl (e_add hF rfl rfl) ?_; intro a hF
            refine s_val hF rfl rfl rfl (e_assign hF rfl) ?_; intro a hF
            refine s_nil ?_
            refine then_n ?_
            exact ⟨(wrap64 (x11 + 1)), H, hF.sub _ ⟨rfl, rfl, rfl, trivial⟩, hM.pick [] rfl rfl⟩
          ·
            refine s_cond_t hF rfl (congrArg Bool.not (decide_eq_false c17)) ?_
            refine wp_seq ?_
            refine s_region ?_
            refine s_val hF rfl rfl rfl (e_assign hF rfl) ?_; intro a hF
            refine s_nil ?_
            refine then_n ?_
            refine wp_ret ?_
            refine blk_r ?_
            refine then_r ?_
            refine then_r ?_
            exact Or.inr (⟨rfl, false, some_some H, hF.sub _ ⟨rfl, trivial⟩, hM.pick [] rfl rfl⟩)
        ·
          refine s_cond_f hF rfl (decide_eq_false c12) ?_
          refine wp_exit ?_
          refine then_x ?_
          refine then_x ?_
          exact Or.inl (⟨rfl, some_some H, hF.sub _ trivial, hM.pick [] rfl rfl⟩)
    · rintro e a w (⟨rfl, rfl, hF, hM⟩ | ⟨rfl, r20, rfl, hF, hM⟩)
      ·
        dsimp only at H
        refine blk_x ?_
        refine then_n ?_
        refine wp_seq ?_
        refine s_region ?_
        refine s_val hF rfl rfl rfl (e_assign hF rfl) ?_; intro a hF
        refine s_nil ?_
        refine then_n ?_
        refine wp_ret ?_
        obtain rfl := some_some H
        refine s_ret [Value.bool true] hF Try.results28 ⟨rfl, trivial⟩ ?_
        exact ⟨_, rfl, hM.frm, rfl⟩
      ·
        dsimp only at H
        refine blk_r ?_
        refine then_r ?_
        obtain rfl := some_some H
        refine s_ret [Value.bool r20] hF Try.results28 ⟨rfl, trivial⟩ ?_
        exact ⟨_, rfl, hM.frm, rfl⟩
  ·
    refine s_cond_t hF rfl (congrArg Bool.not (decide_eq_false c1)) ?_
    refine wp_seq ?_
    refine s_region ?_
    refine s_val hF rfl rfl rfl (e_assign hF rfl) ?_; intro a hF
    refine s_nil ?_
    refine then_n ?_
    refine wp_ret ?_
    refine then_r ?_
    obtain rfl := some_some H
    refine s_ret [Value.bool false] hF Try.results28 ⟨rfl, trivial⟩ ?_
    exact ⟨_, rfl, hM.frm, rfl⟩

/-! ### loop.example/g01210/laws.eqIntA6: function 79 -/
def laws_eqIntA6.l0 (K : Nat) (a0 : (Ar 6)) (a1 : (Ar 6)) : Nat → Int → Option (Sum Unit Bool)
  | 0, _ => none
  | k + 1, x8 => if x8 < 6 then (if (0 : Int) ≤ x8 ∧ x8 < 6 then (if (a0.get x8) = (a1.get x8) then (laws_eqIntA6.l0 K a0 a1 k (wrap64 (x8 + 1))) else (some (Sum.inr false))) else none) else (some (Sum.inl ()))
def laws_eqIntA6.f (K : Nat) (a0 : (Ar 6)) (a1 : (Ar 6)) : Option Bool := (laws_eqIntA6.l0 K a0 a1 K 0).bind fun o12 => (match o12 with | .inl () => some true | .inr r14 => some r14)
set_option maxRecDepth 100000 in
set_option maxHeartbeats 4000000 in
theorem laws_eqIntA6.calls {w0 : World} (K : Nat) (a0 : (Ar 6)) (a1 : (Ar 6)) (r : Bool) (H : laws_eqIntA6.f K a0 a1 = some r) : Calls Try.prog 79 [ag [Pt.ar a0], ag [Pt.ar a1]].toArray w0 (Post w0 fun w v => v = Value.bool r) := by
  rw [laws_eqIntA6.f] at H
  refine s_start Try.func79 rfl Try.ntmps79 rfl ?_
  intro a hF
  have hM := Ms.start w0
  skip
  refine wp_seq ?_
  refine s_region ?_
  refine s_box (ps := [Pt.ar a0]) hF hM rfl rfl rfl rfl ?_; intro a w b1 hF hM
  refine s_box (ps := [Pt.ar a1]) hF hM rfl rfl rfl rfl ?_; intro a w b2 hF hM
  refine s_val hF rfl rfl rfl (e_assign hF rfl) ?_; intro a hF
  refine s_nil ?_
  refine then_n ?_
  refine wp_seq ?_
  refine wp_seq ?_
  refine s_region ?_
  refine s_val hF rfl rfl rfl (e_assign hF rfl) ?_; intro a hF
  refine s_nil ?_
  refine then_n ?_
  refine wp_block ?_
  obtain ⟨o12, h13, H⟩ := bind_some H
  refine wp_mono (Q := fun e a w => (e = Exit.exit 0 ∧ Sum.inl () = o12 ∧ Fr 17 a [] ∧ Ms [] w0 w []) ∨ (e = Exit.ret ∧ ∃ r14 : Bool, Sum.inr r14 = o12 ∧ Fr 17 a [(4, Value.bool r14)] ∧ Ms [] w0 w [])) ?_ ?_
  · refine s_loop (fun kq a w => ∃ x8 : Int, laws_eqIntA6.l0 K a0 a1 kq x8 = some o12 ∧ Fr 17 a [(2, pt b1 0), (3, pt b2 0), (5, Value.int .i64 x8)] ∧ Ms [] w0 w [boxR b1 [Pt.ar a0] 70, boxR b2 [Pt.ar a1] 70]) K ⟨0, h13, hF.sub _ ⟨rfl, rfl, rfl, trivial⟩, hM.pick [1, 0] rfl rfl⟩ ?_ ?_
    · rintro a w ⟨_, H, _⟩; exact none_some H
    · rintro k a w ⟨x8, H, hF, hM⟩; rw [laws_eqIntA6.l0] at H
      refine wp_seq ?_
      refine wp_seq ?_
      refine s_region ?_
      refine s_val hF rfl rfl rfl (e_move hF rfl) ?_; intro a hF
      refine s_val hF rfl rfl rfl (e_lss hF rfl rfl) ?_; intro a hF
      refine s_nil ?_
      refine then_n ?_
      rcases ite_cases H with ⟨c9, H⟩ | ⟨c9, H⟩
      ·
        refine s_cond_t hF rfl (decide_eq_true c9) ?_
        refine wp_skip ?_
        refine then_n ?_
        refine wp_seq ?_
        refine wp_block ?_
        refine wp_seq ?_
        obtain ⟨c10, H⟩ := ite_some H
        refine s_held (fun w => Ms [] w0 w [boxR b1 [Pt.ar a0] 70, boxR b2 [Pt.ar a1] 70]) #[false, false, false, false, false, false, false] mixed rfl rfl hM ?_; intro w hf hM; clear hf
        refine h_val 0 #[true, false, false, false, false, false, false] rfl (by kernel_rfl) hF rfl rfl rfl (fun w hS => e_move hF rfl) (hM.pick [0, 1] rfl rfl) ?_; intro a hF
        refine h_val 1 #[true, true, false, false, false, false, false] rfl (by kernel_rfl) hF rfl rfl rfl (fun w hS => e_ia hF rfl rfl Try.underlying70 Try.sizeOf3 c10.1 c10.2) (hM.pick [0, 1] rfl rfl) ?_; intro a hF
        refine h_val 2 #[true, true, true, false, false, false, false] rfl (by kernel_rfl) hF rfl rfl rfl (fun w hS => e_ldi (i := 0) (k := 0) hF hS rfl rfl rfl rfl rfl Try.isAgg3 c10.1 c10.2) (hM.pick [0, 1] rfl rfl) ?_; intro a hF
        refine h_val 3 #[true, true, true, true, false, false, false] rfl (by kernel_rfl) hF rfl rfl rfl (fun w hS => e_move hF rfl) (hM.pick [0, 1] rfl rfl) ?_; intro a hF
        refine h_val 4 #[true, true, true, true, true, false, false] rfl (by kernel_rfl) hF rfl rfl rfl (fun w hS => e_ia hF rfl rfl Try.underlying70 Try.sizeOf3 c10.1 c10.2) (hM.pick [0, 1] rfl rfl) ?_; intro a hF
        refine h_val 5 #[true, true, true, true, true, true, false] rfl (by kernel_rfl) hF rfl rfl rfl (fun w hS => e_ldi (i := 1) (k := 0) hF hS rfl rfl rfl rfl rfl Try.isAgg3 c10.1 c10.2) (hM.pick [0, 1] rfl rfl) ?_; intro a hF
        refine h_val 6 #[true, true, true, true, true, true, true] rfl (by kernel_rfl) hF rfl rfl rfl (fun w hS => e_neq hF rfl rfl) (hM.pick [0, 1] rfl rfl) ?_; intro a hF
        refine h_done rfl ?_
        refine then_n ?_
        rcases ite_cases H with ⟨c11, H⟩ | ⟨c11, H⟩
        ·
          refine s_cond_f hF rfl (congrArg Bool.not (decide_eq_true c11)) ?_
          refine wp_skip ?_
          refine blk_n ?_
          refine then_n ?_
          refine s_region ?_
          refine s_val hF rfl rfl rfl (e_move hF rfl) ?_; intro a hF
          refine s_val hF rfl rfl rfl (e_add hF rfl rfl) ?_; intro a hF
          refine s_val hF rfl rfl rfl (e_assign hF rfl) ?_; intro a hF
          refine s_nil ?_
          refine then_n ?_
          exact ⟨(wrap64 (x8 + 1)), H, hF.sub _ ⟨rfl, rfl, rfl, trivial⟩, hM.pick [0, 1] rfl rfl⟩
        ·
          refine s_cond_t hF rfl (congrArg Bool.not (decide_eq_false c11)) ?_
          refine wp_seq ?_
          refine s_region ?_
          refine s_val hF rfl rfl rfl (e_assign hF rfl) ?_; intro a hF
          refine s_nil ?_
          refine then_n ?_
          refine wp_ret ?_
          refine blk_r ?_
          refine then_r ?_
          refine then_r ?_
          exact Or.inr (⟨rfl, false, some_some H, hF.sub _ ⟨rfl, trivial⟩, hM.pick [] rfl rfl⟩)
      ·
        refine s_cond_f hF rfl (decide_eq_false c9) ?_
        refine wp_exit ?_
        refine then_x ?_
        refine then_x ?_
        exact Or.inl (⟨rfl, some_some H, hF.sub _ trivial, hM.pick [] rfl rfl⟩)
  · rintro e a w (⟨rfl, rfl, hF, hM⟩ | ⟨rfl, r14, rfl, hF, hM⟩)
    ·
      dsimp only at H
      refine blk_x ?_
      refine then_n ?_
      refine wp_seq ?_
      refine s_region ?_
      refine s_val hF rfl rfl rfl (e_assign hF rfl) ?_; intro a hF
      refine s_nil ?_
      refine then_n ?_
      refine wp_ret ?_
      obtain rfl := some_some H
      refine s_ret [Value.bool true] hF Try.results79 ⟨rfl, trivial⟩ ?_
      exact ⟨_, rfl, hM.frm, rfl⟩
    ·
      dsimp only at H
      refine blk_r ?_
      refine then_r ?_
      obtain rfl := some_some H
      refine s_ret [Value.bool r14] hF Try.results79 ⟨rfl, trivial⟩ ?_
      exact ⟨_, rfl, hM.frm, rfl⟩

/-! ### loop.example/g01210/laws.eqIntA6S: function 47 -/
def laws_eqIntA6S.l0 (K : Nat) (l0 : (List (Ar 6))) (l1 : (List (Ar 6))) : Nat → Int → Option (Sum Unit Bool)
  | 0, _ => none
  | k + 1, x15 => if x15 < (l0.length : Int) then (if (0 : Int) ≤ x15 ∧ x15 < (l0.length : Int) then (if (0 : Int) ≤ x15 ∧ x15 < (l1.length : Int) then ((laws_eqIntA6.f K (l0.getD (x15 : Int).toNat (Ar.zero 6)) (l1.getD (x15 : Int).toNat (Ar.zero 6))).bind fun t19 => if t19 = true then (laws_eqIntA6S.l0 K l0 l1 k (wrap64 (x15 + 1))) else (some (Sum.inr false))) else none) else none) else (some (Sum.inl ()))
def laws_eqIntA6S.f (K : Nat) (l0 : (List (Ar 6))) (l1 : (List (Ar 6))) : Option Bool := if (l0.length : Int) = (l1.length : Int) then ((laws_eqIntA6S.l0 K l0 l1 K 0).bind fun o24 => (match o24 with | .inl () => some true | .inr r26 => some r26)) else (some false)
set_option maxRecDepth 100000 in
set_option maxHeartbeats 4000000 in
theorem laws_eqIntA6S.calls {w0 : World} (K : Nat) (l0 : (List (Ar 6))) (u0 : Value) (q0 : SlR cd70 w0 u0 l0) (l1 : (List (Ar 6))) (u1 : Value) (q1 : SlR cd70 w0 u1 l1) (r : Bool) (H : laws_eqIntA6S.f K l0 l1 = some r) : Calls Try.prog 47 [u0, u1].toArray w0 (Post w0 fun w v => v = Value.bool r) := by
  rw [laws_eqIntA6S.f] at H
  refine s_start Try.func47 rfl Try.ntmps47 rfl ?_
  intro a hF
  have hM := Ms.start w0
  skip
  refine wp_seq ?_
  refine s_region ?_
  refine s_val hF rfl rfl rfl (e_assign hF rfl) ?_; intro a hF
  refine s_nil ?_
  refine then_n ?_
  refine wp_seq ?_
  refine wp_seq ?_
  refine s_region ?_
  refine s_val hF rfl rfl rfl (e_move hF rfl) ?_; intro a hF
  refine s_val hF rfl rfl rfl (e_len hF rfl (q0.frm hM.frm).toF Try.underlying51) ?_; intro a hF
  refine s_val hF rfl rfl rfl (e_move hF rfl) ?_; intro a hF
  refine s_val hF rfl rfl rfl (e_len hF rfl (q1.frm hM.frm).toF Try.underlying51) ?_; intro a hF
  refine s_val hF rfl rfl rfl (e_neq hF rfl rfl) ?_; intro a hF
  refine s_nil ?_
  refine then_n ?_
  rcases ite_cases H with ⟨c1, H⟩ | ⟨c1, H⟩
  ·
    refine s_cond_f hF rfl (congrArg Bool.not (decide_eq_true c1)) ?_
    refine wp_skip ?_
    refine then_n ?_
    refine wp_seq ?_
    refine wp_seq ?_
    refine s_region ?_
    refine s_val hF rfl rfl rfl (e_assign hF rfl) ?_; intro a hF
    refine s_nil ?_
    refine then_n ?_
    refine wp_block ?_
    obtain ⟨o24, h25, H⟩ := bind_some H
    refine wp_mono (Q := fun e a w => (e = Exit.exit 0 ∧ Sum.inl () = o24 ∧ Fr 27 a [] ∧ Ms [] w0 w []) ∨ (e = Exit.ret ∧ ∃ r26 : Bool, Sum.inr r26 = o24 ∧ Fr 27 a [(4, Value.bool r26)] ∧ Ms [] w0 w [])) ?_ ?_
    · refine s_loop (fun kq a w => ∃ x15 : Int, laws_eqIntA6S.l0 K l0 l1 kq x15 = some o24 ∧ Fr 27 a [(0, u0), (1, u1), (5, Value.int .i64 x15)] ∧ Ms [] w0 w []) K ⟨0, h25, hF.sub _ ⟨rfl, rfl, rfl, trivial⟩, hM.pick [] rfl rfl⟩ ?_ ?_
      · rintro a w ⟨_, H, _⟩; exact none_some H
      · rintro k a w ⟨x15, H, hF, hM⟩; rw [laws_eqIntA6S.l0] at H
        refine wp_seq ?_
        refine wp_seq ?_
        refine s_region ?_
        refine s_val hF rfl rfl rfl (e_move hF rfl) ?_; intro a hF
        refine s_val hF rfl rfl rfl (e_move hF rfl) ?_; intro a hF
        refine s_val hF rfl rfl rfl (e_len hF rfl (q0.frm hM.frm).toF Try.underlying51) ?_; intro a hF
        refine s_val hF rfl rfl rfl (e_lss hF rfl rfl) ?_; intro a hF
        refine s_nil ?_
        refine then_n ?_
        rcases ite_cases H with ⟨c16, H⟩ | ⟨c16, H⟩
        ·
          refine s_cond_t hF rfl (decide_eq_true c16) ?_
          refine wp_skip ?_
          refine then_n ?_
          refine wp_seq ?_
          refine wp_block ?_
          refine wp_seq ?_
          obtain ⟨c17, H⟩ := ite_some H
          obtain ⟨c18, H⟩ := ite_some H
          obtain ⟨t19, h20, H⟩ := bind_some H
          refine s_held (fun w => Ms [] w0 w []) #[false, false, false, false, false, false, false, false, false, false] mixed rfl rfl hM ?_; intro w hf hM; clear hf
          refine h_val 0 #[true, false, false, false, false, false, false, false, false, false] rfl (by kernel_rfl) hF rfl rfl rfl (fun w hS => e_move hF rfl) (hM.pick [] rfl rfl) ?_; intro a hF
          refine h_val 1 #[true, true, false, false, false, false, false, false, false, false] rfl (by kernel_rfl) hF rfl rfl rfl (fun w hS => e_move hF rfl) (hM.pick [] rfl rfl) ?_; intro a hF
          have f21 := (q0.frm hM.frm).toF
          refine h_val 2 #[true, true, true, false, false, false, false, false, false, false] rfl (by kernel_rfl) hF rfl rfl rfl (fun w hS => e_ias cd70 hF rfl rfl f21 Try.underlying51 Try.sizeOf70 c17.1 c17.2) (hM.pick [] rfl rfl) ?_; intro a hF
          refine h_val 3 #[true, true, true, true, false, false, false, false, false, false] rfl (by kernel_rfl) hF rfl rfl rfl (fun w hS => e_ldsa (m := x15) hF rfl (q0.frm hS.frm) (getD_some (z := (Ar.zero 6)) c17.1 c17.2) Try.isAgg70 Try.sizeOf70) (hM.pick [] rfl rfl) ?_; intro a hF
          refine h_val 4 #[true, true, true, true, true, false, false, false, false, false] rfl (by kernel_rfl) hF rfl rfl rfl (fun w hS => e_move hF rfl) (hM.pick [] rfl rfl) ?_; intro a hF
          refine h_val 5 #[true, true, true, true, true, true, false, false, false, false] rfl (by kernel_rfl) hF rfl rfl rfl (fun w hS => e_move hF rfl) (hM.pick [] rfl rfl) ?_; intro a hF
          have f22 := (q1.frm hM.frm).toF
          refine h_val 6 #[true, true, true, true, true, true, true, false, false, false] rfl (by kernel_rfl) hF rfl rfl rfl (fun w hS => e_ias cd70 hF rfl rfl f22 Try.underlying51 Try.sizeOf70 c18.1 c18.2) (hM.pick [] rfl rfl) ?_; intro a hF
          refine h_val 7 #[true, true, true, true, true, true, true, true, false, false] rfl (by kernel_rfl) hF rfl rfl rfl (fun w hS => e_ldsa (m := x15) hF rfl (q1.frm hS.frm) (getD_some (z := (Ar.zero 6)) c18.1 c18.2) Try.isAgg70 Try.sizeOf70) (hM.pick [] rfl rfl) ?_; intro a hF
          refine h_one 8 #[true, true, true, true, true, true, true, true, true, false] rfl (by kernel_rfl) ?_
          refine s_call hF rfl rfl rfl Try.call79 (laws_eqIntA6.calls K (l0.getD (x15 : Int).toNat (Ar.zero 6)) (l1.getD (x15 : Int).toNat (Ar.zero 6)) t19 h20) ?_; intro a w v hF hf hR
          subst hR; have hM := hM.grow hf
          refine s_nil ⟨rfl, (hM.pick [] rfl rfl), ?_⟩
          refine h_val 9 #[true, true, true, true, true, true, true, true, true, true] rfl (by kernel_rfl) hF rfl rfl rfl (fun w hS => e_not hF rfl) (hM.pick [] rfl rfl) ?_; intro a hF
          refine h_done rfl ?_
          refine then_n ?_
          rcases ite_cases H with ⟨c23, H⟩ | ⟨c23, H⟩
          ·
            refine s_cond_f hF rfl (congrArg Bool.not c23) ?_
            refine wp_skip ?_
            refine blk_n ?_
            refine then_n ?_
            refine s_region ?_
            refine s_val hF rfl rfl rfl (e_move hF rfl) ?_; intro a hF
            refine s_val hF rfl rfl rfl (e_add hF rfl rfl) ?_; intro a hF
            refine s_val hF rfl rfl rfl (e_assign hF rfl) ?_; intro a hF
            refine s_nil ?_
            refine then_n ?_
            exact ⟨(wrap64 (x15 + 1)), H, hF.sub _ ⟨rfl, rfl, rfl, trivial⟩, hM.pick [] rfl rfl⟩
          ·
            refine s_cond_t hF rfl (congrArg Bool.not (bf c23)) ?_
            refine wp_seq ?_
            refine s_region ?_
            refine s_val hF rfl rfl rfl (e_assign hF rfl) ?_; intro a hF
            refine s_nil ?_
            refine then_n ?_
            refine wp_ret ?_
            refine blk_r ?_
            refine then_r ?_
            refine then_r ?_
            exact Or.inr (⟨rfl, false, some_some H, hF.sub _ ⟨rfl, trivial⟩, hM.pick [] rfl rfl⟩)
        ·
          refine s_cond_f hF rfl (decide_eq_false c16) ?_
          refine wp_exit ?_
          refine then_x ?_
          refine then_x ?_
          exact Or.inl (⟨rfl, some_some H, hF.sub _ trivial, hM.pick [] rfl rfl⟩)
    · rintro e a w (⟨rfl, rfl, hF, hM⟩ | ⟨rfl, r26, rfl, hF, hM⟩)
      ·
        dsimp only at H
        refine blk_x ?_
        refine then_n ?_
        refine wp_seq ?_
        refine s_region ?_
        refine s_val hF rfl rfl rfl (e_assign hF rfl) ?_; intro a hF
        refine s_nil ?_
        refine then_n ?_
        refine wp_ret ?_
        obtain rfl := some_some H
        refine s_ret [Value.bool true] hF Try.results47 ⟨rfl, trivial⟩ ?_
        exact ⟨_, rfl, hM.frm, rfl⟩
      ·
        dsimp only at H
        refine blk_r ?_
        refine then_r ?_
        obtain rfl := some_some H
        refine s_ret [Value.bool r26] hF Try.results47 ⟨rfl, trivial⟩ ?_
        exact ⟨_, rfl, hM.frm, rfl⟩
  ·
    refine s_cond_t hF rfl (congrArg Bool.not (decide_eq_false c1)) ?_
    refine wp_seq ?_
    refine s_region ?_
    refine s_val hF rfl rfl rfl (e_assign hF rfl) ?_; intro a hF
    refine s_nil ?_
    refine then_n ?_
    refine wp_ret ?_
    refine then_r ?_
    obtain rfl := some_some H
    refine s_ret [Value.bool false] hF Try.results47 ⟨rfl, trivial⟩ ?_
    exact ⟨_, rfl, hM.frm, rfl⟩

/-! ### loop.example/g01210/laws.markIntA6S: function 48 -/
def laws_markIntA6S.l3 (K : Nat) (x43 : Int) : Nat → Int → Int → (List (Ar 6)) → Option (Int × (List (Ar 6)))
  | 0, _, _, _ => none
  | k + 1, x55, x56, x57 => if x56 < 6 then (if (0 : Int) ≤ x43 ∧ x43 < (x57.length : Int) then (if (0 : Int) ≤ x56 ∧ x56 < 6 then (laws_markIntA6S.l3 K x43 k (wrap64 (x55 + 1)) (wrap64 (x56 + 1)) (x57.set (x43 : Int).toNat ((x57.getD (x43 : Int).toNat (Ar.zero 6)).set x56 x55))) else none) else none) else (some (x55, x57))
def laws_markIntA6S.l2 (K : Nat) : Nat → Int → Int → (List (Ar 6)) → Option (Int × (List (Ar 6)))
  | 0, _, _, _ => none
  | k + 1, x42, x43, x44 => if x43 < (x44.length : Int) then ((laws_markIntA6S.l3 K x43 K x42 0 x44).bind fun (x53, x54) => laws_markIntA6S.l2 K k x53 (wrap64 (x43 + 1)) x54) else (some (x42, x44))
def laws_markIntA6S.f (K : Nat) (l0 : (List (Ar 6))) (a1 : Int) : Option (Int × (List (Ar 6))) := (laws_markIntA6S.l2 K K a1 0 l0).bind fun (x40, x41) => some (x40, x41)
set_option maxRecDepth 100000 in
set_option maxHeartbeats 4000000 in
theorem laws_markIntA6S.calls {w0 : World} (K : Nat) (l0 : (List (Ar 6))) (u0 : Value) (q0 : (rowR cd70 u0 l0).holds w0) (a1 : Int) (r : (Int × (List (Ar 6)))) (H : laws_markIntA6S.f K l0 a1 = some r) : Calls Try.prog 48 [u0, Value.int .i64 a1].toArray w0 (fun e w => ∃ v, e = .returned v ∧ Frm u0.ownBlock.toList w0 w ∧ (v = Value.int .i64 r.1) ∧ (rowR cd70 u0 r.2).holds w) := by
  rw [laws_markIntA6S.f] at H
  refine s_start Try.func48 rfl Try.ntmps48 rfl ?_
  intro a hF
  have hM := Ms.start1 w0 (rowR cd70 u0 l0) q0 (fun b hb => (World.ownsRow.lt q0 b (by simpa [rowR] using hb)).2)
  skip
  refine wp_seq ?_
  refine s_region ?_
  refine s_val hF rfl rfl rfl (e_assign hF rfl) ?_; intro a hF
  refine s_nil ?_
  refine then_n ?_
  refine wp_seq ?_
  refine wp_seq ?_
  refine s_region ?_
  refine s_val hF rfl rfl rfl (e_assign hF rfl) ?_; intro a hF
  refine s_nil ?_
  refine then_n ?_
  refine wp_block ?_
  obtain ⟨o63, h64, H⟩ := bind_some H
  refine wp_mono (Q := fun e a w => (e = Exit.exit 0 ∧ ∃ x40 : Int, ∃ x41 : (List (Ar 6)), (x40, x41) = o63 ∧ Fr 26 a [(1, Value.int .i64 x40)] ∧ Ms u0.ownBlock.toList w0 w [rowR cd70 u0 x41])) ?_ ?_
  · refine s_loop (fun kq a w => ∃ x42 : Int, ∃ x43 : Int, ∃ x44 : (List (Ar 6)), laws_markIntA6S.l2 K kq x42 x43 x44 = some o63 ∧ Fr 26 a [(0, u0), (1, Value.int .i64 x42), (5, Value.int .i64 x43)] ∧ Ms u0.ownBlock.toList w0 w [rowR cd70 u0 x44]) K ⟨a1, 0, l0, h64, hF.sub _ ⟨rfl, rfl, rfl, trivial⟩, hM.pick [0] rfl rfl⟩ ?_ ?_
    · rintro a w ⟨_, _, _, H, _⟩; exact none_some H
    · rintro k a w ⟨x42, x43, x44, H, hF, hM⟩; rw [laws_markIntA6S.l2] at H
      refine wp_seq ?_
      refine wp_seq ?_
      refine s_region ?_
      refine s_val hF rfl rfl rfl (e_move hF rfl) ?_; intro a hF
      refine s_val hF rfl rfl rfl (e_move hF rfl) ?_; intro a hF
      refine s_val hF rfl rfl rfl (e_len hF rfl (hM.sl 0 rfl).toF Try.underlying51) ?_; intro a hF
      refine s_val hF rfl rfl rfl (e_lss hF rfl rfl) ?_; intro a hF
      refine s_nil ?_
      refine then_n ?_
      rcases ite_cases H with ⟨c45, H⟩ | ⟨c45, H⟩
      ·
        refine s_cond_t hF rfl (decide_eq_true c45) ?_
        refine wp_skip ?_
        refine then_n ?_
        refine wp_seq ?_
        refine wp_block ?_
        refine wp_seq ?_
        refine s_region ?_
        refine s_val hF rfl rfl rfl (e_assign hF rfl) ?_; intro a hF
        refine s_nil ?_
        refine then_n ?_
        refine wp_block ?_
        obtain ⟨o61, h62, H⟩ := bind_some H
        refine wp_mono (Q := fun e a w => (e = Exit.exit 2 ∧ ∃ x53 : Int, ∃ x54 : (List (Ar 6)), (x53, x54) = o61 ∧ Fr 26 a [(0, u0), (1, Value.int .i64 x53), (5, Value.int .i64 x43)] ∧ Ms u0.ownBlock.toList w0 w [rowR cd70 u0 x54])) ?_ ?_
        · refine s_loop (fun kq a w => ∃ x55 : Int, ∃ x56 : Int, ∃ x57 : (List (Ar 6)), laws_markIntA6S.l3 K x43 kq x55 x56 x57 = some o61 ∧ Fr 26 a [(0, u0), (1, Value.int .i64 x55), (5, Value.int .i64 x43), (6, Value.int .i64 x56)] ∧ Ms u0.ownBlock.toList w0 w [rowR cd70 u0 x57]) K ⟨x42, 0, x44, h62, hF.sub _ ⟨rfl, rfl, rfl, rfl, trivial⟩, hM.pick [0] rfl rfl⟩ ?_ ?_
          · rintro a w ⟨_, _, _, H, _⟩; exact none_some H
          · rintro k a w ⟨x55, x56, x57, H, hF, hM⟩; rw [laws_markIntA6S.l3] at H
            refine wp_seq ?_
            refine wp_seq ?_
            refine s_region ?_
            refine s_val hF rfl rfl rfl (e_move hF rfl) ?_; intro a hF
            refine s_val hF rfl rfl rfl (e_lss hF rfl rfl) ?_; intro a hF
            refine s_nil ?_
            refine then_n ?_
            rcases ite_cases H with ⟨c58, H⟩ | ⟨c58, H⟩
            ·
              refine s_cond_t hF rfl (decide_eq_true c58) ?_
              refine wp_skip ?_
              refine then_n ?_
              refine wp_seq ?_
              refine wp_block ?_
              refine wp_seq ?_
              obtain ⟨c59, H⟩ := ite_some H
              obtain ⟨c60, H⟩ := ite_some H
              refine s_region ?_
              refine s_val hF rfl rfl rfl (e_move hF rfl) ?_; intro a hF
              refine s_val hF rfl rfl rfl (e_move hF rfl) ?_; intro a hF
              refine s_val hF rfl rfl rfl (e_move hF rfl) ?_; intro a hF
              refine s_val hF rfl rfl rfl (e_move hF rfl) ?_; intro a hF
              refine s_val hF rfl rfl rfl (e_ias cd70 hF rfl rfl (hM.sl 0 rfl).toF Try.underlying51 Try.sizeOf70 c59.1 c59.2) ?_; intro a hF
              refine s_val hF rfl rfl rfl (e_ia hF rfl rfl Try.underlying70 Try.sizeOf3 c60.1 c60.2) ?_; intro a hF
              refine s_stsi (i := 0) (k := 0) (o := 0) (m := x43) (m2 := x56) ((x57.getD (x43 : Int).toNat (Ar.zero 6)).set x56 x55) hF hM rfl rfl rfl rfl (getD_some (z := (Ar.zero 6)) c59.1 c59.2) rfl rfl rfl Try.sizeOf3 c60.1 c60.2 ?_; intro a w hF hM
              refine s_nil ?_
              refine then_n ?_
              refine s_region ?_
              refine s_val hF rfl rfl rfl (e_move hF rfl) ?_; intro a hF
              refine s_val hF rfl rfl rfl (e_add hF rfl rfl) ?_; intro a hF
              refine s_val hF rfl rfl rfl (e_assign hF rfl) ?_; intro a hF
              refine s_nil ?_
              refine blk_n ?_
              refine then_n ?_
              refine s_region ?_
              refine s_val hF rfl rfl rfl (e_move hF rfl) ?_; intro a hF
              refine s_val hF rfl rfl rfl (e_add hF rfl rfl) ?_; intro a hF
              refine s_val hF rfl rfl rfl (e_assign hF rfl) ?_; intro a hF
              refine s_nil ?_
              refine then_n ?_
              exact ⟨(wrap64 (x55 + 1)), (wrap64 (x56 + 1)), (x57.set (x43 : Int).toNat ((x57.getD (x43 : Int).toNat (Ar.zero 6)).set x56 x55)), H, hF.sub _ ⟨rfl, rfl, rfl, rfl, trivial⟩, hM.pick [0] rfl rfl⟩
            ·
              refine s_cond_f hF rfl (decide_eq_false c58) ?_
              refine wp_exit ?_
              refine then_x ?_
              refine then_x ?_
              exact ⟨rfl, x55, x57, some_some H, hF.sub _ ⟨rfl, rfl, rfl, trivial⟩, hM.pick [0] rfl rfl⟩
        · rintro e a w ⟨rfl, x53, x54, rfl, hF, hM⟩
          skip
          refine blk_x ?_
          refine blk_n ?_
          refine then_n ?_
          refine s_region ?_
          refine s_val hF rfl rfl rfl (e_move hF rfl) ?_; intro a hF
          refine s_val hF rfl rfl rfl (e_add hF rfl rfl) ?_; intro a hF
          refine s_val hF rfl rfl rfl (e_assign hF rfl) ?_; intro a hF
          refine s_nil ?_
          refine then_n ?_
          exact ⟨x53, (wrap64 (x43 + 1)), x54, H, hF.sub _ ⟨rfl, rfl, rfl, trivial⟩, hM.pick [0] rfl rfl⟩
      ·
        refine s_cond_f hF rfl (decide_eq_false c45) ?_
        refine wp_exit ?_
        refine then_x ?_
        refine then_x ?_
        exact ⟨rfl, x42, x44, some_some H, hF.sub _ ⟨rfl, trivial⟩, hM.pick [0] rfl rfl⟩
  · rintro e a w ⟨rfl, x40, x41, rfl, hF, hM⟩
    skip
    refine blk_x ?_
    refine then_n ?_
    refine wp_seq ?_
    refine s_region ?_
    refine s_val hF rfl rfl rfl (e_move hF rfl) ?_; intro a hF
    refine s_val hF rfl rfl rfl (e_assign hF rfl) ?_; intro a hF
    refine s_nil ?_
    refine then_n ?_
    refine wp_ret ?_
    obtain rfl := some_some H
    refine s_ret [Value.int .i64 x40] hF Try.results48 ⟨rfl, trivial⟩ ?_
    exact ⟨_, rfl, hM.frm, ⟨rfl, hM.get 0 rfl⟩⟩

/-! ### loop.example/g01210/laws.markIntS: function 31 -/
def laws_markIntS.l0 (K : Nat) (l0 : (List Int)) : Nat → Int → Int → (List Int) → Option (Int × (List Int))
  | 0, _, _, _ => none
  | k + 1, x10, x11, x12 => if x11 < (x12.length : Int) then (if (0 : Int) ≤ x11 ∧ x11 < (x12.length : Int) then (laws_markIntS.l0 K l0 k (wrap64 (x10 + 1)) (wrap64 (x11 + 1)) (x12.set (x11 : Int).toNat x10)) else none) else (some (x10, x12))
def laws_markIntS.f (K : Nat) (l0 : (List Int)) (a1 : Int) : Option (Int × (List Int)) := (laws_markIntS.l0 K l0 K a1 0 l0).bind fun (x8, x9) => some (x8, x9)
set_option maxRecDepth 100000 in
set_option maxHeartbeats 4000000 in
theorem laws_markIntS.calls {w0 : World} (K : Nat) (l0 : (List Int)) (u0 : Value) (q0 : (rowR cd3 u0 l0).holds w0) (a1 : Int) (r : (Int × (List Int))) (H : laws_markIntS.f K l0 a1 = some r) : Calls Try.prog 31 [u0, Value.int .i64 a1].toArray w0 (fun e w => ∃ v, e = .returned v ∧ Frm u0.ownBlock.toList w0 w ∧ (v = Value.int .i64 r.1) ∧ (rowR cd3 u0 r.2).holds w) := by
  rw [laws_markIntS.f] at H
  refine s_start Try.func31 rfl Try.ntmps31 rfl ?_
  intro a hF
  have hM := Ms.start1 w0 (rowR cd3 u0 l0) q0 (fun b hb => (World.ownsRow.lt q0 b (by simpa [rowR] using hb)).2)
  skip
  refine wp_seq ?_
  refine s_region ?_
  refine s_val hF rfl rfl rfl (e_assign hF rfl) ?_; intro a hF
  refine s_nil ?_
  refine then_n ?_
  refine wp_seq ?_
  refine wp_seq ?_
  refine s_region ?_
  refine s_val hF rfl rfl rfl (e_assign hF rfl) ?_; intro a hF
  refine s_nil ?_
  refine then_n ?_
  refine wp_block ?_
  obtain ⟨o15, h16, H⟩ := bind_some H
  refine wp_mono (Q := fun e a w => (e = Exit.exit 0 ∧ ∃ x8 : Int, ∃ x9 : (List Int), (x8, x9) = o15 ∧ Fr 19 a [(1, Value.int .i64 x8)] ∧ Ms u0.ownBlock.toList w0 w [rowR cd3 u0 x9])) ?_ ?_
  · refine s_loop (fun kq a w => ∃ x10 : Int, ∃ x11 : Int, ∃ x12 : (List Int), laws_markIntS.l0 K l0 kq x10 x11 x12 = some o15 ∧ Fr 19 a [(0, u0), (1, Value.int .i64 x10), (5, Value.int .i64 x11)] ∧ Ms u0.ownBlock.toList w0 w [rowR cd3 u0 x12]) K ⟨a1, 0, l0, h16, hF.sub _ ⟨rfl, rfl, rfl, trivial⟩, hM.pick [0] rfl rfl⟩ ?_ ?_
    · rintro a w ⟨_, _, _, H, _⟩; exact none_some H
    · rintro k a w ⟨x10, x11, x12, H, hF, hM⟩; rw [laws_markIntS.l0] at H
      refine wp_seq ?_
      refine wp_seq ?_
      refine s_region ?_
      refine s_val hF rfl rfl rfl (e_move hF rfl) ?_; intro a hF
      refine s_val hF rfl rfl rfl (e_move hF rfl) ?_; intro a hF
      refine s_val hF rfl rfl rfl (e_len hF rfl (hM.sl 0 rfl).toF Try.underlying32) ?_; intro a hF
      refine s_val hF rfl rfl rfl (e_lss hF rfl rfl) ?_; intro a hF
      refine s_nil ?_
      refine then_n ?_
      rcases ite_cases H with ⟨c13, H⟩ | ⟨c13, H⟩
      ·
        refine s_cond_t hF rfl (decide_eq_true c13) ?_
        refine wp_skip ?_
        refine then_n ?_
        refine wp_seq ?_
        refine wp_block ?_
        refine wp_seq ?_
        obtain ⟨c14, H⟩ := ite_some H
        refine s_region ?_
        refine s_val hF rfl rfl rfl (e_move hF rfl) ?_; intro a hF
        refine s_val hF rfl rfl rfl (e_move hF rfl) ?_; intro a hF
        refine s_val hF rfl rfl rfl (e_move hF rfl) ?_; intro a hF
        refine s_val hF rfl rfl rfl (e_ias cd3 hF rfl rfl (hM.sl 0 rfl).toF Try.underlying32 Try.sizeOf3 c14.1 c14.2) ?_; intro a hF
        refine s_sts (i := 0) x10 hF hM rfl rfl rfl rfl rfl c14.1 c14.2 Try.sizeOf3 ?_; intro a w hF hM
        refine s_nil ?_
        refine then_n ?_
        refine s_region ?_
        refine s_val hF rfl rfl rfl (e_move hF rfl) ?_; intro a hF
        refine s_val hF rfl rfl rfl (e_add hF rfl rfl) ?_; intro a hF
        refine s_val hF rfl rfl rfl (e_assign hF rfl) ?_; intro a hF
        refine s_nil ?_
        refine blk_n ?_
        refine then_n ?_
        refine s_region ?_
        refine s_val hF rfl rfl rfl (e_move hF rfl) ?_; intro a hF
        refine s_val hF rfl rfl rfl (e_add hF rfl rfl) ?_; intro a hF
        refine s_val hF rfl rfl rfl (e_assign hF rfl) ?_; intro a hF
        refine s_nil ?_
        refine then_n ?_
        exact ⟨(wrap64 (x10 + 1)), (wrap64 (x11 + 1)), (x12.set (x11 : Int).toNat x10), H, hF.sub _ ⟨rfl, rfl, rfl, trivial⟩, hM.pick [0] rfl rfl⟩
      ·
        refine s_cond_f hF rfl (decide_eq_false c13) ?_
        refine wp_exit ?_
        refine then_x ?_
        refine then_x ?_
        exact ⟨rfl, x10, x12, some_some H, hF.sub _ ⟨rfl, trivial⟩, hM.pick [0] rfl rfl⟩
  · rintro e a w ⟨rfl, x8, x9, rfl, hF, hM⟩
    skip
    refine blk_x ?_
    refine then_n ?_
    refine wp_seq ?_
    refine s_region ?_
    refine s_val hF rfl rfl rfl (e_move hF rfl) ?_; intro a hF
    refine s_val hF rfl rfl rfl (e_assign hF rfl) ?_; intro a hF
    refine s_nil ?_
    refine then_n ?_
    refine wp_ret ?_
    obtain rfl := some_some H
    refine s_ret [Value.int .i64 x8] hF Try.results31 ⟨rfl, trivial⟩ ?_
    exact ⟨_, rfl, hM.frm, ⟨rfl, hM.get 0 rfl⟩⟩

/-! ### loop.example/g01210/laws.heldIntS: function 32 -/
def laws_heldIntS.l0 (K : Nat) (l0 : (List Int)) : Nat → Int → Int → Option (Sum Int Int)
  | 0, _, _ => none
  | k + 1, x10, x11 => if x11 < (l0.length : Int) then (if (0 : Int) ≤ x11 ∧ x11 < (l0.length : Int) then (if (l0.getD (x11 : Int).toNat (0 : Int)) = x10 then (laws_heldIntS.l0 K l0 k (wrap64 (x10 + 1)) (wrap64 (x11 + 1))) else (some (Sum.inr (-1)))) else none) else (some (Sum.inl x10))
def laws_heldIntS.f (K : Nat) (l0 : (List Int)) (a1 : Int) : Option Int := (laws_heldIntS.l0 K l0 K a1 0).bind fun o15 => (match o15 with | .inl x9 => some x9 | .inr r17 => some r17)
set_option maxRecDepth 100000 in
set_option maxHeartbeats 4000000 in
theorem laws_heldIntS.calls {w0 : World} (K : Nat) (l0 : (List Int)) (u0 : Value) (q0 : SlR cd3 w0 u0 l0) (a1 : Int) (r : Int) (H : laws_heldIntS.f K l0 a1 = some r) : Calls Try.prog 32 [u0, Value.int .i64 a1].toArray w0 (Post w0 fun w v => v = Value.int .i64 r) := by
  rw [laws_heldIntS.f] at H
  refine s_start Try.func32 rfl Try.ntmps32 rfl ?_
  intro a hF
  have hM := Ms.start w0
  skip
  refine wp_seq ?_
  refine s_region ?_
  refine s_val hF rfl rfl rfl (e_assign hF rfl) ?_; intro a hF
  refine s_nil ?_
  refine then_n ?_
  refine wp_seq ?_
  refine wp_seq ?_
  refine s_region ?_
  refine s_val hF rfl rfl rfl (e_assign hF rfl) ?_; intro a hF
  refine s_nil ?_
  refine then_n ?_
  refine wp_block ?_
  obtain ⟨o15, h16, H⟩ := bind_some H
  refine wp_mono (Q := fun e a w => (e = Exit.exit 0 ∧ ∃ x9 : Int, Sum.inl x9 = o15 ∧ Fr 21 a [(1, Value.int .i64 x9)] ∧ Ms [] w0 w []) ∨ (e = Exit.ret ∧ ∃ r17 : Int, Sum.inr r17 = o15 ∧ Fr 21 a [(4, Value.int .i64 r17)] ∧ Ms [] w0 w [])) ?_ ?_
  · refine s_loop (fun kq a w => ∃ x10 : Int, ∃ x11 : Int, laws_heldIntS.l0 K l0 kq x10 x11 = some o15 ∧ Fr 21 a [(0, u0), (1, Value.int .i64 x10), (5, Value.int .i64 x11)] ∧ Ms [] w0 w []) K ⟨a1, 0, h16, hF.sub _ ⟨rfl, rfl, rfl, trivial⟩, hM.pick [] rfl rfl⟩ ?_ ?_
    · rintro a w ⟨_, _, H, _⟩; exact none_some H
    · rintro k a w ⟨x10, x11, H, hF, hM⟩; rw [laws_heldIntS.l0] at H
      refine wp_seq ?_
      refine wp_seq ?_
      refine s_region ?_
      refine s_val hF rfl rfl rfl (e_move hF rfl) ?_; intro a hF
      refine s_val hF rfl rfl rfl (e_move hF rfl) ?_; intro a hF
      refine s_val hF rfl rfl rfl (e_len hF rfl (q0.frm hM.frm).toF Try.underlying32) ?_; intro a hF
      refine s_val hF rfl rfl rfl (e_lss hF rfl rfl) ?_; intro a hF
      refine s_nil ?_
      refine then_n ?_
      rcases ite_cases H with ⟨c12, H⟩ | ⟨c12, H⟩
      ·
        refine s_cond_t hF rfl (decide_eq_true c12) ?_
        refine wp_skip ?_
        refine then_n ?_
        refine wp_seq ?_
        refine wp_block ?_
        refine wp_seq ?_
        refine wp_seq ?_
        obtain ⟨c13, H⟩ := ite_some H
        refine s_region ?_
        refine s_val hF rfl rfl rfl (e_move hF rfl) ?_; intro a hF
        refine s_val hF rfl rfl rfl (e_move hF rfl) ?_; intro a hF
        refine s_val hF rfl rfl rfl (e_ias cd3 hF rfl rfl (q0.frm hM.frm).toF Try.underlying32 Try.sizeOf3 c13.1 c13.2) ?_; intro a hF
        refine s_val hF rfl rfl rfl (e_lds (m := x11) hF rfl (q0.frm hM.frm) (getD_some (z := (0 : Int)) c13.1 c13.2) rfl rfl Try.isAgg3) ?_; intro a hF
        refine s_val hF rfl rfl rfl (e_move hF rfl) ?_; intro a hF
        refine s_val hF rfl rfl rfl (e_neq hF rfl rfl) ?_; intro a hF
        refine s_nil ?_
        refine then_n ?_
        rcases ite_cases H with ⟨c14, H⟩ | ⟨c14, H⟩
        ·
          refine s_cond_f hF rfl (congrArg Bool.not (decide_eq_true c14)) ?_
          refine wp_skip ?_
          refine then_n ?_
          refine s_region ?_
          refine s_val hF rfl rfl rfl (e_move hF rfl) ?_; intro a hF
          refine s_val hF rfl rfl rfl (e_add hF rfl rfl) ?_; intro a hF
          refine s_val hF rfl rfl rfl (e_assign hF rfl) ?_; intro a hF
          refine s_nil ?_
          refine blk_n ?_
          refine then_n ?_
          refine s_region ?_
          refine s_val hF rfl rfl rfl (e_move hF rfl) ?_; intro a hF
          refine s_val hF rfl rfl rfl (e_add hF rfl rfl) ?_; intro a hF
          refine s_val hF rfl rfl rfl (e_assign hF rfl) ?_; intro a hF
          refine s_nil ?_
          refine then_n ?_
          exact ⟨(wrap64 (x10 + 1)), (wrap64 (x11 + 1)), H, hF.sub _ ⟨rfl, rfl, rfl, trivial⟩, hM.pick [] rfl rfl⟩
        ·
          refine s_cond_t hF rfl (congrArg Bool.not (decide_eq_false c14)) ?_
          refine wp_seq ?_
          refine s_region ?_
          refine s_val hF rfl rfl rfl (e_assign hF rfl) ?_; intro a hF
          refine s_nil ?_
          refine then_n ?_
          refine wp_ret ?_
          refine then_r ?_
          refine blk_r ?_
          refine then_r ?_
          refine then_r ?_
          exact Or.inr (⟨rfl, (-1), some_some H, hF.sub _ ⟨rfl, trivial⟩, hM.pick [] rfl rfl⟩)
      ·
        refine s_cond_f hF rfl (decide_eq_false c12) ?_
        refine wp_exit ?_
        refine then_x ?_
        refine then_x ?_
        exact Or.inl (⟨rfl, x10, some_some H, hF.sub _ ⟨rfl, trivial⟩, hM.pick [] rfl rfl⟩)
  · rintro e a w (⟨rfl, x9, rfl, hF, hM⟩ | ⟨rfl, r17, rfl, hF, hM⟩)
    ·
      dsimp only at H
      refine blk_x ?_
      refine then_n ?_
      refine wp_seq ?_
      refine s_region ?_
      refine s_val hF rfl rfl rfl (e_move hF rfl) ?_; intro a hF
      refine s_val hF rfl rfl rfl (e_assign hF rfl) ?_; intro a hF
      refine s_nil ?_
      refine then_n ?_
      refine wp_ret ?_
      obtain rfl := some_some H
      refine s_ret [Value.int .i64 x9] hF Try.results32 ⟨rfl, trivial⟩ ?_
      exact ⟨_, rfl, hM.frm, rfl⟩
    ·
      dsimp only at H
      refine blk_r ?_
      refine then_r ?_
      obtain rfl := some_some H
      refine s_ret [Value.int .i64 r17] hF Try.results32 ⟨rfl, trivial⟩ ?_
      exact ⟨_, rfl, hM.frm, rfl⟩

/-! ### loop.example/g01210/laws.FnExactFairSizes: function 15 -/
def laws_FnExactFairSizes.f (K : Nat) (l0 : (List (Ar 6))) : Option Bool := (laws_szIntA6S.f K l0 1048576).bind fun t1 => if t1 < 0 then (some true) else ((laws_toIntA6S.f K l0).bind fun t4 => (spec_FairSizes.f K t4).bind fun t7 => (laws_toIntA6S.f K l0).bind fun t10 => (impl_FairSizes.f K t10).bind fun t13 => (laws_eqIntS.f K t13.1 t7.1).bind fun t16 => if t16 = true then (if (t13.2 == t7.2) = true then ((laws_toIntA6S.f K l0).bind fun t20 => (laws_eqIntA6S.f K t10 t20).bind fun t23 => if t23 = true then ((laws_markIntA6S.f K t10 1).bind fun t26 => if t26.1 < 0 then (some false) else ((laws_eqIntS.f K t13.1 t7.1).bind fun t29 => if t29 = true then ((laws_markIntS.f K t13.1 1).bind fun t32 => (laws_heldIntS.f K t32.2 1).bind fun t34 => if t34 < 0 then (some false) else (if t34 = t32.1 then ((laws_toIntA6S.f K l0).bind fun t38 => (impl_FairSizes.f K t38).bind fun t41 => (laws_eqIntS.f K t41.1 t7.1).bind fun t44 => if t44 = true then (if (t41.2 == t7.2) = true then ((laws_heldIntS.f K t32.2 1).bind fun t48 => if t48 < 0 then (some false) else (if t48 = t32.1 then (some true) else (some false))) else (some false)) else (some false)) else (some false))) else (some false))) else (some false)) else (some false)) else (some false))
set_option maxRecDepth 100000 in
set_option maxHeartbeats 4000000 in
theorem laws_FnExactFairSizes.calls {w0 : World} (K : Nat) (l0 : (List (Ar 6))) (u0 : Value) (q0 : SlR cd70 w0 u0 l0) (r : Bool) (H : laws_FnExactFairSizes.f K l0 = some r) : Calls Try.prog 15 [u0].toArray w0 (Post w0 fun w v => v = Value.bool r) := by
  rw [laws_FnExactFairSizes.f] at H
  refine s_start Try.func15 rfl Try.ntmps15 rfl ?_
  intro a hF
  have hM := Ms.start w0
  skip
  refine wp_seq ?_
  refine s_region ?_
  refine s_val hF rfl rfl rfl (e_assign hF rfl) ?_; intro a hF
  refine s_nil ?_
  refine then_n ?_
  refine wp_seq ?_
  refine s_region ?_
  refine s_val hF rfl rfl rfl (e_assign hF rfl) ?_; intro a hF
  refine s_nil ?_
  refine then_n ?_
  refine wp_seq ?_
  obtain ⟨t1, h2, H⟩ := bind_some H
  refine s_region ?_
  refine s_val hF rfl rfl rfl (e_move hF rfl) ?_; intro a hF
  refine s_val hF rfl rfl rfl (e_move hF rfl) ?_; intro a hF
  refine s_call hF rfl rfl rfl Try.call43 (laws_szIntA6S.calls K l0 u0 (q0.frm hM.frm) 1048576 t1 h2) ?_; intro a w v hF hf hR
  subst hR; have hM := hM.grow hf
  refine s_val hF rfl rfl rfl (e_assign hF rfl) ?_; intro a hF
  refine s_nil ?_
  refine then_n ?_
  refine wp_seq ?_
  refine wp_seq ?_
  refine s_region ?_
  refine s_val hF rfl rfl rfl (e_move hF rfl) ?_; intro a hF
  refine s_val hF rfl rfl rfl (e_lss hF rfl rfl) ?_; intro a hF
  refine s_nil ?_
  refine then_n ?_
  rcases ite_cases H with ⟨c3, H⟩ | ⟨c3, H⟩
  ·
    refine s_cond_t hF rfl (decide_eq_true c3) ?_
    refine wp_seq ?_
    refine s_region ?_
    refine s_val hF rfl rfl rfl (e_assign hF rfl) ?_; intro a hF
    refine s_nil ?_
    refine then_n ?_
    refine wp_ret ?_
    refine then_r ?_
    obtain rfl := some_some H
    refine s_ret [Value.bool true] hF Try.results15 ⟨rfl, trivial⟩ ?_
    exact ⟨_, rfl, hM.frm, rfl⟩
  ·
    refine s_cond_f hF rfl (decide_eq_false c3) ?_
    refine wp_skip ?_
    refine then_n ?_
    refine wp_seq ?_
    obtain ⟨t4, h5, H⟩ := bind_some H
    obtain ⟨t7, h8, H⟩ := bind_some H
    refine s_region ?_
    refine s_val hF rfl rfl rfl (e_move hF rfl) ?_; intro a hF
    refine s_call hF rfl rfl rfl Try.call45 (laws_toIntA6S.calls K l0 u0 (q0.frm hM.frm) t4 h5) ?_; intro a w v6 hF hf hR
    have hM := hM.fresh hf hR
    refine s_call hF rfl rfl rfl Try.call49 (spec_FairSizes.calls K t4 v6 (hM.sl 0 rfl) t7 h8) ?_; intro a w v hF hf hR
    obtain ⟨v9, rfl, hR⟩ := hR; have hM := hM.fresh hf hR
    refine s_val hF rfl rfl rfl (e_move hF rfl) ?_; intro a hF
    refine s_val hF rfl rfl rfl (e_extract hF rfl rfl) ?_; intro a hF
    refine s_val hF rfl rfl rfl (e_extract hF rfl rfl) ?_; intro a hF
    refine s_val hF rfl rfl rfl (e_assign hF rfl) ?_; intro a hF
    refine s_val hF rfl rfl rfl (e_assign hF rfl) ?_; intro a hF
    refine s_nil ?_
    refine then_n ?_
    refine wp_seq ?_
    obtain ⟨t10, h11, H⟩ := bind_some H
    refine s_region ?_
    refine s_val hF rfl rfl rfl (e_move hF rfl) ?_; intro a hF
    refine s_call hF rfl rfl rfl Try.call45 (laws_toIntA6S.calls K l0 u0 (q0.frm hM.frm) t10 h11) ?_; intro a w v12 hF hf hR
    have hM := hM.fresh hf hR
    refine s_val hF rfl rfl rfl (e_assign hF rfl) ?_; intro a hF
    refine s_nil ?_
    refine then_n ?_
    refine wp_seq ?_
    obtain ⟨t13, h14, H⟩ := bind_some H
    refine s_region ?_
    refine s_val hF rfl rfl rfl (e_move hF rfl) ?_; intro a hF
    refine s_call hF rfl rfl rfl Try.call50 (impl_FairSizes.calls K t10 v12 (hM.sl 0 rfl) t13 h14) ?_; intro a w v hF hf hR
    obtain ⟨v15, rfl, hR⟩ := hR; have hM := hM.fresh hf hR
    refine s_val hF rfl rfl rfl (e_move hF rfl) ?_; intro a hF
    refine s_val hF rfl rfl rfl (e_extract hF rfl rfl) ?_; intro a hF
    refine s_val hF rfl rfl rfl (e_extract hF rfl rfl) ?_; intro a hF
    refine s_val hF rfl rfl rfl (e_assign hF rfl) ?_; intro a hF
    refine s_val hF rfl rfl rfl (e_assign hF rfl) ?_; intro a hF
    refine s_nil ?_
    refine then_n ?_
    refine wp_seq ?_
    refine wp_seq ?_
    obtain ⟨t16, h17, H⟩ := bind_some H
    rcases ite_cases H with ⟨c18, H⟩ | ⟨c18, H⟩
    ·
      refine s_region ?_
      refine s_val hF rfl rfl rfl (e_move hF rfl) ?_; intro a hF
      refine s_val hF rfl rfl rfl (e_move hF rfl) ?_; intro a hF
      refine s_call hF rfl rfl rfl Try.call28 (laws_eqIntS.calls K t13.1 v15 (hM.sl 0 rfl) t7.1 v9 (hM.sl 2 rfl) t16 h17) ?_; intro a w v hF hf hR
      subst hR; have hM := hM.grow hf
      refine s_val hF rfl rfl rfl (e_not hF rfl) ?_; intro a hF
      refine s_val hF rfl rfl rfl (e_move hF rfl) ?_; intro a hF
      have hF := hF.topb (congrArg Bool.not c18)
      refine s_val hF rfl rfl rfl (e_move hF rfl) ?_; intro a hF
      refine s_val hF rfl rfl rfl (e_move hF rfl) ?_; intro a hF
      refine s_val hF rfl rfl rfl (e_bneq hF rfl rfl Try.underlying4) ?_; intro a hF
      refine s_val hF rfl rfl rfl (e_pick_f hF rfl rfl) ?_; intro a hF
      refine s_nil ?_
      refine then_n ?_
      rcases ite_cases H with ⟨c19, H⟩ | ⟨c19, H⟩
      ·
        refine s_cond_f hF rfl (congrArg Bool.not c19) ?_
        refine wp_skip ?_
        refine then_n ?_
        refine wp_seq ?_
        refine wp_seq ?_
        obtain ⟨t20, h21, H⟩ := bind_some H
        obtain ⟨t23, h24, H⟩ := bind_some H
        refine s_region ?_
        refine s_val hF rfl rfl rfl (e_move hF rfl) ?_; intro a hF
        refine s_val hF rfl rfl rfl (e_move hF rfl) ?_; intro a hF
        refine s_call hF rfl rfl rfl Try.call45 (laws_toIntA6S.calls K l0 u0 (q0.frm hM.frm) t20 h21) ?_; intro a w v22 hF hf hR
        have hM := hM.fresh hf hR
        refine s_call hF rfl rfl rfl Try.call47 (laws_eqIntA6S.calls K t10 v12 (hM.sl 2 rfl) t20 v22 (hM.sl 0 rfl) t23 h24) ?_; intro a w v hF hf hR
        subst hR; have hM := hM.grow hf
        refine s_val hF rfl rfl rfl (e_not hF rfl) ?_; intro a hF
        refine s_nil ?_
        refine then_n ?_
        rcases ite_cases H with ⟨c25, H⟩ | ⟨c25, H⟩
        ·
          refine s_cond_f hF rfl (congrArg Bool.not c25) ?_
          refine wp_skip ?_
          refine then_n ?_
          refine wp_seq ?_
          refine s_region ?_
          refine s_val hF rfl rfl rfl (e_assign hF rfl) ?_; intro a hF
          refine s_nil ?_
          refine then_n ?_
          refine wp_seq ?_
          obtain ⟨t26, h27, H⟩ := bind_some H
          refine s_region ?_
          refine s_val hF rfl rfl rfl (e_move hF rfl) ?_; intro a hF
          refine s_val hF rfl rfl rfl (e_move hF rfl) ?_; intro a hF
          refine s_callx hF rfl rfl rfl Try.call48 (laws_markIntA6S.calls K t10 v12 (hM.get 2 rfl) 1 t26 h27) ?_; intro a w v hF ⟨hf, hR⟩
          obtain ⟨hR, hO⟩ := hR; subst hR; have hM := hM.turn (i := 2) (R' := rowR cd70 v12 t26.2) rfl hf hO (fun _ hb => .inl hb)
          refine s_val hF rfl rfl rfl (e_assign hF rfl) ?_; intro a hF
          refine s_nil ?_
          refine then_n ?_
          refine wp_seq ?_
          refine wp_seq ?_
          rcases ite_cases H with ⟨c28, H⟩ | ⟨c28, H⟩
          ·
            refine s_region ?_
            refine s_val hF rfl rfl rfl (e_move hF rfl) ?_; intro a hF
            refine s_val hF rfl rfl rfl (e_lss hF rfl rfl) ?_; intro a hF
            refine s_val hF rfl rfl rfl (e_move hF rfl) ?_; intro a hF
            have hF := hF.topb (decide_eq_true c28)
            refine s_skip hF rfl rfl rfl ?_; intro a hF
            refine s_skip hF rfl rfl rfl ?_; intro a hF
            refine s_skip hF rfl rfl rfl ?_; intro a hF
            refine s_skip hF rfl rfl rfl ?_; intro a hF
            refine s_val hF rfl rfl rfl (e_pick_t hF rfl rfl) ?_; intro a hF
            refine s_val hF rfl rfl rfl (e_move hF rfl) ?_; intro a hF
            refine s_skip hF rfl rfl rfl ?_; intro a hF
            refine s_skip hF rfl rfl rfl ?_; intro a hF
            refine s_skip hF rfl rfl rfl ?_; intro a hF
            refine s_val hF rfl rfl rfl (e_pick_t hF rfl rfl) ?_; intro a hF
            refine s_nil ?_
            refine then_n ?_
            refine s_cond_t hF rfl rfl ?_
            refine wp_seq ?_
            refine s_region ?_
            refine s_val hF rfl rfl rfl (e_assign hF rfl) ?_; intro a hF
            refine s_nil ?_
            refine then_n ?_
            refine wp_ret ?_
            refine then_r ?_
            obtain rfl := some_some H
            refine s_ret [Value.bool false] hF Try.results15 ⟨rfl, trivial⟩ ?_
            exact ⟨_, rfl, hM.frm, rfl⟩
          ·
            obtain ⟨t29, h30, H⟩ := bind_some H
            rcases ite_cases H with ⟨c31, H⟩ | ⟨c31, H⟩
            ·
              refine s_region ?_
              refine s_val hF rfl rfl rfl (e_move hF rfl) ?_; intro a hF
              refine s_val hF rfl rfl rfl (e_lss hF rfl rfl) ?_; intro a hF
              refine s_val hF rfl rfl rfl (e_move hF rfl) ?_; intro a hF
              have hF := hF.topb (decide_eq_false c28)
              refine s_val hF rfl rfl rfl (e_move hF rfl) ?_; intro a hF
              refine s_val hF rfl rfl rfl (e_move hF rfl) ?_; intro a hF
              refine s_call hF rfl rfl rfl Try.call28 (laws_eqIntS.calls K t13.1 v15 (hM.sl 1 rfl) t7.1 v9 (hM.sl 3 rfl) t29 h30) ?_; intro a w v hF hf hR
              subst hR; have hM := hM.grow hf
              refine s_val hF rfl rfl rfl (e_not hF rfl) ?_; intro a hF
              refine s_val hF rfl rfl rfl (e_pick_f hF rfl rfl) ?_; intro a hF
              refine s_val hF rfl rfl rfl (e_move hF rfl) ?_; intro a hF
              have hF := hF.topb (congrArg Bool.not c31)
              refine s_val hF rfl rfl rfl (e_move hF rfl) ?_; intro a hF
              refine s_val hF rfl rfl rfl (e_move hF rfl) ?_; intro a hF
              refine s_val hF rfl rfl rfl (e_bneq hF rfl rfl Try.underlying4) ?_; intro a hF
              refine s_val hF rfl rfl rfl (e_pick_f hF rfl rfl) ?_; intro a hF
              refine s_nil ?_
              refine then_n ?_
              refine s_cond_f hF rfl (congrArg Bool.not c19) ?_
              refine wp_skip ?_
              refine then_n ?_
              refine wp_seq ?_
              refine s_region ?_
              refine s_val hF rfl rfl rfl (e_assign hF rfl) ?_; intro a hF
              refine s_nil ?_
              refine then_n ?_
              refine wp_seq ?_
              obtain ⟨t32, h33, H⟩ := bind_some H
              refine s_region ?_
              refine s_val hF rfl rfl rfl (e_move hF rfl) ?_; intro a hF
              refine s_val hF rfl rfl rfl (e_move hF rfl) ?_; intro a hF
              refine s_callx hF rfl rfl rfl Try.call31 (laws_markIntS.calls K t13.1 v15 (hM.get 1 rfl) 1 t32 h33) ?_; intro a w v hF ⟨hf, hR⟩
              obtain ⟨hR, hO⟩ := hR; subst hR; have hM := hM.turn (i := 1) (R' := rowR cd3 v15 t32.2) rfl hf hO (fun _ hb => .inl hb)
              refine s_val hF rfl rfl rfl (e_assign hF rfl) ?_; intro a hF
              refine s_nil ?_
              refine then_n ?_
              refine wp_seq ?_
              refine s_region ?_
              refine s_val hF rfl rfl rfl (e_assign hF rfl) ?_; intro a hF
              refine s_nil ?_
              refine then_n ?_
              refine wp_seq ?_
              obtain ⟨t34, h35, H⟩ := bind_some H
              refine s_region ?_
              refine s_val hF rfl rfl rfl (e_move hF rfl) ?_; intro a hF
              refine s_val hF rfl rfl rfl (e_move hF rfl) ?_; intro a hF
              refine s_call hF rfl rfl rfl Try.call32 (laws_heldIntS.calls K t32.2 v15 (hM.sl 1 rfl) 1 t34 h35) ?_; intro a w v hF hf hR
              subst hR; have hM := hM.grow hf
              refine s_val hF rfl rfl rfl (e_assign hF rfl) ?_; intro a hF
              refine s_nil ?_
              refine then_n ?_
              refine wp_seq ?_
              refine wp_seq ?_
              refine s_region ?_
              refine s_val hF rfl rfl rfl (e_move hF rfl) ?_; intro a hF
              refine s_val hF rfl rfl rfl (e_lss hF rfl rfl) ?_; intro a hF
              refine s_nil ?_
              refine then_n ?_
              rcases ite_cases H with ⟨c36, H⟩ | ⟨c36, H⟩
              ·
                refine s_cond_t hF rfl (decide_eq_true c36) ?_
                refine wp_seq ?_
                refine s_region ?_
                refine s_val hF rfl rfl rfl (e_assign hF rfl) ?_; intro a hF
                refine s_nil ?_
                refine then_n ?_
                refine wp_ret ?_
                refine then_r ?_
                obtain rfl := some_some H
                refine s_ret [Value.bool false] hF Try.results15 ⟨rfl, trivial⟩ ?_
                exact ⟨_, rfl, hM.frm, rfl⟩
              ·
                refine s_cond_f hF rfl (decide_eq_false c36) ?_
                refine wp_skip ?_
                refine then_n ?_
                refine wp_seq ?_
                refine wp_seq ?_
                refine s_region ?_
                refine s_val hF rfl rfl rfl (e_move hF rfl) ?_; intro a hF
                refine s_val hF rfl rfl rfl (e_move hF rfl) ?_; intro a hF
                refine s_val hF rfl rfl rfl (e_neq hF rfl rfl) ?_; intro a hF
                refine s_nil ?_
                refine then_n ?_
                rcases ite_cases H with ⟨c37, H⟩ | ⟨c37, H⟩
                ·
                  refine s_cond_f hF rfl (congrArg Bool.not (decide_eq_true c37)) ?_
                  refine wp_skip ?_
                  refine then_n ?_
                  refine wp_seq ?_
                  obtain ⟨t38, h39, H⟩ := bind_some H
                  obtain ⟨t41, h42, H⟩ := bind_some H
                  refine s_region ?_
                  refine s_val hF rfl rfl rfl (e_move hF rfl) ?_; intro a hF
                  refine s_call hF rfl rfl rfl Try.call45 (laws_toIntA6S.calls K l0 u0 (q0.frm hM.frm) t38 h39) ?_; intro a w v40 hF hf hR
                  have hM := hM.fresh hf hR
                  refine s_call hF rfl rfl rfl Try.call50 (impl_FairSizes.calls K t38 v40 (hM.sl 0 rfl) t41 h42) ?_; intro a w v hF hf hR
                  obtain ⟨v43, rfl, hR⟩ := hR; have hM := hM.fresh hf hR
                  refine s_val hF rfl rfl rfl (e_move hF rfl) ?_; intro a hF
                  refine s_val hF rfl rfl rfl (e_extract hF rfl rfl) ?_; intro a hF
                  refine s_val hF rfl rfl rfl (e_extract hF rfl rfl) ?_; intro a hF
                  refine s_val hF rfl rfl rfl (e_assign hF rfl) ?_; intro a hF
                  refine s_val hF rfl rfl rfl (e_assign hF rfl) ?_; intro a hF
                  refine s_nil ?_
                  refine then_n ?_
                  refine wp_seq ?_
                  refine wp_seq ?_
                  obtain ⟨t44, h45, H⟩ := bind_some H
                  rcases ite_cases H with ⟨c46, H⟩ | ⟨c46, H⟩
                  ·
                    refine s_region ?_
                    refine s_val hF rfl rfl rfl (e_move hF rfl) ?_; intro a hF
                    refine s_val hF rfl rfl rfl (e_move hF rfl) ?_; intro a hF
                    refine s_call hF rfl rfl rfl Try.call28 (laws_eqIntS.calls K t41.1 v43 (hM.sl 0 rfl) t7.1 v9 (hM.sl 5 rfl) t44 h45) ?_; intro a w v hF hf hR
                    subst hR; have hM := hM.grow hf
                    refine s_val hF rfl rfl rfl (e_not hF rfl) ?_; intro a hF
                    refine s_val hF rfl rfl rfl (e_move hF rfl) ?_; intro a hF
                    have hF := hF.topb (congrArg Bool.not c46)
                    refine s_val hF rfl rfl rfl (e_move hF rfl) ?_; intro a hF
                    refine s_val hF rfl rfl rfl (e_move hF rfl) ?_; intro a hF
                    refine s_val hF rfl rfl rfl (e_bneq hF rfl rfl Try.underlying4) ?_; intro a hF
                    refine s_val hF rfl rfl rfl (e_pick_f hF rfl rfl) ?_; intro a hF
                    refine s_nil ?_
                    refine then_n ?_
                    rcases ite_cases H with ⟨c47, H⟩ | ⟨c47, H⟩
                    ·
                      refine s_cond_f hF rfl (congrArg Bool.not c47) ?_
                      refine wp_skip ?_
                      refine then_n ?_
                      refine wp_seq ?_
                      refine s_region ?_
                      refine s_val hF rfl rfl rfl (e_assign hF rfl) ?_; intro a hF
                      refine s_nil ?_
                      refine then_n ?_
                      refine wp_seq ?_
                      obtain ⟨t48, h49, H⟩ := bind_some H
                      refine s_region ?_
                      refine s_val hF rfl rfl rfl (e_move hF rfl) ?_; intro a hF
                      refine s_val hF rfl rfl rfl (e_move hF rfl) ?_; intro a hF
                      refine s_call hF rfl rfl rfl Try.call32 (laws_heldIntS.calls K t32.2 v15 (hM.sl 3 rfl) 1 t48 h49) ?_; intro a w v hF hf hR
                      subst hR; have hM := hM.grow hf
                      refine s_val hF rfl rfl rfl (e_assign hF rfl) ?_; intro a hF
                      refine s_nil ?_
                      refine then_n ?_
                      refine wp_seq ?_
                      refine wp_seq ?_
                      refine s_region ?_
                      refine s_val hF rfl rfl rfl (e_move hF rfl) ?_; intro a hF
                      refine s_val hF rfl rfl rfl (e_lss hF rfl rfl) ?_; intro a hF
                      refine s_nil ?_
                      refine then_n ?_
                      rcases ite_cases H with ⟨c50, H⟩ | ⟨c50, H⟩
                      ·
                        refine s_cond_t hF rfl (decide_eq_true c50) ?_
                        refine wp_seq ?_
                        refine s_region ?_
                        refine s_val hF rfl rfl rfl (e_assign hF rfl) ?_; intro a hF
                        refine s_nil ?_
                        refine then_n ?_
                        refine wp_ret ?_
                        refine then_r ?_
                        obtain rfl := some_some H
                        refine s_ret [Value.bool false] hF Try.results15 ⟨rfl, trivial⟩ ?_
                        exact ⟨_, rfl, hM.frm, rfl⟩
                      ·
                        refine s_cond_f hF rfl (decide_eq_false c50) ?_
                        refine wp_skip ?_
                        refine then_n ?_
                        refine wp_seq ?_
                        refine wp_seq ?_
                        refine s_region ?_
                        refine s_val hF rfl rfl rfl (e_move hF rfl) ?_; intro a hF
                        refine s_val hF rfl rfl rfl (e_move hF rfl) ?_; intro a hF
                        refine s_val hF rfl rfl rfl (e_neq hF rfl rfl) ?_; intro a hF
                        refine s_nil ?_
                        refine then_n ?_
                        rcases ite_cases H with ⟨c51, H⟩ | ⟨c51, H⟩
                        ·
                          refine s_cond_f hF rfl (congrArg Bool.not (decide_eq_true c51)) ?_
                          refine wp_skip ?_
                          refine then_n ?_
                          refine wp_seq ?_
                          refine s_region ?_
                          refine s_val hF rfl rfl rfl (e_assign hF rfl) ?_; intro a hF
                          refine s_nil ?_
                          refine then_n ?_
                          refine wp_ret ?_
                          obtain rfl := some_some H
                          refine s_ret [Value.bool true] hF Try.results15 ⟨rfl, trivial⟩ ?_
                          exact ⟨_, rfl, hM.frm, rfl⟩
                        ·
                          refine s_cond_t hF rfl (congrArg Bool.not (decide_eq_false c51)) ?_
                          refine wp_seq ?_
                          refine s_region ?_
                          refine s_val hF rfl rfl rfl (e_assign hF rfl) ?_; intro a hF
                          refine s_nil ?_
                          refine then_n ?_
                          refine wp_ret ?_
                          refine then_r ?_
                          obtain rfl := some_some H
                          refine s_ret [Value.bool false] hF Try.results15 ⟨rfl, trivial⟩ ?_
                          exact ⟨_, rfl, hM.frm, rfl⟩
                    ·
                      refine s_cond_t hF rfl (congrArg Bool.not (bf c47)) ?_
                      refine wp_seq ?_
                      refine s_region ?_
                      refine s_val hF rfl rfl rfl (e_assign hF rfl) ?_; intro a hF
                      refine s_nil ?_
                      refine then_n ?_
                      refine wp_ret ?_
                      refine then_r ?_
                      obtain rfl := some_some H
                      refine s_ret [Value.bool false] hF Try.results15 ⟨rfl, trivial⟩ ?_
                      exact ⟨_, rfl, hM.frm, rfl⟩
                  ·
                    refine s_region ?_
                    refine s_val hF rfl rfl rfl (e_move hF rfl) ?_; intro a hF
                    refine s_val hF rfl rfl rfl (e_move hF rfl) ?_; intro a hF
                    refine s_call hF rfl rfl rfl Try.call28 (laws_eqIntS.calls K t41.1 v43 (hM.sl 0 rfl) t7.1 v9 (hM.sl 5 rfl) t44 h45) ?_; intro a w v hF hf hR
                    subst hR; have hM := hM.grow hf
                    refine s_val hF rfl rfl rfl (e_not hF rfl) ?_; intro a hF
                    refine s_val hF rfl rfl rfl (e_move hF rfl) ?_; intro a hF
                    have hF := hF.topb (congrArg Bool.not (bf c46))
                    refine s_skip hF rfl rfl rfl ?_; intro a hF
                    refine s_skip hF rfl rfl rfl ?_; intro a hF
                    refine s_skip hF rfl rfl rfl ?_; intro a hF
                    refine s_val hF rfl rfl rfl (e_pick_t hF rfl rfl) ?_; intro a hF
                    refine s_nil ?_
                    refine then_n ?_
                    refine s_cond_t hF rfl rfl ?_
                    refine wp_seq ?_
                    refine s_region ?_
                    refine s_val hF rfl rfl rfl (e_assign hF rfl) ?_; intro a hF
                    refine s_nil ?_
                    refine then_n ?_
                    refine wp_ret ?_
                    refine then_r ?_
                    obtain rfl := some_some H
                    refine s_ret [Value.bool false] hF Try.results15 ⟨rfl, trivial⟩ ?_
                    exact ⟨_, rfl, hM.frm, rfl⟩
                ·
                  refine s_cond_t hF rfl (congrArg Bool.not (decide_eq_false c37)) ?_
                  refine wp_seq ?_
                  refine s_region ?_
                  refine s_val hF rfl rfl rfl (e_assign hF rfl) ?_; intro a hF
                  refine s_nil ?_
                  refine then_n ?_
                  refine wp_ret ?_
                  refine then_r ?_
                  obtain rfl := some_some H
                  refine s_ret [Value.bool false] hF Try.results15 ⟨rfl, trivial⟩ ?_
                  exact ⟨_, rfl, hM.frm, rfl⟩
            ·
              refine s_region ?_
              refine s_val hF rfl rfl rfl (e_move hF rfl) ?_; intro a hF
              refine s_val hF rfl rfl rfl (e_lss hF rfl rfl) ?_; intro a hF
              refine s_val hF rfl rfl rfl (e_move hF rfl) ?_; intro a hF
              have hF := hF.topb (decide_eq_false c28)
              refine s_val hF rfl rfl rfl (e_move hF rfl) ?_; intro a hF
              refine s_val hF rfl rfl rfl (e_move hF rfl) ?_; intro a hF
              refine s_call hF rfl rfl rfl Try.call28 (laws_eqIntS.calls K t13.1 v15 (hM.sl 1 rfl) t7.1 v9 (hM.sl 3 rfl) t29 h30) ?_; intro a w v hF hf hR
              subst hR; have hM := hM.grow hf
              refine s_val hF rfl rfl rfl (e_not hF rfl) ?_; intro a hF
              refine s_val hF rfl rfl rfl (e_pick_f hF rfl rfl) ?_; intro a hF
              refine s_val hF rfl rfl rfl (e_move hF rfl) ?_; intro a hF
              have hF := hF.topb (congrArg Bool.not (bf c31))
              refine s_skip hF rfl rfl rfl ?_; intro a hF
              refine s_skip hF rfl rfl rfl ?_; intro a hF
              refine s_skip hF rfl rfl rfl ?_; intro a hF
              refine s_val hF rfl rfl rfl (e_pick_t hF rfl rfl) ?_; intro a hF
              refine s_nil ?_
              refine then_n ?_
              refine s_cond_t hF rfl rfl ?_
              refine wp_seq ?_
              refine s_region ?_
              refine s_val hF rfl rfl rfl (e_assign hF rfl) ?_; intro a hF
              refine s_nil ?_
              refine then_n ?_
              refine wp_ret ?_
              refine then_r ?_
              obtain rfl := some_some H
              refine s_ret [Value.bool false] hF Try.results15 ⟨rfl, trivial⟩ ?_
              exact ⟨_, rfl, hM.frm, rfl⟩
        ·
          refine s_cond_t hF rfl (congrArg Bool.not (bf c25)) ?_
          refine wp_seq ?_
          refine s_region ?_
          refine s_val hF rfl rfl rfl (e_assign hF rfl) ?_; intro a hF
          refine s_nil ?_
          refine then_n ?_
          refine wp_ret ?_
          refine then_r ?_
          obtain rfl := some_some H
          refine s_ret [Value.bool false] hF Try.results15 ⟨rfl, trivial⟩ ?_
          exact ⟨_, rfl, hM.frm, rfl⟩
      ·
        refine s_cond_t hF rfl (congrArg Bool.not (bf c19)) ?_
        refine wp_seq ?_
        refine s_region ?_
        refine s_val hF rfl rfl rfl (e_assign hF rfl) ?_; intro a hF
        refine s_nil ?_
        refine then_n ?_
        refine wp_ret ?_
        refine then_r ?_
        obtain rfl := some_some H
        refine s_ret [Value.bool false] hF Try.results15 ⟨rfl, trivial⟩ ?_
        exact ⟨_, rfl, hM.frm, rfl⟩
    ·
      refine s_region ?_
      refine s_val hF rfl rfl rfl (e_move hF rfl) ?_; intro a hF
      refine s_val hF rfl rfl rfl (e_move hF rfl) ?_; intro a hF
      refine s_call hF rfl rfl rfl Try.call28 (laws_eqIntS.calls K t13.1 v15 (hM.sl 0 rfl) t7.1 v9 (hM.sl 2 rfl) t16 h17) ?_; intro a w v hF hf hR
      subst hR; have hM := hM.grow hf
      refine s_val hF rfl rfl rfl (e_not hF rfl) ?_; intro a hF
      refine s_val hF rfl rfl rfl (e_move hF rfl) ?_; intro a hF
      have hF := hF.topb (congrArg Bool.not (bf c18))
      refine s_skip hF rfl rfl rfl ?_; intro a hF
      refine s_skip hF rfl rfl rfl ?_; intro a hF
      refine s_skip hF rfl rfl rfl ?_; intro a hF
      refine s_val hF rfl rfl rfl (e_pick_t hF rfl rfl) ?_; intro a hF
      refine s_nil ?_
      refine then_n ?_
      refine s_cond_t hF rfl rfl ?_
      refine wp_seq ?_
      refine s_region ?_
      refine s_val hF rfl rfl rfl (e_assign hF rfl) ?_; intro a hF
      refine s_nil ?_
      refine then_n ?_
      refine wp_ret ?_
      refine then_r ?_
      obtain rfl := some_some H
      refine s_ret [Value.bool false] hF Try.results15 ⟨rfl, trivial⟩ ?_
      exact ⟨_, rfl, hM.frm, rfl⟩

end Go.Proofs.Ytbknafijehakbaa.WFairSizes

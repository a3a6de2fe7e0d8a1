/- The walk through the code that the statement reaches: what each function computes. Conditions: none but those in each line. -/
import Derived.Test.YtlbedonjfihldaaProg
import Derived.Test.YtlbedonjfihldaaK
namespace Go.Proofs.Ytlbedonjfihldaa.WMeanRolled
open Go.K Go.RowKit
set_option linter.unusedVariables false
set_option linter.unusedSimpArgs false

def cd3 : Cd Int := ⟨3, 1, 8, fun x => [Pt.int x], fun x => Value.int .i64 x, (0 : Int), fun _ => rfl, fun _ => rfl, by decide⟩
theorem cdok3 : CdOk Try.prog cd3 := by
  obtain ⟨i, h1, h2, h3, h4⟩ := info_parts (by kernel_rfl : (Try.prog.info? 3).map (fun i => (i.zero, i.size, i.bytes)) = some (some (cd3.v cd3.z), 1, 8))
  exact ⟨⟨i, h1, h3, h4, h2⟩, by decide⟩
def cd28 : Cd (Ar 6) := ⟨28, 6, 48, fun x => [Pt.ar x], fun x => ag [Pt.ar x], (Ar.zero 6), fun _ => rfl, fun _ => rfl, by decide⟩
theorem cdok28 : CdOk Try.prog cd28 := by
  obtain ⟨i, h1, h2, h3, h4⟩ := info_parts (by kernel_rfl : (Try.prog.info? 28).map (fun i => (i.zero, i.size, i.bytes)) = some (some (cd28.v cd28.z), 6, 48))
  exact ⟨⟨i, h1, h3, h4, h2⟩, by decide⟩
theorem cdokV33 : CdOk Try.prog (cdV 33) := by
  obtain ⟨i, h1, h2, h3, h4⟩ := info_parts (by kernel_rfl : (Try.prog.info? 33).map (fun i => (i.zero, i.size, i.bytes)) = some (some ((cdV 33).v (cdV 33).z), 1, 24))
  exact ⟨⟨i, h1, h3, h4, h2⟩, by decide⟩
theorem agg80_0 {A0 : Value} {n0 : Nat} (h0 : ∃ a, A0 = .slice a n0 (scap A0) ∧ (n0 ≠ 0 → a = some ⟨sblk A0, soff A0, none⟩)) : Try.prog.built 80 [(0, A0)] = some (cat [Pt.any A0, Pt.any (Value.slice none 0 0)]).toArray := by
  obtain ⟨a0, e0, _⟩ := h0; generalize scap A0 = c0 at e0; subst e0
  kernel_rfl
theorem zv25 (w : World) : (zeroValue 25).run Try.prog w = .ok (ag [Pt.int (((0 : Int), (0 : Int)).1), Pt.int (((0 : Int), (0 : Int)).2)]) w := by kernel_rfl
theorem zv28 (w : World) : (zeroValue 28).run Try.prog w = .ok (ag [Pt.ar (Ar.zero 6)]) w := by kernel_rfl
theorem zv51 (w : World) : (zeroValue 51).run Try.prog w = .ok (ag [Pt.ar (Ar.zero 2)]) w := by kernel_rfl
theorem mixed : Try.prog.follows .mixedOrders = true := by kernel_rfl

/-! ### loop.example/g01210/laws.szIntA6S: function 30 -/
def laws_szIntA6S.f (K : Nat) (l0 : (List (Ar 6))) (a1 : Int) : Option Int := if (wrap64 (a1 - (l0.length : Int))) < 0 then (some (-1)) else (some (wrap64 (a1 - (l0.length : Int))))
set_option maxRecDepth 100000 in
set_option maxHeartbeats 4000000 in
theorem laws_szIntA6S.calls {w0 : World} (K : Nat) (l0 : (List (Ar 6))) (u0 : Value) (q0 : SlR cd28 w0 u0 l0) (a1 : Int) (r : Int) (H : laws_szIntA6S.f K l0 a1 = some r) : Calls Try.prog 30 [u0, Value.int .i64 a1].toArray w0 (Post w0 fun w v => v = Value.int .i64 r) := by
  rw [laws_szIntA6S.f] at H
  refine s_start Try.func30 rfl Try.ntmps30 rfl ?_
  intro a hF
  have hM := Ms.start w0
  skip
  refine wp_seq ?_
  refine s_region ?_
  refine s_val hF rfl rfl rfl (e_assign hF rfl) ?_; intro a hF
  refine s_nil ?_
  refine then_n ?_
  refine wp_seq ?_
  refine s_region ?_
  refine s_val hF rfl rfl rfl (e_move hF rfl) ?_; intro a hF
  refine s_val hF rfl rfl rfl (e_move hF rfl) ?_; intro a hF
  refine s_val hF rfl rfl rfl (e_len hF rfl (q0.frm hM.frm).toF Try.underlying43) ?_; intro a hF
  refine s_val hF rfl rfl rfl (e_sub hF rfl rfl) ?_; intro a hF
  refine s_val hF rfl rfl rfl (e_assign hF rfl) ?_; intro a hF
  refine s_nil ?_
  refine then_n ?_
  refine wp_seq ?_
  refine wp_seq ?_
  refine s_region ?_
  refine s_val hF rfl rfl rfl (e_move hF rfl) ?_; intro a hF
  refine s_val hF rfl rfl rfl (e_lss hF rfl rfl) ?_; intro a hF
  refine s_nil ?_
  refine then_n ?_
  rcases ite_cases H with ⟨c1, H⟩ | ⟨c1, H⟩
  ·
    refine s_cond_t hF rfl (decide_eq_true c1) ?_
    refine wp_seq ?_
    refine s_region ?_
    refine s_val hF rfl rfl rfl (e_assign hF rfl) ?_; intro a hF
    refine s_nil ?_
    refine then_n ?_
    refine wp_ret ?_
    refine then_r ?_
    obtain rfl := some_some H
    refine s_ret [Value.int .i64 (-1)] hF Try.results30 ⟨rfl, trivial⟩ ?_
    exact ⟨_, rfl, hM.frm, rfl⟩
  ·
    refine s_cond_f hF rfl (decide_eq_false c1) ?_
    refine wp_skip ?_
    refine then_n ?_
    refine wp_seq ?_
    refine s_region ?_
    refine s_val hF rfl rfl rfl (e_move hF rfl) ?_; intro a hF
    refine s_val hF rfl rfl rfl (e_assign hF rfl) ?_; intro a hF
    refine s_nil ?_
    refine then_n ?_
    refine wp_ret ?_
    obtain rfl := some_some H
    refine s_ret [Value.int .i64 (wrap64 (a1 - (l0.length : Int)))] hF Try.results30 ⟨rfl, trivial⟩ ?_
    exact ⟨_, rfl, hM.frm, rfl⟩

/-! ### loop.example/g01210/laws.toIntA6: function 19 -/
def laws_toIntA6.l0 (K : Nat) (a0 : (Ar 6)) : Nat → Int → (Ar 6) → Option (Ar 6)
  | 0, _, _ => none
  | k + 1, x9, x10 => if x9 < 6 then (if (0 : Int) ≤ x9 ∧ x9 < 6 then (laws_toIntA6.l0 K a0 k (wrap64 (x9 + 1)) (x10.set x9 (a0.get x9))) else none) else (some x10)
def laws_toIntA6.f (K : Nat) (a0 : (Ar 6)) : Option (Ar 6) := (laws_toIntA6.l0 K a0 K 0 (Ar.zero 6)).bind fun x8 => some x8
set_option maxRecDepth 100000 in
set_option maxHeartbeats 4000000 in
theorem laws_toIntA6.calls {w0 : World} (K : Nat) (a0 : (Ar 6)) (r : (Ar 6)) (H : laws_toIntA6.f K a0 = some r) : Calls Try.prog 19 [ag [Pt.ar a0]].toArray w0 (Post w0 fun w v => v = ag [Pt.ar r]) := by
  rw [laws_toIntA6.f] at H
  refine s_start Try.func19 rfl Try.ntmps19 rfl ?_
  intro a hF
  have hM := Ms.start w0
  skip
  refine wp_seq ?_
  refine s_region ?_
  refine s_box (ps := [Pt.ar a0]) hF hM rfl rfl rfl rfl ?_; intro a w b1 hF hM
  refine s_alloc (ps := [Pt.ar (Ar.zero 6)]) hF hM rfl rfl zv28 rfl ?_; intro a w b2 hF hM
  refine s_nil ?_
  refine then_n ?_
  refine wp_seq ?_
  refine s_region ?_
  refine s_alloc (ps := [Pt.ar (Ar.zero 6)]) hF hM rfl rfl zv28 rfl ?_; intro a w b3 hF hM
  refine s_nil ?_
  refine then_n ?_
  refine wp_seq ?_
  refine wp_seq ?_
  refine s_region ?_
  refine s_val hF rfl rfl rfl (e_assign hF rfl) ?_; intro a hF
  refine s_nil ?_
  refine then_n ?_
  refine wp_block ?_
  obtain ⟨o13, h14, H⟩ := bind_some H
  refine wp_mono (Q := fun e a w => (e = Exit.exit 0 ∧ ∃ x8 : (Ar 6), x8 = o13 ∧ Fr 15 a [(2, pt b2 0), (3, pt b3 0)] ∧ Ms [] w0 w [boxR b2 [Pt.ar (Ar.zero 6)] 28, boxR b3 [Pt.ar x8] 28])) ?_ ?_
  · refine s_loop (fun kq a w => ∃ x9 : Int, ∃ x10 : (Ar 6), laws_toIntA6.l0 K a0 kq x9 x10 = some o13 ∧ Fr 15 a [(1, pt b1 0), (2, pt b2 0), (3, pt b3 0), (4, Value.int .i64 x9)] ∧ Ms [] w0 w [boxR b1 [Pt.ar a0] 28, boxR b2 [Pt.ar (Ar.zero 6)] 28, boxR b3 [Pt.ar x10] 28]) K ⟨0, (Ar.zero 6), h14, hF.sub _ ⟨rfl, rfl, rfl, rfl, trivial⟩, hM.pick [2, 1, 0] rfl rfl⟩ ?_ ?_
    · rintro a w ⟨_, _, H, _⟩; exact none_some H
    · rintro k a w ⟨x9, x10, H, hF, hM⟩; rw [laws_toIntA6.l0] at H
      refine wp_seq ?_
      refine wp_seq ?_
      refine s_region ?_
      refine s_val hF rfl rfl rfl (e_move hF rfl) ?_; intro a hF
      refine s_val hF rfl rfl rfl (e_lss hF rfl rfl) ?_; intro a hF
      refine s_nil ?_
      refine then_n ?_
      rcases ite_cases H with ⟨c11, H⟩ | ⟨c11, H⟩
      ·
        refine s_cond_t hF rfl (decide_eq_true c11) ?_
        refine wp_skip ?_
        refine then_n ?_
        refine wp_seq ?_
        refine wp_block ?_
        obtain ⟨c12, H⟩ := ite_some H
        refine s_region ?_
        refine s_val hF rfl rfl rfl (e_move hF rfl) ?_; intro a hF
        refine s_val hF rfl rfl rfl (e_move hF rfl) ?_; intro a hF
        refine s_val hF rfl rfl rfl (e_ia hF rfl rfl Try.underlying28 Try.sizeOf3 c12.1 c12.2) ?_; intro a hF
        refine s_val hF rfl rfl rfl (e_ldi (i := 0) (k := 0) hF hM rfl rfl rfl rfl rfl Try.isAgg3 c12.1 c12.2) ?_; intro a hF
        refine s_val hF rfl rfl rfl (e_ia hF rfl rfl Try.underlying28 Try.sizeOf3 c12.1 c12.2) ?_; intro a hF
        refine s_sti (i := 2) (k := 0) hF hM rfl rfl rfl rfl rfl rfl rfl Try.sizeOf3 c12.1 c12.2 ?_; intro a w hF hM
        refine s_nil ?_
        refine blk_n ?_
        refine then_n ?_
        refine s_region ?_
        refine s_val hF rfl rfl rfl (e_move hF rfl) ?_; intro a hF
        refine s_val hF rfl rfl rfl (e_add hF rfl rfl) ?_; intro a hF
        refine s_val hF rfl rfl rfl (e_assign hF rfl) ?_; intro a hF
        refine s_nil ?_
        refine then_n ?_
        exact ⟨(wrap64 (x9 + 1)), (x10.set x9 (a0.get x9)), H, hF.sub _ ⟨rfl, rfl, rfl, rfl, trivial⟩, hM.pick [0, 1, 2] rfl rfl⟩
      ·
        refine s_cond_f hF rfl (decide_eq_false c11) ?_
        refine wp_exit ?_
        refine then_x ?_
        refine then_x ?_
        exact ⟨rfl, x10, some_some H, hF.sub _ ⟨rfl, rfl, trivial⟩, hM.pick [1, 2] rfl rfl⟩
  · rintro e a w ⟨rfl, x8, rfl, hF, hM⟩
    skip
    refine blk_x ?_
    refine then_n ?_
    refine wp_seq ?_
    refine s_region ?_
    refine s_val hF rfl rfl rfl (e_lda (i := 1) 0 1 hF hM rfl rfl rfl rfl Try.isAgg28 Try.sizeOf28 rfl) ?_; intro a hF
    refine s_stw (i := 0) (ps' := [Pt.ar x8]) hF hM rfl rfl rfl rfl rfl rfl Try.sizeOf28 rfl ?_; intro a w hF hM
    refine s_nil ?_
    refine then_n ?_
    refine wp_ret ?_
    obtain rfl := some_some H
    refine s_ret [ag [Pt.ar x8]] hF Try.results19 ⟨⟨_, rfl, rv_box hM (i := 0) rfl Try.isAgg28 Try.sizeOf28 rfl⟩, trivial⟩ ?_
    exact ⟨_, rfl, hM.frm, rfl⟩

/-! ### loop.example/g01210/laws.toIntA6S: function 32 -/
def laws_toIntA6S.l0 (K : Nat) (l0 : (List (Ar 6))) : Nat → Int → (List (Ar 6)) → Option (List (Ar 6))
  | 0, _, _ => none
  | k + 1, x16, x17 => if x16 < (l0.length : Int) then (if (0 : Int) ≤ x16 ∧ x16 < (l0.length : Int) then ((laws_toIntA6.f K (l0.getD (x16 : Int).toNat (Ar.zero 6))).bind fun t20 => if (0 : Int) ≤ x16 ∧ x16 < (x17.length : Int) then (laws_toIntA6S.l0 K l0 k (wrap64 (x16 + 1)) (x17.set (x16 : Int).toNat t20)) else none) else none) else (some x17)
def laws_toIntA6S.f (K : Nat) (l0 : (List (Ar 6))) : Option (List (Ar 6)) := if (0 : Int) ≤ (l0.length : Int) ∧ (l0.length : Int) ≤ 1073741824 then ((laws_toIntA6S.l0 K l0 K 0 (List.replicate (l0.length : Int).toNat (Ar.zero 6))).bind fun x15 => some x15) else none
set_option maxRecDepth 100000 in
set_option maxHeartbeats 4000000 in
theorem laws_toIntA6S.calls {w0 : World} (K : Nat) (l0 : (List (Ar 6))) (u0 : Value) (q0 : SlR cd28 w0 u0 l0) (r : (List (Ar 6))) (H : laws_toIntA6S.f K l0 = some r) : Calls Try.prog 32 [u0].toArray w0 (Post w0 fun w v => Fresh cd28 w0.heap.size w v r) := by
  rw [laws_toIntA6S.f] at H
  refine s_start Try.func32 rfl Try.ntmps32 rfl ?_
  intro a hF
  have hM := Ms.start w0
  skip
  refine wp_seq ?_
  refine s_region ?_
  refine s_val hF rfl rfl rfl (e_assign hF rfl) ?_; intro a hF
  refine s_nil ?_
  refine then_n ?_
  refine wp_seq ?_
  obtain ⟨c2, H⟩ := ite_some H
  refine s_region ?_
  refine s_val hF rfl rfl rfl (e_move hF rfl) ?_; intro a hF
  refine s_val hF rfl rfl rfl (e_len hF rfl (q0.frm hM.frm).toF Try.underlying43) ?_; intro a hF
  refine s_make (C := cd28) cdok28 hF hM rfl rfl rfl rfl Try.underlying43 c2.1 c2.2 ?_; intro a w v1 hF hM
  refine s_val hF rfl rfl rfl (e_assign hF rfl) ?_; intro a hF
  refine s_nil ?_
  refine then_n ?_
  refine wp_seq ?_
  refine wp_seq ?_
  refine s_region ?_
  refine s_val hF rfl rfl rfl (e_assign hF rfl) ?_; intro a hF
  refine s_nil ?_
  refine then_n ?_
  refine wp_block ?_
  obtain ⟨o23, h24, H⟩ := bind_some H
  refine wp_mono (Q := fun e a w => (e = Exit.exit 0 ∧ ∃ x15 : (List (Ar 6)), x15 = o23 ∧ Fr 23 a [(3, v1)] ∧ Ms [] w0 w [rowR cd28 v1 x15])) ?_ ?_
  · refine s_loop (fun kq a w => ∃ x16 : Int, ∃ x17 : (List (Ar 6)), laws_toIntA6S.l0 K l0 kq x16 x17 = some o23 ∧ Fr 23 a [(0, u0), (3, v1), (4, Value.int .i64 x16)] ∧ Ms [] w0 w [rowR cd28 v1 x17]) K ⟨0, (List.replicate (l0.length : Int).toNat (Ar.zero 6)), h24, hF.sub _ ⟨rfl, rfl, rfl, trivial⟩, hM.pick [0] rfl rfl⟩ ?_ ?_
    · rintro a w ⟨_, _, H, _⟩; exact none_some H
    · rintro k a w ⟨x16, x17, H, hF, hM⟩; rw [laws_toIntA6S.l0] at H
      refine wp_seq ?_
      refine wp_seq ?_
      refine s_region ?_
      refine s_val hF rfl rfl rfl (e_move hF rfl) ?_; intro a hF
      refine s_val hF rfl rfl rfl (e_move hF rfl) ?_; intro a hF
      refine s_val hF rfl rfl rfl (e_len hF rfl (q0.frm hM.frm).toF Try.underlying43) ?_; intro a hF
      refine s_val hF rfl rfl rfl (e_lss hF rfl rfl) ?_; intro a hF
      refine s_nil ?_
      refine then_n ?_
      rcases ite_cases H with ⟨c18, H⟩ | ⟨c18, H⟩
      ·
        refine s_cond_t hF rfl (decide_eq_true c18) ?_
        refine wp_skip ?_
        refine then_n ?_
        refine wp_seq ?_
        refine wp_block ?_
        obtain ⟨c19, H⟩ := ite_some H
        obtain ⟨t20, h21, H⟩ := bind_some H
        obtain ⟨c22, H⟩ := ite_some H
        refine s_region ?_
        refine s_val hF rfl rfl rfl (e_move hF rfl) ?_; intro a hF
        refine s_val hF rfl rfl rfl (e_move hF rfl) ?_; intro a hF
        refine s_val hF rfl rfl rfl (e_move hF rfl) ?_; intro a hF
        refine s_val hF rfl rfl rfl (e_move hF rfl) ?_; intro a hF
        refine s_val hF rfl rfl rfl (e_ias cd28 hF rfl rfl (q0.frm hM.frm).toF Try.underlying43 Try.sizeOf28 c19.1 c19.2) ?_; intro a hF
        refine s_val hF rfl rfl rfl (e_ldsa (m := x16) hF rfl (q0.frm hM.frm) (getD_some (z := (Ar.zero 6)) c19.1 c19.2) Try.isAgg28 Try.sizeOf28) ?_; intro a hF
        refine s_call hF rfl rfl rfl Try.call19 (laws_toIntA6.calls K (l0.getD (x16 : Int).toNat (Ar.zero 6)) t20 h21) ?_; intro a w v hF hf hR
        subst hR; have hM := hM.grow hf
        refine s_val hF rfl rfl rfl (e_ias cd28 hF rfl rfl (hM.sl 0 rfl).toF Try.underlying43 Try.sizeOf28 c22.1 c22.2) ?_; intro a hF
        refine s_sts (i := 0) t20 hF hM rfl rfl rfl rfl rfl c22.1 c22.2 Try.sizeOf28 ?_; intro a w hF hM
        refine s_nil ?_
        refine blk_n ?_
        refine then_n ?_
        refine s_region ?_
        refine s_val hF rfl rfl rfl (e_move hF rfl) ?_; intro a hF
        refine s_val hF rfl rfl rfl (e_add hF rfl rfl) ?_; intro a hF
        refine s_val hF rfl rfl rfl (e_assign hF rfl) ?_; intro a hF
        refine s_nil ?_
        refine then_n ?_
        exact ⟨(wrap64 (x16 + 1)), (x17.set (x16 : Int).toNat t20), H, hF.sub _ ⟨rfl, rfl, rfl, trivial⟩, hM.pick [0] rfl rfl⟩
      ·
        refine s_cond_f hF rfl (decide_eq_false c18) ?_
        refine wp_exit ?_
        refine then_x ?_
        refine then_x ?_
        exact ⟨rfl, x17, some_some H, hF.sub _ ⟨rfl, trivial⟩, hM.pick [0] rfl rfl⟩
  · rintro e a w ⟨rfl, x15, rfl, hF, hM⟩
    skip
    refine blk_x ?_
    refine then_n ?_
    refine wp_seq ?_
    refine s_region ?_
    refine s_val hF rfl rfl rfl (e_move hF rfl) ?_; intro a hF
    refine s_val hF rfl rfl rfl (e_assign hF rfl) ?_; intro a hF
    refine s_nil ?_
    refine then_n ?_
    refine wp_ret ?_
    obtain rfl := some_some H
    refine s_ret [v1] hF Try.results32 ⟨rfl, trivial⟩ ?_
    exact ⟨_, rfl, hM.frm, hM.give 0 rfl⟩

/-! ### loop.example/g01210/laws.toGoal: function 16 -/
def laws_toGoal.f (K : Nat) (a0 : (Int × Int)) : Option (Int × Int) := some a0
set_option maxRecDepth 100000 in
set_option maxHeartbeats 4000000 in
theorem laws_toGoal.calls {w0 : World} (K : Nat) (a0 : (Int × Int)) (r : (Int × Int)) (H : laws_toGoal.f K a0 = some r) : Calls Try.prog 16 [ag [Pt.int a0.1, Pt.int a0.2]].toArray w0 (Post w0 fun w v => v = ag [Pt.int r.1, Pt.int r.2]) := by
  rw [laws_toGoal.f] at H
  refine s_start Try.func16 rfl Try.ntmps16 rfl ?_
  intro a hF
  have hM := Ms.start w0
  skip
  refine wp_seq ?_
  refine s_region ?_
  refine s_box (ps := [Pt.int a0.1, Pt.int a0.2]) hF hM rfl rfl rfl rfl ?_; intro a w b1 hF hM
  refine s_alloc (ps := [Pt.int (((0 : Int), (0 : Int)).1), Pt.int (((0 : Int), (0 : Int)).2)]) hF hM rfl rfl zv25 rfl ?_; intro a w b2 hF hM
  refine s_nil ?_
  refine then_n ?_
  refine wp_seq ?_
  refine s_region ?_
  refine s_alloc (ps := [Pt.int (((0 : Int), (0 : Int)).1), Pt.int (((0 : Int), (0 : Int)).2)]) hF hM rfl rfl zv25 rfl ?_; intro a w b3 hF hM
  refine s_nil ?_
  refine then_n ?_
  refine wp_seq ?_
  refine s_region ?_
  refine s_val hF rfl rfl rfl (e_fa hF rfl Try.underlying23 rfl Try.sizeOf3 rfl rfl) ?_; intro a hF
  refine s_val hF rfl rfl rfl (e_ld (i := 2) (k := 0) hF hM rfl rfl rfl rfl Try.isAgg3 rfl) ?_; intro a hF
  refine s_val hF rfl rfl rfl (e_fa hF rfl Try.underlying25 rfl Try.sizeOf3 rfl rfl) ?_; intro a hF
  refine s_st (i := 0) (k := 0) (Pt.int a0.1) hF hM rfl rfl rfl rfl rfl rfl rfl rfl Try.sizeOf3 rfl ?_; intro a w hF hM
  refine s_nil ?_
  refine then_n ?_
  refine wp_seq ?_
  refine s_region ?_
  refine s_val hF rfl rfl rfl (e_fa hF rfl Try.underlying23 rfl Try.sizeOf3 rfl rfl) ?_; intro a hF
  refine s_val hF rfl rfl rfl (e_ld (i := 2) (k := 1) hF hM rfl rfl rfl rfl Try.isAgg3 rfl) ?_; intro a hF
  refine s_val hF rfl rfl rfl (e_fa hF rfl Try.underlying25 rfl Try.sizeOf3 rfl rfl) ?_; intro a hF
  refine s_st (i := 0) (k := 1) (Pt.int a0.2) hF hM rfl rfl rfl rfl rfl rfl rfl rfl Try.sizeOf3 rfl ?_; intro a w hF hM
  refine s_nil ?_
  refine then_n ?_
  refine wp_seq ?_
  refine s_region ?_
  refine s_val hF rfl rfl rfl (e_lda (i := 0) 0 2 hF hM rfl rfl rfl rfl Try.isAgg25 Try.sizeOf25 rfl) ?_; intro a hF
  refine s_stw (i := 1) (ps' := [Pt.int a0.1, Pt.int a0.2]) hF hM rfl rfl rfl rfl rfl rfl Try.sizeOf25 rfl ?_; intro a w hF hM
  refine s_nil ?_
  refine then_n ?_
  refine wp_ret ?_
  obtain rfl := some_some H
  refine s_ret [ag [Pt.int a0.1, Pt.int a0.2]] hF Try.results16 ⟨⟨_, rfl, rv_box hM (i := 1) rfl Try.isAgg25 Try.sizeOf25 rfl⟩, trivial⟩ ?_
  exact ⟨_, rfl, hM.frm, rfl⟩

/-! ### loop.example/g01210/spec.l1In: function 56 -/
def spec_l1In.f (K : Nat) (a0 : Int) (a1 : Int) (a2 : Int) : Option Bool := if a1 ≤ a0 then (some (decide (a0 ≤ a2))) else (some false)
set_option maxRecDepth 100000 in
set_option maxHeartbeats 4000000 in
theorem spec_l1In.calls {w0 : World} (K : Nat) (a0 : Int) (a1 : Int) (a2 : Int) (r : Bool) (H : spec_l1In.f K a0 a1 a2 = some r) : Calls Try.prog 56 [Value.int .i64 a0, Value.int .i64 a1, Value.int .i64 a2].toArray w0 (Post w0 fun w v => v = Value.bool r) := by
  rw [spec_l1In.f] at H
  refine s_start Try.func56 rfl Try.ntmps56 rfl ?_
  intro a hF
  have hM := Ms.start w0
  skip
  refine wp_seq ?_
  refine s_region ?_
  refine s_val hF rfl rfl rfl (e_assign hF rfl) ?_; intro a hF
  refine s_nil ?_
  refine then_n ?_
  refine wp_seq ?_
  rcases ite_cases H with ⟨c1, H⟩ | ⟨c1, H⟩
  ·
    refine s_region ?_
    refine s_val hF rfl rfl rfl (e_move hF rfl) ?_; intro a hF
    refine s_val hF rfl rfl rfl (e_move hF rfl) ?_; intro a hF
    refine s_val hF rfl rfl rfl (e_geq hF rfl rfl) ?_; intro a hF
    refine s_val hF rfl rfl rfl (e_move hF rfl) ?_; intro a hF
    have hF := hF.topb (decide_eq_true c1)
    refine s_val hF rfl rfl rfl (e_move hF rfl) ?_; intro a hF
    refine s_val hF rfl rfl rfl (e_move hF rfl) ?_; intro a hF
    refine s_val hF rfl rfl rfl (e_leq hF rfl rfl) ?_; intro a hF
    refine s_val hF rfl rfl rfl (e_pick_t hF rfl rfl) ?_; intro a hF
    refine s_val hF rfl rfl rfl (e_assign hF rfl) ?_; intro a hF
    refine s_nil ?_
    refine then_n ?_
    refine wp_ret ?_
    obtain rfl := some_some H
    refine s_ret [Value.bool (decide (a0 ≤ a2))] hF Try.results56 ⟨rfl, trivial⟩ ?_
    exact ⟨_, rfl, hM.frm, rfl⟩
  ·
    refine s_region ?_
    refine s_val hF rfl rfl rfl (e_move hF rfl) ?_; intro a hF
    refine s_val hF rfl rfl rfl (e_move hF rfl) ?_; intro a hF
    refine s_val hF rfl rfl rfl (e_geq hF rfl rfl) ?_; intro a hF
    refine s_val hF rfl rfl rfl (e_move hF rfl) ?_; intro a hF
    have hF := hF.topb (decide_eq_false c1)
    refine s_skip hF rfl rfl rfl ?_; intro a hF
    refine s_skip hF rfl rfl rfl ?_; intro a hF
    refine s_skip hF rfl rfl rfl ?_; intro a hF
    refine s_val hF rfl rfl rfl (e_pick_f hF rfl rfl) ?_; intro a hF
    refine s_val hF rfl rfl rfl (e_assign hF rfl) ?_; intro a hF
    refine s_nil ?_
    refine then_n ?_
    refine wp_ret ?_
    obtain rfl := some_some H
    refine s_ret [Value.bool false] hF Try.results56 ⟨rfl, trivial⟩ ?_
    exact ⟨_, rfl, hM.frm, rfl⟩

/-! ### loop.example/g01210/spec.l2Die: function 55 -/
def spec_l2Die.l0 (K : Nat) (a0 : (Ar 6)) : Nat → Int → Option (Sum Unit Bool)
  | 0, _ => none
  | k + 1, x14 => if x14 < 6 then (if (0 : Int) ≤ x14 ∧ x14 < 6 then ((spec_l1In.f K (a0.get x14) 0 30).bind fun t17 => if t17 = true then (if 0 < x14 then (if (0 : Int) ≤ (wrap64 (x14 - 1)) ∧ (wrap64 (x14 - 1)) < 6 then (if (a0.get x14) < (a0.get (wrap64 (x14 - 1))) then (some (Sum.inr false)) else (spec_l2Die.l0 K a0 k (wrap64 (x14 + 1)))) else none) else (spec_l2Die.l0 K a0 k (wrap64 (x14 + 1)))) else (some (Sum.inr false))) else none) else (some (Sum.inl ()))
def spec_l2Die.f (K : Nat) (a0 : (Ar 6)) : Option Bool := (spec_l2Die.l0 K a0 K 0).bind fun o23 => (match o23 with | .inl () => some true | .inr r25 => some r25)
set_option maxRecDepth 100000 in
set_option maxHeartbeats 4000000 in
theorem spec_l2Die.calls {w0 : World} (K : Nat) (a0 : (Ar 6)) (r : Bool) (H : spec_l2Die.f K a0 = some r) : Calls Try.prog 55 [ag [Pt.ar a0]].toArray w0 (Post w0 fun w v => v = Value.bool r) := by
  rw [spec_l2Die.f] at H
  refine s_start Try.func55 rfl Try.ntmps55 rfl ?_
  intro a hF
  have hM := Ms.start w0
  skip
  refine wp_seq ?_
  refine s_region ?_
  refine s_box (ps := [Pt.ar a0]) hF hM rfl rfl rfl rfl ?_; intro a w b1 hF hM
  refine s_val hF rfl rfl rfl (e_assign hF rfl) ?_; intro a hF
  refine s_nil ?_
  refine then_n ?_
  refine wp_seq ?_
  refine wp_seq ?_
  refine s_region ?_
  refine s_val hF rfl rfl rfl (e_assign hF rfl) ?_; intro a hF
  refine s_nil ?_
  refine then_n ?_
  refine wp_block ?_
  obtain ⟨o23, h24, H⟩ := bind_some H
  refine wp_mono (Q := fun e a w => (e = Exit.exit 0 ∧ Sum.inl () = o23 ∧ Fr 27 a [] ∧ Ms [] w0 w []) ∨ (e = Exit.ret ∧ ∃ r25 : Bool, Sum.inr r25 = o23 ∧ Fr 27 a [(2, Value.bool r25)] ∧ Ms [] w0 w [])) ?_ ?_
  · refine s_loop (fun kq a w => ∃ x14 : Int, spec_l2Die.l0 K a0 kq x14 = some o23 ∧ Fr 27 a [(1, pt b1 0), (3, Value.int .i64 x14)] ∧ Ms [] w0 w [boxR b1 [Pt.ar a0] 28]) K ⟨0, h24, hF.sub _ ⟨rfl, rfl, trivial⟩, hM.pick [0] rfl rfl⟩ ?_ ?_
    · rintro a w ⟨_, H, _⟩; exact none_some H
    · rintro k a w ⟨x14, H, hF, hM⟩; rw [spec_l2Die.l0] at H
      refine wp_seq ?_
      refine wp_seq ?_
      refine s_region ?_
      refine s_val hF rfl rfl rfl (e_move hF rfl) ?_; intro a hF
      refine s_val hF rfl rfl rfl (e_lss hF rfl rfl) ?_; intro a hF
      refine s_nil ?_
      refine then_n ?_
      rcases ite_cases H with ⟨c15, H⟩ | ⟨c15, H⟩
      ·
        refine s_cond_t hF rfl (decide_eq_true c15) ?_
        refine wp_skip ?_
        refine then_n ?_
        refine wp_seq ?_
        refine wp_block ?_
        refine wp_seq ?_
        obtain ⟨c16, H⟩ := ite_some H
        obtain ⟨t17, h18, H⟩ := bind_some H
        rcases ite_cases H with ⟨c19, H⟩ | ⟨c19, H⟩
        ·
          rcases ite_cases H with ⟨c20, H⟩ | ⟨c20, H⟩
          ·
            obtain ⟨c21, H⟩ := ite_some H
            refine s_held (fun w => Ms [] w0 w [boxR b1 [Pt.ar a0] 28]) #[false, false, false, false, false, false, false, false, false, false, false, false, false, false, false, false, false, false, false] mixed rfl rfl hM ?_; intro w hf hM; clear hf
            refine h_val 0 #[true, false, false, false, false, false, false, false, false, false, false, false, false, false, false, false, false, false, false] rfl (by kernel_rfl) hF rfl rfl rfl (fun w hS => e_move hF rfl) (hM.pick [0] rfl rfl) ?_; intro a hF
            refine h_val 1 #[true, true, false, false, false, false, false, false, false, false, false, false, false, false, false, false, false, false, false] rfl (by kernel_rfl) hF rfl rfl rfl (fun w hS => e_ia hF rfl rfl Try.underlying28 Try.sizeOf3 c16.1 c16.2) (hM.pick [0] rfl rfl) ?_; intro a hF
            refine h_val 2 #[true, true, true, false, false, false, false, false, false, false, false, false, false, false, false, false, false, false, false] rfl (by kernel_rfl) hF rfl rfl rfl (fun w hS => e_ldi (i := 0) (k := 0) hF hS rfl rfl rfl rfl rfl Try.isAgg3 c16.1 c16.2) (hM.pick [0] rfl rfl) ?_; intro a hF
            refine h_one 3 #[true, true, true, true, false, false, false, false, false, false, false, false, false, false, false, false, false, false, false] rfl (by kernel_rfl) ?_
            refine s_call hF rfl rfl rfl Try.call56 (spec_l1In.calls K (a0.get x14) 0 30 t17 h18) ?_; intro a w v hF hf hR
            subst hR; have hM := hM.grow hf
            refine s_nil ⟨rfl, (hM.pick [0] rfl rfl), ?_⟩
            refine h_val 4 #[true, true, true, true, true, false, false, false, false, false, false, false, false, false, false, false, false, false, false] rfl (by kernel_rfl) hF rfl rfl rfl (fun w hS => e_not hF rfl) (hM.pick [0] rfl rfl) ?_; intro a hF
            refine h_val 5 #[true, true, true, true, true, true, false, false, false, false, false, false, false, false, false, false, false, false, false] rfl (by kernel_rfl) hF rfl rfl rfl (fun w hS => e_move hF rfl) (hM.pick [0] rfl rfl) ?_; intro a hF
            have hF := hF.topb (congrArg Bool.not c19)
            refine h_val 6 #[true, true, true, true, true, true, true, false, false, false, false, false, false, false, false, false, false, false, false] rfl (by kernel_rfl) hF rfl rfl rfl (fun w hS => e_move hF rfl) (hM.pick [0] rfl rfl) ?_; intro a hF
            refine h_val 7 #[true, true, true, true, true, true, true, true, false, false, false, false, false, false, false, false, false, false, false] rfl (by kernel_rfl) hF rfl rfl rfl (fun w hS => e_gtr hF rfl rfl) (hM.pick [0] rfl rfl) ?_; intro a hF
            refine h_val 8 #[true, true, true, true, true, true, true, true, true, false, false, false, false, false, false, false, false, false, false] rfl (by kernel_rfl) hF rfl rfl rfl (fun w hS => e_move hF rfl) (hM.pick [0] rfl rfl) ?_; intro a hF
            have hF := hF.topb (decide_eq_true c20)
            refine h_val 9 #[true, true, true, true, true, true, true, true, true, true, false, false, false, false, false, false, false, false, false] rfl (by kernel_rfl) hF rfl rfl rfl (fun w hS => e_move hF rfl) (hM.pick [0] rfl rfl) ?_; intro a hF
            refine h_val 10 #[true, true, true, true, true, true, true, true, true, true, true, false, false, false, false, false, false, false, false] rfl (by kernel_rfl) hF rfl rfl rfl (fun w hS => e_ia hF rfl rfl Try.underlying28 Try.sizeOf3 c16.1 c16.2) (hM.pick [0] rfl rfl) ?_; intro a hF
            refine h_val 11 #[true, true, true, true, true, true, true, true, true, true, true, true, false, false, false, false, false, false, false] rfl (by kernel_rfl) hF rfl rfl rfl (fun w hS => e_ldi (i := 0) (k := 0) hF hS rfl rfl rfl rfl rfl Try.isAgg3 c16.1 c16.2) (hM.pick [0] rfl rfl) ?_; intro a hF
            refine h_val 12 #[true, true, true, true, true, true, true, true, true, true, true, true, true, false, false, false, false, false, false] rfl (by kernel_rfl) hF rfl rfl rfl (fun w hS => e_move hF rfl) (hM.pick [0] rfl rfl) ?_; intro a hF
            refine h_val 13 #[true, true, true, true, true, true, true, true, true, true, true, true, true, true, false, false, false, false, false] rfl (by kernel_rfl) hF rfl rfl rfl (fun w hS => e_sub hF rfl rfl) (hM.pick [0] rfl rfl) ?_; intro a hF
            refine h_val 14 #[true, true, true, true, true, true, true, true, true, true, true, true, true, true, true, false, false, false, false] rfl (by kernel_rfl) hF rfl rfl rfl (fun w hS => e_ia hF rfl rfl Try.underlying28 Try.sizeOf3 c21.1 c21.2) (hM.pick [0] rfl rfl) ?_; intro a hF
            refine h_val 15 #[true, true, true, true, true, true, true, true, true, true, true, true, true, true, true, true, false, false, false] rfl (by kernel_rfl) hF rfl rfl rfl (fun w hS => e_ldi (i := 0) (k := 0) hF hS rfl rfl rfl rfl rfl Try.isAgg3 c21.1 c21.2) (hM.pick [0] rfl rfl) ?_; intro a hF
            refine h_val 16 #[true, true, true, true, true, true, true, true, true, true, true, true, true, true, true, true, true, false, false] rfl (by kernel_rfl) hF rfl rfl rfl (fun w hS => e_lss hF rfl rfl) (hM.pick [0] rfl rfl) ?_; intro a hF
            refine h_val 17 #[true, true, true, true, true, true, true, true, true, true, true, true, true, true, true, true, true, true, false] rfl (by kernel_rfl) hF rfl rfl rfl (fun w hS => e_pick_t hF rfl rfl) (hM.pick [0] rfl rfl) ?_; intro a hF
            refine h_val 18 #[true, true, true, true, true, true, true, true, true, true, true, true, true, true, true, true, true, true, true] rfl (by kernel_rfl) hF rfl rfl rfl (fun w hS => e_pick_f hF rfl rfl) (hM.pick [0] rfl rfl) ?_; intro a hF
            refine h_done rfl ?_
            refine then_n ?_
            rcases ite_cases H with ⟨c22, H⟩ | ⟨c22, H⟩
            ·
              refine s_cond_t hF rfl (decide_eq_true c22) ?_
              refine wp_seq ?_
              refine s_region ?_
              refine s_val hF rfl rfl rfl (e_assign hF rfl) ?_; intro a hF
              refine s_nil ?_
              refine then_n ?_
              refine wp_ret ?_
              refine blk_r ?_
              refine then_r ?_
              refine then_r ?_
              exact Or.inr (⟨rfl, false, some_some H, hF.sub _ ⟨rfl, trivial⟩, hM.pick [] rfl rfl⟩)
            ·
              refine s_cond_f hF rfl (decide_eq_false c22) ?_
              refine wp_skip ?_
              refine blk_n ?_
              refine then_n ?_
              refine s_region ?_
              refine s_val hF rfl rfl rfl (e_move hF rfl) ?_; intro a hF
              refine s_val hF rfl rfl rfl (e_add hF rfl rfl) ?_; intro a hF
              refine s_val hF rfl rfl rfl (e_assign hF rfl) ?_; intro a hF
              refine s_nil ?_
              refine then_n ?_
              exact ⟨(wrap64 (x14 + 1)), H, hF.sub _ ⟨rfl, rfl, trivial⟩, hM.pick [0] rfl rfl⟩
          ·
            refine s_held (fun w => Ms [] w0 w [boxR b1 [Pt.ar a0] 28]) #[false, false, false, false, false, false, false, false, false, false, false, false, false, false, false, false, false, false, false] mixed rfl rfl hM ?_; intro w hf hM; clear hf
            refine h_val 0 #[true, false, false, false, false, false, false, false, false, false, false, false, false, false, false, false, false, false, false] rfl (by kernel_rfl) hF rfl rfl rfl (fun w hS => e_move hF rfl) (hM.pick [0] rfl rfl) ?_; intro a hF
            refine h_val 1 #[true, true, false, false, false, false, false, false, false, false, false, false, false, false, false, false, false, false, false] rfl (by kernel_rfl) hF rfl rfl rfl (fun w hS => e_ia hF rfl rfl Try.underlying28 Try.sizeOf3 c16.1 c16.2) (hM.pick [0] rfl rfl) ?_; intro a hF
            refine h_val 2 #[true, true, true, false, false, false, false, false, false, false, false, false, false, false, false, false, false, false, false] rfl (by kernel_rfl) hF rfl rfl rfl (fun w hS => e_ldi (i := 0) (k := 0) hF hS rfl rfl rfl rfl rfl Try.isAgg3 c16.1 c16.2) (hM.pick [0] rfl rfl) ?_; intro a hF
            refine h_one 3 #[true, true, true, true, false, false, false, false, false, false, false, false, false, false, false, false, false, false, false] rfl (by kernel_rfl) ?_
            refine s_call hF rfl rfl rfl Try.call56 (spec_l1In.calls K (a0.get x14) 0 30 t17 h18) ?_; intro a w v hF hf hR
            subst hR; have hM := hM.grow hf
            refine s_nil ⟨rfl, (hM.pick [0] rfl rfl), ?_⟩
            refine h_val 4 #[true, true, true, true, true, false, false, false, false, false, false, false, false, false, false, false, false, false, false] rfl (by kernel_rfl) hF rfl rfl rfl (fun w hS => e_not hF rfl) (hM.pick [0] rfl rfl) ?_; intro a hF
            refine h_val 5 #[true, true, true, true, true, true, false, false, false, false, false, false, false, false, false, false, false, false, false] rfl (by kernel_rfl) hF rfl rfl rfl (fun w hS => e_move hF rfl) (hM.pick [0] rfl rfl) ?_; intro a hF
            have hF := hF.topb (congrArg Bool.not c19)
            refine h_val 6 #[true, true, true, true, true, true, true, false, false, false, false, false, false, false, false, false, false, false, false] rfl (by kernel_rfl) hF rfl rfl rfl (fun w hS => e_move hF rfl) (hM.pick [0] rfl rfl) ?_; intro a hF
            refine h_val 7 #[true, true, true, true, true, true, true, true, false, false, false, false, false, false, false, false, false, false, false] rfl (by kernel_rfl) hF rfl rfl rfl (fun w hS => e_gtr hF rfl rfl) (hM.pick [0] rfl rfl) ?_; intro a hF
            refine h_val 8 #[true, true, true, true, true, true, true, true, true, false, false, false, false, false, false, false, false, false, false] rfl (by kernel_rfl) hF rfl rfl rfl (fun w hS => e_move hF rfl) (hM.pick [0] rfl rfl) ?_; intro a hF
            have hF := hF.topb (decide_eq_false c20)
            refine h_skip 9 #[true, true, true, true, true, true, true, true, true, true, false, false, false, false, false, false, false, false, false] rfl (by kernel_rfl) hF rfl rfl rfl (hM.pick [0] rfl rfl) ?_; intro a hF
            refine h_skip 10 #[true, true, true, true, true, true, true, true, true, true, true, false, false, false, false, false, false, false, false] rfl (by kernel_rfl) hF rfl rfl rfl (hM.pick [0] rfl rfl) ?_; intro a hF
            refine h_skip 11 #[true, true, true, true, true, true, true, true, true, true, true, true, false, false, false, false, false, false, false] rfl (by kernel_rfl) hF rfl rfl rfl (hM.pick [0] rfl rfl) ?_; intro a hF
            refine h_skip 12 #[true, true, true, true, true, true, true, true, true, true, true, true, true, false, false, false, false, false, false] rfl (by kernel_rfl) hF rfl rfl rfl (hM.pick [0] rfl rfl) ?_; intro a hF
            refine h_skip 13 #[true, true, true, true, true, true, true, true, true, true, true, true, true, true, false, false, false, false, false] rfl (by kernel_rfl) hF rfl rfl rfl (hM.pick [0] rfl rfl) ?_; intro a hF
            refine h_skip 14 #[true, true, true, true, true, true, true, true, true, true, true, true, true, true, true, false, false, false, false] rfl (by kernel_rfl) hF rfl rfl rfl (hM.pick [0] rfl rfl) ?_; intro a hF
            refine h_skip 15 #[true, true, true, true, true, true, true, true, true, true, true, true, true, true, true, true, false, false, false] rfl (by kernel_rfl) hF rfl rfl rfl (hM.pick [0] rfl rfl) ?_; intro a hF
            refine h_skip 16 #[true, true, true, true, true, true, true, true, true, true, true, true, true, true, true, true, true, false, false] rfl (by kernel_rfl) hF rfl rfl rfl (hM.pick [0] rfl rfl) ?_; intro a hF
            refine h_val 17 #[true, true, true, true, true, true, true, true, true, true, true, true, true, true, true, true, true, true, false] rfl (by kernel_rfl) hF rfl rfl rfl (fun w hS => e_pick_f hF rfl rfl) (hM.pick [0] rfl rfl) ?_; intro a hF
            refine h_val 18 #[true, true, true, true, true, true, true, true, true, true, true, true, true, true, true, true, true, true, true] rfl (by kernel_rfl) hF rfl rfl rfl (fun w hS => e_pick_f hF rfl rfl) (hM.pick [0] rfl rfl) ?_; intro a hF
            refine h_done rfl ?_
            refine then_n ?_
            refine s_cond_f hF rfl rfl ?_
            refine wp_skip ?_
            refine blk_n ?_
            refine then_n ?_
            refine s_region ?_
            refine s_val hF rfl rfl rfl (e_move hF rfl) ?_; intro a hF
            refine s_val hF rfl rfl rfl (e_add hF rfl rfl) ?_; intro a hF
            refine s_val hF rfl rfl rfl (e_assign hF rfl) ?_; intro a hF
            refine s_nil ?_
            refine then_n ?_
            exact ⟨(wrap64 (x14 + 1)), H, hF.sub _ ⟨rfl, rfl, trivial⟩, hM.pick [0] rfl rfl⟩
        ·
          refine s_held (fun w => Ms [] w0 w [boxR b1 [Pt.ar a0] 28]) #[false, false, false, false, false, false, false, false, false, false, false, false, false, false, false, false, false, false, false] mixed rfl rfl hM ?_; intro w hf hM; clear hf
          refine h_val 0 #[true, false, false, false, false, false, false, false, false, false, false, false, false, false, false, false, false, false, false] rfl (by kernel_rfl) hF rfl rfl rfl (fun w hS => e_move hF rfl) (hM.pick [0] rfl rfl) ?_; intro a hF
          refine h_val 1 #[true, true, false, false, false, false, false, false, false, false, false, false, false, false, false, false, false, false, false] rfl (by kernel_rfl) hF rfl rfl rfl (fun w hS => e_ia hF rfl rfl Try.underlying28 Try.sizeOf3 c16.1 c16.2) (hM.pick [0] rfl rfl) ?_; intro a hF
          refine h_val 2 #[true, true, true, false, false, false, false, false, false, false, false, false, false, false, false, false, false, false, false] rfl (by kernel_rfl) hF rfl rfl rfl (fun w hS => e_ldi (i := 0) (k := 0) hF hS rfl rfl rfl rfl rfl Try.isAgg3 c16.1 c16.2) (hM.pick [0] rfl rfl) ?_; intro a hF
          refine h_one 3 #[true, true, true, true, false, false, false, false, false, false, false, false, false, false, false, false, false, false, false] rfl (by kernel_rfl) ?_
          refine s_call hF rfl rfl rfl Try.call56 (spec_l1In.calls K (a0.get x14) 0 30 t17 h18) ?_; intro a w v hF hf hR
          subst hR; have hM := hM.grow hf
          refine s_nil ⟨rfl, (hM.pick [0] rfl rfl), ?_⟩
          refine h_val 4 #[true, true, true, true, true, false, false, false, false, false, false, false, false, false, false, false, false, false, false] rfl (by kernel_rfl) hF rfl rfl rfl (fun w hS => e_not hF rfl) (hM.pick [0] rfl rfl) ?_; intro a hF
          refine h_val 5 #[true, true, true, true, true, true, false, false, false, false, false, false, false, false, false, false, false, false, false] rfl (by kernel_rfl) hF rfl rfl rfl (fun w hS => e_move hF rfl) (hM.pick [0] rfl rfl) ?_; intro a hF
          have hF := hF.topb (congrArg Bool.not (bf c19))
          refine h_skip 6 #[true, true, true, true, true, true, true, false, false, false, false, false, false, false, false, false, false, false, false] rfl (by kernel_rfl) hF rfl rfl rfl (hM.pick [0] rfl rfl) ?_; intro a hF
          refine h_skip 7 #[true, true, true, true, true, true, true, true, false, false, false, false, false, false, false, false, false, false, false] rfl (by kernel_rfl) hF rfl rfl rfl (hM.pick [0] rfl rfl) ?_; intro a hF
          refine h_skip 8 #[true, true, true, true, true, true, true, true, true, false, false, false, false, false, false, false, false, false, false] rfl (by kernel_rfl) hF rfl rfl rfl (hM.pick [0] rfl rfl) ?_; intro a hF
          refine h_skip 9 #[true, true, true, true, true, true, true, true, true, true, false, false, false, false, false, false, false, false, false] rfl (by kernel_rfl) hF rfl rfl rfl (hM.pick [0] rfl rfl) ?_; intro a hF
          refine h_skip 10 #[true, true, true, true, true, true, true, true, true, true, true, false, false, false, false, false, false, false, false] rfl (by kernel_rfl) hF rfl rfl rfl (hM.pick [0] rfl rfl) ?_; intro a hF
          refine h_skip 11 #[true, true, true, true, true, true, true, true, true, true, true, true, false, false, false, false, false, false, false] rfl (by kernel_rfl) hF rfl rfl rfl (hM.pick [0] rfl rfl) ?_; intro a hF
          refine h_skip 12 #[true, true, true, true, true, true, true, true, true, true, true, true, true, false, false, false, false, false, false] rfl (by kernel_rfl) hF rfl rfl rfl (hM.pick [0] rfl rfl) ?_; intro a hF
          refine h_skip 13 #[true, true, true, true, true, true, true, true, true, true, true, true, true, true, false, false, false, false, false] rfl (by kernel_rfl) hF rfl rfl rfl (hM.pick [0] rfl rfl) ?_; intro a hF
          refine h_skip 14 #[true, true, true, true, true, true, true, true, true, true, true, true, true, true, true, false, false, false, false] rfl (by kernel_rfl) hF rfl rfl rfl (hM.pick [0] rfl rfl) ?_; intro a hF
          refine h_skip 15 #[true, true, true, true, true, true, true, true, true, true, true, true, true, true, true, true, false, false, false] rfl (by kernel_rfl) hF rfl rfl rfl (hM.pick [0] rfl rfl) ?_; intro a hF
          refine h_skip 16 #[true, true, true, true, true, true, true, true, true, true, true, true, true, true, true, true, true, false, false] rfl (by kernel_rfl) hF rfl rfl rfl (hM.pick [0] rfl rfl) ?_; intro a hF
          refine h_skip 17 #[true, true, true, true, true, true, true, true, true, true, true, true, true, true, true, true, true, true, false] rfl (by kernel_rfl) hF rfl rfl rfl (hM.pick [0] rfl rfl) ?_; intro a hF
          refine h_val 18 #[true, true, true, true, true, true, true, true, true, true, true, true, true, true, true, true, true, true, true] rfl (by kernel_rfl) hF rfl rfl rfl (fun w hS => e_pick_t hF rfl rfl) (hM.pick [0] rfl rfl) ?_; intro a hF
          refine h_done rfl ?_
          refine then_n ?_
          refine s_cond_t hF rfl rfl ?_
          refine wp_seq ?_
          refine s_region ?_
          refine s_val hF rfl rfl rfl (e_assign hF rfl) ?_; intro a hF
          refine s_nil ?_
          refine then_n ?_
          refine wp_ret ?_
          refine blk_r ?_
          refine then_r ?_
          refine then_r ?_
          exact Or.inr (⟨rfl, false, some_some H, hF.sub _ ⟨rfl, trivial⟩, hM.pick [] rfl rfl⟩)
      ·
        refine s_cond_f hF rfl (decide_eq_false c15) ?_
        refine wp_exit ?_
        refine then_x ?_
        refine then_x ?_
        exact Or.inl (⟨rfl, some_some H, hF.sub _ trivial, hM.pick [] rfl rfl⟩)
  · rintro e a w (⟨rfl, rfl, hF, hM⟩ | ⟨rfl, r25, rfl, hF, hM⟩)
    ·
      dsimp only at H
      refine blk_x ?_
      refine then_n ?_
      refine wp_seq ?_
      refine s_region ?_
      refine s_val hF rfl rfl rfl (e_assign hF rfl) ?_; intro a hF
      refine s_nil ?_
      refine then_n ?_
      refine wp_ret ?_
      obtain rfl := some_some H
      refine s_ret [Value.bool true] hF Try.results55 ⟨rfl, trivial⟩ ?_
      exact ⟨_, rfl, hM.frm, rfl⟩
    ·
      dsimp only at H
      refine blk_r ?_
      refine then_r ?_
      obtain rfl := some_some H
      refine s_ret [Value.bool r25] hF Try.results55 ⟨rfl, trivial⟩ ?_
      exact ⟨_, rfl, hM.frm, rfl⟩

/-! ### loop.example/g01210/spec.l2Pool: function 68 -/
def spec_l2Pool.l0 (K : Nat) (l0 : (List (Ar 6))) : Nat → Int → Option (Sum Unit Bool)
  | 0, _ => none
  | k + 1, x13 => if x13 < (l0.length : Int) then (if x13 ≤ 4 then (if (0 : Int) ≤ x13 ∧ x13 < (l0.length : Int) then ((spec_l2Die.f K (l0.getD (x13 : Int).toNat (Ar.zero 6))).bind fun t17 => if t17 = true then (spec_l2Pool.l0 K l0 k (wrap64 (x13 + 1))) else (some (Sum.inr false))) else none) else (some (Sum.inl ()))) else (some (Sum.inl ()))
def spec_l2Pool.f (K : Nat) (l0 : (List (Ar 6))) : Option Bool := (spec_l2Pool.l0 K l0 K 0).bind fun o20 => (match o20 with | .inl () => (spec_l1In.f K (l0.length : Int) 1 4).bind fun t23 => some t23 | .inr r22 => some r22)
set_option maxRecDepth 100000 in
set_option maxHeartbeats 4000000 in
theorem spec_l2Pool.calls {w0 : World} (K : Nat) (l0 : (List (Ar 6))) (u0 : Value) (q0 : SlR cd28 w0 u0 l0) (r : Bool) (H : spec_l2Pool.f K l0 = some r) : Calls Try.prog 68 [u0].toArray w0 (Post w0 fun w v => v = Value.bool r) := by
  rw [spec_l2Pool.f] at H
  refine s_start Try.func68 rfl Try.ntmps68 rfl ?_
  intro a hF
  have hM := Ms.start w0
  skip
  refine wp_seq ?_
  refine s_region ?_
  refine s_val hF rfl rfl rfl (e_assign hF rfl) ?_; intro a hF
  refine s_nil ?_
  refine then_n ?_
  refine wp_seq ?_
  refine wp_seq ?_
  refine s_region ?_
  refine s_val hF rfl rfl rfl (e_assign hF rfl) ?_; intro a hF
  refine s_nil ?_
  refine then_n ?_
  refine wp_block ?_
  obtain ⟨o20, h21, H⟩ := bind_some H
  refine wp_mono (Q := fun e a w => (e = Exit.exit 0 ∧ Sum.inl () = o20 ∧ Fr 23 a [(0, u0)] ∧ Ms [] w0 w []) ∨ (e = Exit.ret ∧ ∃ r22 : Bool, Sum.inr r22 = o20 ∧ Fr 23 a [(2, Value.bool r22)] ∧ Ms [] w0 w [])) ?_ ?_
  · refine s_loop (fun kq a w => ∃ x13 : Int, spec_l2Pool.l0 K l0 kq x13 = some o20 ∧ Fr 23 a [(0, u0), (3, Value.int .i64 x13)] ∧ Ms [] w0 w []) K ⟨0, h21, hF.sub _ ⟨rfl, rfl, trivial⟩, hM.pick [] rfl rfl⟩ ?_ ?_
    · rintro a w ⟨_, H, _⟩; exact none_some H
    · rintro k a w ⟨x13, H, hF, hM⟩; rw [spec_l2Pool.l0] at H
      refine wp_seq ?_
      refine wp_seq ?_
      rcases ite_cases H with ⟨c14, H⟩ | ⟨c14, H⟩
      ·
        refine s_region ?_
        refine s_val hF rfl rfl rfl (e_move hF rfl) ?_; intro a hF
        refine s_val hF rfl rfl rfl (e_move hF rfl) ?_; intro a hF
        refine s_val hF rfl rfl rfl (e_len hF rfl (q0.frm hM.frm).toF Try.underlying43) ?_; intro a hF
        refine s_val hF rfl rfl rfl (e_lss hF rfl rfl) ?_; intro a hF
        refine s_val hF rfl rfl rfl (e_move hF rfl) ?_; intro a hF
        have hF := hF.topb (decide_eq_true c14)
        refine s_val hF rfl rfl rfl (e_move hF rfl) ?_; intro a hF
        refine s_val hF rfl rfl rfl (e_leq hF rfl rfl) ?_; intro a hF
        refine s_val hF rfl rfl rfl (e_pick_t hF rfl rfl) ?_; intro a hF
        refine s_nil ?_
        refine then_n ?_
        rcases ite_cases H with ⟨c15, H⟩ | ⟨c15, H⟩
        ·
          refine s_cond_t hF rfl (decide_eq_true c15) ?_
          refine wp_skip ?_
          refine then_n ?_
          refine wp_seq ?_
          refine wp_block ?_
          refine wp_seq ?_
          obtain ⟨c16, H⟩ := ite_some H
          obtain ⟨t17, h18, H⟩ := bind_some H
          refine s_region ?_
          refine s_val hF rfl rfl rfl (e_move hF rfl) ?_; intro a hF
          refine s_val hF rfl rfl rfl (e_move hF rfl) ?_; intro a hF
          refine s_val hF rfl rfl rfl (e_ias cd28 hF rfl rfl (q0.frm hM.frm).toF Try.underlying43 Try.sizeOf28 c16.1 c16.2) ?_; intro a hF
          refine s_val hF rfl rfl rfl (e_ldsa (m := x13) hF rfl (q0.frm hM.frm) (getD_some (z := (Ar.zero 6)) c16.1 c16.2) Try.isAgg28 Try.sizeOf28) ?_; intro a hF
          refine s_call hF rfl rfl rfl Try.call55 (spec_l2Die.calls K (l0.getD (x13 : Int).toNat (Ar.zero 6)) t17 h18) ?_; intro a w v hF hf hR
          subst hR; have hM := hM.grow hf
          refine s_val hF rfl rfl rfl (e_not hF rfl) ?_; intro a hF
          refine s_nil ?_
          refine then_n ?_
          rcases ite_cases H with ⟨c19, H⟩ | ⟨c19, H⟩
          ·
            refine s_cond_f hF rfl (congrArg Bool.not c19) ?_
            refine wp_skip ?_
            refine blk_n ?_
            refine then_n ?_
            refine s_region ?_
            refine s_val hF rfl rfl rfl (e_move hF rfl) ?_; intro a hF
            refine s_val hF rfl rfl rfl (e_add hF rfl rfl) ?_; intro a hF
            refine s_val hF rfl rfl rfl (e_assign hF rfl) ?_; intro a hF
            refine s_nil ?_
            refine then_n ?_
            exact ⟨(wrap64 (x13 + 1)), H, hF.sub _ ⟨rfl, rfl, trivial⟩, hM.pick [] rfl rfl⟩
          ·
            refine s_cond_t hF rfl (congrArg Bool.not (bf c19)) ?_
            refine wp_seq ?_
            refine s_region ?_
            refine s_val hF rfl rfl rfl (e_assign hF rfl) ?_; intro a hF
            refine s_nil ?_
            refine then_n ?_
            refine wp_ret ?_
            refine blk_r ?_
            refine then_r ?_
            refine then_r ?_
            exact Or.inr (⟨rfl, false, some_some H, hF.sub _ ⟨rfl, trivial⟩, hM.pick [] rfl rfl⟩)
        ·
          refine s_cond_f hF rfl (decide_eq_false c15) ?_
          refine wp_exit ?_
          refine then_x ?_
          refine then_x ?_
          exact Or.inl (⟨rfl, some_some H, hF.sub _ ⟨rfl, trivial⟩, hM.pick [] rfl rfl⟩)
      ·
        refine s_region ?_
        refine s_val hF rfl rfl rfl (e_move hF rfl) ?_; intro a hF
        refine s_val hF rfl rfl rfl (e_move hF rfl) ?_; intro a hF
        refine s_val hF rfl rfl rfl (e_len hF rfl (q0.frm hM.frm).toF Try.underlying43) ?_; intro a hF
        refine s_val hF rfl rfl rfl (e_lss hF rfl rfl) ?_; intro a hF
        refine s_val hF rfl rfl rfl (e_move hF rfl) ?_; intro a hF
        have hF := hF.topb (decide_eq_false c14)
        refine s_skip hF rfl rfl rfl ?_; intro a hF
        refine s_skip hF rfl rfl rfl ?_; intro a hF
        refine s_val hF rfl rfl rfl (e_pick_f hF rfl rfl) ?_; intro a hF
        refine s_nil ?_
        refine then_n ?_
        refine s_cond_f hF rfl rfl ?_
        refine wp_exit ?_
        refine then_x ?_
        refine then_x ?_
        exact Or.inl (⟨rfl, some_some H, hF.sub _ ⟨rfl, trivial⟩, hM.pick [] rfl rfl⟩)
  · rintro e a w (⟨rfl, rfl, hF, hM⟩ | ⟨rfl, r22, rfl, hF, hM⟩)
    ·
      dsimp only at H
      refine blk_x ?_
      refine then_n ?_
      refine wp_seq ?_
      obtain ⟨t23, h24, H⟩ := bind_some H
      refine s_region ?_
      refine s_val hF rfl rfl rfl (e_move hF rfl) ?_; intro a hF
      refine s_val hF rfl rfl rfl (e_len hF rfl (q0.frm hM.frm).toF Try.underlying43) ?_; intro a hF
      refine s_call hF rfl rfl rfl Try.call56 (spec_l1In.calls K (l0.length : Int) 1 4 t23 h24) ?_; intro a w v hF hf hR
      subst hR; have hM := hM.grow hf
      refine s_val hF rfl rfl rfl (e_assign hF rfl) ?_; intro a hF
      refine s_nil ?_
      refine then_n ?_
      refine wp_ret ?_
      obtain rfl := some_some H
      refine s_ret [Value.bool t23] hF Try.results68 ⟨rfl, trivial⟩ ?_
      exact ⟨_, rfl, hM.frm, rfl⟩
    ·
      dsimp only at H
      refine blk_r ?_
      refine then_r ?_
      obtain rfl := some_some H
      refine s_ret [Value.bool r22] hF Try.results68 ⟨rfl, trivial⟩ ?_
      exact ⟨_, rfl, hM.frm, rfl⟩

/-! ### loop.example/g01210/spec.l6Goal: function 53 -/
def spec_l6Goal.f (K : Nat) (a0 : (Int × Int)) : Option Bool := if a0.1 = 2 then ((spec_l1In.f K a0.2 0 120).bind fun t3 => some t3) else (if a0.1 = 3 then ((spec_l1In.f K a0.2 0 120).bind fun t6 => some t6) else ((spec_l1In.f K a0.1 1 5).bind fun t8 => if t8 = true then (some (decide (a0.2 = 0))) else (some false)))
set_option maxRecDepth 100000 in
set_option maxHeartbeats 4000000 in
theorem spec_l6Goal.calls {w0 : World} (K : Nat) (a0 : (Int × Int)) (r : Bool) (H : spec_l6Goal.f K a0 = some r) : Calls Try.prog 53 [ag [Pt.int a0.1, Pt.int a0.2]].toArray w0 (Post w0 fun w v => v = Value.bool r) := by
  rw [spec_l6Goal.f] at H
  refine s_start Try.func53 rfl Try.ntmps53 rfl ?_
  intro a hF
  have hM := Ms.start w0
  skip
  refine wp_seq ?_
  refine s_region ?_
  refine s_box (ps := [Pt.int a0.1, Pt.int a0.2]) hF hM rfl rfl rfl rfl ?_; intro a w b1 hF hM
  refine s_val hF rfl rfl rfl (e_assign hF rfl) ?_; intro a hF
  refine s_nil ?_
  refine then_n ?_
  refine wp_seq ?_
  refine wp_seq ?_
  rcases ite_cases H with ⟨c2, H⟩ | ⟨c2, H⟩
  ·
    refine s_region ?_
    refine s_val hF rfl rfl rfl (e_fa hF rfl Try.underlying25 rfl Try.sizeOf3 rfl rfl) ?_; intro a hF
    refine s_val hF rfl rfl rfl (e_ld (i := 0) (k := 0) hF hM rfl rfl rfl rfl Try.isAgg3 rfl) ?_; intro a hF
    refine s_val hF rfl rfl rfl (e_eql hF rfl rfl) ?_; intro a hF
    refine s_val hF rfl rfl rfl (e_move hF rfl) ?_; intro a hF
    have hF := hF.topb (decide_eq_true c2)
    refine s_skip hF rfl rfl rfl ?_; intro a hF
    refine s_skip hF rfl rfl rfl ?_; intro a hF
    refine s_skip hF rfl rfl rfl ?_; intro a hF
    refine s_val hF rfl rfl rfl (e_pick_t hF rfl rfl) ?_; intro a hF
    refine s_nil ?_
    refine then_n ?_
    refine s_cond_t hF rfl rfl ?_
    refine wp_seq ?_
    obtain ⟨t3, h4, H⟩ := bind_some H
    refine s_region ?_
    refine s_val hF rfl rfl rfl (e_fa hF rfl Try.underlying25 rfl Try.sizeOf3 rfl rfl) ?_; intro a hF
    refine s_val hF rfl rfl rfl (e_ld (i := 0) (k := 1) hF hM rfl rfl rfl rfl Try.isAgg3 rfl) ?_; intro a hF
    refine s_call hF rfl rfl rfl Try.call56 (spec_l1In.calls K a0.2 0 120 t3 h4) ?_; intro a w v hF hf hR
    subst hR; have hM := hM.grow hf
    refine s_val hF rfl rfl rfl (e_assign hF rfl) ?_; intro a hF
    refine s_nil ?_
    refine then_n ?_
    refine wp_ret ?_
    refine then_r ?_
    obtain rfl := some_some H
    refine s_ret [Value.bool t3] hF Try.results53 ⟨rfl, trivial⟩ ?_
    exact ⟨_, rfl, hM.frm, rfl⟩
  ·
    refine s_region ?_
    refine s_val hF rfl rfl rfl (e_fa hF rfl Try.underlying25 rfl Try.sizeOf3 rfl rfl) ?_; intro a hF
    refine s_val hF rfl rfl rfl (e_ld (i := 0) (k := 0) hF hM rfl rfl rfl rfl Try.isAgg3 rfl) ?_; intro a hF
    refine s_val hF rfl rfl rfl (e_eql hF rfl rfl) ?_; intro a hF
    refine s_val hF rfl rfl rfl (e_move hF rfl) ?_; intro a hF
    have hF := hF.topb (decide_eq_false c2)
    refine s_val hF rfl rfl rfl (e_fa hF rfl Try.underlying25 rfl Try.sizeOf3 rfl rfl) ?_; intro a hF
    refine s_val hF rfl rfl rfl (e_ld (i := 0) (k := 0) hF hM rfl rfl rfl rfl Try.isAgg3 rfl) ?_; intro a hF
    refine s_val hF rfl rfl rfl (e_eql hF rfl rfl) ?_; intro a hF
    refine s_val hF rfl rfl rfl (e_pick_f hF rfl rfl) ?_; intro a hF
    refine s_nil ?_
    refine then_n ?_
    rcases ite_cases H with ⟨c5, H⟩ | ⟨c5, H⟩
    ·
      refine s_cond_t hF rfl (decide_eq_true c5) ?_
      refine wp_seq ?_
      obtain ⟨t6, h7, H⟩ := bind_some H
      refine s_region ?_
      refine s_val hF rfl rfl rfl (e_fa hF rfl Try.underlying25 rfl Try.sizeOf3 rfl rfl) ?_; intro a hF
      refine s_val hF rfl rfl rfl (e_ld (i := 0) (k := 1) hF hM rfl rfl rfl rfl Try.isAgg3 rfl) ?_; intro a hF
      refine s_call hF rfl rfl rfl Try.call56 (spec_l1In.calls K a0.2 0 120 t6 h7) ?_; intro a w v hF hf hR
      subst hR; have hM := hM.grow hf
      refine s_val hF rfl rfl rfl (e_assign hF rfl) ?_; intro a hF
      refine s_nil ?_
      refine then_n ?_
      refine wp_ret ?_
      refine then_r ?_
      obtain rfl := some_some H
      refine s_ret [Value.bool t6] hF Try.results53 ⟨rfl, trivial⟩ ?_
      exact ⟨_, rfl, hM.frm, rfl⟩
    ·
      refine s_cond_f hF rfl (decide_eq_false c5) ?_
      refine wp_skip ?_
      refine then_n ?_
      refine wp_seq ?_
      obtain ⟨t8, h9, H⟩ := bind_some H
      rcases ite_cases H with ⟨c10, H⟩ | ⟨c10, H⟩
      ·
        refine s_region ?_
        refine s_val hF rfl rfl rfl (e_fa hF rfl Try.underlying25 rfl Try.sizeOf3 rfl rfl) ?_; intro a hF
        refine s_val hF rfl rfl rfl (e_ld (i := 0) (k := 0) hF hM rfl rfl rfl rfl Try.isAgg3 rfl) ?_; intro a hF
        refine s_call hF rfl rfl rfl Try.call56 (spec_l1In.calls K a0.1 1 5 t8 h9) ?_; intro a w v hF hf hR
        subst hR; have hM := hM.grow hf
        refine s_val hF rfl rfl rfl (e_move hF rfl) ?_; intro a hF
        have hF := hF.topb c10
        refine s_val hF rfl rfl rfl (e_fa hF rfl Try.underlying25 rfl Try.sizeOf3 rfl rfl) ?_; intro a hF
        refine s_val hF rfl rfl rfl (e_ld (i := 0) (k := 1) hF hM rfl rfl rfl rfl Try.isAgg3 rfl) ?_; intro a hF
        refine s_val hF rfl rfl rfl (e_eql hF rfl rfl) ?_; intro a hF
        refine s_val hF rfl rfl rfl (e_pick_t hF rfl rfl) ?_; intro a hF
        refine s_val hF rfl rfl rfl (e_assign hF rfl) ?_; intro a hF
        refine s_nil ?_
        refine then_n ?_
        refine wp_ret ?_
        obtain rfl := some_some H
        refine s_ret [Value.bool (decide (a0.2 = 0))] hF Try.results53 ⟨rfl, trivial⟩ ?_
        exact ⟨_, rfl, hM.frm, rfl⟩
      ·
        refine s_region ?_
        refine s_val hF rfl rfl rfl (e_fa hF rfl Try.underlying25 rfl Try.sizeOf3 rfl rfl) ?_; intro a hF
        refine s_val hF rfl rfl rfl (e_ld (i := 0) (k := 0) hF hM rfl rfl rfl rfl Try.isAgg3 rfl) ?_; intro a hF
        refine s_call hF rfl rfl rfl Try.call56 (spec_l1In.calls K a0.1 1 5 t8 h9) ?_; intro a w v hF hf hR
        subst hR; have hM := hM.grow hf
        refine s_val hF rfl rfl rfl (e_move hF rfl) ?_; intro a hF
        have hF := hF.topb (bf c10)
        refine s_skip hF rfl rfl rfl ?_; intro a hF
        refine s_skip hF rfl rfl rfl ?_; intro a hF
        refine s_skip hF rfl rfl rfl ?_; intro a hF
        refine s_val hF rfl rfl rfl (e_pick_f hF rfl rfl) ?_; intro a hF
        refine s_val hF rfl rfl rfl (e_assign hF rfl) ?_; intro a hF
        refine s_nil ?_
        refine then_n ?_
        refine wp_ret ?_
        obtain rfl := some_some H
        refine s_ret [Value.bool false] hF Try.results53 ⟨rfl, trivial⟩ ?_
        exact ⟨_, rfl, hM.frm, rfl⟩

/-! ### loop.example/g01210/spec.l6Good: function 78 -/
def spec_l6Good.f (K : Nat) (l0 : (List (Ar 6))) (a1 : (Int × Int)) (a2 : Int) : Option Bool := (spec_l2Pool.f K l0).bind fun t2 => if t2 = true then (if (l0.length : Int) ≤ 3 then ((spec_l6Goal.f K a1).bind fun t6 => if t6 = true then ((spec_l1In.f K a2 0 2).bind fun t9 => some t9) else (some false)) else (some false)) else (some false)
set_option maxRecDepth 100000 in
set_option maxHeartbeats 4000000 in
theorem spec_l6Good.calls {w0 : World} (K : Nat) (l0 : (List (Ar 6))) (u0 : Value) (q0 : SlR cd28 w0 u0 l0) (a1 : (Int × Int)) (a2 : Int) (r : Bool) (H : spec_l6Good.f K l0 a1 a2 = some r) : Calls Try.prog 78 [u0, ag [Pt.int a1.1, Pt.int a1.2], Value.int .i64 a2].toArray w0 (Post w0 fun w v => v = Value.bool r) := by
  rw [spec_l6Good.f] at H
  refine s_start Try.func78 rfl Try.ntmps78 rfl ?_
  intro a hF
  have hM := Ms.start w0
  skip
  refine wp_seq ?_
  refine s_region ?_
  refine s_box (ps := [Pt.int a1.1, Pt.int a1.2]) hF hM rfl rfl rfl rfl ?_; intro a w b1 hF hM
  refine s_val hF rfl rfl rfl (e_assign hF rfl) ?_; intro a hF
  refine s_nil ?_
  refine then_n ?_
  refine wp_seq ?_
  obtain ⟨t2, h3, H⟩ := bind_some H
  rcases ite_cases H with ⟨c4, H⟩ | ⟨c4, H⟩
  ·
    rcases ite_cases H with ⟨c5, H⟩ | ⟨c5, H⟩
    ·
      obtain ⟨t6, h7, H⟩ := bind_some H
      rcases ite_cases H with ⟨c8, H⟩ | ⟨c8, H⟩
      ·
        obtain ⟨t9, h10, H⟩ := bind_some H
        refine s_region ?_
        refine s_val hF rfl rfl rfl (e_move hF rfl) ?_; intro a hF
        refine s_call hF rfl rfl rfl Try.call68 (spec_l2Pool.calls K l0 u0 (q0.frm hM.frm) t2 h3) ?_; intro a w v hF hf hR
        subst hR; have hM := hM.grow hf
        refine s_val hF rfl rfl rfl (e_move hF rfl) ?_; intro a hF
        have hF := hF.topb c4
        refine s_val hF rfl rfl rfl (e_move hF rfl) ?_; intro a hF
        refine s_val hF rfl rfl rfl (e_len hF rfl (q0.frm hM.frm).toF Try.underlying43) ?_; intro a hF
        refine s_val hF rfl rfl rfl (e_leq hF rfl rfl) ?_; intro a hF
        refine s_val hF rfl rfl rfl (e_pick_t hF rfl rfl) ?_; intro a hF
        refine s_val hF rfl rfl rfl (e_move hF rfl) ?_; intro a hF
        have hF := hF.topb (decide_eq_true c5)
        refine s_val hF rfl rfl rfl (e_lda (i := 0) 0 2 hF hM rfl rfl rfl rfl Try.isAgg25 Try.sizeOf25 rfl) ?_; intro a hF
        refine s_call hF rfl rfl rfl Try.call53 (spec_l6Goal.calls K a1 t6 h7) ?_; intro a w v hF hf hR
        subst hR; have hM := hM.grow hf
        refine s_val hF rfl rfl rfl (e_pick_t hF rfl rfl) ?_; intro a hF
        refine s_val hF rfl rfl rfl (e_move hF rfl) ?_; intro a hF
        have hF := hF.topb c8
        refine s_val hF rfl rfl rfl (e_move hF rfl) ?_; intro a hF
        refine s_call hF rfl rfl rfl Try.call56 (spec_l1In.calls K a2 0 2 t9 h10) ?_; intro a w v hF hf hR
        subst hR; have hM := hM.grow hf
        refine s_val hF rfl rfl rfl (e_pick_t hF rfl rfl) ?_; intro a hF
        refine s_val hF rfl rfl rfl (e_assign hF rfl) ?_; intro a hF
        refine s_nil ?_
        refine then_n ?_
        refine wp_ret ?_
        obtain rfl := some_some H
        refine s_ret [Value.bool t9] hF Try.results78 ⟨rfl, trivial⟩ ?_
        exact ⟨_, rfl, hM.frm, rfl⟩
      ·
        refine s_region ?_
        refine s_val hF rfl rfl rfl (e_move hF rfl) ?_; intro a hF
        refine s_call hF rfl rfl rfl Try.call68 (spec_l2Pool.calls K l0 u0 (q0.frm hM.frm) t2 h3) ?_; intro a w v hF hf hR
        subst hR; have hM := hM.grow hf
        refine s_val hF rfl rfl rfl (e_move hF rfl) ?_; intro a hF
        have hF := hF.topb c4
        refine s_val hF rfl rfl rfl (e_move hF rfl) ?_; intro a hF
        refine s_val hF rfl rfl rfl (e_len hF rfl (q0.frm hM.frm).toF Try.underlying43) ?_; intro a hF
        refine s_val hF rfl rfl rfl (e_leq hF rfl rfl) ?_; intro a hF
        refine s_val hF rfl rfl rfl (e_pick_t hF rfl rfl) ?_; intro a hF
        refine s_val hF rfl rfl rfl (e_move hF rfl) ?_; intro a hF
        have hF := hF.topb (decide_eq_true c5)
        refine s_val hF rfl rfl rfl (e_lda (i := 0) 0 2 hF hM rfl rfl rfl rfl Try.isAgg25 Try.sizeOf25 rfl) ?_; intro a hF
        refine s_call hF rfl rfl rfl Try.call53 (spec_l6Goal.calls K a1 t6 h7) ?_; intro a w v hF hf hR
        subst hR; have hM := hM.grow hf
        refine s_val hF rfl rfl rfl (e_pick_t hF rfl rfl) ?_; intro a hF
        refine s_val hF rfl rfl rfl (e_move hF rfl) ?_; intro a hF
        have hF := hF.topb (bf c8)
        refine s_skip hF rfl rfl rfl ?_; intro a hF
        refine s_skip hF rfl rfl rfl ?_; intro a hF
        refine s_val hF rfl rfl rfl (e_pick_f hF rfl rfl) ?_; intro a hF
        refine s_val hF rfl rfl rfl (e_assign hF rfl) ?_; intro a hF
        refine s_nil ?_
        refine then_n ?_
        refine wp_ret ?_
        obtain rfl := some_some H
        refine s_ret [Value.bool false] hF Try.results78 ⟨rfl, trivial⟩ ?_
        exact ⟨_, rfl, hM.frm, rfl⟩
    ·
      refine s_region ?_
      refine s_val hF rfl rfl rfl (e_move hF rfl) ?_; intro a hF
      refine s_call hF rfl rfl rfl Try.call68 (spec_l2Pool.calls K l0 u0 (q0.frm hM.frm) t2 h3) ?_; intro a w v hF hf hR
      subst hR; have hM := hM.grow hf
      refine s_val hF rfl rfl rfl (e_move hF rfl) ?_; intro a hF
      have hF := hF.topb c4
      refine s_val hF rfl rfl rfl (e_move hF rfl) ?_; intro a hF
      refine s_val hF rfl rfl rfl (e_len hF rfl (q0.frm hM.frm).toF Try.underlying43) ?_; intro a hF
      refine s_val hF rfl rfl rfl (e_leq hF rfl rfl) ?_; intro a hF
      refine s_val hF rfl rfl rfl (e_pick_t hF rfl rfl) ?_; intro a hF
      refine s_val hF rfl rfl rfl (e_move hF rfl) ?_; intro a hF
      have hF := hF.topb (decide_eq_false c5)
      refine s_skip hF rfl rfl rfl ?_; intro a hF
      refine s_skip hF rfl rfl rfl ?_; intro a hF
      refine s_val hF rfl rfl rfl (e_pick_f hF rfl rfl) ?_; intro a hF
      refine s_val hF rfl rfl rfl (e_move hF rfl) ?_; intro a hF
      refine s_skip hF rfl rfl rfl ?_; intro a hF
      refine s_skip hF rfl rfl rfl ?_; intro a hF
      refine s_val hF rfl rfl rfl (e_pick_f hF rfl rfl) ?_; intro a hF
      refine s_val hF rfl rfl rfl (e_assign hF rfl) ?_; intro a hF
      refine s_nil ?_
      refine then_n ?_
      refine wp_ret ?_
      obtain rfl := some_some H
      refine s_ret [Value.bool false] hF Try.results78 ⟨rfl, trivial⟩ ?_
      exact ⟨_, rfl, hM.frm, rfl⟩
  ·
    refine s_region ?_
    refine s_val hF rfl rfl rfl (e_move hF rfl) ?_; intro a hF
    refine s_call hF rfl rfl rfl Try.call68 (spec_l2Pool.calls K l0 u0 (q0.frm hM.frm) t2 h3) ?_; intro a w v hF hf hR
    subst hR; have hM := hM.grow hf
    refine s_val hF rfl rfl rfl (e_move hF rfl) ?_; intro a hF
    have hF := hF.topb (bf c4)
    refine s_skip hF rfl rfl rfl ?_; intro a hF
    refine s_skip hF rfl rfl rfl ?_; intro a hF
    refine s_skip hF rfl rfl rfl ?_; intro a hF
    refine s_val hF rfl rfl rfl (e_pick_f hF rfl rfl) ?_; intro a hF
    refine s_val hF rfl rfl rfl (e_move hF rfl) ?_; intro a hF
    refine s_skip hF rfl rfl rfl ?_; intro a hF
    refine s_skip hF rfl rfl rfl ?_; intro a hF
    refine s_val hF rfl rfl rfl (e_pick_f hF rfl rfl) ?_; intro a hF
    refine s_val hF rfl rfl rfl (e_move hF rfl) ?_; intro a hF
    refine s_skip hF rfl rfl rfl ?_; intro a hF
    refine s_skip hF rfl rfl rfl ?_; intro a hF
    refine s_val hF rfl rfl rfl (e_pick_f hF rfl rfl) ?_; intro a hF
    refine s_val hF rfl rfl rfl (e_assign hF rfl) ?_; intro a hF
    refine s_nil ?_
    refine then_n ?_
    refine wp_ret ?_
    obtain rfl := some_some H
    refine s_ret [Value.bool false] hF Try.results78 ⟨rfl, trivial⟩ ?_
    exact ⟨_, rfl, hM.frm, rfl⟩

/-! ### loop.example/g01210/spec.l2All: function 101 -/
def spec_l2All.l0 (K : Nat) (a0 : Int) : Nat → Int → Int → Option Int
  | 0, _, _ => none
  | k + 1, x6, x7 => if x7 < a0 then (spec_l2All.l0 K a0 k (wrap64 (x6 * 6)) (wrap64 (x7 + 1))) else (some x6)
def spec_l2All.f (K : Nat) (a0 : Int) : Option Int := (spec_l2All.l0 K a0 K 1 0).bind fun x5 => some x5
set_option maxRecDepth 100000 in
set_option maxHeartbeats 4000000 in
theorem spec_l2All.calls {w0 : World} (K : Nat) (a0 : Int) (r : Int) (H : spec_l2All.f K a0 = some r) : Calls Try.prog 101 [Value.int .i64 a0].toArray w0 (Post w0 fun w v => v = Value.int .i64 r) := by
  rw [spec_l2All.f] at H
  refine s_start Try.func101 rfl Try.ntmps101 rfl ?_
  intro a hF
  have hM := Ms.start w0
  skip
  refine wp_seq ?_
  refine s_region ?_
  refine s_val hF rfl rfl rfl (e_assign hF rfl) ?_; intro a hF
  refine s_nil ?_
  refine then_n ?_
  refine wp_seq ?_
  refine s_region ?_
  refine s_val hF rfl rfl rfl (e_assign hF rfl) ?_; intro a hF
  refine s_nil ?_
  refine then_n ?_
  refine wp_seq ?_
  refine wp_seq ?_
  refine s_region ?_
  refine s_val hF rfl rfl rfl (e_assign hF rfl) ?_; intro a hF
  refine s_nil ?_
  refine then_n ?_
  refine wp_block ?_
  obtain ⟨o9, h10, H⟩ := bind_some H
  refine wp_mono (Q := fun e a w => (e = Exit.exit 0 ∧ ∃ x5 : Int, x5 = o9 ∧ Fr 13 a [(3, Value.int .i64 x5)] ∧ Ms [] w0 w [])) ?_ ?_
  · refine s_loop (fun kq a w => ∃ x6 : Int, ∃ x7 : Int, spec_l2All.l0 K a0 kq x6 x7 = some o9 ∧ Fr 13 a [(0, Value.int .i64 a0), (3, Value.int .i64 x6), (4, Value.int .i64 x7)] ∧ Ms [] w0 w []) K ⟨1, 0, h10, hF.sub _ ⟨rfl, rfl, rfl, trivial⟩, hM.pick [] rfl rfl⟩ ?_ ?_
    · rintro a w ⟨_, _, H, _⟩; exact none_some H
    · rintro k a w ⟨x6, x7, H, hF, hM⟩; rw [spec_l2All.l0] at H
      refine wp_seq ?_
      refine wp_seq ?_
      refine s_region ?_
      refine s_val hF rfl rfl rfl (e_move hF rfl) ?_; intro a hF
      refine s_val hF rfl rfl rfl (e_move hF rfl) ?_; intro a hF
      refine s_val hF rfl rfl rfl (e_lss hF rfl rfl) ?_; intro a hF
      refine s_nil ?_
      refine then_n ?_
      rcases ite_cases H with ⟨c8, H⟩ | ⟨c8, H⟩
      ·
        refine s_cond_t hF rfl (decide_eq_true c8) ?_
        refine wp_skip ?_
        refine then_n ?_
        refine wp_seq ?_
        refine wp_block ?_
        refine s_region ?_
        refine s_val hF rfl rfl rfl (e_move hF rfl) ?_; intro a hF
        refine s_val hF rfl rfl rfl (e_mul hF rfl rfl) ?_; intro a hF
        refine s_val hF rfl rfl rfl (e_assign hF rfl) ?_; intro a hF
        refine s_nil ?_
        refine blk_n ?_
        refine then_n ?_
        refine s_region ?_
        refine s_val hF rfl rfl rfl (e_move hF rfl) ?_; intro a hF
        refine s_val hF rfl rfl rfl (e_add hF rfl rfl) ?_; intro a hF
        refine s_val hF rfl rfl rfl (e_assign hF rfl) ?_; intro a hF
        refine s_nil ?_
        refine then_n ?_
        exact ⟨(wrap64 (x6 * 6)), (wrap64 (x7 + 1)), H, hF.sub _ ⟨rfl, rfl, rfl, trivial⟩, hM.pick [] rfl rfl⟩
      ·
        refine s_cond_f hF rfl (decide_eq_false c8) ?_
        refine wp_exit ?_
        refine then_x ?_
        refine then_x ?_
        exact ⟨rfl, x6, some_some H, hF.sub _ ⟨rfl, trivial⟩, hM.pick [] rfl rfl⟩
  · rintro e a w ⟨rfl, x5, rfl, hF, hM⟩
    skip
    refine blk_x ?_
    refine then_n ?_
    refine wp_seq ?_
    refine s_region ?_
    refine s_val hF rfl rfl rfl (e_move hF rfl) ?_; intro a hF
    refine s_val hF rfl rfl rfl (e_assign hF rfl) ?_; intro a hF
    refine s_nil ?_
    refine then_n ?_
    refine wp_ret ?_
    obtain rfl := some_some H
    refine s_ret [Value.int .i64 x5] hF Try.results101 ⟨rfl, trivial⟩ ?_
    exact ⟨_, rfl, hM.frm, rfl⟩

/-! ### loop.example/g01210/spec.l2Roll: function 71 -/
def spec_l2Roll.l0 (K : Nat) (l0 : (List (Ar 6))) : Nat → Int → Int → (List Int) → Option (List Int)
  | 0, _, _, _ => none
  | k + 1, x15, x16, x17 => if 0 ≤ x16 then (if (0 : Int) ≤ x16 ∧ x16 < (l0.length : Int) then (if (0 : Int) ≤ (x15.tmod 6) ∧ (x15.tmod 6) < 6 then (if (0 : Int) ≤ x16 ∧ x16 < (x17.length : Int) then (spec_l2Roll.l0 K l0 k (wrap64 (x15.tdiv 6)) (wrap64 (x16 - 1)) (x17.set (x16 : Int).toNat ((l0.getD (x16 : Int).toNat (Ar.zero 6)).get (x15.tmod 6)))) else none) else none) else none) else (some x17)
def spec_l2Roll.f (K : Nat) (l0 : (List (Ar 6))) (a1 : Int) : Option (List Int) := if (0 : Int) ≤ (l0.length : Int) ∧ (l0.length : Int) ≤ 1073741824 then ((spec_l2Roll.l0 K l0 K a1 (wrap64 ((l0.length : Int) - 1)) (List.replicate (l0.length : Int).toNat (0 : Int))).bind fun x14 => some x14) else none
set_option maxRecDepth 100000 in
set_option maxHeartbeats 4000000 in
theorem spec_l2Roll.calls {w0 : World} (K : Nat) (l0 : (List (Ar 6))) (u0 : Value) (q0 : SlR cd28 w0 u0 l0) (a1 : Int) (r : (List Int)) (H : spec_l2Roll.f K l0 a1 = some r) : Calls Try.prog 71 [u0, Value.int .i64 a1].toArray w0 (Post w0 fun w v => Fresh cd3 w0.heap.size w v r) := by
  rw [spec_l2Roll.f] at H
  refine s_start Try.func71 rfl Try.ntmps71 rfl ?_
  intro a hF
  have hM := Ms.start w0
  skip
  refine wp_seq ?_
  refine s_region ?_
  refine s_val hF rfl rfl rfl (e_assign hF rfl) ?_; intro a hF
  refine s_nil ?_
  refine then_n ?_
  refine wp_seq ?_
  obtain ⟨c2, H⟩ := ite_some H
  refine s_region ?_
  refine s_val hF rfl rfl rfl (e_move hF rfl) ?_; intro a hF
  refine s_val hF rfl rfl rfl (e_len hF rfl (q0.frm hM.frm).toF Try.underlying43) ?_; intro a hF
  refine s_make (C := cd3) cdok3 hF hM rfl rfl rfl rfl Try.underlying33 c2.1 c2.2 ?_; intro a w v1 hF hM
  refine s_val hF rfl rfl rfl (e_assign hF rfl) ?_; intro a hF
  refine s_nil ?_
  refine then_n ?_
  refine wp_seq ?_
  refine wp_seq ?_
  refine s_region ?_
  refine s_val hF rfl rfl rfl (e_move hF rfl) ?_; intro a hF
  refine s_val hF rfl rfl rfl (e_len hF rfl (q0.frm hM.frm).toF Try.underlying43) ?_; intro a hF
  refine s_val hF rfl rfl rfl (e_sub hF rfl rfl) ?_; intro a hF
  refine s_val hF rfl rfl rfl (e_assign hF rfl) ?_; intro a hF
  refine s_nil ?_
  refine then_n ?_
  refine wp_block ?_
  obtain ⟨o22, h23, H⟩ := bind_some H
  refine wp_mono (Q := fun e a w => (e = Exit.exit 0 ∧ ∃ x14 : (List Int), x14 = o22 ∧ Fr 30 a [(5, v1)] ∧ Ms [] w0 w [rowR cd3 v1 x14])) ?_ ?_
  · refine s_loop (fun kq a w => ∃ x15 : Int, ∃ x16 : Int, ∃ x17 : (List Int), spec_l2Roll.l0 K l0 kq x15 x16 x17 = some o22 ∧ Fr 30 a [(0, u0), (1, Value.int .i64 x15), (5, v1), (6, Value.int .i64 x16)] ∧ Ms [] w0 w [rowR cd3 v1 x17]) K ⟨a1, (wrap64 ((l0.length : Int) - 1)), (List.replicate (l0.length : Int).toNat (0 : Int)), h23, hF.sub _ ⟨rfl, rfl, rfl, rfl, trivial⟩, hM.pick [0] rfl rfl⟩ ?_ ?_
    · rintro a w ⟨_, _, _, H, _⟩; exact none_some H
    · rintro k a w ⟨x15, x16, x17, H, hF, hM⟩; rw [spec_l2Roll.l0] at H
      refine wp_seq ?_
      refine wp_seq ?_
      refine s_region ?_
      refine s_val hF rfl rfl rfl (e_move hF rfl) ?_; intro a hF
      refine s_val hF rfl rfl rfl (e_geq hF rfl rfl) ?_; intro a hF
      refine s_nil ?_
      refine then_n ?_
      rcases ite_cases H with ⟨c18, H⟩ | ⟨c18, H⟩
      ·
        refine s_cond_t hF rfl (decide_eq_true c18) ?_
        refine wp_skip ?_
        refine then_n ?_
        refine wp_seq ?_
        refine wp_block ?_
        refine wp_seq ?_
        obtain ⟨c19, H⟩ := ite_some H
        obtain ⟨c20, H⟩ := ite_some H
        obtain ⟨c21, H⟩ := ite_some H
        refine s_region ?_
        refine s_val hF rfl rfl rfl (e_move hF rfl) ?_; intro a hF
        refine s_val hF rfl rfl rfl (e_move hF rfl) ?_; intro a hF
        refine s_val hF rfl rfl rfl (e_move hF rfl) ?_; intro a hF
        refine s_val hF rfl rfl rfl (e_move hF rfl) ?_; intro a hF
        refine s_val hF rfl rfl rfl (e_move hF rfl) ?_; intro a hF
        refine s_val hF rfl rfl rfl (e_rem hF rfl rfl (by decide)) ?_; intro a hF
        refine s_val hF rfl rfl rfl (e_ias cd28 hF rfl rfl (q0.frm hM.frm).toF Try.underlying43 Try.sizeOf28 c19.1 c19.2) ?_; intro a hF
        refine s_val hF rfl rfl rfl (e_ia hF rfl rfl Try.underlying28 Try.sizeOf3 c20.1 c20.2) ?_; intro a hF
        refine s_val hF rfl rfl rfl (e_ldsi (m := x16) (p := (x15.tmod 6)) (o := 0) (k := 0) hF rfl (q0.frm hM.frm) (getD_some (z := (Ar.zero 6)) c19.1 c19.2) rfl rfl Try.isAgg3 c20.1 c20.2) ?_; intro a hF
        refine s_val hF rfl rfl rfl (e_ias cd3 hF rfl rfl (hM.sl 0 rfl).toF Try.underlying33 Try.sizeOf3 c21.1 c21.2) ?_; intro a hF
        refine s_sts (i := 0) ((l0.getD (x16 : Int).toNat (Ar.zero 6)).get (x15.tmod 6)) hF hM rfl rfl rfl rfl rfl c21.1 c21.2 Try.sizeOf3 ?_; intro a w hF hM
        refine s_nil ?_
        refine then_n ?_
        refine s_region ?_
        refine s_val hF rfl rfl rfl (e_move hF rfl) ?_; intro a hF
        refine s_val hF rfl rfl rfl (e_quo hF rfl rfl (by decide)) ?_; intro a hF
        refine s_val hF rfl rfl rfl (e_assign hF rfl) ?_; intro a hF
        refine s_nil ?_
        refine blk_n ?_
        refine then_n ?_
        refine s_region ?_
        refine s_val hF rfl rfl rfl (e_move hF rfl) ?_; intro a hF
        refine s_val hF rfl rfl rfl (e_sub hF rfl rfl) ?_; intro a hF
        refine s_val hF rfl rfl rfl (e_assign hF rfl) ?_; intro a hF
        refine s_nil ?_
        refine then_n ?_
        exact ⟨(wrap64 (x15.tdiv 6)), (wrap64 (x16 - 1)), (x17.set (x16 : Int).toNat ((l0.getD (x16 : Int).toNat (Ar.zero 6)).get (x15.tmod 6))), H, hF.sub _ ⟨rfl, rfl, rfl, rfl, trivial⟩, hM.pick [0] rfl rfl⟩
      ·
        refine s_cond_f hF rfl (decide_eq_false c18) ?_
        refine wp_exit ?_
        refine then_x ?_
        refine then_x ?_
        exact ⟨rfl, x17, some_some H, hF.sub _ ⟨rfl, trivial⟩, hM.pick [0] rfl rfl⟩
  · rintro e a w ⟨rfl, x14, rfl, hF, hM⟩
    skip
    refine blk_x ?_
    refine then_n ?_
    refine wp_seq ?_
    refine s_region ?_
    refine s_val hF rfl rfl rfl (e_move hF rfl) ?_; intro a hF
    refine s_val hF rfl rfl rfl (e_assign hF rfl) ?_; intro a hF
    refine s_nil ?_
    refine then_n ?_
    refine wp_ret ?_
    obtain rfl := some_some H
    refine s_ret [v1] hF Try.results71 ⟨rfl, trivial⟩ ?_
    exact ⟨_, rfl, hM.frm, hM.give 0 rfl⟩

/-! ### loop.example/g01210/spec.l1Most: function 95 -/
def spec_l1Most.f (K : Nat) (a0 : Int) (a1 : Int) : Option Int := if a1 < a0 then (some a0) else (some a1)
set_option maxRecDepth 100000 in
set_option maxHeartbeats 4000000 in
theorem spec_l1Most.calls {w0 : World} (K : Nat) (a0 : Int) (a1 : Int) (r : Int) (H : spec_l1Most.f K a0 a1 = some r) : Calls Try.prog 95 [Value.int .i64 a0, Value.int .i64 a1].toArray w0 (Post w0 fun w v => v = Value.int .i64 r) := by
  rw [spec_l1Most.f] at H
  refine s_start Try.func95 rfl Try.ntmps95 rfl ?_
  intro a hF
  have hM := Ms.start w0
  skip
  refine wp_seq ?_
  refine s_region ?_
  refine s_val hF rfl rfl rfl (e_assign hF rfl) ?_; intro a hF
  refine s_nil ?_
  refine then_n ?_
  refine wp_seq ?_
  refine wp_seq ?_
  refine s_region ?_
  refine s_val hF rfl rfl rfl (e_move hF rfl) ?_; intro a hF
  refine s_val hF rfl rfl rfl (e_move hF rfl) ?_; intro a hF
  refine s_val hF rfl rfl rfl (e_gtr hF rfl rfl) ?_; intro a hF
  refine s_nil ?_
  refine then_n ?_
  rcases ite_cases H with ⟨c1, H⟩ | ⟨c1, H⟩
  ·
    refine s_cond_t hF rfl (decide_eq_true c1) ?_
    refine wp_seq ?_
    refine s_region ?_
    refine s_val hF rfl rfl rfl (e_move hF rfl) ?_; intro a hF
    refine s_val hF rfl rfl rfl (e_assign hF rfl) ?_; intro a hF
    refine s_nil ?_
    refine then_n ?_
    refine wp_ret ?_
    refine then_r ?_
    obtain rfl := some_some H
    refine s_ret [Value.int .i64 a0] hF Try.results95 ⟨rfl, trivial⟩ ?_
    exact ⟨_, rfl, hM.frm, rfl⟩
  ·
    refine s_cond_f hF rfl (decide_eq_false c1) ?_
    refine wp_skip ?_
    refine then_n ?_
    refine wp_seq ?_
    refine s_region ?_
    refine s_val hF rfl rfl rfl (e_move hF rfl) ?_; intro a hF
    refine s_val hF rfl rfl rfl (e_assign hF rfl) ?_; intro a hF
    refine s_nil ?_
    refine then_n ?_
    refine wp_ret ?_
    obtain rfl := some_some H
    refine s_ret [Value.int .i64 a1] hF Try.results95 ⟨rfl, trivial⟩ ?_
    exact ⟨_, rfl, hM.frm, rfl⟩

/-! ### loop.example/g01210/spec.l6One: function 96 -/
def spec_l6One.f (K : Nat) (a0 : Bool) : Option Int := if a0 = true then (some 1) else (some 0)
set_option maxRecDepth 100000 in
set_option maxHeartbeats 4000000 in
theorem spec_l6One.calls {w0 : World} (K : Nat) (a0 : Bool) (r : Int) (H : spec_l6One.f K a0 = some r) : Calls Try.prog 96 [Value.bool a0].toArray w0 (Post w0 fun w v => v = Value.int .i64 r) := by
  rw [spec_l6One.f] at H
  refine s_start Try.func96 rfl Try.ntmps96 rfl ?_
  intro a hF
  have hM := Ms.start w0
  skip
  refine wp_seq ?_
  refine s_region ?_
  refine s_val hF rfl rfl rfl (e_assign hF rfl) ?_; intro a hF
  refine s_nil ?_
  refine then_n ?_
  refine wp_seq ?_
  refine wp_seq ?_
  refine s_region ?_
  refine s_val hF rfl rfl rfl (e_move hF rfl) ?_; intro a hF
  refine s_nil ?_
  refine then_n ?_
  rcases ite_cases H with ⟨c1, H⟩ | ⟨c1, H⟩
  ·
    refine s_cond_t hF rfl c1 ?_
    refine wp_seq ?_
    refine s_region ?_
    refine s_val hF rfl rfl rfl (e_assign hF rfl) ?_; intro a hF
    refine s_nil ?_
    refine then_n ?_
    refine wp_ret ?_
    refine then_r ?_
    obtain rfl := some_some H
    refine s_ret [Value.int .i64 1] hF Try.results96 ⟨rfl, trivial⟩ ?_
    exact ⟨_, rfl, hM.frm, rfl⟩
  ·
    refine s_cond_f hF rfl (bf c1) ?_
    refine wp_skip ?_
    refine then_n ?_
    refine wp_seq ?_
    refine s_region ?_
    refine s_val hF rfl rfl rfl (e_assign hF rfl) ?_; intro a hF
    refine s_nil ?_
    refine then_n ?_
    refine wp_ret ?_
    obtain rfl := some_some H
    refine s_ret [Value.int .i64 0] hF Try.results96 ⟨rfl, trivial⟩ ?_
    exact ⟨_, rfl, hM.frm, rfl⟩

/-! ### loop.example/g01210/spec.l6Score: function 61 -/
def spec_l6Score.l0 (K : Nat) (l1 : (List Int)) : Nat → Int → Int → Bool → Int → Option (Int × Int × Bool)
  | 0, _, _, _, _ => none
  | k + 1, x19, x20, x21, x22 => if x22 < (l1.length : Int) then (if (0 : Int) ≤ x22 ∧ x22 < (l1.length : Int) then ((spec_l1Most.f K x20 (l1.getD (x22 : Int).toNat (0 : Int))).bind fun t25 => if x21 = true then (if (0 : Int) ≤ 0 ∧ 0 < (l1.length : Int) then (spec_l6Score.l0 K l1 k (wrap64 (x19 + (l1.getD (x22 : Int).toNat (0 : Int)))) t25 (decide ((l1.getD (x22 : Int).toNat (0 : Int)) = (l1.getD (0 : Int).toNat (0 : Int)))) (wrap64 (x22 + 1))) else none) else (spec_l6Score.l0 K l1 k (wrap64 (x19 + (l1.getD (x22 : Int).toNat (0 : Int)))) t25 false (wrap64 (x22 + 1)))) else none) else (some (x19, x20, x21))
def spec_l6Score.f (K : Nat) (a0 : (Int × Int)) (l1 : (List Int)) : Option Int := (spec_l6Score.l0 K l1 K 0 0 true 0).bind fun (x16, x17, x18) => if a0.1 = 1 then (some x16) else (if a0.1 = 2 then ((spec_l6One.f K (decide (a0.2 ≤ x16))).bind fun t35 => some t35) else (if a0.1 = 3 then ((spec_l6One.f K (decide (x16 = a0.2))).bind fun t38 => some t38) else (if a0.1 = 4 then (some x17) else ((spec_l6One.f K x18).bind fun t41 => some t41))))
set_option maxRecDepth 100000 in
set_option maxHeartbeats 4000000 in
theorem spec_l6Score.calls {w0 : World} (K : Nat) (a0 : (Int × Int)) (l1 : (List Int)) (u1 : Value) (q1 : SlR cd3 w0 u1 l1) (r : Int) (H : spec_l6Score.f K a0 l1 = some r) : Calls Try.prog 61 [ag [Pt.int a0.1, Pt.int a0.2], u1].toArray w0 (Post w0 fun w v => v = Value.int .i64 r) := by
  rw [spec_l6Score.f] at H
  refine s_start Try.func61 rfl Try.ntmps61 rfl ?_
  intro a hF
  have hM := Ms.start w0
  skip
  refine wp_seq ?_
  refine s_region ?_
  refine s_box (ps := [Pt.int a0.1, Pt.int a0.2]) hF hM rfl rfl rfl rfl ?_; intro a w b1 hF hM
  refine s_val hF rfl rfl rfl (e_assign hF rfl) ?_; intro a hF
  refine s_nil ?_
  refine then_n ?_
  refine wp_seq ?_
  refine s_region ?_
  refine s_val hF rfl rfl rfl (e_assign hF rfl) ?_; intro a hF
  refine s_val hF rfl rfl rfl (e_assign hF rfl) ?_; intro a hF
  refine s_val hF rfl rfl rfl (e_assign hF rfl) ?_; intro a hF
  refine s_nil ?_
  refine then_n ?_
  refine wp_seq ?_
  refine wp_seq ?_
  refine s_region ?_
  refine s_val hF rfl rfl rfl (e_assign hF rfl) ?_; intro a hF
  refine s_nil ?_
  refine then_n ?_
  refine wp_block ?_
  obtain ⟨o31, h32, H⟩ := bind_some H
  refine wp_mono (Q := fun e a w => (e = Exit.exit 0 ∧ ∃ x16 : Int, ∃ x17 : Int, ∃ x18 : Bool, (x16, x17, x18) = o31 ∧ Fr 62 a [(2, pt b1 0), (5, Value.int .i64 x16), (6, Value.int .i64 x17), (7, Value.bool x18)] ∧ Ms [] w0 w [boxR b1 [Pt.int a0.1, Pt.int a0.2] 25])) ?_ ?_
  · refine s_loop (fun kq a w => ∃ x19 : Int, ∃ x20 : Int, ∃ x21 : Bool, ∃ x22 : Int, spec_l6Score.l0 K l1 kq x19 x20 x21 x22 = some o31 ∧ Fr 62 a [(1, u1), (2, pt b1 0), (5, Value.int .i64 x19), (6, Value.int .i64 x20), (7, Value.bool x21), (8, Value.int .i64 x22)] ∧ Ms [] w0 w [boxR b1 [Pt.int a0.1, Pt.int a0.2] 25]) K ⟨0, 0, true, 0, h32, hF.sub _ ⟨rfl, rfl, rfl, rfl, rfl, rfl, trivial⟩, hM.pick [0] rfl rfl⟩ ?_ ?_
    · rintro a w ⟨_, _, _, _, H, _⟩; exact none_some H
    · rintro k a w ⟨x19, x20, x21, x22, H, hF, hM⟩; rw [spec_l6Score.l0] at H
      refine wp_seq ?_
      refine wp_seq ?_
      refine s_region ?_
      refine s_val hF rfl rfl rfl (e_move hF rfl) ?_; intro a hF
      refine s_val hF rfl rfl rfl (e_move hF rfl) ?_; intro a hF
      refine s_val hF rfl rfl rfl (e_len hF rfl (q1.frm hM.frm).toF Try.underlying33) ?_; intro a hF
      refine s_val hF rfl rfl rfl (e_lss hF rfl rfl) ?_; intro a hF
      refine s_nil ?_
      refine then_n ?_
      rcases ite_cases H with ⟨c23, H⟩ | ⟨c23, H⟩
      ·
        refine s_cond_t hF rfl (decide_eq_true c23) ?_
        refine wp_skip ?_
        refine then_n ?_
        refine wp_seq ?_
        refine wp_block ?_
        refine wp_seq ?_
        obtain ⟨c24, H⟩ := ite_some H
        refine s_region ?_
        refine s_val hF rfl rfl rfl (e_move hF rfl) ?_; intro a hF
        refine s_val hF rfl rfl rfl (e_move hF rfl) ?_; intro a hF
        refine s_val hF rfl rfl rfl (e_move hF rfl) ?_; intro a hF
        refine s_val hF rfl rfl rfl (e_ias cd3 hF rfl rfl (q1.frm hM.frm).toF Try.underlying33 Try.sizeOf3 c24.1 c24.2) ?_; intro a hF
        refine s_val hF rfl rfl rfl (e_lds (m := x22) hF rfl (q1.frm hM.frm) (getD_some (z := (0 : Int)) c24.1 c24.2) rfl rfl Try.isAgg3) ?_; intro a hF
        refine s_val hF rfl rfl rfl (e_add hF rfl rfl) ?_; intro a hF
        refine s_val hF rfl rfl rfl (e_assign hF rfl) ?_; intro a hF
        refine s_nil ?_
        refine then_n ?_
        refine wp_seq ?_
        obtain ⟨t25, h26, H⟩ := bind_some H
        refine s_region ?_
        refine s_val hF rfl rfl rfl (e_move hF rfl) ?_; intro a hF
        refine s_val hF rfl rfl rfl (e_move hF rfl) ?_; intro a hF
        refine s_val hF rfl rfl rfl (e_move hF rfl) ?_; intro a hF
        refine s_val hF rfl rfl rfl (e_ias cd3 hF rfl rfl (q1.frm hM.frm).toF Try.underlying33 Try.sizeOf3 c24.1 c24.2) ?_; intro a hF
        refine s_val hF rfl rfl rfl (e_lds (m := x22) hF rfl (q1.frm hM.frm) (getD_some (z := (0 : Int)) c24.1 c24.2) rfl rfl Try.isAgg3) ?_; intro a hF
        refine s_call hF rfl rfl rfl Try.call95 (spec_l1Most.calls K x20 (l1.getD (x22 : Int).toNat (0 : Int)) t25 h26) ?_; intro a w v hF hf hR
        subst hR; have hM := hM.grow hf
        refine s_val hF rfl rfl rfl (e_assign hF rfl) ?_; intro a hF
        refine s_nil ?_
        refine then_n ?_
        rcases ite_cases H with ⟨c27, H⟩ | ⟨c27, H⟩
        ·
          obtain ⟨c28, H⟩ := ite_some H
          refine s_held (fun w => Ms [] w0 w [boxR b1 [Pt.int a0.1, Pt.int a0.2] 25]) #[false, false, false, false, false, false, false, false, false, false, false, false] mixed rfl rfl hM ?_; intro w hf hM; clear hf
          refine h_val 0 #[true, false, false, false, false, false, false, false, false, false, false, false] rfl (by kernel_rfl) hF rfl rfl rfl (fun w hS => e_move hF rfl) (hM.pick [0] rfl rfl) ?_; intro a hF
          refine h_val 1 #[true, true, false, false, false, false, false, false, false, false, false, false] rfl (by kernel_rfl) hF rfl rfl rfl (fun w hS => e_move hF rfl) (hM.pick [0] rfl rfl) ?_; intro a hF
          have hF := hF.topb c27
          refine h_val 2 #[true, true, true, false, false, false, false, false, false, false, false, false] rfl (by kernel_rfl) hF rfl rfl rfl (fun w hS => e_move hF rfl) (hM.pick [0] rfl rfl) ?_; intro a hF
          refine h_val 3 #[true, true, true, true, false, false, false, false, false, false, false, false] rfl (by kernel_rfl) hF rfl rfl rfl (fun w hS => e_move hF rfl) (hM.pick [0] rfl rfl) ?_; intro a hF
          have f29 := (q1.frm hM.frm).toF
          refine h_val 4 #[true, true, true, true, true, false, false, false, false, false, false, false] rfl (by kernel_rfl) hF rfl rfl rfl (fun w hS => e_ias cd3 hF rfl rfl f29 Try.underlying33 Try.sizeOf3 c24.1 c24.2) (hM.pick [0] rfl rfl) ?_; intro a hF
          refine h_val 5 #[true, true, true, true, true, true, false, false, false, false, false, false] rfl (by kernel_rfl) hF rfl rfl rfl (fun w hS => e_lds (m := x22) hF rfl (q1.frm hS.frm) (getD_some (z := (0 : Int)) c24.1 c24.2) rfl rfl Try.isAgg3) (hM.pick [0] rfl rfl) ?_; intro a hF
          refine h_val 6 #[true, true, true, true, true, true, true, false, false, false, false, false] rfl (by kernel_rfl) hF rfl rfl rfl (fun w hS => e_move hF rfl) (hM.pick [0] rfl rfl) ?_; intro a hF
          have f30 := (q1.frm hM.frm).toF
          refine h_val 7 #[true, true, true, true, true, true, true, true, false, false, false, false] rfl (by kernel_rfl) hF rfl rfl rfl (fun w hS => e_ias cd3 hF rfl rfl f30 Try.underlying33 Try.sizeOf3 c28.1 c28.2) (hM.pick [0] rfl rfl) ?_; intro a hF
          refine h_val 8 #[true, true, true, true, true, true, true, true, true, false, false, false] rfl (by kernel_rfl) hF rfl rfl rfl (fun w hS => e_lds (m := 0) hF rfl (q1.frm hS.frm) (getD_some (z := (0 : Int)) c28.1 c28.2) rfl rfl Try.isAgg3) (hM.pick [0] rfl rfl) ?_; intro a hF
          refine h_val 9 #[true, true, true, true, true, true, true, true, true, true, false, false] rfl (by kernel_rfl) hF rfl rfl rfl (fun w hS => e_eql hF rfl rfl) (hM.pick [0] rfl rfl) ?_; intro a hF
          refine h_val 10 #[true, true, true, true, true, true, true, true, true, true, true, false] rfl (by kernel_rfl) hF rfl rfl rfl (fun w hS => e_pick_t hF rfl rfl) (hM.pick [0] rfl rfl) ?_; intro a hF
          refine h_val 11 #[true, true, true, true, true, true, true, true, true, true, true, true] rfl (by kernel_rfl) hF rfl rfl rfl (fun w hS => e_assign hF rfl) (hM.pick [0] rfl rfl) ?_; intro a hF
          refine h_done rfl ?_
          refine blk_n ?_
          refine then_n ?_
          refine s_region ?_
          refine s_val hF rfl rfl rfl (e_move hF rfl) ?_; intro a hF
          refine s_val hF rfl rfl rfl (e_add hF rfl rfl) ?_; intro a hF
          refine s_val hF rfl rfl rfl (e_assign hF rfl) ?_; intro a hF
          refine s_nil ?_
          refine then_n ?_
          exact ⟨(wrap64 (x19 + (l1.getD (x22 : Int).toNat (0 : Int)))), t25, (decide ((l1.getD (x22 : Int).toNat (0 : Int)) = (l1.getD (0 : Int).toNat (0 : Int)))), (wrap64 (x22 + 1)), H, hF.sub _ ⟨rfl, rfl, rfl, rfl, rfl, rfl, trivial⟩, hM.pick [0] rfl rfl⟩
        ·
          refine s_held (fun w => Ms [] w0 w [boxR b1 [Pt.int a0.1, Pt.int a0.2] 25]) #[false, false, false, false, false, false, false, false, false, false, false, false] mixed rfl rfl hM ?_; intro w hf hM; clear hf
          refine h_val 0 #[true, false, false, false, false, false, false, false, false, false, false, false] rfl (by kernel_rfl) hF rfl rfl rfl (fun w hS => e_move hF rfl) (hM.pick [0] rfl rfl) ?_; intro a hF
          refine h_val 1 #[true, true, false, false, false, false, false, false, false, false, false, false] rfl (by kernel_rfl) hF rfl rfl rfl (fun w hS => e_move hF rfl) (hM.pick [0] rfl rfl) ?_; intro a hF
          have hF := hF.topb (bf c27)
          refine h_skip 2 #[true, true, true, false, false, false, false, false, false, false, false, false] rfl (by kernel_rfl) hF rfl rfl rfl (hM.pick [0] rfl rfl) ?_; intro a hF
          refine h_skip 3 #[true, true, true, true, false, false, false, false, false, false, false, false] rfl (by kernel_rfl) hF rfl rfl rfl (hM.pick [0] rfl rfl) ?_; intro a hF
          refine h_skip 4 #[true, true, true, true, true, false, false, false, false, false, false, false] rfl (by kernel_rfl) hF rfl rfl rfl (hM.pick [0] rfl rfl) ?_; intro a hF
          refine h_skip 5 #[true, true, true, true, true, true, false, false, false, false, false, false] rfl (by kernel_rfl) hF rfl rfl rfl (hM.pick [0] rfl rfl) ?_; intro a hF
          refine h_skip 6 #[true, true, true, true, true, true, true, false, false, false, false, false] rfl (by kernel_rfl) hF rfl rfl rfl (hM.pick [0] rfl rfl) ?_; intro a hF
          refine h_skip 7 #[true, true, true, true, true, true, true, true, false, false, false, false] rfl (by kernel_rfl) hF rfl rfl rfl (hM.pick [0] rfl rfl) ?_; intro a hF
          refine h_skip 8 #[true, true, true, true, true, true, true, true, true, false, false, false] rfl (by kernel_rfl) hF rfl rfl rfl (hM.pick [0] rfl rfl) ?_; intro a hF
          refine h_skip 9 #[true, true, true, true, true, true, true, true, true, true, false, false] rfl (by kernel_rfl) hF rfl rfl rfl (hM.pick [0] rfl rfl) ?_; intro a hF
          refine h_val 10 #[true, true, true, true, true, true, true, true, true, true, true, false] rfl (by kernel_rfl) hF rfl rfl rfl (fun w hS => e_pick_f hF rfl rfl) (hM.pick [0] rfl rfl) ?_; intro a hF
          refine h_val 11 #[true, true, true, true, true, true, true, true, true, true, true, true] rfl (by kernel_rfl) hF rfl rfl rfl (fun w hS => e_assign hF rfl) (hM.pick [0] rfl rfl) ?_; intro a hF
          refine h_done rfl ?_
          refine blk_n ?_
          refine then_n ?_
          refine s_region ?_
          refine s_val hF rfl rfl rfl (e_move hF rfl) ?_; intro a hF
          refine s_val hF rfl rfl rfl (e_add hF rfl rfl) ?_; intro a hF
          refine s_val hF rfl rfl rfl (e_assign hF rfl) ?_; intro a hF
          refine s_nil ?_
          refine then_n ?_
          exact ⟨(wrap64 (x19 + (l1.getD (x22 : Int).toNat (0 : Int)))), t25, false, (wrap64 (x22 + 1)), H, hF.sub _ ⟨rfl, rfl, rfl, rfl, rfl, rfl, trivial⟩, hM.pick [0] rfl rfl⟩
      ·
        refine s_cond_f hF rfl (decide_eq_false c23) ?_
        refine wp_exit ?_
        refine then_x ?_
        refine then_x ?_
        exact ⟨rfl, x19, x20, x21, some_some H, hF.sub _ ⟨rfl, rfl, rfl, rfl, trivial⟩, hM.pick [0] rfl rfl⟩
  · rintro e a w ⟨rfl, x16, x17, x18, rfl, hF, hM⟩
    skip
    refine blk_x ?_
    refine then_n ?_
    refine wp_seq ?_
    refine wp_seq ?_
    refine s_region ?_
    refine s_val hF rfl rfl rfl (e_fa hF rfl Try.underlying25 rfl Try.sizeOf3 rfl rfl) ?_; intro a hF
    refine s_val hF rfl rfl rfl (e_ld (i := 0) (k := 0) hF hM rfl rfl rfl rfl Try.isAgg3 rfl) ?_; intro a hF
    refine s_nil ?_
    refine then_n ?_
    refine wp_block ?_
    refine wp_seq ?_
    refine s_region ?_
    refine s_val hF rfl rfl rfl (e_eql hF rfl rfl) ?_; intro a hF
    refine s_val hF rfl rfl rfl (e_assign hF rfl) ?_; intro a hF
    refine s_nil ?_
    refine then_n ?_
    rcases ite_cases H with ⟨c33, H⟩ | ⟨c33, H⟩
    ·
      refine s_cond_t hF rfl (decide_eq_true c33) ?_
      refine wp_seq ?_
      refine s_region ?_
      refine s_val hF rfl rfl rfl (e_move hF rfl) ?_; intro a hF
      refine s_val hF rfl rfl rfl (e_assign hF rfl) ?_; intro a hF
      refine s_nil ?_
      refine then_n ?_
      refine wp_ret ?_
      refine blk_r ?_
      refine then_r ?_
      obtain rfl := some_some H
      refine s_ret [Value.int .i64 x16] hF Try.results61 ⟨rfl, trivial⟩ ?_
      exact ⟨_, rfl, hM.frm, rfl⟩
    ·
      refine s_cond_f hF rfl (decide_eq_false c33) ?_
      refine wp_seq ?_
      refine s_region ?_
      refine s_val hF rfl rfl rfl (e_eql hF rfl rfl) ?_; intro a hF
      refine s_val hF rfl rfl rfl (e_assign hF rfl) ?_; intro a hF
      refine s_nil ?_
      refine then_n ?_
      rcases ite_cases H with ⟨c34, H⟩ | ⟨c34, H⟩
      ·
        refine s_cond_t hF rfl (decide_eq_true c34) ?_
        refine wp_seq ?_
        obtain ⟨t35, h36, H⟩ := bind_some H
        refine s_region ?_
        refine s_val hF rfl rfl rfl (e_move hF rfl) ?_; intro a hF
        refine s_val hF rfl rfl rfl (e_fa hF rfl Try.underlying25 rfl Try.sizeOf3 rfl rfl) ?_; intro a hF
        refine s_val hF rfl rfl rfl (e_ld (i := 0) (k := 1) hF hM rfl rfl rfl rfl Try.isAgg3 rfl) ?_; intro a hF
        refine s_val hF rfl rfl rfl (e_geq hF rfl rfl) ?_; intro a hF
        refine s_call hF rfl rfl rfl Try.call96 (spec_l6One.calls K (decide (a0.2 ≤ x16)) t35 h36) ?_; intro a w v hF hf hR
        subst hR; have hM := hM.grow hf
        refine s_val hF rfl rfl rfl (e_assign hF rfl) ?_; intro a hF
        refine s_nil ?_
        refine then_n ?_
        refine wp_ret ?_
        refine blk_r ?_
        refine then_r ?_
        obtain rfl := some_some H
        refine s_ret [Value.int .i64 t35] hF Try.results61 ⟨rfl, trivial⟩ ?_
        exact ⟨_, rfl, hM.frm, rfl⟩
      ·
        refine s_cond_f hF rfl (decide_eq_false c34) ?_
        refine wp_seq ?_
        refine s_region ?_
        refine s_val hF rfl rfl rfl (e_eql hF rfl rfl) ?_; intro a hF
        refine s_val hF rfl rfl rfl (e_assign hF rfl) ?_; intro a hF
        refine s_nil ?_
        refine then_n ?_
        rcases ite_cases H with ⟨c37, H⟩ | ⟨c37, H⟩
        ·
          refine s_cond_t hF rfl (decide_eq_true c37) ?_
          refine wp_seq ?_
          obtain ⟨t38, h39, H⟩ := bind_some H
          refine s_region ?_
          refine s_val hF rfl rfl rfl (e_move hF rfl) ?_; intro a hF
          refine s_val hF rfl rfl rfl (e_fa hF rfl Try.underlying25 rfl Try.sizeOf3 rfl rfl) ?_; intro a hF
          refine s_val hF rfl rfl rfl (e_ld (i := 0) (k := 1) hF hM rfl rfl rfl rfl Try.isAgg3 rfl) ?_; intro a hF
          refine s_val hF rfl rfl rfl (e_eql hF rfl rfl) ?_; intro a hF
          refine s_call hF rfl rfl rfl Try.call96 (spec_l6One.calls K (decide (x16 = a0.2)) t38 h39) ?_; intro a w v hF hf hR
          subst hR; have hM := hM.grow hf
          refine s_val hF rfl rfl rfl (e_assign hF rfl) ?_; intro a hF
          refine s_nil ?_
          refine then_n ?_
          refine wp_ret ?_
          refine blk_r ?_
          refine then_r ?_
          obtain rfl := some_some H
          refine s_ret [Value.int .i64 t38] hF Try.results61 ⟨rfl, trivial⟩ ?_
          exact ⟨_, rfl, hM.frm, rfl⟩
        ·
          refine s_cond_f hF rfl (decide_eq_false c37) ?_
          refine wp_seq ?_
          refine s_region ?_
          refine s_val hF rfl rfl rfl (e_eql hF rfl rfl) ?_; intro a hF
          refine s_val hF rfl rfl rfl (e_assign hF rfl) ?_; intro a hF
          refine s_nil ?_
          refine then_n ?_
          rcases ite_cases H with ⟨c40, H⟩ | ⟨c40, H⟩
          ·
            refine s_cond_t hF rfl (decide_eq_true c40) ?_
            refine wp_seq ?_
            refine s_region ?_
            refine s_val hF rfl rfl rfl (e_move hF rfl) ?_; intro a hF
            refine s_val hF rfl rfl rfl (e_assign hF rfl) ?_; intro a hF
            refine s_nil ?_
            refine then_n ?_
            refine wp_ret ?_
            refine blk_r ?_
            refine then_r ?_
            obtain rfl := some_some H
            refine s_ret [Value.int .i64 x17] hF Try.results61 ⟨rfl, trivial⟩ ?_
            exact ⟨_, rfl, hM.frm, rfl⟩
          ·
            refine s_cond_f hF rfl (decide_eq_false c40) ?_
            refine wp_skip ?_
            refine blk_n ?_
            refine then_n ?_
            refine wp_seq ?_
            obtain ⟨t41, h42, H⟩ := bind_some H
            refine s_region ?_
            refine s_val hF rfl rfl rfl (e_move hF rfl) ?_; intro a hF
            refine s_call hF rfl rfl rfl Try.call96 (spec_l6One.calls K x18 t41 h42) ?_; intro a w v hF hf hR
            subst hR; have hM := hM.grow hf
            refine s_val hF rfl rfl rfl (e_assign hF rfl) ?_; intro a hF
            refine s_nil ?_
            refine then_n ?_
            refine wp_ret ?_
            obtain rfl := some_some H
            refine s_ret [Value.int .i64 t41] hF Try.results61 ⟨rfl, trivial⟩ ?_
            exact ⟨_, rfl, hM.frm, rfl⟩

/-! ### loop.example/g01210/spec.l1Own: function 106 -/
def spec_l1Own.f (K : Nat) (l0 : (List Int)) : Option (List Int) := if ([] : List Int).length + l0.length ≤ 1073741824 then (some (([] : List Int) ++ l0)) else none
set_option maxRecDepth 100000 in
set_option maxHeartbeats 4000000 in
theorem spec_l1Own.calls {w0 : World} (K : Nat) (l0 : (List Int)) (u0 : Value) (q0 : SlR cd3 w0 u0 l0) (r : (List Int)) (H : spec_l1Own.f K l0 = some r) : Calls Try.prog 106 [u0].toArray w0 (Post w0 fun w v => Fresh cd3 w0.heap.size w v r) := by
  rw [spec_l1Own.f] at H
  refine s_start Try.func106 rfl Try.ntmps106 rfl ?_
  intro a hF
  have hM := Ms.start w0
  skip
  refine wp_seq ?_
  refine s_region ?_
  refine s_val hF rfl rfl rfl (e_assign hF rfl) ?_; intro a hF
  refine s_nil ?_
  refine then_n ?_
  refine wp_seq ?_
  obtain ⟨c3, H⟩ := ite_some H
  refine s_region ?_
  refine s_bsl (C := cd3) ([] : List Int) cdok3 hF hM rfl rfl rfl rfl Try.underlying33 rfl ?_; intro a w v1 hF hM
  refine s_val hF rfl rfl rfl (e_move hF rfl) ?_; intro a hF
  refine s_append (i := 0) cdok3 hF hM rfl rfl rfl rfl rfl (q0.frm hM.frm) Try.underlying33 c3 ?_; intro a w v2 hF hM
  refine s_val hF rfl rfl rfl (e_assign hF rfl) ?_; intro a hF
  refine s_nil ?_
  refine then_n ?_
  refine wp_ret ?_
  obtain rfl := some_some H
  refine s_ret [v2] hF Try.results106 ⟨rfl, trivial⟩ ?_
  exact ⟨_, rfl, hM.frm, hM.give 0 rfl⟩

/-! ### loop.example/g01210/spec.l6Power: function 103 -/
def spec_l6Power.f (K : Nat) (a0 : Int) (a1 : Int) : Option Int := (spec_l2All.f K (wrap64 ((wrap64 (a0 - 1)) - a1))).bind fun t1 => some t1
set_option maxRecDepth 100000 in
set_option maxHeartbeats 4000000 in
theorem spec_l6Power.calls {w0 : World} (K : Nat) (a0 : Int) (a1 : Int) (r : Int) (H : spec_l6Power.f K a0 a1 = some r) : Calls Try.prog 103 [Value.int .i64 a0, Value.int .i64 a1].toArray w0 (Post w0 fun w v => v = Value.int .i64 r) := by
  rw [spec_l6Power.f] at H
  refine s_start Try.func103 rfl Try.ntmps103 rfl ?_
  intro a hF
  have hM := Ms.start w0
  skip
  refine wp_seq ?_
  refine s_region ?_
  refine s_val hF rfl rfl rfl (e_assign hF rfl) ?_; intro a hF
  refine s_nil ?_
  refine then_n ?_
  refine wp_seq ?_
  obtain ⟨t1, h2, H⟩ := bind_some H
  refine s_region ?_
  refine s_val hF rfl rfl rfl (e_move hF rfl) ?_; intro a hF
  refine s_val hF rfl rfl rfl (e_sub hF rfl rfl) ?_; intro a hF
  refine s_val hF rfl rfl rfl (e_move hF rfl) ?_; intro a hF
  refine s_val hF rfl rfl rfl (e_sub hF rfl rfl) ?_; intro a hF
  refine s_call hF rfl rfl rfl Try.call101 (spec_l2All.calls K (wrap64 ((wrap64 (a0 - 1)) - a1)) t1 h2) ?_; intro a w v hF hf hR
  subst hR; have hM := hM.grow hf
  refine s_val hF rfl rfl rfl (e_assign hF rfl) ?_; intro a hF
  refine s_nil ?_
  refine then_n ?_
  refine wp_ret ?_
  obtain rfl := some_some H
  refine s_ret [Value.int .i64 t1] hF Try.results103 ⟨rfl, trivial⟩ ?_
  exact ⟨_, rfl, hM.frm, rfl⟩

/-! ### loop.example/g01210/spec.l6Digit: function 102 -/
def spec_l6Digit.f (K : Nat) (a0 : Int) (a1 : Int) (a2 : Int) : Option Int := (spec_l6Power.f K a0 a2).bind fun t1 => if t1 ≠ 0 then (some ((wrap64 (a1.tdiv t1)).tmod 6)) else none
set_option maxRecDepth 100000 in
set_option maxHeartbeats 4000000 in
theorem spec_l6Digit.calls {w0 : World} (K : Nat) (a0 : Int) (a1 : Int) (a2 : Int) (r : Int) (H : spec_l6Digit.f K a0 a1 a2 = some r) : Calls Try.prog 102 [Value.int .i64 a0, Value.int .i64 a1, Value.int .i64 a2].toArray w0 (Post w0 fun w v => v = Value.int .i64 r) := by
  rw [spec_l6Digit.f] at H
  refine s_start Try.func102 rfl Try.ntmps102 rfl ?_
  intro a hF
  have hM := Ms.start w0
  skip
  refine wp_seq ?_
  refine s_region ?_
  refine s_val hF rfl rfl rfl (e_assign hF rfl) ?_; intro a hF
  refine s_nil ?_
  refine then_n ?_
  refine wp_seq ?_
  obtain ⟨t1, h2, H⟩ := bind_some H
  obtain ⟨c3, H⟩ := ite_some H
  refine s_region ?_
  refine s_val hF rfl rfl rfl (e_move hF rfl) ?_; intro a hF
  refine s_val hF rfl rfl rfl (e_move hF rfl) ?_; intro a hF
  refine s_val hF rfl rfl rfl (e_move hF rfl) ?_; intro a hF
  refine s_call hF rfl rfl rfl Try.call103 (spec_l6Power.calls K a0 a2 t1 h2) ?_; intro a w v hF hf hR
  subst hR; have hM := hM.grow hf
  refine s_val hF rfl rfl rfl (e_quo hF rfl rfl c3) ?_; intro a hF
  refine s_val hF rfl rfl rfl (e_rem hF rfl rfl (by decide)) ?_; intro a hF
  refine s_val hF rfl rfl rfl (e_assign hF rfl) ?_; intro a hF
  refine s_nil ?_
  refine then_n ?_
  refine wp_ret ?_
  obtain rfl := some_some H
  refine s_ret [Value.int .i64 ((wrap64 (a1.tdiv t1)).tmod 6)] hF Try.results102 ⟨rfl, trivial⟩ ?_
  exact ⟨_, rfl, hM.frm, rfl⟩

/-! ### loop.example/g01210/spec.l6Sums: function 80 -/
def spec_l6Sums.l12 (K : Nat) (x164 : (List Int)) (t168 : Int) (x218 : Int) (t225 : Int) : Nat → Int → (List Int) → Option (List Int)
  | 0, _, _ => none
  | k + 1, x235, x236 => if x235 < 6 then (if (0 : Int) ≤ x218 ∧ x218 < (x236.length : Int) then (if (0 : Int) ≤ (wrap64 ((wrap64 (x218 - (wrap64 (t225 * t168)))) + (wrap64 (x235 * t168)))) ∧ (wrap64 ((wrap64 (x218 - (wrap64 (t225 * t168)))) + (wrap64 (x235 * t168)))) < (x164.length : Int) then (spec_l6Sums.l12 K x164 t168 x218 t225 k (wrap64 (x235 + 1)) (x236.set (x218 : Int).toNat (wrap64 ((x236.getD (x218 : Int).toNat (0 : Int)) + (x164.getD ((wrap64 ((wrap64 (x218 - (wrap64 (t225 * t168)))) + (wrap64 (x235 * t168)))) : Int).toNat (0 : Int)))))) else none) else none) else (some x236)
def spec_l6Sums.l11 (K : Nat) (a0 : Int) (a2 : Int) (x162 : Int) (x164 : (List Int)) (t168 : Int) : Nat → Int → (List Int) → Option (List Int)
  | 0, _, _ => none
  | k + 1, x218, x219 => if x218 < (x164.length : Int) then (if 0 ≤ x162 then (if (Go.bits .and .i64 (a2.fdiv (2 ^ (min (x162 : Int).toNat 64))) 1) = 0 then (if (0 : Int) ≤ x218 ∧ x218 < (x164.length : Int) then (if (0 : Int) ≤ x218 ∧ x218 < (x219.length : Int) then (spec_l6Sums.l11 K a0 a2 x162 x164 t168 k (wrap64 (x218 + 1)) (x219.set (x218 : Int).toNat (wrap64 (6 * (x164.getD (x218 : Int).toNat (0 : Int)))))) else none) else none) else ((spec_l6Digit.f K a0 x218 x162).bind fun t225 => (spec_l6Sums.l12 K x164 t168 x218 t225 K 0 x219).bind fun x234 => spec_l6Sums.l11 K a0 a2 x162 x164 t168 k (wrap64 (x218 + 1)) x234)) else none) else (some x219)
def spec_l6Sums.l8 (K : Nat) (a0 : Int) (a2 : Int) : Nat → Int → (List Int) → Option (List Int)
  | 0, _, _ => none
  | k + 1, x162, x164 => if x162 < a0 then (if (0 : Int) ≤ (x164.length : Int) ∧ (x164.length : Int) ≤ 1073741824 then ((spec_l6Power.f K a0 x162).bind fun t168 => (spec_l6Sums.l11 K a0 a2 x162 x164 t168 K 0 (List.replicate (x164.length : Int).toNat (0 : Int))).bind fun x217 => spec_l6Sums.l8 K a0 a2 k (wrap64 (x162 + 1)) x217) else none) else (some x164)
def spec_l6Sums.f (K : Nat) (a0 : Int) (l1 : (List Int)) (a2 : Int) : Option (List Int) := (spec_l1Own.f K l1).bind fun t1 => (spec_l6Sums.l8 K a0 a2 K 0 t1).bind fun x161 => some x161
set_option maxRecDepth 100000 in
set_option maxHeartbeats 4000000 in
theorem spec_l6Sums.calls {w0 : World} (K : Nat) (a0 : Int) (l1 : (List Int)) (u1 : Value) (q1 : SlR cd3 w0 u1 l1) (a2 : Int) (r : (List Int)) (H : spec_l6Sums.f K a0 l1 a2 = some r) : Calls Try.prog 80 [Value.int .i64 a0, u1, Value.int .i64 a2].toArray w0 (Post w0 fun w v => Fresh cd3 w0.heap.size w v r) := by
  rw [spec_l6Sums.f] at H
  refine s_start Try.func80 rfl Try.ntmps80 rfl ?_
  intro a hF
  have hM := Ms.start w0
  skip
  refine wp_seq ?_
  refine s_region ?_
  refine s_val hF rfl rfl rfl (e_assign hF rfl) ?_; intro a hF
  refine s_nil ?_
  refine then_n ?_
  refine wp_seq ?_
  obtain ⟨t1, h2, H⟩ := bind_some H
  refine s_region ?_
  refine s_val hF rfl rfl rfl (e_move hF rfl) ?_; intro a hF
  refine s_call hF rfl rfl rfl Try.call106 (spec_l1Own.calls K l1 u1 (q1.frm hM.frm) t1 h2) ?_; intro a w v3 hF hf hR
  have hM := hM.fresh hf hR
  refine s_val hF rfl rfl rfl (e_assign hF rfl) ?_; intro a hF
  refine s_nil ?_
  refine then_n ?_
  refine wp_seq ?_
  refine wp_seq ?_
  refine s_region ?_
  refine s_val hF rfl rfl rfl (e_assign hF rfl) ?_; intro a hF
  refine s_nil ?_
  refine then_n ?_
  refine wp_block ?_
  obtain ⟨o247, h248, H⟩ := bind_some H
  refine wp_mono (Q := fun e a w => (e = Exit.exit 0 ∧ ∃ v160 : Value, ∃ x161 : (List Int), x161 = o247 ∧ Fr 76 a [(7, v160)] ∧ Ms [] w0 w [rowR cd3 v160 x161])) ?_ ?_
  · refine s_loop (fun kq a w => ∃ v163 : Value, ∃ x162 : Int, ∃ x164 : (List Int), spec_l6Sums.l8 K a0 a2 kq x162 x164 = some o247 ∧ Fr 76 a [(0, Value.int .i64 a0), (2, Value.int .i64 a2), (7, v163), (8, Value.int .i64 x162)] ∧ Ms [] w0 w [rowR cd3 v163 x164]) K ⟨v3, 0, t1, h248, hF.sub _ ⟨rfl, rfl, rfl, rfl, trivial⟩, hM.pick [0] rfl rfl⟩ ?_ ?_
    · rintro a w ⟨_, _, _, H, _⟩; exact none_some H
    · rintro k a w ⟨v163, x162, x164, H, hF, hM⟩; rw [spec_l6Sums.l8] at H
      refine wp_seq ?_
      refine wp_seq ?_
      refine s_region ?_
      refine s_val hF rfl rfl rfl (e_move hF rfl) ?_; intro a hF
      refine s_val hF rfl rfl rfl (e_move hF rfl) ?_; intro a hF
      refine s_val hF rfl rfl rfl (e_lss hF rfl rfl) ?_; intro a hF
      refine s_nil ?_
      refine then_n ?_
      rcases ite_cases H with ⟨c165, H⟩ | ⟨c165, H⟩
      ·
        refine s_cond_t hF rfl (decide_eq_true c165) ?_
        refine wp_skip ?_
        refine then_n ?_
        refine wp_seq ?_
        refine wp_block ?_
        refine wp_seq ?_
        obtain ⟨c167, H⟩ := ite_some H
        obtain ⟨t168, h169, H⟩ := bind_some H
        refine wp_mono (Q := fun e a w => e = Exit.normal ∧ ∃ v166 : Value, Fr 76 a [(0, Value.int .i64 a0), (2, Value.int .i64 a2), (7, v163), (8, Value.int .i64 x162), (9, v166), (10, Value.int .i64 t168)] ∧ Ms [] w0 w [rowR cd3 v166 (List.replicate (x164.length : Int).toNat (0 : Int)), rowR cd3 v163 x164]) ?_ ?_
        · skip
          refine s_held (fun w => Ms [] w0 w [rowR cd3 v163 x164]) #[false, false, false, false, false, false, false, false] mixed rfl rfl hM ?_; intro w hf hM; clear hf
          refine h_val 0 #[true, false, false, false, false, false, false, false] rfl (by kernel_rfl) hF rfl rfl rfl (fun w hS => e_move hF rfl) (hM.pick [0] rfl rfl) ?_; intro a hF
          have f170 := (hM.sl 0 rfl).toF
          refine h_val 1 #[true, true, false, false, false, false, false, false] rfl (by kernel_rfl) hF rfl rfl rfl (fun w hS => e_len hF rfl f170 Try.underlying33) (hM.pick [0] rfl rfl) ?_; intro a hF
          refine h_val 3 #[true, true, false, true, false, false, false, false] rfl (by kernel_rfl) hF rfl rfl rfl (fun w hS => e_move hF rfl) (hM.pick [0] rfl rfl) ?_; intro a hF
          refine h_val 4 #[true, true, false, true, true, false, false, false] rfl (by kernel_rfl) hF rfl rfl rfl (fun w hS => e_move hF rfl) (hM.pick [0] rfl rfl) ?_; intro a hF
          refine h_two 2 5 #[true, true, true, true, true, false, false, false] #[true, true, false, true, true, true, false, false] rfl rfl rfl rfl (by kernel_rfl) ?_ ?_
          · skip
            refine s_make (C := cd3) cdok3 hF hM rfl rfl rfl rfl Try.underlying33 c167.1 c167.2 ?_; intro a w v166 hF hM
            refine s_nil ⟨rfl, (hM.pick [1] rfl rfl), ?_⟩
            refine h_one 5 #[true, true, true, true, true, true, false, false] rfl (by kernel_rfl) ?_
            refine s_call hF rfl rfl rfl Try.call103 (spec_l6Power.calls K a0 x162 t168 h169) ?_; intro a w v hF hf hR
            subst hR; have hM := hM.grow hf
            refine s_nil ⟨rfl, (hM.pick [1] rfl rfl), ?_⟩
            refine h_val 6 #[true, true, true, true, true, true, true, false] rfl (by kernel_rfl) hF rfl rfl rfl (fun w hS => e_assign hF rfl) (hM.pick [1] rfl rfl) ?_; intro a hF
            refine h_val 7 #[true, true, true, true, true, true, true, true] rfl (by kernel_rfl) hF rfl rfl rfl (fun w hS => e_assign hF rfl) (hM.pick [1] rfl rfl) ?_; intro a hF
            exact h_done rfl ⟨rfl, v166, hF.sub _ ⟨rfl, rfl, rfl, rfl, rfl, rfl, trivial⟩, hM.pick [0, 1] rfl rfl⟩
          · skip
            refine s_call hF rfl rfl rfl Try.call103 (spec_l6Power.calls K a0 x162 t168 h169) ?_; intro a w v hF hf hR
            subst hR; have hM := hM.grow hf
            refine s_nil ⟨rfl, (hM.pick [0] rfl rfl), ?_⟩
            refine h_one 2 #[true, true, true, true, true, true, false, false] rfl (by kernel_rfl) ?_
            refine s_make (C := cd3) cdok3 hF hM rfl rfl rfl rfl Try.underlying33 c167.1 c167.2 ?_; intro a w v166 hF hM
            refine s_nil ⟨rfl, (hM.pick [1] rfl rfl), ?_⟩
            refine h_val 6 #[true, true, true, true, true, true, true, false] rfl (by kernel_rfl) hF rfl rfl rfl (fun w hS => e_assign hF rfl) (hM.pick [1] rfl rfl) ?_; intro a hF
            refine h_val 7 #[true, true, true, true, true, true, true, true] rfl (by kernel_rfl) hF rfl rfl rfl (fun w hS => e_assign hF rfl) (hM.pick [1] rfl rfl) ?_; intro a hF
            exact h_done rfl ⟨rfl, v166, hF.sub _ ⟨rfl, rfl, rfl, rfl, rfl, rfl, trivial⟩, hM.pick [0, 1] rfl rfl⟩
        rintro e a w ⟨rfl, v166, hF, hM⟩
        refine then_n ?_
        refine wp_seq ?_
        refine wp_seq ?_
        refine s_region ?_
        refine s_val hF rfl rfl rfl (e_assign hF rfl) ?_; intro a hF
        refine s_nil ?_
        refine then_n ?_
        refine wp_block ?_
        obtain ⟨o245, h246, H⟩ := bind_some H
        refine wp_mono (Q := fun e a w => (e = Exit.exit 2 ∧ ∃ x217 : (List Int), x217 = o245 ∧ Fr 76 a [(0, Value.int .i64 a0), (2, Value.int .i64 a2), (8, Value.int .i64 x162), (9, v166)] ∧ Ms [] w0 w [rowR cd3 v166 x217])) ?_ ?_
        · refine s_loop (fun kq a w => ∃ x218 : Int, ∃ x219 : (List Int), spec_l6Sums.l11 K a0 a2 x162 x164 t168 kq x218 x219 = some o245 ∧ Fr 76 a [(0, Value.int .i64 a0), (2, Value.int .i64 a2), (7, v163), (8, Value.int .i64 x162), (9, v166), (10, Value.int .i64 t168), (11, Value.int .i64 x218)] ∧ Ms [] w0 w [rowR cd3 v163 x164, rowR cd3 v166 x219]) K ⟨0, (List.replicate (x164.length : Int).toNat (0 : Int)), h246, hF.sub _ ⟨rfl, rfl, rfl, rfl, rfl, rfl, rfl, trivial⟩, hM.pick [1, 0] rfl rfl⟩ ?_ ?_
          · rintro a w ⟨_, _, H, _⟩; exact none_some H
          · rintro k a w ⟨x218, x219, H, hF, hM⟩; rw [spec_l6Sums.l11] at H
            refine wp_seq ?_
            refine wp_seq ?_
            refine s_region ?_
            refine s_val hF rfl rfl rfl (e_move hF rfl) ?_; intro a hF
            refine s_val hF rfl rfl rfl (e_move hF rfl) ?_; intro a hF
            refine s_val hF rfl rfl rfl (e_len hF rfl (hM.sl 0 rfl).toF Try.underlying33) ?_; intro a hF
            refine s_val hF rfl rfl rfl (e_lss hF rfl rfl) ?_; intro a hF
            refine s_nil ?_
            refine then_n ?_
            rcases ite_cases H with ⟨c220, H⟩ | ⟨c220, H⟩
            ·
              refine s_cond_t hF rfl (decide_eq_true c220) ?_
              refine wp_skip ?_
              refine then_n ?_
              refine wp_seq ?_
              refine wp_block ?_
              refine wp_seq ?_
              refine wp_seq ?_
              obtain ⟨c221, H⟩ := ite_some H
              refine s_region ?_
              refine s_val hF rfl rfl rfl (e_move hF rfl) ?_; intro a hF
              refine s_val hF rfl rfl rfl (e_move hF rfl) ?_; intro a hF
              refine s_val hF rfl rfl rfl (e_shr hF rfl rfl c221) ?_; intro a hF
              refine s_val hF rfl rfl rfl (e_and hF rfl rfl) ?_; intro a hF
              refine s_val hF rfl rfl rfl (e_eql hF rfl rfl) ?_; intro a hF
              refine s_nil ?_
              refine then_n ?_
              rcases ite_cases H with ⟨c222, H⟩ | ⟨c222, H⟩
              ·
                refine s_cond_t hF rfl (decide_eq_true c222) ?_
                refine wp_seq ?_
                obtain ⟨c223, H⟩ := ite_some H
                obtain ⟨c224, H⟩ := ite_some H
                refine s_region ?_
                refine s_val hF rfl rfl rfl (e_move hF rfl) ?_; intro a hF
                refine s_val hF rfl rfl rfl (e_move hF rfl) ?_; intro a hF
                refine s_val hF rfl rfl rfl (e_move hF rfl) ?_; intro a hF
                refine s_val hF rfl rfl rfl (e_move hF rfl) ?_; intro a hF
                refine s_val hF rfl rfl rfl (e_ias cd3 hF rfl rfl (hM.sl 0 rfl).toF Try.underlying33 Try.sizeOf3 c223.1 c223.2) ?_; intro a hF
                refine s_val hF rfl rfl rfl (e_lds (m := x218) hF rfl (hM.sl 0 rfl) (getD_some (z := (0 : Int)) c223.1 c223.2) rfl rfl Try.isAgg3) ?_; intro a hF
                refine s_val hF rfl rfl rfl (e_mul hF rfl rfl) ?_; intro a hF
                refine s_val hF rfl rfl rfl (e_ias cd3 hF rfl rfl (hM.sl 1 rfl).toF Try.underlying33 Try.sizeOf3 c224.1 c224.2) ?_; intro a hF
                refine s_sts (i := 1) (wrap64 (6 * (x164.getD (x218 : Int).toNat (0 : Int)))) hF hM rfl rfl rfl rfl rfl c224.1 c224.2 Try.sizeOf3 ?_; intro a w hF hM
                refine s_nil ?_
                refine then_n ?_
                refine wp_exit ?_
                refine then_x ?_
                refine blk_x ?_
                refine then_n ?_
                refine s_region ?_
                refine s_val hF rfl rfl rfl (e_move hF rfl) ?_; intro a hF
                refine s_val hF rfl rfl rfl (e_add hF rfl rfl) ?_; intro a hF
                refine s_val hF rfl rfl rfl (e_assign hF rfl) ?_; intro a hF
                refine s_nil ?_
                refine then_n ?_
                exact ⟨(wrap64 (x218 + 1)), (x219.set (x218 : Int).toNat (wrap64 (6 * (x164.getD (x218 : Int).toNat (0 : Int))))), H, hF.sub _ ⟨rfl, rfl, rfl, rfl, rfl, rfl, rfl, trivial⟩, hM.pick [0, 1] rfl rfl⟩
              ·
                refine s_cond_f hF rfl (decide_eq_false c222) ?_
                refine wp_skip ?_
                refine then_n ?_
                refine wp_seq ?_
                obtain ⟨t225, h226, H⟩ := bind_some H
                refine s_region ?_
                refine s_val hF rfl rfl rfl (e_move hF rfl) ?_; intro a hF
                refine s_val hF rfl rfl rfl (e_move hF rfl) ?_; intro a hF
                refine s_val hF rfl rfl rfl (e_move hF rfl) ?_; intro a hF
                refine s_val hF rfl rfl rfl (e_move hF rfl) ?_; intro a hF
                refine s_call hF rfl rfl rfl Try.call102 (spec_l6Digit.calls K a0 x218 x162 t225 h226) ?_; intro a w v hF hf hR
                subst hR; have hM := hM.grow hf
                refine s_val hF rfl rfl rfl (e_move hF rfl) ?_; intro a hF
                refine s_val hF rfl rfl rfl (e_mul hF rfl rfl) ?_; intro a hF
                refine s_val hF rfl rfl rfl (e_sub hF rfl rfl) ?_; intro a hF
                refine s_val hF rfl rfl rfl (e_assign hF rfl) ?_; intro a hF
                refine s_nil ?_
                refine then_n ?_
                refine wp_seq ?_
                refine s_region ?_
                refine s_val hF rfl rfl rfl (e_assign hF rfl) ?_; intro a hF
                refine s_nil ?_
                refine then_n ?_
                refine wp_block ?_
                obtain ⟨o243, h244, H⟩ := bind_some H
                refine wp_mono (Q := fun e a w => (e = Exit.exit 4 ∧ ∃ x234 : (List Int), x234 = o243 ∧ Fr 76 a [(0, Value.int .i64 a0), (2, Value.int .i64 a2), (7, v163), (8, Value.int .i64 x162), (9, v166), (10, Value.int .i64 t168), (11, Value.int .i64 x218)] ∧ Ms [] w0 w [rowR cd3 v163 x164, rowR cd3 v166 x234])) ?_ ?_
                · refine s_loop (fun kq a w => ∃ x235 : Int, ∃ x236 : (List Int), spec_l6Sums.l12 K x164 t168 x218 t225 kq x235 x236 = some o243 ∧ Fr 76 a [(0, Value.int .i64 a0), (2, Value.int .i64 a2), (7, v163), (8, Value.int .i64 x162), (9, v166), (10, Value.int .i64 t168), (11, Value.int .i64 x218), (12, Value.int .i64 (wrap64 (x218 - (wrap64 (t225 * t168))))), (13, Value.int .i64 x235)] ∧ Ms [] w0 w [rowR cd3 v163 x164, rowR cd3 v166 x236]) K ⟨0, x219, h244, hF.sub _ ⟨rfl, rfl, rfl, rfl, rfl, rfl, rfl, rfl, rfl, trivial⟩, hM.pick [0, 1] rfl rfl⟩ ?_ ?_
                  · rintro a w ⟨_, _, H, _⟩; exact none_some H
                  · rintro k a w ⟨x235, x236, H, hF, hM⟩; rw [spec_l6Sums.l12] at H
                    refine wp_seq ?_
                    refine wp_seq ?_
                    refine s_region ?_
                    refine s_val hF rfl rfl rfl (e_move hF rfl) ?_; intro a hF
                    refine s_val hF rfl rfl rfl (e_lss hF rfl rfl) ?_; intro a hF
                    refine s_nil ?_
                    refine then_n ?_
                    rcases ite_cases H with ⟨c237, H⟩ | ⟨c237, H⟩
                    ·
                      refine s_cond_t hF rfl (decide_eq_true c237) ?_
                      refine wp_skip ?_
                      refine then_n ?_
                      refine wp_seq ?_
                      refine wp_block ?_
                      obtain ⟨c238, H⟩ := ite_some H
                      obtain ⟨c239, H⟩ := ite_some H
                      refine s_held (fun w => Ms [] w0 w [rowR cd3 v163 x164]) #[false, false, false, false, false, false, false, false, false, false, false, false, false, false, false, false, false] mixed rfl rfl hM ?_; intro w hf hM; clear hf
                      refine h_val 0 #[true, false, false, false, false, false, false, false, false, false, false, false, false, false, false, false, false] rfl (by kernel_rfl) hF rfl rfl rfl (fun w hS => e_move hF rfl) (hM.pick [0] rfl rfl) ?_; intro a hF
                      refine h_val 1 #[true, true, false, false, false, false, false, false, false, false, false, false, false, false, false, false, false] rfl (by kernel_rfl) hF rfl rfl rfl (fun w hS => e_move hF rfl) (hM.pick [0] rfl rfl) ?_; intro a hF
                      refine h_val 2 #[true, true, true, false, false, false, false, false, false, false, false, false, false, false, false, false, false] rfl (by kernel_rfl) hF rfl rfl rfl (fun w hS => e_move hF rfl) (hM.pick [0] rfl rfl) ?_; intro a hF
                      refine h_val 3 #[true, true, true, true, false, false, false, false, false, false, false, false, false, false, false, false, false] rfl (by kernel_rfl) hF rfl rfl rfl (fun w hS => e_move hF rfl) (hM.pick [0] rfl rfl) ?_; intro a hF
                      have f240 := (hM.sl 1 rfl).toF
                      refine h_val 4 #[true, true, true, true, true, false, false, false, false, false, false, false, false, false, false, false, false] rfl (by kernel_rfl) hF rfl rfl rfl (fun w hS => e_ias cd3 hF rfl rfl f240 Try.underlying33 Try.sizeOf3 c238.1 c238.2) (hM.pick [0] rfl rfl) ?_; intro a hF
                      refine h_val 6 #[true, true, true, true, true, false, true, false, false, false, false, false, false, false, false, false, false] rfl (by kernel_rfl) hF rfl rfl rfl (fun w hS => e_move hF rfl) (hM.pick [0] rfl rfl) ?_; intro a hF
                      refine h_val 7 #[true, true, true, true, true, false, true, true, false, false, false, false, false, false, false, false, false] rfl (by kernel_rfl) hF rfl rfl rfl (fun w hS => e_move hF rfl) (hM.pick [0] rfl rfl) ?_; intro a hF
                      refine h_val 8 #[true, true, true, true, true, false, true, true, true, false, false, false, false, false, false, false, false] rfl (by kernel_rfl) hF rfl rfl rfl (fun w hS => e_move hF rfl) (hM.pick [0] rfl rfl) ?_; intro a hF
                      refine h_val 9 #[true, true, true, true, true, false, true, true, true, true, false, false, false, false, false, false, false] rfl (by kernel_rfl) hF rfl rfl rfl (fun w hS => e_move hF rfl) (hM.pick [0] rfl rfl) ?_; intro a hF
                      refine h_val 10 #[true, true, true, true, true, false, true, true, true, true, true, false, false, false, false, false, false] rfl (by kernel_rfl) hF rfl rfl rfl (fun w hS => e_mul hF rfl rfl) (hM.pick [0] rfl rfl) ?_; intro a hF
                      refine h_val 11 #[true, true, true, true, true, false, true, true, true, true, true, true, false, false, false, false, false] rfl (by kernel_rfl) hF rfl rfl rfl (fun w hS => e_add hF rfl rfl) (hM.pick [0] rfl rfl) ?_; intro a hF
                      have f241 := (hM.sl 0 rfl).toF
                      refine h_val 12 #[true, true, true, true, true, false, true, true, true, true, true, true, true, false, false, false, false] rfl (by kernel_rfl) hF rfl rfl rfl (fun w hS => e_ias cd3 hF rfl rfl f241 Try.underlying33 Try.sizeOf3 c239.1 c239.2) (hM.pick [0] rfl rfl) ?_; intro a hF
                      refine h_val 13 #[true, true, true, true, true, false, true, true, true, true, true, true, true, true, false, false, false] rfl (by kernel_rfl) hF rfl rfl rfl (fun w hS => e_lds (m := (wrap64 ((wrap64 (x218 - (wrap64 (t225 * t168)))) + (wrap64 (x235 * t168))))) hF rfl (hS.sl 0 rfl) (getD_some (z := (0 : Int)) c239.1 c239.2) rfl rfl Try.isAgg3) (hM.pick [0] rfl rfl) ?_; intro a hF
                      refine h_one 5 #[true, true, true, true, true, true, true, true, true, true, true, true, true, true, false, false, false] rfl (by kernel_rfl) ?_
                      refine s_val hF rfl rfl rfl (e_lds (m := x218) hF rfl (hM.sl 1 rfl) (getD_some (z := (0 : Int)) c238.1 c238.2) rfl rfl Try.isAgg3) ?_; intro a hF
                      refine s_nil ⟨rfl, (hM.pick [0] rfl rfl), ?_⟩
                      refine h_val 14 #[true, true, true, true, true, true, true, true, true, true, true, true, true, true, true, false, false] rfl (by kernel_rfl) hF rfl rfl rfl (fun w hS => e_add hF rfl rfl) (hM.pick [0] rfl rfl) ?_; intro a hF
                      have f242 := (hM.sl 1 rfl).toF
                      refine h_val 15 #[true, true, true, true, true, true, true, true, true, true, true, true, true, true, true, true, false] rfl (by kernel_rfl) hF rfl rfl rfl (fun w hS => e_ias cd3 hF rfl rfl f242 Try.underlying33 Try.sizeOf3 c238.1 c238.2) (hM.pick [0] rfl rfl) ?_; intro a hF
                      refine h_one 16 #[true, true, true, true, true, true, true, true, true, true, true, true, true, true, true, true, true] rfl (by kernel_rfl) ?_
                      refine s_sts (i := 1) (wrap64 ((x236.getD (x218 : Int).toNat (0 : Int)) + (x164.getD ((wrap64 ((wrap64 (x218 - (wrap64 (t225 * t168)))) + (wrap64 (x235 * t168)))) : Int).toNat (0 : Int)))) hF hM rfl rfl rfl rfl rfl c238.1 c238.2 Try.sizeOf3 ?_; intro a w hF hM
                      refine s_nil ⟨rfl, (hM.pick [0] rfl rfl), ?_⟩
                      refine h_done rfl ?_
                      refine blk_n ?_
                      refine then_n ?_
                      refine s_region ?_
                      refine s_val hF rfl rfl rfl (e_move hF rfl) ?_; intro a hF
                      refine s_val hF rfl rfl rfl (e_add hF rfl rfl) ?_; intro a hF
                      refine s_val hF rfl rfl rfl (e_assign hF rfl) ?_; intro a hF
                      refine s_nil ?_
                      refine then_n ?_
                      exact ⟨(wrap64 (x235 + 1)), (x236.set (x218 : Int).toNat (wrap64 ((x236.getD (x218 : Int).toNat (0 : Int)) + (x164.getD ((wrap64 ((wrap64 (x218 - (wrap64 (t225 * t168)))) + (wrap64 (x235 * t168)))) : Int).toNat (0 : Int))))), H, hF.sub _ ⟨rfl, rfl, rfl, rfl, rfl, rfl, rfl, rfl, rfl, trivial⟩, hM.pick [0, 1] rfl rfl⟩
                    ·
                      refine s_cond_f hF rfl (decide_eq_false c237) ?_
                      refine wp_exit ?_
                      refine then_x ?_
                      refine then_x ?_
                      exact ⟨rfl, x236, some_some H, hF.sub _ ⟨rfl, rfl, rfl, rfl, rfl, rfl, rfl, trivial⟩, hM.pick [0, 1] rfl rfl⟩
                · rintro e a w ⟨rfl, x234, rfl, hF, hM⟩
                  skip
                  refine blk_x ?_
                  refine blk_n ?_
                  refine then_n ?_
                  refine s_region ?_
                  refine s_val hF rfl rfl rfl (e_move hF rfl) ?_; intro a hF
                  refine s_val hF rfl rfl rfl (e_add hF rfl rfl) ?_; intro a hF
                  refine s_val hF rfl rfl rfl (e_assign hF rfl) ?_; intro a hF
                  refine s_nil ?_
                  refine then_n ?_
                  exact ⟨(wrap64 (x218 + 1)), x234, H, hF.sub _ ⟨rfl, rfl, rfl, rfl, rfl, rfl, rfl, trivial⟩, hM.pick [0, 1] rfl rfl⟩
            ·
              refine s_cond_f hF rfl (decide_eq_false c220) ?_
              refine wp_exit ?_
              refine then_x ?_
              refine then_x ?_
              exact ⟨rfl, x219, some_some H, hF.sub _ ⟨rfl, rfl, rfl, rfl, trivial⟩, hM.pick [1] rfl rfl⟩
        · rintro e a w ⟨rfl, x217, rfl, hF, hM⟩
          skip
          refine blk_x ?_
          refine then_n ?_
          refine s_region ?_
          refine s_val hF rfl rfl rfl (e_move hF rfl) ?_; intro a hF
          refine s_val hF rfl rfl rfl (e_assign hF rfl) ?_; intro a hF
          refine s_nil ?_
          refine blk_n ?_
          refine then_n ?_
          refine s_region ?_
          refine s_val hF rfl rfl rfl (e_move hF rfl) ?_; intro a hF
          refine s_val hF rfl rfl rfl (e_add hF rfl rfl) ?_; intro a hF
          refine s_val hF rfl rfl rfl (e_assign hF rfl) ?_; intro a hF
          refine s_nil ?_
          refine then_n ?_
          exact ⟨v166, (wrap64 (x162 + 1)), x217, H, hF.sub _ ⟨rfl, rfl, rfl, rfl, trivial⟩, hM.pick [0] rfl rfl⟩
      ·
        refine s_cond_f hF rfl (decide_eq_false c165) ?_
        refine wp_exit ?_
        refine then_x ?_
        refine then_x ?_
        exact ⟨rfl, v163, x164, some_some H, hF.sub _ ⟨rfl, trivial⟩, hM.pick [0] rfl rfl⟩
  · rintro e a w ⟨rfl, v160, x161, rfl, hF, hM⟩
    skip
    refine blk_x ?_
    refine then_n ?_
    refine wp_seq ?_
    refine s_region ?_
    refine s_val hF rfl rfl rfl (e_move hF rfl) ?_; intro a hF
    refine s_val hF rfl rfl rfl (e_assign hF rfl) ?_; intro a hF
    refine s_nil ?_
    refine then_n ?_
    refine wp_ret ?_
    obtain rfl := some_some H
    refine s_ret [v160] hF Try.results80 ⟨rfl, trivial⟩ ?_
    exact ⟨_, rfl, hM.frm, hM.give 0 rfl⟩

/-! ### loop.example/g01210/spec.l6Values: function 81 -/
def spec_l6Values.l0 (K : Nat) (l0 : (List (Ar 6))) (a1 : (Int × Int)) : Nat → Int → (List Int) → Option (List Int)
  | 0, _, _ => none
  | k + 1, x30, x32 => (spec_l2All.f K (l0.length : Int)).bind fun t33 => if x30 < t33 then ((spec_l2Roll.f K l0 x30).bind fun t36 => (spec_l6Score.f K a1 t36).bind fun t39 => if x32.length + [t39].length ≤ 1073741824 then (spec_l6Values.l0 K l0 a1 k (wrap64 (x30 + 1)) (x32 ++ [t39])) else none) else (some x32)
def spec_l6Values.l13 (K : Nat) (t303 : (List Int)) : Nat → Int → (List Int) → Option (List Int)
  | 0, _, _ => none
  | k + 1, x319, x320 => if x319 < (x320.length : Int) then (if (0 : Int) ≤ x319 ∧ x319 < (x320.length : Int) then (if (0 : Int) ≤ x319 ∧ x319 < (t303.length : Int) then ((spec_l1Most.f K (x320.getD (x319 : Int).toNat (0 : Int)) (t303.getD (x319 : Int).toNat (0 : Int))).bind fun t324 => spec_l6Values.l13 K t303 k (wrap64 (x319 + 1)) (x320.set (x319 : Int).toNat t324)) else none) else none) else (some x320)
def spec_l6Values.l12 (K : Nat) (l0 : (List (Ar 6))) (x237 : (List Int)) : Nat → Int → (List Int) → Option (List Int)
  | 0, _, _ => none
  | k + 1, x299, x300 => if 0 ≤ (l0.length : Int) then (if x299 < (wrap64 (1 * 2 ^ (min ((l0.length : Int) : Int).toNat 64))) then ((spec_l6Sums.f K (l0.length : Int) x237 x299).bind fun t303 => (spec_l6Values.l13 K t303 K 0 x300).bind fun x318 => spec_l6Values.l12 K l0 x237 k (wrap64 (x299 + 1)) x318) else (some x300)) else none
def spec_l6Values.l9 (K : Nat) (l0 : (List (Ar 6))) (a2 : Int) : Nat → Int → (List Int) → Option (List Int)
  | 0, _, _ => none
  | k + 1, x235, x237 => if x235 < a2 then ((spec_l6Sums.f K (l0.length : Int) x237 0).bind fun t239 => (spec_l6Values.l12 K l0 x237 K 1 t239).bind fun x298 => spec_l6Values.l9 K l0 a2 k (wrap64 (x235 + 1)) x298) else (some x237)
def spec_l6Values.f (K : Nat) (l0 : (List (Ar 6))) (a1 : (Int × Int)) (a2 : Int) : Option (List Int) := (spec_l6Values.l0 K l0 a1 K 0 ([] : List Int)).bind fun x29 => (spec_l6Values.l9 K l0 a2 K 0 x29).bind fun x234 => some x234
set_option maxRecDepth 100000 in
set_option maxHeartbeats 4000000 in
theorem spec_l6Values.calls {w0 : World} (K : Nat) (l0 : (List (Ar 6))) (u0 : Value) (q0 : SlR cd28 w0 u0 l0) (a1 : (Int × Int)) (a2 : Int) (r : (List Int)) (H : spec_l6Values.f K l0 a1 a2 = some r) : Calls Try.prog 81 [u0, ag [Pt.int a1.1, Pt.int a1.2], Value.int .i64 a2].toArray w0 (Post w0 fun w v => Fresh cd3 w0.heap.size w v r) := by
  rw [spec_l6Values.f] at H
  refine s_start Try.func81 rfl Try.ntmps81 rfl ?_
  intro a hF
  have hM := Ms.start w0
  skip
  refine wp_seq ?_
  refine s_region ?_
  refine s_box (ps := [Pt.int a1.1, Pt.int a1.2]) hF hM rfl rfl rfl rfl ?_; intro a w b1 hF hM
  refine s_val hF rfl rfl rfl (e_assign hF rfl) ?_; intro a hF
  refine s_nil ?_
  refine then_n ?_
  refine wp_seq ?_
  refine s_region ?_
  refine s_bsl (C := cd3) ([] : List Int) cdok3 hF hM rfl rfl rfl rfl Try.underlying33 rfl ?_; intro a w v2 hF hM
  refine s_val hF rfl rfl rfl (e_assign hF rfl) ?_; intro a hF
  refine s_nil ?_
  refine then_n ?_
  refine wp_seq ?_
  refine wp_seq ?_
  refine s_region ?_
  refine s_val hF rfl rfl rfl (e_assign hF rfl) ?_; intro a hF
  refine s_nil ?_
  refine then_n ?_
  refine wp_block ?_
  obtain ⟨o44, h45, H⟩ := bind_some H
  refine wp_mono (Q := fun e a w => (e = Exit.exit 0 ∧ ∃ v28 : Value, ∃ x29 : (List Int), x29 = o44 ∧ Fr 71 a [(0, u0), (2, Value.int .i64 a2), (7, v28)] ∧ Ms [] w0 w [rowR cd3 v28 x29])) ?_ ?_
  · refine s_loop (fun kq a w => ∃ v31 : Value, ∃ x30 : Int, ∃ x32 : (List Int), spec_l6Values.l0 K l0 a1 kq x30 x32 = some o44 ∧ Fr 71 a [(0, u0), (2, Value.int .i64 a2), (4, pt b1 0), (7, v31), (8, Value.int .i64 x30)] ∧ Ms [] w0 w [boxR b1 [Pt.int a1.1, Pt.int a1.2] 25, rowR cd3 v31 x32]) K ⟨v2, 0, ([] : List Int), h45, hF.sub _ ⟨rfl, rfl, rfl, rfl, rfl, trivial⟩, hM.pick [1, 0] rfl rfl⟩ ?_ ?_
    · rintro a w ⟨_, _, _, H, _⟩; exact none_some H
    · rintro k a w ⟨v31, x30, x32, H, hF, hM⟩; rw [spec_l6Values.l0] at H
      refine wp_seq ?_
      refine wp_seq ?_
      obtain ⟨t33, h34, H⟩ := bind_some H
      refine s_region ?_
      refine s_val hF rfl rfl rfl (e_move hF rfl) ?_; intro a hF
      refine s_val hF rfl rfl rfl (e_move hF rfl) ?_; intro a hF
      refine s_val hF rfl rfl rfl (e_len hF rfl (q0.frm hM.frm).toF Try.underlying43) ?_; intro a hF
      refine s_call hF rfl rfl rfl Try.call101 (spec_l2All.calls K (l0.length : Int) t33 h34) ?_; intro a w v hF hf hR
      subst hR; have hM := hM.grow hf
      refine s_val hF rfl rfl rfl (e_lss hF rfl rfl) ?_; intro a hF
      refine s_nil ?_
      refine then_n ?_
      rcases ite_cases H with ⟨c35, H⟩ | ⟨c35, H⟩
      ·
        refine s_cond_t hF rfl (decide_eq_true c35) ?_
        refine wp_skip ?_
        refine then_n ?_
        refine wp_seq ?_
        refine wp_block ?_
        obtain ⟨t36, h37, H⟩ := bind_some H
        obtain ⟨t39, h40, H⟩ := bind_some H
        obtain ⟨c43, H⟩ := ite_some H
        refine s_held (fun w => Ms [] w0 w [boxR b1 [Pt.int a1.1, Pt.int a1.2] 25]) #[false, false, false, false, false, false, false, false, false] mixed rfl rfl hM ?_; intro w hf hM; clear hf
        refine h_val 0 #[true, false, false, false, false, false, false, false, false] rfl (by kernel_rfl) hF rfl rfl rfl (fun w hS => e_move hF rfl) (hM.pick [0] rfl rfl) ?_; intro a hF
        refine h_val 1 #[true, true, false, false, false, false, false, false, false] rfl (by kernel_rfl) hF rfl rfl rfl (fun w hS => e_lda (i := 0) 0 2 hF hS rfl rfl rfl rfl Try.isAgg25 Try.sizeOf25 rfl) (hM.pick [0] rfl rfl) ?_; intro a hF
        refine h_val 2 #[true, true, true, false, false, false, false, false, false] rfl (by kernel_rfl) hF rfl rfl rfl (fun w hS => e_move hF rfl) (hM.pick [0] rfl rfl) ?_; intro a hF
        refine h_val 3 #[true, true, true, true, false, false, false, false, false] rfl (by kernel_rfl) hF rfl rfl rfl (fun w hS => e_move hF rfl) (hM.pick [0] rfl rfl) ?_; intro a hF
        refine h_one 4 #[true, true, true, true, true, false, false, false, false] rfl (by kernel_rfl) ?_
        refine s_call hF rfl rfl rfl Try.call71 (spec_l2Roll.calls K l0 u0 (q0.frm hM.frm) x30 t36 h37) ?_; intro a w v38 hF hf hR
        have hM := hM.fresh hf hR
        refine s_nil ⟨rfl, (hM.pick [1] rfl rfl), ?_⟩
        refine h_one 5 #[true, true, true, true, true, true, false, false, false] rfl (by kernel_rfl) ?_
        refine s_call hF rfl rfl rfl Try.call61 (spec_l6Score.calls K a1 t36 v38 (hM.sl 0 rfl) t39 h40) ?_; intro a w v hF hf hR
        subst hR; have hM := hM.grow hf
        refine s_nil ⟨rfl, (hM.pick [1] rfl rfl), ?_⟩
        refine h_one 6 #[true, true, true, true, true, true, true, false, false] rfl (by kernel_rfl) ?_
        refine s_bsl (C := cd3) [t39] cdok3 hF hM rfl rfl rfl rfl Try.underlying33 rfl ?_; intro a w v41 hF hM
        refine s_nil ⟨rfl, (hM.pick [2] rfl rfl), ?_⟩
        refine h_one 7 #[true, true, true, true, true, true, true, true, false] rfl (by kernel_rfl) ?_
        refine s_append (i := 3) cdok3 hF hM rfl rfl rfl rfl rfl (hM.sl 0 rfl) Try.underlying33 c43 ?_; intro a w v42 hF hM
        refine s_nil ⟨rfl, (hM.pick [2] rfl rfl), ?_⟩
        refine h_val 8 #[true, true, true, true, true, true, true, true, true] rfl (by kernel_rfl) hF rfl rfl rfl (fun w hS => e_assign hF rfl) (hM.pick [2] rfl rfl) ?_; intro a hF
        refine h_done rfl ?_
        refine blk_n ?_
        refine then_n ?_
        refine s_region ?_
        refine s_val hF rfl rfl rfl (e_move hF rfl) ?_; intro a hF
        refine s_val hF rfl rfl rfl (e_add hF rfl rfl) ?_; intro a hF
        refine s_val hF rfl rfl rfl (e_assign hF rfl) ?_; intro a hF
        refine s_nil ?_
        refine then_n ?_
        exact ⟨v42, (wrap64 (x30 + 1)), (x32 ++ [t39]), H, hF.sub _ ⟨rfl, rfl, rfl, rfl, rfl, trivial⟩, hM.pick [2, 3] rfl rfl⟩
      ·
        refine s_cond_f hF rfl (decide_eq_false c35) ?_
        refine wp_exit ?_
        refine then_x ?_
        refine then_x ?_
        exact ⟨rfl, v31, x32, some_some H, hF.sub _ ⟨rfl, rfl, rfl, trivial⟩, hM.pick [1] rfl rfl⟩
  · rintro e a w ⟨rfl, v28, x29, rfl, hF, hM⟩
    skip
    refine blk_x ?_
    refine then_n ?_
    refine wp_seq ?_
    refine wp_seq ?_
    refine s_region ?_
    refine s_val hF rfl rfl rfl (e_assign hF rfl) ?_; intro a hF
    refine s_nil ?_
    refine then_n ?_
    refine wp_block ?_
    obtain ⟨o333, h334, H⟩ := bind_some H
    refine wp_mono (Q := fun e a w => (e = Exit.exit 2 ∧ ∃ v233 : Value, ∃ x234 : (List Int), x234 = o333 ∧ Fr 71 a [(7, v233)] ∧ Ms [] w0 w [rowR cd3 v233 x234])) ?_ ?_
    · refine s_loop (fun kq a w => ∃ v236 : Value, ∃ x235 : Int, ∃ x237 : (List Int), spec_l6Values.l9 K l0 a2 kq x235 x237 = some o333 ∧ Fr 71 a [(0, u0), (2, Value.int .i64 a2), (7, v236), (9, Value.int .i64 x235)] ∧ Ms [] w0 w [rowR cd3 v236 x237]) K ⟨v28, 0, x29, h334, hF.sub _ ⟨rfl, rfl, rfl, rfl, trivial⟩, hM.pick [0] rfl rfl⟩ ?_ ?_
      · rintro a w ⟨_, _, _, H, _⟩; exact none_some H
      · rintro k a w ⟨v236, x235, x237, H, hF, hM⟩; rw [spec_l6Values.l9] at H
        refine wp_seq ?_
        refine wp_seq ?_
        refine s_region ?_
        refine s_val hF rfl rfl rfl (e_move hF rfl) ?_; intro a hF
        refine s_val hF rfl rfl rfl (e_move hF rfl) ?_; intro a hF
        refine s_val hF rfl rfl rfl (e_lss hF rfl rfl) ?_; intro a hF
        refine s_nil ?_
        refine then_n ?_
        rcases ite_cases H with ⟨c238, H⟩ | ⟨c238, H⟩
        ·
          refine s_cond_t hF rfl (decide_eq_true c238) ?_
          refine wp_skip ?_
          refine then_n ?_
          refine wp_seq ?_
          refine wp_block ?_
          refine wp_seq ?_
          obtain ⟨t239, h240, H⟩ := bind_some H
          refine s_region ?_
          refine s_val hF rfl rfl rfl (e_move hF rfl) ?_; intro a hF
          refine s_val hF rfl rfl rfl (e_len hF rfl (q0.frm hM.frm).toF Try.underlying43) ?_; intro a hF
          refine s_val hF rfl rfl rfl (e_move hF rfl) ?_; intro a hF
          refine s_call hF rfl rfl rfl Try.call80 (spec_l6Sums.calls K (l0.length : Int) x237 v236 (hM.sl 0 rfl) 0 t239 h240) ?_; intro a w v241 hF hf hR
          have hM := hM.fresh hf hR
          refine s_val hF rfl rfl rfl (e_assign hF rfl) ?_; intro a hF
          refine s_nil ?_
          refine then_n ?_
          refine wp_seq ?_
          refine wp_seq ?_
          refine s_region ?_
          refine s_val hF rfl rfl rfl (e_assign hF rfl) ?_; intro a hF
          refine s_nil ?_
          refine then_n ?_
          refine wp_block ?_
          obtain ⟨o331, h332, H⟩ := bind_some H
          refine wp_mono (Q := fun e a w => (e = Exit.exit 4 ∧ ∃ x298 : (List Int), x298 = o331 ∧ Fr 71 a [(0, u0), (2, Value.int .i64 a2), (9, Value.int .i64 x235), (10, v241)] ∧ Ms [] w0 w [rowR cd3 v241 x298])) ?_ ?_
          · refine s_loop (fun kq a w => ∃ x299 : Int, ∃ x300 : (List Int), spec_l6Values.l12 K l0 x237 kq x299 x300 = some o331 ∧ Fr 71 a [(0, u0), (2, Value.int .i64 a2), (7, v236), (9, Value.int .i64 x235), (10, v241), (11, Value.int .i64 x299)] ∧ Ms [] w0 w [rowR cd3 v236 x237, rowR cd3 v241 x300]) K ⟨1, t239, h332, hF.sub _ ⟨rfl, rfl, rfl, rfl, rfl, rfl, trivial⟩, hM.pick [1, 0] rfl rfl⟩ ?_ ?_
            · rintro a w ⟨_, _, H, _⟩; exact none_some H
            · rintro k a w ⟨x299, x300, H, hF, hM⟩; rw [spec_l6Values.l12] at H
              refine wp_seq ?_
              refine wp_seq ?_
              obtain ⟨c301, H⟩ := ite_some H
              refine s_region ?_
              refine s_val hF rfl rfl rfl (e_move hF rfl) ?_; intro a hF
              refine s_val hF rfl rfl rfl (e_move hF rfl) ?_; intro a hF
              refine s_val hF rfl rfl rfl (e_len hF rfl (q0.frm hM.frm).toF Try.underlying43) ?_; intro a hF
              refine s_val hF rfl rfl rfl (e_shl hF rfl rfl c301) ?_; intro a hF
              refine s_val hF rfl rfl rfl (e_lss hF rfl rfl) ?_; intro a hF
              refine s_nil ?_
              refine then_n ?_
              rcases ite_cases H with ⟨c302, H⟩ | ⟨c302, H⟩
              ·
                refine s_cond_t hF rfl (decide_eq_true c302) ?_
                refine wp_skip ?_
                refine then_n ?_
                refine wp_seq ?_
                refine wp_block ?_
                refine wp_seq ?_
                obtain ⟨t303, h304, H⟩ := bind_some H
                refine s_region ?_
                refine s_val hF rfl rfl rfl (e_move hF rfl) ?_; intro a hF
                refine s_val hF rfl rfl rfl (e_len hF rfl (q0.frm hM.frm).toF Try.underlying43) ?_; intro a hF
                refine s_val hF rfl rfl rfl (e_move hF rfl) ?_; intro a hF
                refine s_val hF rfl rfl rfl (e_move hF rfl) ?_; intro a hF
                refine s_call hF rfl rfl rfl Try.call80 (spec_l6Sums.calls K (l0.length : Int) x237 v236 (hM.sl 0 rfl) x299 t303 h304) ?_; intro a w v305 hF hf hR
                have hM := hM.fresh hf hR
                refine s_val hF rfl rfl rfl (e_assign hF rfl) ?_; intro a hF
                refine s_nil ?_
                refine then_n ?_
                refine wp_seq ?_
                refine s_region ?_
                refine s_val hF rfl rfl rfl (e_assign hF rfl) ?_; intro a hF
                refine s_nil ?_
                refine then_n ?_
                refine wp_block ?_
                obtain ⟨o329, h330, H⟩ := bind_some H
                refine wp_mono (Q := fun e a w => (e = Exit.exit 6 ∧ ∃ x318 : (List Int), x318 = o329 ∧ Fr 71 a [(0, u0), (2, Value.int .i64 a2), (7, v236), (9, Value.int .i64 x235), (10, v241), (11, Value.int .i64 x299)] ∧ Ms [] w0 w [rowR cd3 v236 x237, rowR cd3 v241 x318])) ?_ ?_
                · refine s_loop (fun kq a w => ∃ x319 : Int, ∃ x320 : (List Int), spec_l6Values.l13 K t303 kq x319 x320 = some o329 ∧ Fr 71 a [(0, u0), (2, Value.int .i64 a2), (7, v236), (9, Value.int .i64 x235), (10, v241), (11, Value.int .i64 x299), (12, v305), (13, Value.int .i64 x319)] ∧ Ms [] w0 w [rowR cd3 v236 x237, rowR cd3 v241 x320, rowR cd3 v305 t303]) K ⟨0, x300, h330, hF.sub _ ⟨rfl, rfl, rfl, rfl, rfl, rfl, rfl, rfl, trivial⟩, hM.pick [1, 2, 0] rfl rfl⟩ ?_ ?_
                  · rintro a w ⟨_, _, H, _⟩; exact none_some H
                  · rintro k a w ⟨x319, x320, H, hF, hM⟩; rw [spec_l6Values.l13] at H
                    refine wp_seq ?_
                    refine wp_seq ?_
                    refine s_region ?_
                    refine s_val hF rfl rfl rfl (e_move hF rfl) ?_; intro a hF
                    refine s_val hF rfl rfl rfl (e_move hF rfl) ?_; intro a hF
                    refine s_val hF rfl rfl rfl (e_len hF rfl (hM.sl 1 rfl).toF Try.underlying33) ?_; intro a hF
                    refine s_val hF rfl rfl rfl (e_lss hF rfl rfl) ?_; intro a hF
                    refine s_nil ?_
                    refine then_n ?_
                    rcases ite_cases H with ⟨c321, H⟩ | ⟨c321, H⟩
                    ·
                      refine s_cond_t hF rfl (decide_eq_true c321) ?_
                      refine wp_skip ?_
                      refine then_n ?_
                      refine wp_seq ?_
                      refine wp_block ?_
                      obtain ⟨c322, H⟩ := ite_some H
                      obtain ⟨c323, H⟩ := ite_some H
                      obtain ⟨t324, h325, H⟩ := bind_some H
                      refine s_held (fun w => Ms [] w0 w [rowR cd3 v236 x237, rowR cd3 v305 t303]) #[false, false, false, false, false, false, false, false, false, false, false, false, false] mixed rfl rfl hM ?_; intro w hf hM; clear hf
                      refine h_val 0 #[true, false, false, false, false, false, false, false, false, false, false, false, false] rfl (by kernel_rfl) hF rfl rfl rfl (fun w hS => e_move hF rfl) (hM.pick [0, 2] rfl rfl) ?_; intro a hF
                      refine h_val 1 #[true, true, false, false, false, false, false, false, false, false, false, false, false] rfl (by kernel_rfl) hF rfl rfl rfl (fun w hS => e_move hF rfl) (hM.pick [0, 2] rfl rfl) ?_; intro a hF
                      refine h_val 2 #[true, true, true, false, false, false, false, false, false, false, false, false, false] rfl (by kernel_rfl) hF rfl rfl rfl (fun w hS => e_move hF rfl) (hM.pick [0, 2] rfl rfl) ?_; intro a hF
                      refine h_val 3 #[true, true, true, true, false, false, false, false, false, false, false, false, false] rfl (by kernel_rfl) hF rfl rfl rfl (fun w hS => e_move hF rfl) (hM.pick [0, 2] rfl rfl) ?_; intro a hF
                      have f326 := (hM.sl 1 rfl).toF
                      refine h_val 4 #[true, true, true, true, true, false, false, false, false, false, false, false, false] rfl (by kernel_rfl) hF rfl rfl rfl (fun w hS => e_ias cd3 hF rfl rfl f326 Try.underlying33 Try.sizeOf3 c322.1 c322.2) (hM.pick [0, 2] rfl rfl) ?_; intro a hF
                      refine h_val 6 #[true, true, true, true, true, false, true, false, false, false, false, false, false] rfl (by kernel_rfl) hF rfl rfl rfl (fun w hS => e_move hF rfl) (hM.pick [0, 2] rfl rfl) ?_; intro a hF
                      refine h_val 7 #[true, true, true, true, true, false, true, true, false, false, false, false, false] rfl (by kernel_rfl) hF rfl rfl rfl (fun w hS => e_move hF rfl) (hM.pick [0, 2] rfl rfl) ?_; intro a hF
                      have f327 := (hM.sl 2 rfl).toF
                      refine h_val 8 #[true, true, true, true, true, false, true, true, true, false, false, false, false] rfl (by kernel_rfl) hF rfl rfl rfl (fun w hS => e_ias cd3 hF rfl rfl f327 Try.underlying33 Try.sizeOf3 c323.1 c323.2) (hM.pick [0, 2] rfl rfl) ?_; intro a hF
                      refine h_val 9 #[true, true, true, true, true, false, true, true, true, true, false, false, false] rfl (by kernel_rfl) hF rfl rfl rfl (fun w hS => e_lds (m := x319) hF rfl (hS.sl 1 rfl) (getD_some (z := (0 : Int)) c323.1 c323.2) rfl rfl Try.isAgg3) (hM.pick [0, 2] rfl rfl) ?_; intro a hF
                      refine h_one 5 #[true, true, true, true, true, true, true, true, true, true, false, false, false] rfl (by kernel_rfl) ?_
                      refine s_val hF rfl rfl rfl (e_lds (m := x319) hF rfl (hM.sl 1 rfl) (getD_some (z := (0 : Int)) c322.1 c322.2) rfl rfl Try.isAgg3) ?_; intro a hF
                      refine s_nil ⟨rfl, (hM.pick [0, 2] rfl rfl), ?_⟩
                      refine h_one 10 #[true, true, true, true, true, true, true, true, true, true, true, false, false] rfl (by kernel_rfl) ?_
                      refine s_call hF rfl rfl rfl Try.call95 (spec_l1Most.calls K (x320.getD (x319 : Int).toNat (0 : Int)) (t303.getD (x319 : Int).toNat (0 : Int)) t324 h325) ?_; intro a w v hF hf hR
                      subst hR; have hM := hM.grow hf
                      refine s_nil ⟨rfl, (hM.pick [0, 2] rfl rfl), ?_⟩
                      have f328 := (hM.sl 1 rfl).toF
                      refine h_val 11 #[true, true, true, true, true, true, true, true, true, true, true, true, false] rfl (by kernel_rfl) hF rfl rfl rfl (fun w hS => e_ias cd3 hF rfl rfl f328 Try.underlying33 Try.sizeOf3 c322.1 c322.2) (hM.pick [0, 2] rfl rfl) ?_; intro a hF
                      refine h_one 12 #[true, true, true, true, true, true, true, true, true, true, true, true, true] rfl (by kernel_rfl) ?_
                      refine s_sts (i := 1) t324 hF hM rfl rfl rfl rfl rfl c322.1 c322.2 Try.sizeOf3 ?_; intro a w hF hM
                      refine s_nil ⟨rfl, (hM.pick [0, 2] rfl rfl), ?_⟩
                      refine h_done rfl ?_
                      refine blk_n ?_
                      refine then_n ?_
                      refine s_region ?_
                      refine s_val hF rfl rfl rfl (e_move hF rfl) ?_; intro a hF
                      refine s_val hF rfl rfl rfl (e_add hF rfl rfl) ?_; intro a hF
                      refine s_val hF rfl rfl rfl (e_assign hF rfl) ?_; intro a hF
                      refine s_nil ?_
                      refine then_n ?_
                      exact ⟨(wrap64 (x319 + 1)), (x320.set (x319 : Int).toNat t324), H, hF.sub _ ⟨rfl, rfl, rfl, rfl, rfl, rfl, rfl, rfl, trivial⟩, hM.pick [0, 1, 2] rfl rfl⟩
                    ·
                      refine s_cond_f hF rfl (decide_eq_false c321) ?_
                      refine wp_exit ?_
                      refine then_x ?_
                      refine then_x ?_
                      exact ⟨rfl, x320, some_some H, hF.sub _ ⟨rfl, rfl, rfl, rfl, rfl, rfl, trivial⟩, hM.pick [0, 1] rfl rfl⟩
                · rintro e a w ⟨rfl, x318, rfl, hF, hM⟩
                  skip
                  refine blk_x ?_
                  refine blk_n ?_
                  refine then_n ?_
                  refine s_region ?_
                  refine s_val hF rfl rfl rfl (e_move hF rfl) ?_; intro a hF
                  refine s_val hF rfl rfl rfl (e_add hF rfl rfl) ?_; intro a hF
                  refine s_val hF rfl rfl rfl (e_assign hF rfl) ?_; intro a hF
                  refine s_nil ?_
                  refine then_n ?_
                  exact ⟨(wrap64 (x299 + 1)), x318, H, hF.sub _ ⟨rfl, rfl, rfl, rfl, rfl, rfl, trivial⟩, hM.pick [0, 1] rfl rfl⟩
              ·
                refine s_cond_f hF rfl (decide_eq_false c302) ?_
                refine wp_exit ?_
                refine then_x ?_
                refine then_x ?_
                exact ⟨rfl, x300, some_some H, hF.sub _ ⟨rfl, rfl, rfl, rfl, trivial⟩, hM.pick [1] rfl rfl⟩
          · rintro e a w ⟨rfl, x298, rfl, hF, hM⟩
            skip
            refine blk_x ?_
            refine then_n ?_
            refine s_region ?_
            refine s_val hF rfl rfl rfl (e_move hF rfl) ?_; intro a hF
            refine s_val hF rfl rfl rfl (e_assign hF rfl) ?_; intro a hF
            refine s_nil ?_
            refine blk_n ?_
            refine then_n ?_
            refine s_region ?_
            refine s_val hF rfl rfl rfl (e_move hF rfl) ?_; intro a hF
            refine s_val hF rfl rfl rfl (e_add hF rfl rfl) ?_; intro a hF
            refine s_val hF rfl rfl rfl (e_assign hF rfl) ?_; intro a hF
            refine s_nil ?_
            refine then_n ?_
            exact ⟨v241, (wrap64 (x235 + 1)), x298, H, hF.sub _ ⟨rfl, rfl, rfl, rfl, trivial⟩, hM.pick [0] rfl rfl⟩
        ·
          refine s_cond_f hF rfl (decide_eq_false c238) ?_
          refine wp_exit ?_
          refine then_x ?_
          refine then_x ?_
          exact ⟨rfl, v236, x237, some_some H, hF.sub _ ⟨rfl, trivial⟩, hM.pick [0] rfl rfl⟩
    · rintro e a w ⟨rfl, v233, x234, rfl, hF, hM⟩
      skip
      refine blk_x ?_
      refine then_n ?_
      refine wp_seq ?_
      refine s_region ?_
      refine s_val hF rfl rfl rfl (e_move hF rfl) ?_; intro a hF
      refine s_val hF rfl rfl rfl (e_assign hF rfl) ?_; intro a hF
      refine s_nil ?_
      refine then_n ?_
      refine wp_ret ?_
      obtain rfl := some_some H
      refine s_ret [v233] hF Try.results81 ⟨rfl, trivial⟩ ?_
      exact ⟨_, rfl, hM.frm, hM.give 0 rfl⟩

/-! ### loop.example/g01210/spec.l6Plan: function 88 -/
def spec_l6Plan.l3 (K : Nat) (x76 : Int) (t81 : (List Int)) : Nat → Int → (List Int) → (List Int) → Option ((List Int) × (List Int))
  | 0, _, _, _ => none
  | k + 1, x99, x100, x101 => if x99 < (x100.length : Int) then (if (0 : Int) ≤ x99 ∧ x99 < (t81.length : Int) then (if (0 : Int) ≤ x99 ∧ x99 < (x100.length : Int) then (if (x100.getD (x99 : Int).toNat (0 : Int)) < (t81.getD (x99 : Int).toNat (0 : Int)) then (if (0 : Int) ≤ x99 ∧ x99 < (x101.length : Int) then (spec_l6Plan.l3 K x76 t81 k (wrap64 (x99 + 1)) (x100.set (x99 : Int).toNat (t81.getD (x99 : Int).toNat (0 : Int))) (x101.set (x99 : Int).toNat x76)) else none) else (spec_l6Plan.l3 K x76 t81 k (wrap64 (x99 + 1)) x100 x101)) else none) else none) else (some (x100, x101))
def spec_l6Plan.l2 (K : Nat) (l0 : (List (Ar 6))) (t2 : (List Int)) : Nat → Int → (List Int) → (List Int) → Option (List Int)
  | 0, _, _, _ => none
  | k + 1, x76, x77, x78 => if 0 ≤ (l0.length : Int) then (if x76 < (wrap64 (1 * 2 ^ (min ((l0.length : Int) : Int).toNat 64))) then ((spec_l6Sums.f K (l0.length : Int) t2 x76).bind fun t81 => (spec_l6Plan.l3 K x76 t81 K 0 x77 x78).bind fun (x97, x98) => spec_l6Plan.l2 K l0 t2 k (wrap64 (x76 + 1)) x97 x98) else (some x78)) else none
def spec_l6Plan.f (K : Nat) (l0 : (List (Ar 6))) (a1 : (Int × Int)) (a2 : Int) : Option (List Int) := (spec_l6Values.f K l0 a1 (wrap64 (a2 - 1))).bind fun t2 => (spec_l6Sums.f K (l0.length : Int) t2 0).bind fun t5 => if (0 : Int) ≤ (t2.length : Int) ∧ (t2.length : Int) ≤ 1073741824 then ((spec_l6Plan.l2 K l0 t2 K 1 t5 (List.replicate (t2.length : Int).toNat (0 : Int))).bind fun x75 => some x75) else none
set_option maxRecDepth 100000 in
set_option maxHeartbeats 4000000 in
theorem spec_l6Plan.calls {w0 : World} (K : Nat) (l0 : (List (Ar 6))) (u0 : Value) (q0 : SlR cd28 w0 u0 l0) (a1 : (Int × Int)) (a2 : Int) (r : (List Int)) (H : spec_l6Plan.f K l0 a1 a2 = some r) : Calls Try.prog 88 [u0, ag [Pt.int a1.1, Pt.int a1.2], Value.int .i64 a2].toArray w0 (Post w0 fun w v => Fresh cd3 w0.heap.size w v r) := by
  rw [spec_l6Plan.f] at H
  refine s_start Try.func88 rfl Try.ntmps88 rfl ?_
  intro a hF
  have hM := Ms.start w0
  skip
  refine wp_seq ?_
  refine s_region ?_
  refine s_box (ps := [Pt.int a1.1, Pt.int a1.2]) hF hM rfl rfl rfl rfl ?_; intro a w b1 hF hM
  refine s_val hF rfl rfl rfl (e_assign hF rfl) ?_; intro a hF
  refine s_nil ?_
  refine then_n ?_
  refine wp_seq ?_
  obtain ⟨t2, h3, H⟩ := bind_some H
  refine s_region ?_
  refine s_val hF rfl rfl rfl (e_move hF rfl) ?_; intro a hF
  refine s_val hF rfl rfl rfl (e_lda (i := 0) 0 2 hF hM rfl rfl rfl rfl Try.isAgg25 Try.sizeOf25 rfl) ?_; intro a hF
  refine s_val hF rfl rfl rfl (e_move hF rfl) ?_; intro a hF
  refine s_val hF rfl rfl rfl (e_sub hF rfl rfl) ?_; intro a hF
  refine s_call hF rfl rfl rfl Try.call81 (spec_l6Values.calls K l0 u0 (q0.frm hM.frm) a1 (wrap64 (a2 - 1)) t2 h3) ?_; intro a w v4 hF hf hR
  have hM := hM.fresh hf hR
  refine s_val hF rfl rfl rfl (e_assign hF rfl) ?_; intro a hF
  refine s_nil ?_
  refine then_n ?_
  refine wp_seq ?_
  obtain ⟨t5, h6, H⟩ := bind_some H
  obtain ⟨c9, H⟩ := ite_some H
  refine wp_mono (Q := fun e a w => e = Exit.normal ∧ ∃ v7 : Value, ∃ v8 : Value, Fr 64 a [(0, u0), (7, v4), (8, v7), (9, v8)] ∧ Ms [] w0 w [rowR cd3 v7 t5, rowR cd3 v8 (List.replicate (t2.length : Int).toNat (0 : Int)), rowR cd3 v4 t2, boxR b1 [Pt.int a1.1, Pt.int a1.2] 25]) ?_ ?_
  · skip
    refine s_held (fun w => Ms [] w0 w [rowR cd3 v4 t2, boxR b1 [Pt.int a1.1, Pt.int a1.2] 25]) #[false, false, false, false, false, false, false, false, false] mixed rfl rfl hM ?_; intro w hf hM; clear hf
    refine h_val 0 #[true, false, false, false, false, false, false, false, false] rfl (by kernel_rfl) hF rfl rfl rfl (fun w hS => e_move hF rfl) (hM.pick [0, 1] rfl rfl) ?_; intro a hF
    have f10 := (q0.frm hM.frm).toF
    refine h_val 1 #[true, true, false, false, false, false, false, false, false] rfl (by kernel_rfl) hF rfl rfl rfl (fun w hS => e_len hF rfl f10 Try.underlying43) (hM.pick [0, 1] rfl rfl) ?_; intro a hF
    refine h_val 2 #[true, true, true, false, false, false, false, false, false] rfl (by kernel_rfl) hF rfl rfl rfl (fun w hS => e_move hF rfl) (hM.pick [0, 1] rfl rfl) ?_; intro a hF
    refine h_val 4 #[true, true, true, false, true, false, false, false, false] rfl (by kernel_rfl) hF rfl rfl rfl (fun w hS => e_move hF rfl) (hM.pick [0, 1] rfl rfl) ?_; intro a hF
    have f11 := (hM.sl 0 rfl).toF
    refine h_val 5 #[true, true, true, false, true, true, false, false, false] rfl (by kernel_rfl) hF rfl rfl rfl (fun w hS => e_len hF rfl f11 Try.underlying33) (hM.pick [0, 1] rfl rfl) ?_; intro a hF
    refine h_two 3 6 #[true, true, true, true, true, true, false, false, false] #[true, true, true, false, true, true, true, false, false] rfl rfl rfl rfl (by kernel_rfl) ?_ ?_
    · skip
      refine s_call hF rfl rfl rfl Try.call80 (spec_l6Sums.calls K (l0.length : Int) t2 v4 (hM.sl 0 rfl) 0 t5 h6) ?_; intro a w v7 hF hf hR
      have hM := hM.fresh hf hR
      refine s_nil ⟨rfl, (hM.pick [1, 2] rfl rfl), ?_⟩
      refine h_val 7 #[true, true, true, true, true, true, false, true, false] rfl (by kernel_rfl) hF rfl rfl rfl (fun w hS => e_assign hF rfl) (hM.pick [1, 2] rfl rfl) ?_; intro a hF
      refine h_one 6 #[true, true, true, true, true, true, true, true, false] rfl (by kernel_rfl) ?_
      refine s_make (C := cd3) cdok3 hF hM rfl rfl rfl rfl Try.underlying33 c9.1 c9.2 ?_; intro a w v8 hF hM
      refine s_nil ⟨rfl, (hM.pick [2, 3] rfl rfl), ?_⟩
      refine h_val 8 #[true, true, true, true, true, true, true, true, true] rfl (by kernel_rfl) hF rfl rfl rfl (fun w hS => e_assign hF rfl) (hM.pick [2, 3] rfl rfl) ?_; intro a hF
      exact h_done rfl ⟨rfl, v7, v8, hF.sub _ ⟨rfl, rfl, rfl, rfl, trivial⟩, hM.pick [1, 0, 2, 3] rfl rfl⟩
    · skip
      refine s_make (C := cd3) cdok3 hF hM rfl rfl rfl rfl Try.underlying33 c9.1 c9.2 ?_; intro a w v8 hF hM
      refine s_nil ⟨rfl, (hM.pick [1, 2] rfl rfl), ?_⟩
      refine h_one 3 #[true, true, true, true, true, true, true, false, false] rfl (by kernel_rfl) ?_
      refine s_call hF rfl rfl rfl Try.call80 (spec_l6Sums.calls K (l0.length : Int) t2 v4 (hM.sl 1 rfl) 0 t5 h6) ?_; intro a w v7 hF hf hR
      have hM := hM.fresh hf hR
      refine s_nil ⟨rfl, (hM.pick [2, 3] rfl rfl), ?_⟩
      refine h_val 7 #[true, true, true, true, true, true, true, true, false] rfl (by kernel_rfl) hF rfl rfl rfl (fun w hS => e_assign hF rfl) (hM.pick [2, 3] rfl rfl) ?_; intro a hF
      refine h_val 8 #[true, true, true, true, true, true, true, true, true] rfl (by kernel_rfl) hF rfl rfl rfl (fun w hS => e_assign hF rfl) (hM.pick [2, 3] rfl rfl) ?_; intro a hF
      exact h_done rfl ⟨rfl, v7, v8, hF.sub _ ⟨rfl, rfl, rfl, rfl, trivial⟩, hM.pick [0, 1, 2, 3] rfl rfl⟩
  rintro e a w ⟨rfl, v7, v8, hF, hM⟩
  refine then_n ?_
  refine wp_seq ?_
  refine wp_seq ?_
  refine s_region ?_
  refine s_val hF rfl rfl rfl (e_assign hF rfl) ?_; intro a hF
  refine s_nil ?_
  refine then_n ?_
  refine wp_block ?_
  obtain ⟨o111, h112, H⟩ := bind_some H
  refine wp_mono (Q := fun e a w => (e = Exit.exit 0 ∧ ∃ x75 : (List Int), x75 = o111 ∧ Fr 64 a [(9, v8)] ∧ Ms [] w0 w [rowR cd3 v8 x75])) ?_ ?_
  · refine s_loop (fun kq a w => ∃ x76 : Int, ∃ x77 : (List Int), ∃ x78 : (List Int), spec_l6Plan.l2 K l0 t2 kq x76 x77 x78 = some o111 ∧ Fr 64 a [(0, u0), (7, v4), (8, v7), (9, v8), (10, Value.int .i64 x76)] ∧ Ms [] w0 w [rowR cd3 v4 t2, rowR cd3 v7 x77, rowR cd3 v8 x78]) K ⟨1, t5, (List.replicate (t2.length : Int).toNat (0 : Int)), h112, hF.sub _ ⟨rfl, rfl, rfl, rfl, rfl, trivial⟩, hM.pick [2, 0, 1] rfl rfl⟩ ?_ ?_
    · rintro a w ⟨_, _, _, H, _⟩; exact none_some H
    · rintro k a w ⟨x76, x77, x78, H, hF, hM⟩; rw [spec_l6Plan.l2] at H
      refine wp_seq ?_
      refine wp_seq ?_
      obtain ⟨c79, H⟩ := ite_some H
      refine s_region ?_
      refine s_val hF rfl rfl rfl (e_move hF rfl) ?_; intro a hF
      refine s_val hF rfl rfl rfl (e_move hF rfl) ?_; intro a hF
      refine s_val hF rfl rfl rfl (e_len hF rfl (q0.frm hM.frm).toF Try.underlying43) ?_; intro a hF
      refine s_val hF rfl rfl rfl (e_shl hF rfl rfl c79) ?_; intro a hF
      refine s_val hF rfl rfl rfl (e_lss hF rfl rfl) ?_; intro a hF
      refine s_nil ?_
      refine then_n ?_
      rcases ite_cases H with ⟨c80, H⟩ | ⟨c80, H⟩
      ·
        refine s_cond_t hF rfl (decide_eq_true c80) ?_
        refine wp_skip ?_
        refine then_n ?_
        refine wp_seq ?_
        refine wp_block ?_
        refine wp_seq ?_
        obtain ⟨t81, h82, H⟩ := bind_some H
        refine s_region ?_
        refine s_val hF rfl rfl rfl (e_move hF rfl) ?_; intro a hF
        refine s_val hF rfl rfl rfl (e_len hF rfl (q0.frm hM.frm).toF Try.underlying43) ?_; intro a hF
        refine s_val hF rfl rfl rfl (e_move hF rfl) ?_; intro a hF
        refine s_val hF rfl rfl rfl (e_move hF rfl) ?_; intro a hF
        refine s_call hF rfl rfl rfl Try.call80 (spec_l6Sums.calls K (l0.length : Int) t2 v4 (hM.sl 0 rfl) x76 t81 h82) ?_; intro a w v83 hF hf hR
        have hM := hM.fresh hf hR
        refine s_val hF rfl rfl rfl (e_assign hF rfl) ?_; intro a hF
        refine s_nil ?_
        refine then_n ?_
        refine wp_seq ?_
        refine s_region ?_
        refine s_val hF rfl rfl rfl (e_assign hF rfl) ?_; intro a hF
        refine s_nil ?_
        refine then_n ?_
        refine wp_block ?_
        obtain ⟨o109, h110, H⟩ := bind_some H
        refine wp_mono (Q := fun e a w => (e = Exit.exit 2 ∧ ∃ x97 : (List Int), ∃ x98 : (List Int), (x97, x98) = o109 ∧ Fr 64 a [(0, u0), (7, v4), (8, v7), (9, v8), (10, Value.int .i64 x76)] ∧ Ms [] w0 w [rowR cd3 v4 t2, rowR cd3 v7 x97, rowR cd3 v8 x98])) ?_ ?_
        · refine s_loop (fun kq a w => ∃ x99 : Int, ∃ x100 : (List Int), ∃ x101 : (List Int), spec_l6Plan.l3 K x76 t81 kq x99 x100 x101 = some o109 ∧ Fr 64 a [(0, u0), (7, v4), (8, v7), (9, v8), (10, Value.int .i64 x76), (11, v83), (12, Value.int .i64 x99)] ∧ Ms [] w0 w [rowR cd3 v4 t2, rowR cd3 v7 x100, rowR cd3 v8 x101, rowR cd3 v83 t81]) K ⟨0, x77, x78, h110, hF.sub _ ⟨rfl, rfl, rfl, rfl, rfl, rfl, rfl, trivial⟩, hM.pick [1, 2, 3, 0] rfl rfl⟩ ?_ ?_
          · rintro a w ⟨_, _, _, H, _⟩; exact none_some H
          · rintro k a w ⟨x99, x100, x101, H, hF, hM⟩; rw [spec_l6Plan.l3] at H
            refine wp_seq ?_
            refine wp_seq ?_
            refine s_region ?_
            refine s_val hF rfl rfl rfl (e_move hF rfl) ?_; intro a hF
            refine s_val hF rfl rfl rfl (e_move hF rfl) ?_; intro a hF
            refine s_val hF rfl rfl rfl (e_len hF rfl (hM.sl 1 rfl).toF Try.underlying33) ?_; intro a hF
            refine s_val hF rfl rfl rfl (e_lss hF rfl rfl) ?_; intro a hF
            refine s_nil ?_
            refine then_n ?_
            rcases ite_cases H with ⟨c102, H⟩ | ⟨c102, H⟩
            ·
              refine s_cond_t hF rfl (decide_eq_true c102) ?_
              refine wp_skip ?_
              refine then_n ?_
              refine wp_seq ?_
              refine wp_block ?_
              refine wp_seq ?_
              obtain ⟨c103, H⟩ := ite_some H
              obtain ⟨c104, H⟩ := ite_some H
              refine s_held (fun w => Ms [] w0 w [rowR cd3 v4 t2, rowR cd3 v7 x100, rowR cd3 v8 x101, rowR cd3 v83 t81]) #[false, false, false, false, false, false, false, false, false] mixed rfl rfl hM ?_; intro w hf hM; clear hf
              refine h_val 0 #[true, false, false, false, false, false, false, false, false] rfl (by kernel_rfl) hF rfl rfl rfl (fun w hS => e_move hF rfl) (hM.pick [0, 1, 2, 3] rfl rfl) ?_; intro a hF
              refine h_val 1 #[true, true, false, false, false, false, false, false, false] rfl (by kernel_rfl) hF rfl rfl rfl (fun w hS => e_move hF rfl) (hM.pick [0, 1, 2, 3] rfl rfl) ?_; intro a hF
              have f105 := (hM.sl 3 rfl).toF
              refine h_val 2 #[true, true, true, false, false, false, false, false, false] rfl (by kernel_rfl) hF rfl rfl rfl (fun w hS => e_ias cd3 hF rfl rfl f105 Try.underlying33 Try.sizeOf3 c103.1 c103.2) (hM.pick [0, 1, 2, 3] rfl rfl) ?_; intro a hF
              refine h_val 3 #[true, true, true, true, false, false, false, false, false] rfl (by kernel_rfl) hF rfl rfl rfl (fun w hS => e_lds (m := x99) hF rfl (hS.sl 3 rfl) (getD_some (z := (0 : Int)) c103.1 c103.2) rfl rfl Try.isAgg3) (hM.pick [0, 1, 2, 3] rfl rfl) ?_; intro a hF
              refine h_val 4 #[true, true, true, true, true, false, false, false, false] rfl (by kernel_rfl) hF rfl rfl rfl (fun w hS => e_move hF rfl) (hM.pick [0, 1, 2, 3] rfl rfl) ?_; intro a hF
              refine h_val 5 #[true, true, true, true, true, true, false, false, false] rfl (by kernel_rfl) hF rfl rfl rfl (fun w hS => e_move hF rfl) (hM.pick [0, 1, 2, 3] rfl rfl) ?_; intro a hF
              have f106 := (hM.sl 1 rfl).toF
              refine h_val 6 #[true, true, true, true, true, true, true, false, false] rfl (by kernel_rfl) hF rfl rfl rfl (fun w hS => e_ias cd3 hF rfl rfl f106 Try.underlying33 Try.sizeOf3 c104.1 c104.2) (hM.pick [0, 1, 2, 3] rfl rfl) ?_; intro a hF
              refine h_val 7 #[true, true, true, true, true, true, true, true, false] rfl (by kernel_rfl) hF rfl rfl rfl (fun w hS => e_lds (m := x99) hF rfl (hS.sl 1 rfl) (getD_some (z := (0 : Int)) c104.1 c104.2) rfl rfl Try.isAgg3) (hM.pick [0, 1, 2, 3] rfl rfl) ?_; intro a hF
              refine h_val 8 #[true, true, true, true, true, true, true, true, true] rfl (by kernel_rfl) hF rfl rfl rfl (fun w hS => e_gtr hF rfl rfl) (hM.pick [0, 1, 2, 3] rfl rfl) ?_; intro a hF
              refine h_done rfl ?_
              refine then_n ?_
              rcases ite_cases H with ⟨c107, H⟩ | ⟨c107, H⟩
              ·
                refine s_cond_t hF rfl (decide_eq_true c107) ?_
                refine wp_seq ?_
                refine s_region ?_
                refine s_val hF rfl rfl rfl (e_move hF rfl) ?_; intro a hF
                refine s_val hF rfl rfl rfl (e_move hF rfl) ?_; intro a hF
                refine s_val hF rfl rfl rfl (e_move hF rfl) ?_; intro a hF
                refine s_val hF rfl rfl rfl (e_move hF rfl) ?_; intro a hF
                refine s_val hF rfl rfl rfl (e_ias cd3 hF rfl rfl (hM.sl 3 rfl).toF Try.underlying33 Try.sizeOf3 c103.1 c103.2) ?_; intro a hF
                refine s_val hF rfl rfl rfl (e_lds (m := x99) hF rfl (hM.sl 3 rfl) (getD_some (z := (0 : Int)) c103.1 c103.2) rfl rfl Try.isAgg3) ?_; intro a hF
                refine s_val hF rfl rfl rfl (e_ias cd3 hF rfl rfl (hM.sl 1 rfl).toF Try.underlying33 Try.sizeOf3 c104.1 c104.2) ?_; intro a hF
                refine s_sts (i := 1) (t81.getD (x99 : Int).toNat (0 : Int)) hF hM rfl rfl rfl rfl rfl c104.1 c104.2 Try.sizeOf3 ?_; intro a w hF hM
                refine s_nil ?_
                refine then_n ?_
                obtain ⟨c108, H⟩ := ite_some H
                refine s_region ?_
                refine s_val hF rfl rfl rfl (e_move hF rfl) ?_; intro a hF
                refine s_val hF rfl rfl rfl (e_move hF rfl) ?_; intro a hF
                refine s_val hF rfl rfl rfl (e_move hF rfl) ?_; intro a hF
                refine s_val hF rfl rfl rfl (e_ias cd3 hF rfl rfl (hM.sl 2 rfl).toF Try.underlying33 Try.sizeOf3 c108.1 c108.2) ?_; intro a hF
                refine s_sts (i := 2) x76 hF hM rfl rfl rfl rfl rfl c108.1 c108.2 Try.sizeOf3 ?_; intro a w hF hM
                refine s_nil ?_
                refine blk_n ?_
                refine then_n ?_
                refine s_region ?_
                refine s_val hF rfl rfl rfl (e_move hF rfl) ?_; intro a hF
                refine s_val hF rfl rfl rfl (e_add hF rfl rfl) ?_; intro a hF
                refine s_val hF rfl rfl rfl (e_assign hF rfl) ?_; intro a hF
                refine s_nil ?_
                refine then_n ?_
                exact ⟨(wrap64 (x99 + 1)), (x100.set (x99 : Int).toNat (t81.getD (x99 : Int).toNat (0 : Int))), (x101.set (x99 : Int).toNat x76), H, hF.sub _ ⟨rfl, rfl, rfl, rfl, rfl, rfl, rfl, trivial⟩, hM.pick [0, 1, 2, 3] rfl rfl⟩
              ·
                refine s_cond_f hF rfl (decide_eq_false c107) ?_
                refine wp_skip ?_
                refine blk_n ?_
                refine then_n ?_
                refine s_region ?_
                refine s_val hF rfl rfl rfl (e_move hF rfl) ?_; intro a hF
                refine s_val hF rfl rfl rfl (e_add hF rfl rfl) ?_; intro a hF
                refine s_val hF rfl rfl rfl (e_assign hF rfl) ?_; intro a hF
                refine s_nil ?_
                refine then_n ?_
                exact ⟨(wrap64 (x99 + 1)), x100, x101, H, hF.sub _ ⟨rfl, rfl, rfl, rfl, rfl, rfl, rfl, trivial⟩, hM.pick [0, 1, 2, 3] rfl rfl⟩
            ·
              refine s_cond_f hF rfl (decide_eq_false c102) ?_
              refine wp_exit ?_
              refine then_x ?_
              refine then_x ?_
              exact ⟨rfl, x100, x101, some_some H, hF.sub _ ⟨rfl, rfl, rfl, rfl, rfl, trivial⟩, hM.pick [0, 1, 2] rfl rfl⟩
        · rintro e a w ⟨rfl, x97, x98, rfl, hF, hM⟩
          skip
          refine blk_x ?_
          refine blk_n ?_
          refine then_n ?_
          refine s_region ?_
          refine s_val hF rfl rfl rfl (e_move hF rfl) ?_; intro a hF
          refine s_val hF rfl rfl rfl (e_add hF rfl rfl) ?_; intro a hF
          refine s_val hF rfl rfl rfl (e_assign hF rfl) ?_; intro a hF
          refine s_nil ?_
          refine then_n ?_
          exact ⟨(wrap64 (x76 + 1)), x97, x98, H, hF.sub _ ⟨rfl, rfl, rfl, rfl, rfl, trivial⟩, hM.pick [0, 1, 2] rfl rfl⟩
      ·
        refine s_cond_f hF rfl (decide_eq_false c80) ?_
        refine wp_exit ?_
        refine then_x ?_
        refine then_x ?_
        exact ⟨rfl, x78, some_some H, hF.sub _ ⟨rfl, trivial⟩, hM.pick [2] rfl rfl⟩
  · rintro e a w ⟨rfl, x75, rfl, hF, hM⟩
    skip
    refine blk_x ?_
    refine then_n ?_
    refine wp_seq ?_
    refine s_region ?_
    refine s_val hF rfl rfl rfl (e_move hF rfl) ?_; intro a hF
    refine s_val hF rfl rfl rfl (e_assign hF rfl) ?_; intro a hF
    refine s_nil ?_
    refine then_n ?_
    refine wp_ret ?_
    obtain rfl := some_some H
    refine s_ret [v8] hF Try.results88 ⟨rfl, trivial⟩ ?_
    exact ⟨_, rfl, hM.frm, hM.give 0 rfl⟩

/-! ### loop.example/g01210/spec.l2Cut: function 79 -/
def spec_l2Cut.l0 (K : Nat) : Nat → Int → Int → Option Int
  | 0, _, _ => none
  | k + 1, x9, x10 => if 0 < x10 then (if x10 ≠ 0 then (spec_l2Cut.l0 K k x10 (x9.tmod x10)) else none) else (some x9)
def spec_l2Cut.f (K : Nat) (a0 : Int) (a1 : Int) : Option (Ar 2) := (spec_l2Cut.l0 K K a0 a1).bind fun x8 => (spec_l1Most.f K x8 1).bind fun t15 => if t15 ≠ 0 then ((spec_l1Most.f K x8 1).bind fun t18 => if t18 ≠ 0 then (some (⟨[(wrap64 (a0.tdiv t15)), (wrap64 (a1.tdiv t18))], rfl⟩ : Ar 2)) else none) else none
set_option maxRecDepth 100000 in
set_option maxHeartbeats 4000000 in
theorem spec_l2Cut.calls {w0 : World} (K : Nat) (a0 : Int) (a1 : Int) (r : (Ar 2)) (H : spec_l2Cut.f K a0 a1 = some r) : Calls Try.prog 79 [Value.int .i64 a0, Value.int .i64 a1].toArray w0 (Post w0 fun w v => v = ag [Pt.ar r]) := by
  rw [spec_l2Cut.f] at H
  refine s_start Try.func79 rfl Try.ntmps79 rfl ?_
  intro a hF
  have hM := Ms.start w0
  skip
  refine wp_seq ?_
  refine s_region ?_
  refine s_alloc (ps := [Pt.ar (Ar.zero 2)]) hF hM rfl rfl zv51 rfl ?_; intro a w b1 hF hM
  refine s_nil ?_
  refine then_n ?_
  refine wp_seq ?_
  refine s_region ?_
  refine s_val hF rfl rfl rfl (e_move hF rfl) ?_; intro a hF
  refine s_val hF rfl rfl rfl (e_move hF rfl) ?_; intro a hF
  refine s_val hF rfl rfl rfl (e_assign hF rfl) ?_; intro a hF
  refine s_val hF rfl rfl rfl (e_assign hF rfl) ?_; intro a hF
  refine s_nil ?_
  refine then_n ?_
  refine wp_seq ?_
  refine wp_block ?_
  obtain ⟨o13, h14, H⟩ := bind_some H
  refine wp_mono (Q := fun e a w => (e = Exit.exit 0 ∧ ∃ x8 : Int, x8 = o13 ∧ Fr 24 a [(0, Value.int .i64 a0), (1, Value.int .i64 a1), (4, pt b1 0), (5, Value.int .i64 x8)] ∧ Ms [] w0 w [boxR b1 [Pt.ar (Ar.zero 2)] 51])) ?_ ?_
  · refine s_loop (fun kq a w => ∃ x9 : Int, ∃ x10 : Int, spec_l2Cut.l0 K kq x9 x10 = some o13 ∧ Fr 24 a [(0, Value.int .i64 a0), (1, Value.int .i64 a1), (4, pt b1 0), (5, Value.int .i64 x9), (6, Value.int .i64 x10)] ∧ Ms [] w0 w [boxR b1 [Pt.ar (Ar.zero 2)] 51]) K ⟨a0, a1, h14, hF.sub _ ⟨rfl, rfl, rfl, rfl, rfl, trivial⟩, hM.pick [0] rfl rfl⟩ ?_ ?_
    · rintro a w ⟨_, _, H, _⟩; exact none_some H
    · rintro k a w ⟨x9, x10, H, hF, hM⟩; rw [spec_l2Cut.l0] at H
      refine wp_seq ?_
      refine wp_seq ?_
      refine s_region ?_
      refine s_val hF rfl rfl rfl (e_move hF rfl) ?_; intro a hF
      refine s_val hF rfl rfl rfl (e_gtr hF rfl rfl) ?_; intro a hF
      refine s_nil ?_
      refine then_n ?_
      rcases ite_cases H with ⟨c11, H⟩ | ⟨c11, H⟩
      ·
        refine s_cond_t hF rfl (decide_eq_true c11) ?_
        refine wp_skip ?_
        refine then_n ?_
        refine wp_block ?_
        obtain ⟨c12, H⟩ := ite_some H
        refine s_held (fun w => Ms [] w0 w [boxR b1 [Pt.ar (Ar.zero 2)] 51]) #[false, false, false, false, false, false] mixed rfl rfl hM ?_; intro w hf hM; clear hf
        refine h_val 0 #[true, false, false, false, false, false] rfl (by kernel_rfl) hF rfl rfl rfl (fun w hS => e_move hF rfl) (hM.pick [0] rfl rfl) ?_; intro a hF
        refine h_val 1 #[true, true, false, false, false, false] rfl (by kernel_rfl) hF rfl rfl rfl (fun w hS => e_move hF rfl) (hM.pick [0] rfl rfl) ?_; intro a hF
        refine h_val 2 #[true, true, true, false, false, false] rfl (by kernel_rfl) hF rfl rfl rfl (fun w hS => e_move hF rfl) (hM.pick [0] rfl rfl) ?_; intro a hF
        refine h_val 3 #[true, true, true, true, false, false] rfl (by kernel_rfl) hF rfl rfl rfl (fun w hS => e_rem hF rfl rfl c12) (hM.pick [0] rfl rfl) ?_; intro a hF
        refine h_val 4 #[true, true, true, true, true, false] rfl (by kernel_rfl) hF rfl rfl rfl (fun w hS => e_assign hF rfl) (hM.pick [0] rfl rfl) ?_; intro a hF
        refine h_val 5 #[true, true, true, true, true, true] rfl (by kernel_rfl) hF rfl rfl rfl (fun w hS => e_assign hF rfl) (hM.pick [0] rfl rfl) ?_; intro a hF
        refine h_done rfl ?_
        refine blk_n ?_
        refine then_n ?_
        exact ⟨x10, (x9.tmod x10), H, hF.sub _ ⟨rfl, rfl, rfl, rfl, rfl, trivial⟩, hM.pick [0] rfl rfl⟩
      ·
        refine s_cond_f hF rfl (decide_eq_false c11) ?_
        refine wp_exit ?_
        refine then_x ?_
        refine then_x ?_
        exact ⟨rfl, x9, some_some H, hF.sub _ ⟨rfl, rfl, rfl, rfl, trivial⟩, hM.pick [0] rfl rfl⟩
  · rintro e a w ⟨rfl, x8, rfl, hF, hM⟩
    skip
    refine blk_x ?_
    refine then_n ?_
    refine wp_seq ?_
    obtain ⟨t15, h16, H⟩ := bind_some H
    obtain ⟨c17, H⟩ := ite_some H
    obtain ⟨t18, h19, H⟩ := bind_some H
    obtain ⟨c20, H⟩ := ite_some H
    refine s_held (fun w => Ms [] w0 w []) #[false, false, false, false, false, false, false, false, false, false] mixed rfl rfl hM ?_; intro w hf hM; clear hf
    refine h_val 0 #[true, false, false, false, false, false, false, false, false, false] rfl (by kernel_rfl) hF rfl rfl rfl (fun w hS => e_move hF rfl) (hM.pick [] rfl rfl) ?_; intro a hF
    refine h_val 1 #[true, true, false, false, false, false, false, false, false, false] rfl (by kernel_rfl) hF rfl rfl rfl (fun w hS => e_move hF rfl) (hM.pick [] rfl rfl) ?_; intro a hF
    refine h_val 4 #[true, true, false, false, true, false, false, false, false, false] rfl (by kernel_rfl) hF rfl rfl rfl (fun w hS => e_move hF rfl) (hM.pick [] rfl rfl) ?_; intro a hF
    refine h_val 5 #[true, true, false, false, true, true, false, false, false, false] rfl (by kernel_rfl) hF rfl rfl rfl (fun w hS => e_move hF rfl) (hM.pick [] rfl rfl) ?_; intro a hF
    refine h_one 2 #[true, true, true, false, true, true, false, false, false, false] rfl (by kernel_rfl) ?_
    refine s_call hF rfl rfl rfl Try.call95 (spec_l1Most.calls K x8 1 t15 h16) ?_; intro a w v hF hf hR
    subst hR; have hM := hM.grow hf
    refine s_nil ⟨rfl, (hM.pick [] rfl rfl), ?_⟩
    refine h_val 3 #[true, true, true, true, true, true, false, false, false, false] rfl (by kernel_rfl) hF rfl rfl rfl (fun w hS => e_quo hF rfl rfl c17) (hM.pick [] rfl rfl) ?_; intro a hF
    refine h_one 6 #[true, true, true, true, true, true, true, false, false, false] rfl (by kernel_rfl) ?_
    refine s_call hF rfl rfl rfl Try.call95 (spec_l1Most.calls K x8 1 t18 h19) ?_; intro a w v hF hf hR
    subst hR; have hM := hM.grow hf
    refine s_nil ⟨rfl, (hM.pick [] rfl rfl), ?_⟩
    refine h_val 7 #[true, true, true, true, true, true, true, true, false, false] rfl (by kernel_rfl) hF rfl rfl rfl (fun w hS => e_quo hF rfl rfl c20) (hM.pick [] rfl rfl) ?_; intro a hF
    refine h_val 8 #[true, true, true, true, true, true, true, true, true, false] rfl (by kernel_rfl) hF rfl rfl rfl (fun w hS => e_build' (cells := cat [Pt.ar (⟨[(wrap64 (a0.tdiv t15)), (wrap64 (a1.tdiv t18))], rfl⟩ : Ar 2)]) hF rfl (by kernel_rfl)) (hM.pick [] rfl rfl) ?_; intro a hF
    refine h_one 9 #[true, true, true, true, true, true, true, true, true, true] rfl (by kernel_rfl) ?_
    refine s_stw (i := 0) (ps' := [Pt.ar (⟨[(wrap64 (a0.tdiv t15)), (wrap64 (a1.tdiv t18))], rfl⟩ : Ar 2)]) hF hM rfl rfl rfl rfl rfl rfl Try.sizeOf51 rfl ?_; intro a w hF hM
    refine s_nil ⟨rfl, (hM.pick [] rfl rfl), ?_⟩
    refine h_done rfl ?_
    refine then_n ?_
    refine wp_ret ?_
    obtain rfl := some_some H
    refine s_ret [ag [Pt.ar (⟨[(wrap64 (a0.tdiv t15)), (wrap64 (a1.tdiv t18))], rfl⟩ : Ar 2)]] hF Try.results79 ⟨⟨_, rfl, rv_box hM (i := 0) rfl Try.isAgg51 Try.sizeOf51 rfl⟩, trivial⟩ ?_
    exact ⟨_, rfl, hM.frm, rfl⟩

/-! ### loop.example/g01210/spec.MeanRolled: function 51 -/
def spec_MeanRolled.l3 (K : Nat) (l0 : (List (Ar 6))) (t7 : (List Int)) (x46 : Int) : Nat → Int → Int → Option Int
  | 0, _, _ => none
  | k + 1, x56, x57 => if x57 < (l0.length : Int) then (if (0 : Int) ≤ x46 ∧ x46 < (t7.length : Int) then (if 0 ≤ x57 then (spec_MeanRolled.l3 K l0 t7 x46 k (wrap64 (x56 + (Go.bits .and .i64 ((t7.getD (x46 : Int).toNat (0 : Int)).fdiv (2 ^ (min (x57 : Int).toNat 64))) 1))) (wrap64 (x57 + 1))) else none) else none) else (some x56)
def spec_MeanRolled.l2 (K : Nat) (l0 : (List (Ar 6))) (t7 : (List Int)) : Nat → Int → Int → Option Int
  | 0, _, _ => none
  | k + 1, x45, x46 => if x46 < (t7.length : Int) then ((spec_MeanRolled.l3 K l0 t7 x46 K x45 0).bind fun x55 => spec_MeanRolled.l2 K l0 t7 k x55 (wrap64 (x46 + 1))) else (some x45)
def spec_MeanRolled.f (K : Nat) (l0 : (List (Ar 6))) (a1 : (Int × Int)) (a2 : Int) : Option ((Ar 2) × Bool) := (spec_l6Good.f K l0 a1 a2).bind fun t3 => if t3 = true then (if a2 < 1 then (some ((⟨[0, 0], rfl⟩ : Ar 2), false)) else ((spec_l6Plan.f K l0 a1 a2).bind fun t7 => (spec_MeanRolled.l2 K l0 t7 K 0 0).bind fun x44 => (spec_l2Cut.f K x44 (t7.length : Int)).bind fun t65 => some (t65, true))) else (some ((⟨[0, 0], rfl⟩ : Ar 2), false))
set_option maxRecDepth 100000 in
set_option maxHeartbeats 4000000 in
theorem spec_MeanRolled.calls {w0 : World} (K : Nat) (l0 : (List (Ar 6))) (u0 : Value) (q0 : SlR cd28 w0 u0 l0) (a1 : (Int × Int)) (a2 : Int) (r : ((Ar 2) × Bool)) (H : spec_MeanRolled.f K l0 a1 a2 = some r) : Calls Try.prog 51 [u0, ag [Pt.int a1.1, Pt.int a1.2], Value.int .i64 a2].toArray w0 (Post w0 fun w v => v = Value.tuple #[ag [Pt.ar r.1], Value.bool r.2]) := by
  rw [spec_MeanRolled.f] at H
  refine s_start Try.func51 rfl Try.ntmps51 rfl ?_
  intro a hF
  have hM := Ms.start w0
  skip
  refine wp_seq ?_
  refine s_region ?_
  refine s_box (ps := [Pt.int a1.1, Pt.int a1.2]) hF hM rfl rfl rfl rfl ?_; intro a w b1 hF hM
  refine s_alloc (ps := [Pt.ar (Ar.zero 2)]) hF hM rfl rfl zv51 rfl ?_; intro a w b2 hF hM
  refine s_val hF rfl rfl rfl (e_assign hF rfl) ?_; intro a hF
  refine s_nil ?_
  refine then_n ?_
  refine wp_seq ?_
  refine wp_seq ?_
  obtain ⟨t3, h4, H⟩ := bind_some H
  rcases ite_cases H with ⟨c5, H⟩ | ⟨c5, H⟩
  ·
    refine s_region ?_
    refine s_val hF rfl rfl rfl (e_move hF rfl) ?_; intro a hF
    refine s_val hF rfl rfl rfl (e_lda (i := 1) 0 2 hF hM rfl rfl rfl rfl Try.isAgg25 Try.sizeOf25 rfl) ?_; intro a hF
    refine s_val hF rfl rfl rfl (e_move hF rfl) ?_; intro a hF
    refine s_call hF rfl rfl rfl Try.call78 (spec_l6Good.calls K l0 u0 (q0.frm hM.frm) a1 a2 t3 h4) ?_; intro a w v hF hf hR
    subst hR; have hM := hM.grow hf
    refine s_val hF rfl rfl rfl (e_not hF rfl) ?_; intro a hF
    refine s_val hF rfl rfl rfl (e_move hF rfl) ?_; intro a hF
    have hF := hF.topb (congrArg Bool.not c5)
    refine s_val hF rfl rfl rfl (e_move hF rfl) ?_; intro a hF
    refine s_val hF rfl rfl rfl (e_lss hF rfl rfl) ?_; intro a hF
    refine s_val hF rfl rfl rfl (e_pick_f hF rfl rfl) ?_; intro a hF
    refine s_nil ?_
    refine then_n ?_
    rcases ite_cases H with ⟨c6, H⟩ | ⟨c6, H⟩
    ·
      refine s_cond_t hF rfl (decide_eq_true c6) ?_
      refine wp_seq ?_
      refine s_region ?_
      refine s_val hF rfl rfl rfl (e_build' (cells := cat [Pt.ar (⟨[0, 0], rfl⟩ : Ar 2)]) hF rfl (by kernel_rfl)) ?_; intro a hF
      refine s_stw (i := 0) (ps' := [Pt.ar (⟨[0, 0], rfl⟩ : Ar 2)]) hF hM rfl rfl rfl rfl rfl rfl Try.sizeOf51 rfl ?_; intro a w hF hM
      refine s_val hF rfl rfl rfl (e_assign hF rfl) ?_; intro a hF
      refine s_nil ?_
      refine then_n ?_
      refine wp_ret ?_
      refine then_r ?_
      obtain rfl := some_some H
      refine s_ret [ag [Pt.ar (⟨[0, 0], rfl⟩ : Ar 2)], Value.bool false] hF Try.results51 ⟨⟨_, rfl, rv_box hM (i := 0) rfl Try.isAgg51 Try.sizeOf51 rfl⟩, rfl, trivial⟩ ?_
      exact ⟨_, rfl, hM.frm, rfl⟩
    ·
      refine s_cond_f hF rfl (decide_eq_false c6) ?_
      refine wp_skip ?_
      refine then_n ?_
      refine wp_seq ?_
      obtain ⟨t7, h8, H⟩ := bind_some H
      refine s_region ?_
      refine s_val hF rfl rfl rfl (e_move hF rfl) ?_; intro a hF
      refine s_val hF rfl rfl rfl (e_lda (i := 1) 0 2 hF hM rfl rfl rfl rfl Try.isAgg25 Try.sizeOf25 rfl) ?_; intro a hF
      refine s_val hF rfl rfl rfl (e_move hF rfl) ?_; intro a hF
      refine s_call hF rfl rfl rfl Try.call88 (spec_l6Plan.calls K l0 u0 (q0.frm hM.frm) a1 a2 t7 h8) ?_; intro a w v9 hF hf hR
      have hM := hM.fresh hf hR
      refine s_val hF rfl rfl rfl (e_assign hF rfl) ?_; intro a hF
      refine s_val hF rfl rfl rfl (e_assign hF rfl) ?_; intro a hF
      refine s_nil ?_
      refine then_n ?_
      refine wp_seq ?_
      refine wp_seq ?_
      refine s_region ?_
      refine s_val hF rfl rfl rfl (e_assign hF rfl) ?_; intro a hF
      refine s_nil ?_
      refine then_n ?_
      refine wp_block ?_
      obtain ⟨o63, h64, H⟩ := bind_some H
      refine wp_mono (Q := fun e a w => (e = Exit.exit 0 ∧ ∃ x44 : Int, x44 = o63 ∧ Fr 51 a [(6, pt b2 0), (8, Value.int .i64 x44), (9, v9)] ∧ Ms [] w0 w [boxR b2 [Pt.ar (Ar.zero 2)] 51, rowR cd3 v9 t7])) ?_ ?_
      · refine s_loop (fun kq a w => ∃ x45 : Int, ∃ x46 : Int, spec_MeanRolled.l2 K l0 t7 kq x45 x46 = some o63 ∧ Fr 51 a [(0, u0), (6, pt b2 0), (8, Value.int .i64 x45), (9, v9), (10, Value.int .i64 x46)] ∧ Ms [] w0 w [boxR b2 [Pt.ar (Ar.zero 2)] 51, rowR cd3 v9 t7]) K ⟨0, 0, h64, hF.sub _ ⟨rfl, rfl, rfl, rfl, rfl, trivial⟩, hM.pick [1, 0] rfl rfl⟩ ?_ ?_
        · rintro a w ⟨_, _, H, _⟩; exact none_some H
        · rintro k a w ⟨x45, x46, H, hF, hM⟩; rw [spec_MeanRolled.l2] at H
          refine wp_seq ?_
          refine wp_seq ?_
          refine s_region ?_
          refine s_val hF rfl rfl rfl (e_move hF rfl) ?_; intro a hF
          refine s_val hF rfl rfl rfl (e_move hF rfl) ?_; intro a hF
          refine s_val hF rfl rfl rfl (e_len hF rfl (hM.sl 1 rfl).toF Try.underlying33) ?_; intro a hF
          refine s_val hF rfl rfl rfl (e_lss hF rfl rfl) ?_; intro a hF
          refine s_nil ?_
          refine then_n ?_
          rcases ite_cases H with ⟨c47, H⟩ | ⟨c47, H⟩
          ·
            refine s_cond_t hF rfl (decide_eq_true c47) ?_
            refine wp_skip ?_
            refine then_n ?_
            refine wp_seq ?_
            refine wp_block ?_
            refine wp_seq ?_
            refine s_region ?_
            refine s_val hF rfl rfl rfl (e_assign hF rfl) ?_; intro a hF
            refine s_nil ?_
            refine then_n ?_
            refine wp_block ?_
            obtain ⟨o61, h62, H⟩ := bind_some H
            refine wp_mono (Q := fun e a w => (e = Exit.exit 2 ∧ ∃ x55 : Int, x55 = o61 ∧ Fr 51 a [(0, u0), (6, pt b2 0), (8, Value.int .i64 x55), (9, v9), (10, Value.int .i64 x46)] ∧ Ms [] w0 w [boxR b2 [Pt.ar (Ar.zero 2)] 51, rowR cd3 v9 t7])) ?_ ?_
            · refine s_loop (fun kq a w => ∃ x56 : Int, ∃ x57 : Int, spec_MeanRolled.l3 K l0 t7 x46 kq x56 x57 = some o61 ∧ Fr 51 a [(0, u0), (6, pt b2 0), (8, Value.int .i64 x56), (9, v9), (10, Value.int .i64 x46), (11, Value.int .i64 x57)] ∧ Ms [] w0 w [boxR b2 [Pt.ar (Ar.zero 2)] 51, rowR cd3 v9 t7]) K ⟨x45, 0, h62, hF.sub _ ⟨rfl, rfl, rfl, rfl, rfl, rfl, trivial⟩, hM.pick [0, 1] rfl rfl⟩ ?_ ?_
              · rintro a w ⟨_, _, H, _⟩; exact none_some H
              · rintro k a w ⟨x56, x57, H, hF, hM⟩; rw [spec_MeanRolled.l3] at H
                refine wp_seq ?_
                refine wp_seq ?_
                refine s_region ?_
                refine s_val hF rfl rfl rfl (e_move hF rfl) ?_; intro a hF
                refine s_val hF rfl rfl rfl (e_move hF rfl) ?_; intro a hF
                refine s_val hF rfl rfl rfl (e_len hF rfl (q0.frm hM.frm).toF Try.underlying43) ?_; intro a hF
                refine s_val hF rfl rfl rfl (e_lss hF rfl rfl) ?_; intro a hF
                refine s_nil ?_
                refine then_n ?_
                rcases ite_cases H with ⟨c58, H⟩ | ⟨c58, H⟩
                ·
                  refine s_cond_t hF rfl (decide_eq_true c58) ?_
                  refine wp_skip ?_
                  refine then_n ?_
                  refine wp_seq ?_
                  refine wp_block ?_
                  obtain ⟨c59, H⟩ := ite_some H
                  obtain ⟨c60, H⟩ := ite_some H
                  refine s_region ?_
                  refine s_val hF rfl rfl rfl (e_move hF rfl) ?_; intro a hF
                  refine s_val hF rfl rfl rfl (e_move hF rfl) ?_; intro a hF
                  refine s_val hF rfl rfl rfl (e_move hF rfl) ?_; intro a hF
                  refine s_val hF rfl rfl rfl (e_ias cd3 hF rfl rfl (hM.sl 1 rfl).toF Try.underlying33 Try.sizeOf3 c59.1 c59.2) ?_; intro a hF
                  refine s_val hF rfl rfl rfl (e_lds (m := x46) hF rfl (hM.sl 1 rfl) (getD_some (z := (0 : Int)) c59.1 c59.2) rfl rfl Try.isAgg3) ?_; intro a hF
                  refine s_val hF rfl rfl rfl (e_move hF rfl) ?_; intro a hF
                  refine s_val hF rfl rfl rfl (e_shr hF rfl rfl c60) ?_; intro a hF
                  refine s_val hF rfl rfl rfl (e_and hF rfl rfl) ?_; intro a hF
                  refine s_val hF rfl rfl rfl (e_add hF rfl rfl) ?_; intro a hF
                  refine s_val hF rfl rfl rfl (e_assign hF rfl) ?_; intro a hF
                  refine s_nil ?_
                  refine blk_n ?_
                  refine then_n ?_
                  refine s_region ?_
                  refine s_val hF rfl rfl rfl (e_move hF rfl) ?_; intro a hF
                  refine s_val hF rfl rfl rfl (e_add hF rfl rfl) ?_; intro a hF
                  refine s_val hF rfl rfl rfl (e_assign hF rfl) ?_; intro a hF
                  refine s_nil ?_
                  refine then_n ?_
                  exact ⟨(wrap64 (x56 + (Go.bits .and .i64 ((t7.getD (x46 : Int).toNat (0 : Int)).fdiv (2 ^ (min (x57 : Int).toNat 64))) 1))), (wrap64 (x57 + 1)), H, hF.sub _ ⟨rfl, rfl, rfl, rfl, rfl, rfl, trivial⟩, hM.pick [0, 1] rfl rfl⟩
                ·
                  refine s_cond_f hF rfl (decide_eq_false c58) ?_
                  refine wp_exit ?_
                  refine then_x ?_
                  refine then_x ?_
                  exact ⟨rfl, x56, some_some H, hF.sub _ ⟨rfl, rfl, rfl, rfl, rfl, trivial⟩, hM.pick [0, 1] rfl rfl⟩
            · rintro e a w ⟨rfl, x55, rfl, hF, hM⟩
              skip
              refine blk_x ?_
              refine blk_n ?_
              refine then_n ?_
              refine s_region ?_
              refine s_val hF rfl rfl rfl (e_move hF rfl) ?_; intro a hF
              refine s_val hF rfl rfl rfl (e_add hF rfl rfl) ?_; intro a hF
              refine s_val hF rfl rfl rfl (e_assign hF rfl) ?_; intro a hF
              refine s_nil ?_
              refine then_n ?_
              exact ⟨x55, (wrap64 (x46 + 1)), H, hF.sub _ ⟨rfl, rfl, rfl, rfl, rfl, trivial⟩, hM.pick [0, 1] rfl rfl⟩
          ·
            refine s_cond_f hF rfl (decide_eq_false c47) ?_
            refine wp_exit ?_
            refine then_x ?_
            refine then_x ?_
            exact ⟨rfl, x45, some_some H, hF.sub _ ⟨rfl, rfl, rfl, trivial⟩, hM.pick [0, 1] rfl rfl⟩
      · rintro e a w ⟨rfl, x44, rfl, hF, hM⟩
        skip
        refine blk_x ?_
        refine then_n ?_
        refine wp_seq ?_
        obtain ⟨t65, h66, H⟩ := bind_some H
        refine s_region ?_
        refine s_val hF rfl rfl rfl (e_move hF rfl) ?_; intro a hF
        refine s_val hF rfl rfl rfl (e_move hF rfl) ?_; intro a hF
        refine s_val hF rfl rfl rfl (e_len hF rfl (hM.sl 1 rfl).toF Try.underlying33) ?_; intro a hF
        refine s_call hF rfl rfl rfl Try.call79 (spec_l2Cut.calls K x44 (t7.length : Int) t65 h66) ?_; intro a w v hF hf hR
        subst hR; have hM := hM.grow hf
        refine s_stw (i := 0) (ps' := [Pt.ar t65]) hF hM rfl rfl rfl rfl rfl rfl Try.sizeOf51 rfl ?_; intro a w hF hM
        refine s_val hF rfl rfl rfl (e_assign hF rfl) ?_; intro a hF
        refine s_nil ?_
        refine then_n ?_
        refine wp_ret ?_
        obtain rfl := some_some H
        refine s_ret [ag [Pt.ar t65], Value.bool true] hF Try.results51 ⟨⟨_, rfl, rv_box hM (i := 0) rfl Try.isAgg51 Try.sizeOf51 rfl⟩, rfl, trivial⟩ ?_
        exact ⟨_, rfl, hM.frm, rfl⟩
  ·
    refine s_region ?_
    refine s_val hF rfl rfl rfl (e_move hF rfl) ?_; intro a hF
    refine s_val hF rfl rfl rfl (e_lda (i := 1) 0 2 hF hM rfl rfl rfl rfl Try.isAgg25 Try.sizeOf25 rfl) ?_; intro a hF
    refine s_val hF rfl rfl rfl (e_move hF rfl) ?_; intro a hF
    refine s_call hF rfl rfl rfl Try.call78 (spec_l6Good.calls K l0 u0 (q0.frm hM.frm) a1 a2 t3 h4) ?_; intro a w v hF hf hR
    subst hR; have hM := hM.grow hf
    refine s_val hF rfl rfl rfl (e_not hF rfl) ?_; intro a hF
    refine s_val hF rfl rfl rfl (e_move hF rfl) ?_; intro a hF
    have hF := hF.topb (congrArg Bool.not (bf c5))
    refine s_skip hF rfl rfl rfl ?_; intro a hF
    refine s_skip hF rfl rfl rfl ?_; intro a hF
    refine s_val hF rfl rfl rfl (e_pick_t hF rfl rfl) ?_; intro a hF
    refine s_nil ?_
    refine then_n ?_
    refine s_cond_t hF rfl rfl ?_
    refine wp_seq ?_
    refine s_region ?_
    refine s_val hF rfl rfl rfl (e_build' (cells := cat [Pt.ar (⟨[0, 0], rfl⟩ : Ar 2)]) hF rfl (by kernel_rfl)) ?_; intro a hF
    refine s_stw (i := 0) (ps' := [Pt.ar (⟨[0, 0], rfl⟩ : Ar 2)]) hF hM rfl rfl rfl rfl rfl rfl Try.sizeOf51 rfl ?_; intro a w hF hM
    refine s_val hF rfl rfl rfl (e_assign hF rfl) ?_; intro a hF
    refine s_nil ?_
    refine then_n ?_
    refine wp_ret ?_
    refine then_r ?_
    obtain rfl := some_some H
    refine s_ret [ag [Pt.ar (⟨[0, 0], rfl⟩ : Ar 2)], Value.bool false] hF Try.results51 ⟨⟨_, rfl, rv_box hM (i := 0) rfl Try.isAgg51 Try.sizeOf51 rfl⟩, rfl, trivial⟩ ?_
    exact ⟨_, rfl, hM.frm, rfl⟩

/-! ### loop.example/g01210/impl.within: function 54 -/
def impl_within.f (K : Nat) (a0 : Int) (a1 : Int) (a2 : Int) : Option Bool := if a1 ≤ a0 then (some (decide (a0 ≤ a2))) else (some false)
set_option maxRecDepth 100000 in
set_option maxHeartbeats 4000000 in
theorem impl_within.calls {w0 : World} (K : Nat) (a0 : Int) (a1 : Int) (a2 : Int) (r : Bool) (H : impl_within.f K a0 a1 a2 = some r) : Calls Try.prog 54 [Value.int .i64 a0, Value.int .i64 a1, Value.int .i64 a2].toArray w0 (Post w0 fun w v => v = Value.bool r) := by
  rw [impl_within.f] at H
  refine s_start Try.func54 rfl Try.ntmps54 rfl ?_
  intro a hF
  have hM := Ms.start w0
  skip
  refine wp_seq ?_
  refine s_region ?_
  refine s_val hF rfl rfl rfl (e_assign hF rfl) ?_; intro a hF
  refine s_nil ?_
  refine then_n ?_
  refine wp_seq ?_
  rcases ite_cases H with ⟨c1, H⟩ | ⟨c1, H⟩
  ·
    refine s_region ?_
    refine s_val hF rfl rfl rfl (e_move hF rfl) ?_; intro a hF
    refine s_val hF rfl rfl rfl (e_move hF rfl) ?_; intro a hF
    refine s_val hF rfl rfl rfl (e_leq hF rfl rfl) ?_; intro a hF
    refine s_val hF rfl rfl rfl (e_move hF rfl) ?_; intro a hF
    have hF := hF.topb (decide_eq_true c1)
    refine s_val hF rfl rfl rfl (e_move hF rfl) ?_; intro a hF
    refine s_val hF rfl rfl rfl (e_move hF rfl) ?_; intro a hF
    refine s_val hF rfl rfl rfl (e_leq hF rfl rfl) ?_; intro a hF
    refine s_val hF rfl rfl rfl (e_pick_t hF rfl rfl) ?_; intro a hF
    refine s_val hF rfl rfl rfl (e_assign hF rfl) ?_; intro a hF
    refine s_nil ?_
    refine then_n ?_
    refine wp_ret ?_
    obtain rfl := some_some H
    refine s_ret [Value.bool (decide (a0 ≤ a2))] hF Try.results54 ⟨rfl, trivial⟩ ?_
    exact ⟨_, rfl, hM.frm, rfl⟩
  ·
    refine s_region ?_
    refine s_val hF rfl rfl rfl (e_move hF rfl) ?_; intro a hF
    refine s_val hF rfl rfl rfl (e_move hF rfl) ?_; intro a hF
    refine s_val hF rfl rfl rfl (e_leq hF rfl rfl) ?_; intro a hF
    refine s_val hF rfl rfl rfl (e_move hF rfl) ?_; intro a hF
    have hF := hF.topb (decide_eq_false c1)
    refine s_skip hF rfl rfl rfl ?_; intro a hF
    refine s_skip hF rfl rfl rfl ?_; intro a hF
    refine s_skip hF rfl rfl rfl ?_; intro a hF
    refine s_val hF rfl rfl rfl (e_pick_f hF rfl rfl) ?_; intro a hF
    refine s_val hF rfl rfl rfl (e_assign hF rfl) ?_; intro a hF
    refine s_nil ?_
    refine then_n ?_
    refine wp_ret ?_
    obtain rfl := some_some H
    refine s_ret [Value.bool false] hF Try.results54 ⟨rfl, trivial⟩ ?_
    exact ⟨_, rfl, hM.frm, rfl⟩

/-! ### loop.example/g01210/impl.isFace: function 63 -/
def impl_isFace.f (K : Nat) (a0 : Int) : Option Bool := (impl_within.f K a0 0 30).bind fun t1 => some t1
set_option maxRecDepth 100000 in
set_option maxHeartbeats 4000000 in
theorem impl_isFace.calls {w0 : World} (K : Nat) (a0 : Int) (r : Bool) (H : impl_isFace.f K a0 = some r) : Calls Try.prog 63 [Value.int .i64 a0].toArray w0 (Post w0 fun w v => v = Value.bool r) := by
  rw [impl_isFace.f] at H
  refine s_start Try.func63 rfl Try.ntmps63 rfl ?_
  intro a hF
  have hM := Ms.start w0
  skip
  refine wp_seq ?_
  refine s_region ?_
  refine s_val hF rfl rfl rfl (e_assign hF rfl) ?_; intro a hF
  refine s_nil ?_
  refine then_n ?_
  refine wp_seq ?_
  obtain ⟨t1, h2, H⟩ := bind_some H
  refine s_region ?_
  refine s_val hF rfl rfl rfl (e_move hF rfl) ?_; intro a hF
  refine s_call hF rfl rfl rfl Try.call54 (impl_within.calls K a0 0 30 t1 h2) ?_; intro a w v hF hf hR
  subst hR; have hM := hM.grow hf
  refine s_val hF rfl rfl rfl (e_assign hF rfl) ?_; intro a hF
  refine s_nil ?_
  refine then_n ?_
  refine wp_ret ?_
  obtain rfl := some_some H
  refine s_ret [Value.bool t1] hF Try.results63 ⟨rfl, trivial⟩ ?_
  exact ⟨_, rfl, hM.frm, rfl⟩

/-! ### loop.example/g01210/impl.areAll[int]$1: function 98 -/
def impl_areAll_int_1__isFace.f (K : Nat) (a0 : Int) : Option Bool := (impl_isFace.f K a0).bind fun t3 => some (!t3)
set_option maxRecDepth 100000 in
set_option maxHeartbeats 4000000 in
theorem impl_areAll_int_1__isFace.calls {w0 : World} (K : Nat) (a0 : Int) (b1 : Nat) (q2 : (boxR b1 [Pt.val (Value.func (.func 63) #[] #[]) rfl] 69).holds w0) (r : Bool) (H : impl_areAll_int_1__isFace.f K a0 = some r) : Calls Try.prog 98 [Value.int .i64 a0, pt b1 0].toArray w0 (Post w0 fun w v => v = Value.bool r) := by
  rw [impl_areAll_int_1__isFace.f] at H
  refine s_start Try.func98 rfl Try.ntmps98 rfl ?_
  intro a hF
  have hM := Ms.start w0
  skip
  refine wp_seq ?_
  refine s_region ?_
  refine s_val hF rfl rfl rfl (e_assign hF rfl) ?_; intro a hF
  refine s_nil ?_
  refine then_n ?_
  refine wp_seq ?_
  obtain ⟨t3, h4, H⟩ := bind_some H
  refine s_region ?_
  refine s_val hF rfl rfl rfl (e_ld (i := 0) (k := 0) hF (lent_ms (box_frm q2 hM.frm)) rfl rfl rfl rfl Try.isAgg69 rfl) ?_; intro a hF
  refine s_val hF rfl rfl rfl (e_move hF rfl) ?_; intro a hF
  refine s_callv hF rfl rfl rfl rfl (callsV_of Try.call63 (impl_isFace.calls K a0 t3 h4)) ?_; intro a w v hF ⟨hf, hR⟩
  subst hR; have hM := hM.grow hf
  refine s_val hF rfl rfl rfl (e_not hF rfl) ?_; intro a hF
  refine s_val hF rfl rfl rfl (e_assign hF rfl) ?_; intro a hF
  refine s_nil ?_
  refine then_n ?_
  refine wp_ret ?_
  obtain rfl := some_some H
  refine s_ret [Value.bool (!t3)] hF Try.results98 ⟨rfl, trivial⟩ ?_
  exact ⟨_, rfl, hM.frm, rfl⟩

/-! ### slices.IndexFunc[[]int,int]: function 110 -/
def slices_IndexFunc_int_int__areAll_int_1_isFace.l0 (K : Nat) (l0 : (List Int)) : Nat → Int → Option (Sum Unit Int)
  | 0, _ => none
  | k + 1, x14 => if x14 < (l0.length : Int) then (if (0 : Int) ≤ x14 ∧ x14 < (l0.length : Int) then ((impl_areAll_int_1__isFace.f K (l0.getD (x14 : Int).toNat (0 : Int))).bind fun t17 => if t17 = true then (some (Sum.inr x14)) else (slices_IndexFunc_int_int__areAll_int_1_isFace.l0 K l0 k (wrap64 (x14 + 1)))) else none) else (some (Sum.inl ()))
def slices_IndexFunc_int_int__areAll_int_1_isFace.f (K : Nat) (l0 : (List Int)) : Option Int := (slices_IndexFunc_int_int__areAll_int_1_isFace.l0 K l0 K 0).bind fun o20 => (match o20 with | .inl () => some (-1) | .inr r22 => some r22)
set_option maxRecDepth 100000 in
set_option maxHeartbeats 4000000 in
theorem slices_IndexFunc_int_int__areAll_int_1_isFace.calls {w0 : World} (K : Nat) (l0 : (List Int)) (u0 : Value) (q0 : SlR cd3 w0 u0 l0) (b1 : Nat) (q2 : (boxR b1 [Pt.val (Value.func (.func 63) #[] #[]) rfl] 69).holds w0) (r : Int) (H : slices_IndexFunc_int_int__areAll_int_1_isFace.f K l0 = some r) : Calls Try.prog 110 [u0, Value.func (.func 98) #[] #[pt b1 0]].toArray w0 (Post w0 fun w v => v = Value.int .i64 r) := by
  rw [slices_IndexFunc_int_int__areAll_int_1_isFace.f] at H
  refine s_start Try.func110 rfl Try.ntmps110 rfl ?_
  intro a hF
  have hM := Ms.start w0
  skip
  refine wp_seq ?_
  refine s_region ?_
  refine s_val hF rfl rfl rfl (e_assign hF rfl) ?_; intro a hF
  refine s_nil ?_
  refine then_n ?_
  refine wp_seq ?_
  refine wp_seq ?_
  refine s_region ?_
  refine s_val hF rfl rfl rfl (e_move hF rfl) ?_; intro a hF
  refine s_val hF rfl rfl rfl (e_len hF rfl (q0.frm hM.frm).toF Try.underlying33) ?_; intro a hF
  refine s_val hF rfl rfl rfl (e_move hF rfl) ?_; intro a hF
  refine s_nil ?_
  refine then_n ?_
  refine wp_block ?_
  obtain ⟨o20, h21, H⟩ := bind_some H
  refine wp_mono (Q := fun e a w => (e = Exit.exit 0 ∧ Sum.inl () = o20 ∧ Fr 19 a [] ∧ Ms [] w0 w []) ∨ (e = Exit.ret ∧ ∃ r22 : Int, Sum.inr r22 = o20 ∧ Fr 19 a [(4, Value.int .i64 r22)] ∧ Ms [] w0 w [])) ?_ ?_
  · refine s_loop (fun kq a w => ∃ x14 : Int, slices_IndexFunc_int_int__areAll_int_1_isFace.l0 K l0 kq x14 = some o20 ∧ Fr 19 a [(0, u0), (1, Value.func (.func 98) #[] #[pt b1 0]), (7, Value.int .i64 (l0.length : Int)), (8, Value.int .i64 x14)] ∧ Ms [] w0 w []) K ⟨0, h21, hF.sub _ ⟨rfl, rfl, rfl, rfl, trivial⟩, hM.pick [] rfl rfl⟩ ?_ ?_
    · rintro a w ⟨_, H, _⟩; exact none_some H
    · rintro k a w ⟨x14, H, hF, hM⟩; rw [slices_IndexFunc_int_int__areAll_int_1_isFace.l0] at H
      refine wp_seq ?_
      refine s_region ?_
      refine s_val hF rfl rfl rfl (e_lss hF rfl rfl) ?_; intro a hF
      refine s_nil ?_
      refine then_n ?_
      refine wp_seq ?_
      rcases ite_cases H with ⟨c15, H⟩ | ⟨c15, H⟩
      ·
        refine s_cond_t hF rfl (decide_eq_true c15) ?_
        refine wp_skip ?_
        refine then_n ?_
        refine wp_seq ?_
        refine wp_block ?_
        refine wp_seq ?_
        refine s_region ?_
        refine s_val hF rfl rfl rfl (e_move hF rfl) ?_; intro a hF
        refine s_val hF rfl rfl rfl (e_assign hF rfl) ?_; intro a hF
        refine s_nil ?_
        refine then_n ?_
        refine wp_seq ?_
        obtain ⟨c16, H⟩ := ite_some H
        obtain ⟨t17, h18, H⟩ := bind_some H
        refine s_region ?_
        refine s_val hF rfl rfl rfl (e_move hF rfl) ?_; intro a hF
        refine s_val hF rfl rfl rfl (e_move hF rfl) ?_; intro a hF
        refine s_val hF rfl rfl rfl (e_move hF rfl) ?_; intro a hF
        refine s_val hF rfl rfl rfl (e_ias cd3 hF rfl rfl (q0.frm hM.frm).toF Try.underlying33 Try.sizeOf3 c16.1 c16.2) ?_; intro a hF
        refine s_val hF rfl rfl rfl (e_lds (m := x14) hF rfl (q0.frm hM.frm) (getD_some (z := (0 : Int)) c16.1 c16.2) rfl rfl Try.isAgg3) ?_; intro a hF
        refine s_callv hF rfl rfl rfl rfl (callsV_of Try.call98 (impl_areAll_int_1__isFace.calls K (l0.getD (x14 : Int).toNat (0 : Int)) b1 (box_frm q2 hM.frm) t17 h18)) ?_; intro a w v hF ⟨hf, hR⟩
        subst hR; have hM := hM.grow hf
        refine s_nil ?_
        refine then_n ?_
        rcases ite_cases H with ⟨c19, H⟩ | ⟨c19, H⟩
        ·
          refine s_cond_t hF rfl c19 ?_
          refine wp_seq ?_
          refine s_region ?_
          refine s_val hF rfl rfl rfl (e_move hF rfl) ?_; intro a hF
          refine s_val hF rfl rfl rfl (e_assign hF rfl) ?_; intro a hF
          refine s_nil ?_
          refine then_n ?_
          refine wp_ret ?_
          refine blk_r ?_
          refine then_r ?_
          refine then_r ?_
          exact Or.inr (⟨rfl, x14, some_some H, hF.sub _ ⟨rfl, trivial⟩, hM.pick [] rfl rfl⟩)
        ·
          refine s_cond_f hF rfl (bf c19) ?_
          refine wp_skip ?_
          refine blk_n ?_
          refine then_n ?_
          refine s_region ?_
          refine s_val hF rfl rfl rfl (e_add hF rfl rfl) ?_; intro a hF
          refine s_val hF rfl rfl rfl (e_move hF rfl) ?_; intro a hF
          refine s_nil ?_
          refine then_n ?_
          exact ⟨(wrap64 (x14 + 1)), H, hF.sub _ ⟨rfl, rfl, rfl, rfl, trivial⟩, hM.pick [] rfl rfl⟩
      ·
        refine s_cond_f hF rfl (decide_eq_false c15) ?_
        refine wp_exit ?_
        refine then_x ?_
        refine then_x ?_
        exact Or.inl (⟨rfl, some_some H, hF.sub _ trivial, hM.pick [] rfl rfl⟩)
  · rintro e a w (⟨rfl, rfl, hF, hM⟩ | ⟨rfl, r22, rfl, hF, hM⟩)
    ·
      dsimp only at H
      refine blk_x ?_
      refine then_n ?_
      refine wp_seq ?_
      refine s_region ?_
      refine s_val hF rfl rfl rfl (e_assign hF rfl) ?_; intro a hF
      refine s_nil ?_
      refine then_n ?_
      refine wp_ret ?_
      obtain rfl := some_some H
      refine s_ret [Value.int .i64 (-1)] hF Try.results110 ⟨rfl, trivial⟩ ?_
      exact ⟨_, rfl, hM.frm, rfl⟩
    ·
      dsimp only at H
      refine blk_r ?_
      refine then_r ?_
      obtain rfl := some_some H
      refine s_ret [Value.int .i64 r22] hF Try.results110 ⟨rfl, trivial⟩ ?_
      exact ⟨_, rfl, hM.frm, rfl⟩

/-! ### slices.ContainsFunc[[]int,int]: function 97 -/
def slices_ContainsFunc_int_int__areAll_int_1_isFace.f (K : Nat) (l0 : (List Int)) : Option Bool := (slices_IndexFunc_int_int__areAll_int_1_isFace.f K l0).bind fun t3 => some (decide (0 ≤ t3))
set_option maxRecDepth 100000 in
set_option maxHeartbeats 4000000 in
theorem slices_ContainsFunc_int_int__areAll_int_1_isFace.calls {w0 : World} (K : Nat) (l0 : (List Int)) (u0 : Value) (q0 : SlR cd3 w0 u0 l0) (b1 : Nat) (q2 : (boxR b1 [Pt.val (Value.func (.func 63) #[] #[]) rfl] 69).holds w0) (r : Bool) (H : slices_ContainsFunc_int_int__areAll_int_1_isFace.f K l0 = some r) : Calls Try.prog 97 [u0, Value.func (.func 98) #[] #[pt b1 0]].toArray w0 (Post w0 fun w v => v = Value.bool r) := by
  rw [slices_ContainsFunc_int_int__areAll_int_1_isFace.f] at H
  refine s_start Try.func97 rfl Try.ntmps97 rfl ?_
  intro a hF
  have hM := Ms.start w0
  skip
  refine wp_seq ?_
  refine s_region ?_
  refine s_val hF rfl rfl rfl (e_assign hF rfl) ?_; intro a hF
  refine s_nil ?_
  refine then_n ?_
  refine wp_seq ?_
  obtain ⟨t3, h4, H⟩ := bind_some H
  refine s_region ?_
  refine s_val hF rfl rfl rfl (e_move hF rfl) ?_; intro a hF
  refine s_val hF rfl rfl rfl (e_move hF rfl) ?_; intro a hF
  refine s_call hF rfl rfl rfl Try.call110 (slices_IndexFunc_int_int__areAll_int_1_isFace.calls K l0 u0 (q0.frm hM.frm) b1 (box_frm q2 hM.frm) t3 h4) ?_; intro a w v hF hf hR
  subst hR; have hM := hM.grow hf
  refine s_val hF rfl rfl rfl (e_geq hF rfl rfl) ?_; intro a hF
  refine s_val hF rfl rfl rfl (e_assign hF rfl) ?_; intro a hF
  refine s_nil ?_
  refine then_n ?_
  refine wp_ret ?_
  obtain rfl := some_some H
  refine s_ret [Value.bool (decide (0 ≤ t3))] hF Try.results97 ⟨rfl, trivial⟩ ?_
  exact ⟨_, rfl, hM.frm, rfl⟩

/-! ### loop.example/g01210/impl.areAll[int]: function 62 -/
def impl_areAll_int__isFace.f (K : Nat) (l0 : (List Int)) : Option Bool := (slices_ContainsFunc_int_int__areAll_int_1_isFace.f K l0).bind fun t2 => some (!t2)
set_option maxRecDepth 100000 in
set_option maxHeartbeats 4000000 in
theorem impl_areAll_int__isFace.calls {w0 : World} (K : Nat) (l0 : (List Int)) (u0 : Value) (q0 : SlR cd3 w0 u0 l0) (r : Bool) (H : impl_areAll_int__isFace.f K l0 = some r) : Calls Try.prog 62 [u0, Value.func (.func 63) #[] #[]].toArray w0 (Post w0 fun w v => v = Value.bool r) := by
  rw [impl_areAll_int__isFace.f] at H
  refine s_start Try.func62 rfl Try.ntmps62 rfl ?_
  intro a hF
  have hM := Ms.start w0
  skip
  refine wp_seq ?_
  refine s_region ?_
  refine s_box (ps := [Pt.val (Value.func (.func 63) #[] #[]) rfl]) hF hM rfl rfl rfl rfl ?_; intro a w b1 hF hM
  refine s_val hF rfl rfl rfl (e_assign hF rfl) ?_; intro a hF
  refine s_nil ?_
  refine then_n ?_
  refine wp_seq ?_
  obtain ⟨t2, h3, H⟩ := bind_some H
  refine s_region ?_
  refine s_val hF rfl rfl rfl (e_move hF rfl) ?_; intro a hF
  refine s_val hF rfl rfl rfl (e_mkfunc (hF.evs' rfl)) ?_; intro a hF
  refine s_call hF rfl rfl rfl Try.call97 (slices_ContainsFunc_int_int__areAll_int_1_isFace.calls K l0 u0 (q0.frm hM.frm) b1 (hM.get 0 rfl) t2 h3) ?_; intro a w v hF hf hR
  subst hR; have hM := hM.grow hf
  refine s_val hF rfl rfl rfl (e_not hF rfl) ?_; intro a hF
  refine s_val hF rfl rfl rfl (e_assign hF rfl) ?_; intro a hF
  refine s_nil ?_
  refine then_n ?_
  refine wp_ret ?_
  obtain rfl := some_some H
  refine s_ret [Value.bool (!t2)] hF Try.results62 ⟨rfl, trivial⟩ ?_
  exact ⟨_, rfl, hM.frm, rfl⟩

/-! ### cmp.isNaN[int]: function 113 -/
def cmp_isNaN_int.f (K : Nat) (a0 : Int) : Option Bool := some (!(decide (a0 = a0)))
set_option maxRecDepth 100000 in
set_option maxHeartbeats 4000000 in
theorem cmp_isNaN_int.calls {w0 : World} (K : Nat) (a0 : Int) (r : Bool) (H : cmp_isNaN_int.f K a0 = some r) : Calls Try.prog 113 [Value.int .i64 a0].toArray w0 (Post w0 fun w v => v = Value.bool r) := by
  rw [cmp_isNaN_int.f] at H
  refine s_start Try.func113 rfl Try.ntmps113 rfl ?_
  intro a hF
  have hM := Ms.start w0
  skip
  refine wp_seq ?_
  refine s_region ?_
  refine s_val hF rfl rfl rfl (e_assign hF rfl) ?_; intro a hF
  refine s_nil ?_
  refine then_n ?_
  refine wp_seq ?_
  refine s_region ?_
  refine s_val hF rfl rfl rfl (e_move hF rfl) ?_; intro a hF
  refine s_val hF rfl rfl rfl (e_move hF rfl) ?_; intro a hF
  refine s_val hF rfl rfl rfl (e_neq hF rfl rfl) ?_; intro a hF
  refine s_val hF rfl rfl rfl (e_assign hF rfl) ?_; intro a hF
  refine s_nil ?_
  refine then_n ?_
  refine wp_ret ?_
  obtain rfl := some_some H
  refine s_ret [Value.bool (!(decide (a0 = a0)))] hF Try.results113 ⟨rfl, trivial⟩ ?_
  exact ⟨_, rfl, hM.frm, rfl⟩

/-! ### cmp.Less[int]: function 109 -/
def cmp_Less_int.f (K : Nat) (a0 : Int) (a1 : Int) : Option Bool := (cmp_isNaN_int.f K a0).bind fun t1 => if t1 = true then ((cmp_isNaN_int.f K a1).bind fun t4 => if t4 = true then (some (decide (a0 < a1))) else (some true)) else (some (decide (a0 < a1)))
set_option maxRecDepth 100000 in
set_option maxHeartbeats 4000000 in
theorem cmp_Less_int.calls {w0 : World} (K : Nat) (a0 : Int) (a1 : Int) (r : Bool) (H : cmp_Less_int.f K a0 a1 = some r) : Calls Try.prog 109 [Value.int .i64 a0, Value.int .i64 a1].toArray w0 (Post w0 fun w v => v = Value.bool r) := by
  rw [cmp_Less_int.f] at H
  refine s_start Try.func109 rfl Try.ntmps109 rfl ?_
  intro a hF
  have hM := Ms.start w0
  skip
  refine wp_seq ?_
  refine s_region ?_
  refine s_val hF rfl rfl rfl (e_assign hF rfl) ?_; intro a hF
  refine s_nil ?_
  refine then_n ?_
  refine wp_seq ?_
  obtain ⟨t1, h2, H⟩ := bind_some H
  rcases ite_cases H with ⟨c3, H⟩ | ⟨c3, H⟩
  ·
    obtain ⟨t4, h5, H⟩ := bind_some H
    rcases ite_cases H with ⟨c6, H⟩ | ⟨c6, H⟩
    ·
      refine s_region ?_
      refine s_val hF rfl rfl rfl (e_move hF rfl) ?_; intro a hF
      refine s_call hF rfl rfl rfl Try.call113 (cmp_isNaN_int.calls K a0 t1 h2) ?_; intro a w v hF hf hR
      subst hR; have hM := hM.grow hf
      refine s_val hF rfl rfl rfl (e_move hF rfl) ?_; intro a hF
      have hF := hF.topb c3
      refine s_val hF rfl rfl rfl (e_move hF rfl) ?_; intro a hF
      refine s_call hF rfl rfl rfl Try.call113 (cmp_isNaN_int.calls K a1 t4 h5) ?_; intro a w v hF hf hR
      subst hR; have hM := hM.grow hf
      refine s_val hF rfl rfl rfl (e_not hF rfl) ?_; intro a hF
      refine s_val hF rfl rfl rfl (e_pick_t hF rfl rfl) ?_; intro a hF
      refine s_val hF rfl rfl rfl (e_move hF rfl) ?_; intro a hF
      have hF := hF.topb (congrArg Bool.not c6)
      refine s_val hF rfl rfl rfl (e_move hF rfl) ?_; intro a hF
      refine s_val hF rfl rfl rfl (e_move hF rfl) ?_; intro a hF
      refine s_val hF rfl rfl rfl (e_lss hF rfl rfl) ?_; intro a hF
      refine s_val hF rfl rfl rfl (e_pick_f hF rfl rfl) ?_; intro a hF
      refine s_val hF rfl rfl rfl (e_assign hF rfl) ?_; intro a hF
      refine s_nil ?_
      refine then_n ?_
      refine wp_ret ?_
      obtain rfl := some_some H
      refine s_ret [Value.bool (decide (a0 < a1))] hF Try.results109 ⟨rfl, trivial⟩ ?_
      exact ⟨_, rfl, hM.frm, rfl⟩
    ·
      refine s_region ?_
      refine s_val hF rfl rfl rfl (e_move hF rfl) ?_; intro a hF
      refine s_call hF rfl rfl rfl Try.call113 (cmp_isNaN_int.calls K a0 t1 h2) ?_; intro a w v hF hf hR
      subst hR; have hM := hM.grow hf
      refine s_val hF rfl rfl rfl (e_move hF rfl) ?_; intro a hF
      have hF := hF.topb c3
      refine s_val hF rfl rfl rfl (e_move hF rfl) ?_; intro a hF
      refine s_call hF rfl rfl rfl Try.call113 (cmp_isNaN_int.calls K a1 t4 h5) ?_; intro a w v hF hf hR
      subst hR; have hM := hM.grow hf
      refine s_val hF rfl rfl rfl (e_not hF rfl) ?_; intro a hF
      refine s_val hF rfl rfl rfl (e_pick_t hF rfl rfl) ?_; intro a hF
      refine s_val hF rfl rfl rfl (e_move hF rfl) ?_; intro a hF
      have hF := hF.topb (congrArg Bool.not (bf c6))
      refine s_skip hF rfl rfl rfl ?_; intro a hF
      refine s_skip hF rfl rfl rfl ?_; intro a hF
      refine s_skip hF rfl rfl rfl ?_; intro a hF
      refine s_val hF rfl rfl rfl (e_pick_t hF rfl rfl) ?_; intro a hF
      refine s_val hF rfl rfl rfl (e_assign hF rfl) ?_; intro a hF
      refine s_nil ?_
      refine then_n ?_
      refine wp_ret ?_
      obtain rfl := some_some H
      refine s_ret [Value.bool true] hF Try.results109 ⟨rfl, trivial⟩ ?_
      exact ⟨_, rfl, hM.frm, rfl⟩
  ·
    refine s_region ?_
    refine s_val hF rfl rfl rfl (e_move hF rfl) ?_; intro a hF
    refine s_call hF rfl rfl rfl Try.call113 (cmp_isNaN_int.calls K a0 t1 h2) ?_; intro a w v hF hf hR
    subst hR; have hM := hM.grow hf
    refine s_val hF rfl rfl rfl (e_move hF rfl) ?_; intro a hF
    have hF := hF.topb (bf c3)
    refine s_skip hF rfl rfl rfl ?_; intro a hF
    refine s_skip hF rfl rfl rfl ?_; intro a hF
    refine s_skip hF rfl rfl rfl ?_; intro a hF
    refine s_val hF rfl rfl rfl (e_pick_f hF rfl rfl) ?_; intro a hF
    refine s_val hF rfl rfl rfl (e_move hF rfl) ?_; intro a hF
    refine s_val hF rfl rfl rfl (e_move hF rfl) ?_; intro a hF
    refine s_val hF rfl rfl rfl (e_move hF rfl) ?_; intro a hF
    refine s_val hF rfl rfl rfl (e_lss hF rfl rfl) ?_; intro a hF
    refine s_val hF rfl rfl rfl (e_pick_f hF rfl rfl) ?_; intro a hF
    refine s_val hF rfl rfl rfl (e_assign hF rfl) ?_; intro a hF
    refine s_nil ?_
    refine then_n ?_
    refine wp_ret ?_
    obtain rfl := some_some H
    refine s_ret [Value.bool (decide (a0 < a1))] hF Try.results109 ⟨rfl, trivial⟩ ?_
    exact ⟨_, rfl, hM.frm, rfl⟩

/-! ### slices.IsSorted[[]int,int]: function 94 -/
def slices_IsSorted_int_int.l0 (K : Nat) (l0 : (List Int)) : Nat → Int → Option (Sum Unit Bool)
  | 0, _ => none
  | k + 1, x14 => if 0 < x14 then (if (0 : Int) ≤ x14 ∧ x14 < (l0.length : Int) then (if (0 : Int) ≤ (wrap64 (x14 - 1)) ∧ (wrap64 (x14 - 1)) < (l0.length : Int) then ((cmp_Less_int.f K (l0.getD (x14 : Int).toNat (0 : Int)) (l0.getD ((wrap64 (x14 - 1)) : Int).toNat (0 : Int))).bind fun t18 => if t18 = true then (some (Sum.inr false)) else (slices_IsSorted_int_int.l0 K l0 k (wrap64 (x14 - 1)))) else none) else none) else (some (Sum.inl ()))
def slices_IsSorted_int_int.f (K : Nat) (l0 : (List Int)) : Option Bool := (slices_IsSorted_int_int.l0 K l0 K (wrap64 ((l0.length : Int) - 1))).bind fun o23 => (match o23 with | .inl () => some true | .inr r25 => some r25)
set_option maxRecDepth 100000 in
set_option maxHeartbeats 4000000 in
theorem slices_IsSorted_int_int.calls {w0 : World} (K : Nat) (l0 : (List Int)) (u0 : Value) (q0 : SlR cd3 w0 u0 l0) (r : Bool) (H : slices_IsSorted_int_int.f K l0 = some r) : Calls Try.prog 94 [u0].toArray w0 (Post w0 fun w v => v = Value.bool r) := by
  rw [slices_IsSorted_int_int.f] at H
  refine s_start Try.func94 rfl Try.ntmps94 rfl ?_
  intro a hF
  have hM := Ms.start w0
  skip
  refine wp_seq ?_
  refine s_region ?_
  refine s_val hF rfl rfl rfl (e_assign hF rfl) ?_; intro a hF
  refine s_nil ?_
  refine then_n ?_
  refine wp_seq ?_
  refine wp_seq ?_
  refine s_region ?_
  refine s_val hF rfl rfl rfl (e_move hF rfl) ?_; intro a hF
  refine s_val hF rfl rfl rfl (e_len hF rfl (q0.frm hM.frm).toF Try.underlying33) ?_; intro a hF
  refine s_val hF rfl rfl rfl (e_sub hF rfl rfl) ?_; intro a hF
  refine s_val hF rfl rfl rfl (e_assign hF rfl) ?_; intro a hF
  refine s_nil ?_
  refine then_n ?_
  refine wp_block ?_
  obtain ⟨o23, h24, H⟩ := bind_some H
  refine wp_mono (Q := fun e a w => (e = Exit.exit 0 ∧ Sum.inl () = o23 ∧ Fr 21 a [] ∧ Ms [] w0 w []) ∨ (e = Exit.ret ∧ ∃ r25 : Bool, Sum.inr r25 = o23 ∧ Fr 21 a [(2, Value.bool r25)] ∧ Ms [] w0 w [])) ?_ ?_
  · refine s_loop (fun kq a w => ∃ x14 : Int, slices_IsSorted_int_int.l0 K l0 kq x14 = some o23 ∧ Fr 21 a [(0, u0), (3, Value.int .i64 x14)] ∧ Ms [] w0 w []) K ⟨(wrap64 ((l0.length : Int) - 1)), h24, hF.sub _ ⟨rfl, rfl, trivial⟩, hM.pick [] rfl rfl⟩ ?_ ?_
    · rintro a w ⟨_, H, _⟩; exact none_some H
    · rintro k a w ⟨x14, H, hF, hM⟩; rw [slices_IsSorted_int_int.l0] at H
      refine wp_seq ?_
      refine wp_seq ?_
      refine s_region ?_
      refine s_val hF rfl rfl rfl (e_move hF rfl) ?_; intro a hF
      refine s_val hF rfl rfl rfl (e_gtr hF rfl rfl) ?_; intro a hF
      refine s_nil ?_
      refine then_n ?_
      rcases ite_cases H with ⟨c15, H⟩ | ⟨c15, H⟩
      ·
        refine s_cond_t hF rfl (decide_eq_true c15) ?_
        refine wp_skip ?_
        refine then_n ?_
        refine wp_seq ?_
        refine wp_block ?_
        refine wp_seq ?_
        obtain ⟨c16, H⟩ := ite_some H
        obtain ⟨c17, H⟩ := ite_some H
        obtain ⟨t18, h19, H⟩ := bind_some H
        refine s_held (fun w => Ms [] w0 w []) #[false, false, false, false, false, false, false, false, false, false] mixed rfl rfl hM ?_; intro w hf hM; clear hf
        refine h_val 0 #[true, false, false, false, false, false, false, false, false, false] rfl (by kernel_rfl) hF rfl rfl rfl (fun w hS => e_move hF rfl) (hM.pick [] rfl rfl) ?_; intro a hF
        refine h_val 1 #[true, true, false, false, false, false, false, false, false, false] rfl (by kernel_rfl) hF rfl rfl rfl (fun w hS => e_move hF rfl) (hM.pick [] rfl rfl) ?_; intro a hF
        have f20 := (q0.frm hM.frm).toF
        refine h_val 2 #[true, true, true, false, false, false, false, false, false, false] rfl (by kernel_rfl) hF rfl rfl rfl (fun w hS => e_ias cd3 hF rfl rfl f20 Try.underlying33 Try.sizeOf3 c16.1 c16.2) (hM.pick [] rfl rfl) ?_; intro a hF
        refine h_val 3 #[true, true, true, true, false, false, false, false, false, false] rfl (by kernel_rfl) hF rfl rfl rfl (fun w hS => e_lds (m := x14) hF rfl (q0.frm hS.frm) (getD_some (z := (0 : Int)) c16.1 c16.2) rfl rfl Try.isAgg3) (hM.pick [] rfl rfl) ?_; intro a hF
        refine h_val 4 #[true, true, true, true, true, false, false, false, false, false] rfl (by kernel_rfl) hF rfl rfl rfl (fun w hS => e_move hF rfl) (hM.pick [] rfl rfl) ?_; intro a hF
        refine h_val 5 #[true, true, true, true, true, true, false, false, false, false] rfl (by kernel_rfl) hF rfl rfl rfl (fun w hS => e_move hF rfl) (hM.pick [] rfl rfl) ?_; intro a hF
        refine h_val 6 #[true, true, true, true, true, true, true, false, false, false] rfl (by kernel_rfl) hF rfl rfl rfl (fun w hS => e_sub hF rfl rfl) (hM.pick [] rfl rfl) ?_; intro a hF
        have f21 := (q0.frm hM.frm).toF
        refine h_val 7 #[true, true, true, true, true, true, true, true, false, false] rfl (by kernel_rfl) hF rfl rfl rfl (fun w hS => e_ias cd3 hF rfl rfl f21 Try.underlying33 Try.sizeOf3 c17.1 c17.2) (hM.pick [] rfl rfl) ?_; intro a hF
        refine h_val 8 #[true, true, true, true, true, true, true, true, true, false] rfl (by kernel_rfl) hF rfl rfl rfl (fun w hS => e_lds (m := (wrap64 (x14 - 1))) hF rfl (q0.frm hS.frm) (getD_some (z := (0 : Int)) c17.1 c17.2) rfl rfl Try.isAgg3) (hM.pick [] rfl rfl) ?_; intro a hF
        refine h_one 9 #[true, true, true, true, true, true, true, true, true, true] rfl (by kernel_rfl) ?_
        refine s_call hF rfl rfl rfl Try.call109 (cmp_Less_int.calls K (l0.getD (x14 : Int).toNat (0 : Int)) (l0.getD ((wrap64 (x14 - 1)) : Int).toNat (0 : Int)) t18 h19) ?_; intro a w v hF hf hR
        subst hR; have hM := hM.grow hf
        refine s_nil ⟨rfl, (hM.pick [] rfl rfl), ?_⟩
        refine h_done rfl ?_
        refine then_n ?_
        rcases ite_cases H with ⟨c22, H⟩ | ⟨c22, H⟩
        ·
          refine s_cond_t hF rfl c22 ?_
          refine wp_seq ?_
          refine s_region ?_
          refine s_val hF rfl rfl rfl (e_assign hF rfl) ?_; intro a hF
          refine s_nil ?_
          refine then_n ?_
          refine wp_ret ?_
          refine blk_r ?_
          refine then_r ?_
          refine then_r ?_
          exact Or.inr (⟨rfl, false, some_some H, hF.sub _ ⟨rfl, trivial⟩, hM.pick [] rfl rfl⟩)
        ·
          refine s_cond_f hF rfl (bf c22) ?_
          refine wp_skip ?_
          refine blk_n ?_
          refine then_n ?_
          refine s_region ?_
          refine s_val hF rfl rfl rfl (e_move hF rfl) ?_; intro a hF
          refine s_val hF rfl rfl rfl (e_sub hF rfl rfl) ?_; intro a hF
          refine s_val hF rfl rfl rfl (e_assign hF rfl) ?_; intro a hF
          refine s_nil ?_
          refine then_n ?_
          exact ⟨(wrap64 (x14 - 1)), H, hF.sub _ ⟨rfl, rfl, trivial⟩, hM.pick [] rfl rfl⟩
      ·
        refine s_cond_f hF rfl (decide_eq_false c15) ?_
        refine wp_exit ?_
        refine then_x ?_
        refine then_x ?_
        exact Or.inl (⟨rfl, some_some H, hF.sub _ trivial, hM.pick [] rfl rfl⟩)
  · rintro e a w (⟨rfl, rfl, hF, hM⟩ | ⟨rfl, r25, rfl, hF, hM⟩)
    ·
      dsimp only at H
      refine blk_x ?_
      refine then_n ?_
      refine wp_seq ?_
      refine s_region ?_
      refine s_val hF rfl rfl rfl (e_assign hF rfl) ?_; intro a hF
      refine s_nil ?_
      refine then_n ?_
      refine wp_ret ?_
      obtain rfl := some_some H
      refine s_ret [Value.bool true] hF Try.results94 ⟨rfl, trivial⟩ ?_
      exact ⟨_, rfl, hM.frm, rfl⟩
    ·
      dsimp only at H
      refine blk_r ?_
      refine then_r ?_
      obtain rfl := some_some H
      refine s_ret [Value.bool r25] hF Try.results94 ⟨rfl, trivial⟩ ?_
      exact ⟨_, rfl, hM.frm, rfl⟩

/-! ### loop.example/g01210/impl.IsDie: function 58 -/
def impl_IsDie.f (K : Nat) (a0 : (Ar 6)) : Option Bool := (impl_areAll_int__isFace.f K a0.l).bind fun t2 => if t2 = true then ((slices_IsSorted_int_int.f K a0.l).bind fun t5 => some t5) else (some false)
set_option maxRecDepth 100000 in
set_option maxHeartbeats 4000000 in
theorem impl_IsDie.calls {w0 : World} (K : Nat) (a0 : (Ar 6)) (r : Bool) (H : impl_IsDie.f K a0 = some r) : Calls Try.prog 58 [ag [Pt.ar a0]].toArray w0 (Post w0 fun w v => v = Value.bool r) := by
  rw [impl_IsDie.f] at H
  refine s_start Try.func58 rfl Try.ntmps58 rfl ?_
  intro a hF
  have hM := Ms.start w0
  skip
  refine wp_seq ?_
  refine s_region ?_
  refine s_box (ps := [Pt.ar a0]) hF hM rfl rfl rfl rfl ?_; intro a w b1 hF hM
  refine s_val hF rfl rfl rfl (e_assign hF rfl) ?_; intro a hF
  refine s_nil ?_
  refine then_n ?_
  refine wp_seq ?_
  obtain ⟨t2, h3, H⟩ := bind_some H
  rcases ite_cases H with ⟨c4, H⟩ | ⟨c4, H⟩
  ·
    obtain ⟨t5, h6, H⟩ := bind_some H
    refine s_region ?_
    refine s_val hF rfl rfl rfl (e_slA0 hF rfl Try.underlying28 Try.sizeOf3) ?_; intro a hF
    refine s_call hF rfl rfl rfl Try.call62 (impl_areAll_int__isFace.calls K a0.l (Value.slice (some ⟨b1, 0, none⟩) 6 6) (hM.boxSl (k := 0) (m := 6) 0 rfl rfl rfl cd3 (fun _ => rfl) 6 (by decide)) t2 h3) ?_; intro a w v hF hf hR
    subst hR; have hM := hM.grow hf
    refine s_val hF rfl rfl rfl (e_move hF rfl) ?_; intro a hF
    have hF := hF.topb c4
    refine s_val hF rfl rfl rfl (e_slA0 hF rfl Try.underlying28 Try.sizeOf3) ?_; intro a hF
    refine s_call hF rfl rfl rfl Try.call94 (slices_IsSorted_int_int.calls K a0.l (Value.slice (some ⟨b1, 0, none⟩) 6 6) (hM.boxSl (k := 0) (m := 6) 0 rfl rfl rfl cd3 (fun _ => rfl) 6 (by decide)) t5 h6) ?_; intro a w v hF hf hR
    subst hR; have hM := hM.grow hf
    refine s_val hF rfl rfl rfl (e_pick_t hF rfl rfl) ?_; intro a hF
    refine s_val hF rfl rfl rfl (e_assign hF rfl) ?_; intro a hF
    refine s_nil ?_
    refine then_n ?_
    refine wp_ret ?_
    obtain rfl := some_some H
    refine s_ret [Value.bool t5] hF Try.results58 ⟨rfl, trivial⟩ ?_
    exact ⟨_, rfl, hM.frm, rfl⟩
  ·
    refine s_region ?_
    refine s_val hF rfl rfl rfl (e_slA0 hF rfl Try.underlying28 Try.sizeOf3) ?_; intro a hF
    refine s_call hF rfl rfl rfl Try.call62 (impl_areAll_int__isFace.calls K a0.l (Value.slice (some ⟨b1, 0, none⟩) 6 6) (hM.boxSl (k := 0) (m := 6) 0 rfl rfl rfl cd3 (fun _ => rfl) 6 (by decide)) t2 h3) ?_; intro a w v hF hf hR
    subst hR; have hM := hM.grow hf
    refine s_val hF rfl rfl rfl (e_move hF rfl) ?_; intro a hF
    have hF := hF.topb (bf c4)
    refine s_skip hF rfl rfl rfl ?_; intro a hF
    refine s_skip hF rfl rfl rfl ?_; intro a hF
    refine s_val hF rfl rfl rfl (e_pick_f hF rfl rfl) ?_; intro a hF
    refine s_val hF rfl rfl rfl (e_assign hF rfl) ?_; intro a hF
    refine s_nil ?_
    refine then_n ?_
    refine wp_ret ?_
    obtain rfl := some_some H
    refine s_ret [Value.bool false] hF Try.results58 ⟨rfl, trivial⟩ ?_
    exact ⟨_, rfl, hM.frm, rfl⟩

/-! ### loop.example/g01210/impl.areAll[[6]int]$1: function 112 -/
def impl_areAll_6_int_1__IsDie.f (K : Nat) (a0 : (Ar 6)) : Option Bool := (impl_IsDie.f K a0).bind fun t4 => some (!t4)
set_option maxRecDepth 100000 in
set_option maxHeartbeats 4000000 in
theorem impl_areAll_6_int_1__IsDie.calls {w0 : World} (K : Nat) (a0 : (Ar 6)) (b1 : Nat) (q2 : (boxR b1 [Pt.val (Value.func (.func 58) #[] #[]) rfl] 64).holds w0) (r : Bool) (H : impl_areAll_6_int_1__IsDie.f K a0 = some r) : Calls Try.prog 112 [ag [Pt.ar a0], pt b1 0].toArray w0 (Post w0 fun w v => v = Value.bool r) := by
  rw [impl_areAll_6_int_1__IsDie.f] at H
  refine s_start Try.func112 rfl Try.ntmps112 rfl ?_
  intro a hF
  have hM := Ms.start w0
  skip
  refine wp_seq ?_
  refine s_region ?_
  refine s_box (ps := [Pt.ar a0]) hF hM rfl rfl rfl rfl ?_; intro a w b3 hF hM
  refine s_val hF rfl rfl rfl (e_assign hF rfl) ?_; intro a hF
  refine s_nil ?_
  refine then_n ?_
  refine wp_seq ?_
  obtain ⟨t4, h5, H⟩ := bind_some H
  refine s_region ?_
  refine s_val hF rfl rfl rfl (e_ld (i := 0) (k := 0) hF (lent_ms (box_frm q2 hM.frm)) rfl rfl rfl rfl Try.isAgg64 rfl) ?_; intro a hF
  refine s_val hF rfl rfl rfl (e_lda (i := 0) 0 1 hF hM rfl rfl rfl rfl Try.isAgg28 Try.sizeOf28 rfl) ?_; intro a hF
  refine s_callv hF rfl rfl rfl rfl (callsV_of Try.call58 (impl_IsDie.calls K a0 t4 h5)) ?_; intro a w v hF ⟨hf, hR⟩
  subst hR; have hM := hM.grow hf
  refine s_val hF rfl rfl rfl (e_not hF rfl) ?_; intro a hF
  refine s_val hF rfl rfl rfl (e_assign hF rfl) ?_; intro a hF
  refine s_nil ?_
  refine then_n ?_
  refine wp_ret ?_
  obtain rfl := some_some H
  refine s_ret [Value.bool (!t4)] hF Try.results112 ⟨rfl, trivial⟩ ?_
  exact ⟨_, rfl, hM.frm, rfl⟩

/-! ### slices.IndexFunc[[][6]int,[6]int]: function 114 -/
def slices_IndexFunc_6_int_6_int__areAll_6_int_1_IsDie.l0 (K : Nat) (l0 : (List (Ar 6))) : Nat → Int → Option (Sum Unit Int)
  | 0, _ => none
  | k + 1, x14 => if x14 < (l0.length : Int) then (if (0 : Int) ≤ x14 ∧ x14 < (l0.length : Int) then ((impl_areAll_6_int_1__IsDie.f K (l0.getD (x14 : Int).toNat (Ar.zero 6))).bind fun t17 => if t17 = true then (some (Sum.inr x14)) else (slices_IndexFunc_6_int_6_int__areAll_6_int_1_IsDie.l0 K l0 k (wrap64 (x14 + 1)))) else none) else (some (Sum.inl ()))
def slices_IndexFunc_6_int_6_int__areAll_6_int_1_IsDie.f (K : Nat) (l0 : (List (Ar 6))) : Option Int := (slices_IndexFunc_6_int_6_int__areAll_6_int_1_IsDie.l0 K l0 K 0).bind fun o20 => (match o20 with | .inl () => some (-1) | .inr r22 => some r22)
set_option maxRecDepth 100000 in
set_option maxHeartbeats 4000000 in
theorem slices_IndexFunc_6_int_6_int__areAll_6_int_1_IsDie.calls {w0 : World} (K : Nat) (l0 : (List (Ar 6))) (u0 : Value) (q0 : SlR cd28 w0 u0 l0) (b1 : Nat) (q2 : (boxR b1 [Pt.val (Value.func (.func 58) #[] #[]) rfl] 64).holds w0) (r : Int) (H : slices_IndexFunc_6_int_6_int__areAll_6_int_1_IsDie.f K l0 = some r) : Calls Try.prog 114 [u0, Value.func (.func 112) #[] #[pt b1 0]].toArray w0 (Post w0 fun w v => v = Value.int .i64 r) := by
  rw [slices_IndexFunc_6_int_6_int__areAll_6_int_1_IsDie.f] at H
  refine s_start Try.func114 rfl Try.ntmps114 rfl ?_
  intro a hF
  have hM := Ms.start w0
  skip
  refine wp_seq ?_
  refine s_region ?_
  refine s_val hF rfl rfl rfl (e_assign hF rfl) ?_; intro a hF
  refine s_nil ?_
  refine then_n ?_
  refine wp_seq ?_
  refine wp_seq ?_
  refine s_region ?_
  refine s_val hF rfl rfl rfl (e_move hF rfl) ?_; intro a hF
  refine s_val hF rfl rfl rfl (e_len hF rfl (q0.frm hM.frm).toF Try.underlying43) ?_; intro a hF
  refine s_val hF rfl rfl rfl (e_move hF rfl) ?_; intro a hF
  refine s_nil ?_
  refine then_n ?_
  refine wp_block ?_
  obtain ⟨o20, h21, H⟩ := bind_some H
  refine wp_mono (Q := fun e a w => (e = Exit.exit 0 ∧ Sum.inl () = o20 ∧ Fr 19 a [] ∧ Ms [] w0 w []) ∨ (e = Exit.ret ∧ ∃ r22 : Int, Sum.inr r22 = o20 ∧ Fr 19 a [(4, Value.int .i64 r22)] ∧ Ms [] w0 w [])) ?_ ?_
  · refine s_loop (fun kq a w => ∃ x14 : Int, slices_IndexFunc_6_int_6_int__areAll_6_int_1_IsDie.l0 K l0 kq x14 = some o20 ∧ Fr 19 a [(0, u0), (1, Value.func (.func 112) #[] #[pt b1 0]), (7, Value.int .i64 (l0.length : Int)), (8, Value.int .i64 x14)] ∧ Ms [] w0 w []) K ⟨0, h21, hF.sub _ ⟨rfl, rfl, rfl, rfl, trivial⟩, hM.pick [] rfl rfl⟩ ?_ ?_
    · rintro a w ⟨_, H, _⟩; exact none_some H
    · rintro k a w ⟨x14, H, hF, hM⟩; rw [slices_IndexFunc_6_int_6_int__areAll_6_int_1_IsDie.l0] at H
      refine wp_seq ?_
      refine s_region ?_
      refine s_val hF rfl rfl rfl (e_lss hF rfl rfl) ?_; intro a hF
      refine s_nil ?_
      refine then_n ?_
      refine wp_seq ?_
      rcases ite_cases H with ⟨c15, H⟩ | ⟨c15, H⟩
      ·
        refine s_cond_t hF rfl (decide_eq_true c15) ?_
        refine wp_skip ?_
        refine then_n ?_
        refine wp_seq ?_
        refine wp_block ?_
        refine wp_seq ?_
        refine s_region ?_
        refine s_val hF rfl rfl rfl (e_move hF rfl) ?_; intro a hF
        refine s_val hF rfl rfl rfl (e_assign hF rfl) ?_; intro a hF
        refine s_nil ?_
        refine then_n ?_
        refine wp_seq ?_
        obtain ⟨c16, H⟩ := ite_some H
        obtain ⟨t17, h18, H⟩ := bind_some H
        refine s_region ?_
        refine s_val hF rfl rfl rfl (e_move hF rfl) ?_; intro a hF
        refine s_val hF rfl rfl rfl (e_move hF rfl) ?_; intro a hF
        refine s_val hF rfl rfl rfl (e_move hF rfl) ?_; intro a hF
        refine s_val hF rfl rfl rfl (e_ias cd28 hF rfl rfl (q0.frm hM.frm).toF Try.underlying43 Try.sizeOf28 c16.1 c16.2) ?_; intro a hF
        refine s_val hF rfl rfl rfl (e_ldsa (m := x14) hF rfl (q0.frm hM.frm) (getD_some (z := (Ar.zero 6)) c16.1 c16.2) Try.isAgg28 Try.sizeOf28) ?_; intro a hF
        refine s_callv hF rfl rfl rfl rfl (callsV_of Try.call112 (impl_areAll_6_int_1__IsDie.calls K (l0.getD (x14 : Int).toNat (Ar.zero 6)) b1 (box_frm q2 hM.frm) t17 h18)) ?_; intro a w v hF ⟨hf, hR⟩
        subst hR; have hM := hM.grow hf
        refine s_nil ?_
        refine then_n ?_
        rcases ite_cases H with ⟨c19, H⟩ | ⟨c19, H⟩
        ·
          refine s_cond_t hF rfl c19 ?_
          refine wp_seq ?_
          refine s_region ?_
          refine s_val hF rfl rfl rfl (e_move hF rfl) ?_; intro a hF
          refine s_val hF rfl rfl rfl (e_assign hF rfl) ?_; intro a hF
          refine s_nil ?_
          refine then_n ?_
          refine wp_ret ?_
          refine blk_r ?_
          refine then_r ?_
          refine then_r ?_
          exact Or.inr (⟨rfl, x14, some_some H, hF.sub _ ⟨rfl, trivial⟩, hM.pick [] rfl rfl⟩)
        ·
          refine s_cond_f hF rfl (bf c19) ?_
          refine wp_skip ?_
          refine blk_n ?_
          refine then_n ?_
          refine s_region ?_
          refine s_val hF rfl rfl rfl (e_add hF rfl rfl) ?_; intro a hF
          refine s_val hF rfl rfl rfl (e_move hF rfl) ?_; intro a hF
          refine s_nil ?_
          refine then_n ?_
          exact ⟨(wrap64 (x14 + 1)), H, hF.sub _ ⟨rfl, rfl, rfl, rfl, trivial⟩, hM.pick [] rfl rfl⟩
      ·
        refine s_cond_f hF rfl (decide_eq_false c15) ?_
        refine wp_exit ?_
        refine then_x ?_
        refine then_x ?_
        exact Or.inl (⟨rfl, some_some H, hF.sub _ trivial, hM.pick [] rfl rfl⟩)
  · rintro e a w (⟨rfl, rfl, hF, hM⟩ | ⟨rfl, r22, rfl, hF, hM⟩)
    ·
      dsimp only at H
      refine blk_x ?_
      refine then_n ?_
      refine wp_seq ?_
      refine s_region ?_
      refine s_val hF rfl rfl rfl (e_assign hF rfl) ?_; intro a hF
      refine s_nil ?_
      refine then_n ?_
      refine wp_ret ?_
      obtain rfl := some_some H
      refine s_ret [Value.int .i64 (-1)] hF Try.results114 ⟨rfl, trivial⟩ ?_
      exact ⟨_, rfl, hM.frm, rfl⟩
    ·
      dsimp only at H
      refine blk_r ?_
      refine then_r ?_
      obtain rfl := some_some H
      refine s_ret [Value.int .i64 r22] hF Try.results114 ⟨rfl, trivial⟩ ?_
      exact ⟨_, rfl, hM.frm, rfl⟩

/-! ### slices.ContainsFunc[[][6]int,[6]int]: function 111 -/
def slices_ContainsFunc_6_int_6_int__areAll_6_int_1_IsDie.f (K : Nat) (l0 : (List (Ar 6))) : Option Bool := (slices_IndexFunc_6_int_6_int__areAll_6_int_1_IsDie.f K l0).bind fun t3 => some (decide (0 ≤ t3))
set_option maxRecDepth 100000 in
set_option maxHeartbeats 4000000 in
theorem slices_ContainsFunc_6_int_6_int__areAll_6_int_1_IsDie.calls {w0 : World} (K : Nat) (l0 : (List (Ar 6))) (u0 : Value) (q0 : SlR cd28 w0 u0 l0) (b1 : Nat) (q2 : (boxR b1 [Pt.val (Value.func (.func 58) #[] #[]) rfl] 64).holds w0) (r : Bool) (H : slices_ContainsFunc_6_int_6_int__areAll_6_int_1_IsDie.f K l0 = some r) : Calls Try.prog 111 [u0, Value.func (.func 112) #[] #[pt b1 0]].toArray w0 (Post w0 fun w v => v = Value.bool r) := by
  rw [slices_ContainsFunc_6_int_6_int__areAll_6_int_1_IsDie.f] at H
  refine s_start Try.func111 rfl Try.ntmps111 rfl ?_
  intro a hF
  have hM := Ms.start w0
  skip
  refine wp_seq ?_
  refine s_region ?_
  refine s_val hF rfl rfl rfl (e_assign hF rfl) ?_; intro a hF
  refine s_nil ?_
  refine then_n ?_
  refine wp_seq ?_
  obtain ⟨t3, h4, H⟩ := bind_some H
  refine s_region ?_
  refine s_val hF rfl rfl rfl (e_move hF rfl) ?_; intro a hF
  refine s_val hF rfl rfl rfl (e_move hF rfl) ?_; intro a hF
  refine s_call hF rfl rfl rfl Try.call114 (slices_IndexFunc_6_int_6_int__areAll_6_int_1_IsDie.calls K l0 u0 (q0.frm hM.frm) b1 (box_frm q2 hM.frm) t3 h4) ?_; intro a w v hF hf hR
  subst hR; have hM := hM.grow hf
  refine s_val hF rfl rfl rfl (e_geq hF rfl rfl) ?_; intro a hF
  refine s_val hF rfl rfl rfl (e_assign hF rfl) ?_; intro a hF
  refine s_nil ?_
  refine then_n ?_
  refine wp_ret ?_
  obtain rfl := some_some H
  refine s_ret [Value.bool (decide (0 ≤ t3))] hF Try.results111 ⟨rfl, trivial⟩ ?_
  exact ⟨_, rfl, hM.frm, rfl⟩

/-! ### loop.example/g01210/impl.areAll[[6]int]: function 104 -/
def impl_areAll_6_int__IsDie.f (K : Nat) (l0 : (List (Ar 6))) : Option Bool := (slices_ContainsFunc_6_int_6_int__areAll_6_int_1_IsDie.f K l0).bind fun t2 => some (!t2)
set_option maxRecDepth 100000 in
set_option maxHeartbeats 4000000 in
theorem impl_areAll_6_int__IsDie.calls {w0 : World} (K : Nat) (l0 : (List (Ar 6))) (u0 : Value) (q0 : SlR cd28 w0 u0 l0) (r : Bool) (H : impl_areAll_6_int__IsDie.f K l0 = some r) : Calls Try.prog 104 [u0, Value.func (.func 58) #[] #[]].toArray w0 (Post w0 fun w v => v = Value.bool r) := by
  rw [impl_areAll_6_int__IsDie.f] at H
  refine s_start Try.func104 rfl Try.ntmps104 rfl ?_
  intro a hF
  have hM := Ms.start w0
  skip
  refine wp_seq ?_
  refine s_region ?_
  refine s_box (ps := [Pt.val (Value.func (.func 58) #[] #[]) rfl]) hF hM rfl rfl rfl rfl ?_; intro a w b1 hF hM
  refine s_val hF rfl rfl rfl (e_assign hF rfl) ?_; intro a hF
  refine s_nil ?_
  refine then_n ?_
  refine wp_seq ?_
  obtain ⟨t2, h3, H⟩ := bind_some H
  refine s_region ?_
  refine s_val hF rfl rfl rfl (e_move hF rfl) ?_; intro a hF
  refine s_val hF rfl rfl rfl (e_mkfunc (hF.evs' rfl)) ?_; intro a hF
  refine s_call hF rfl rfl rfl Try.call111 (slices_ContainsFunc_6_int_6_int__areAll_6_int_1_IsDie.calls K l0 u0 (q0.frm hM.frm) b1 (hM.get 0 rfl) t2 h3) ?_; intro a w v hF hf hR
  subst hR; have hM := hM.grow hf
  refine s_val hF rfl rfl rfl (e_not hF rfl) ?_; intro a hF
  refine s_val hF rfl rfl rfl (e_assign hF rfl) ?_; intro a hF
  refine s_nil ?_
  refine then_n ?_
  refine wp_ret ?_
  obtain rfl := some_some H
  refine s_ret [Value.bool (!t2)] hF Try.results104 ⟨rfl, trivial⟩ ?_
  exact ⟨_, rfl, hM.frm, rfl⟩

/-! ### loop.example/g01210/impl.IsPool: function 72 -/
def impl_IsPool.f (K : Nat) (l0 : (List (Ar 6))) : Option Bool := (impl_within.f K (l0.length : Int) 1 4).bind fun t1 => if t1 = true then ((impl_areAll_6_int__IsDie.f K l0).bind fun t4 => some t4) else (some false)
set_option maxRecDepth 100000 in
set_option maxHeartbeats 4000000 in
theorem impl_IsPool.calls {w0 : World} (K : Nat) (l0 : (List (Ar 6))) (u0 : Value) (q0 : SlR cd28 w0 u0 l0) (r : Bool) (H : impl_IsPool.f K l0 = some r) : Calls Try.prog 72 [u0].toArray w0 (Post w0 fun w v => v = Value.bool r) := by
  rw [impl_IsPool.f] at H
  refine s_start Try.func72 rfl Try.ntmps72 rfl ?_
  intro a hF
  have hM := Ms.start w0
  skip
  refine wp_seq ?_
  refine s_region ?_
  refine s_val hF rfl rfl rfl (e_assign hF rfl) ?_; intro a hF
  refine s_nil ?_
  refine then_n ?_
  refine wp_seq ?_
  obtain ⟨t1, h2, H⟩ := bind_some H
  rcases ite_cases H with ⟨c3, H⟩ | ⟨c3, H⟩
  ·
    obtain ⟨t4, h5, H⟩ := bind_some H
    refine s_region ?_
    refine s_val hF rfl rfl rfl (e_move hF rfl) ?_; intro a hF
    refine s_val hF rfl rfl rfl (e_len hF rfl (q0.frm hM.frm).toF Try.underlying43) ?_; intro a hF
    refine s_call hF rfl rfl rfl Try.call54 (impl_within.calls K (l0.length : Int) 1 4 t1 h2) ?_; intro a w v hF hf hR
    subst hR; have hM := hM.grow hf
    refine s_val hF rfl rfl rfl (e_move hF rfl) ?_; intro a hF
    have hF := hF.topb c3
    refine s_val hF rfl rfl rfl (e_move hF rfl) ?_; intro a hF
    refine s_call hF rfl rfl rfl Try.call104 (impl_areAll_6_int__IsDie.calls K l0 u0 (q0.frm hM.frm) t4 h5) ?_; intro a w v hF hf hR
    subst hR; have hM := hM.grow hf
    refine s_val hF rfl rfl rfl (e_pick_t hF rfl rfl) ?_; intro a hF
    refine s_val hF rfl rfl rfl (e_assign hF rfl) ?_; intro a hF
    refine s_nil ?_
    refine then_n ?_
    refine wp_ret ?_
    obtain rfl := some_some H
    refine s_ret [Value.bool t4] hF Try.results72 ⟨rfl, trivial⟩ ?_
    exact ⟨_, rfl, hM.frm, rfl⟩
  ·
    refine s_region ?_
    refine s_val hF rfl rfl rfl (e_move hF rfl) ?_; intro a hF
    refine s_val hF rfl rfl rfl (e_len hF rfl (q0.frm hM.frm).toF Try.underlying43) ?_; intro a hF
    refine s_call hF rfl rfl rfl Try.call54 (impl_within.calls K (l0.length : Int) 1 4 t1 h2) ?_; intro a w v hF hf hR
    subst hR; have hM := hM.grow hf
    refine s_val hF rfl rfl rfl (e_move hF rfl) ?_; intro a hF
    have hF := hF.topb (bf c3)
    refine s_skip hF rfl rfl rfl ?_; intro a hF
    refine s_skip hF rfl rfl rfl ?_; intro a hF
    refine s_val hF rfl rfl rfl (e_pick_f hF rfl rfl) ?_; intro a hF
    refine s_val hF rfl rfl rfl (e_assign hF rfl) ?_; intro a hF
    refine s_nil ?_
    refine then_n ?_
    refine wp_ret ?_
    obtain rfl := some_some H
    refine s_ret [Value.bool false] hF Try.results72 ⟨rfl, trivial⟩ ?_
    exact ⟨_, rfl, hM.frm, rfl⟩

/-! ### loop.example/g01210/impl.IsGoal: function 17 -/
def impl_IsGoal.f (K : Nat) (a0 : (Int × Int)) : Option Bool := if a0.1 = 2 then ((impl_within.f K a0.2 0 120).bind fun t3 => some t3) else (if a0.1 = 3 then ((impl_within.f K a0.2 0 120).bind fun t6 => some t6) else ((impl_within.f K a0.1 1 5).bind fun t8 => if t8 = true then (some (decide (a0.2 = 0))) else (some false)))
set_option maxRecDepth 100000 in
set_option maxHeartbeats 4000000 in
theorem impl_IsGoal.calls {w0 : World} (K : Nat) (a0 : (Int × Int)) (r : Bool) (H : impl_IsGoal.f K a0 = some r) : Calls Try.prog 17 [ag [Pt.int a0.1, Pt.int a0.2]].toArray w0 (Post w0 fun w v => v = Value.bool r) := by
  rw [impl_IsGoal.f] at H
  refine s_start Try.func17 rfl Try.ntmps17 rfl ?_
  intro a hF
  have hM := Ms.start w0
  skip
  refine wp_seq ?_
  refine s_region ?_
  refine s_box (ps := [Pt.int a0.1, Pt.int a0.2]) hF hM rfl rfl rfl rfl ?_; intro a w b1 hF hM
  refine s_val hF rfl rfl rfl (e_assign hF rfl) ?_; intro a hF
  refine s_nil ?_
  refine then_n ?_
  refine wp_seq ?_
  refine wp_seq ?_
  rcases ite_cases H with ⟨c2, H⟩ | ⟨c2, H⟩
  ·
    refine s_region ?_
    refine s_val hF rfl rfl rfl (e_fa hF rfl Try.underlying25 rfl Try.sizeOf3 rfl rfl) ?_; intro a hF
    refine s_val hF rfl rfl rfl (e_ld (i := 0) (k := 0) hF hM rfl rfl rfl rfl Try.isAgg3 rfl) ?_; intro a hF
    refine s_val hF rfl rfl rfl (e_eql hF rfl rfl) ?_; intro a hF
    refine s_val hF rfl rfl rfl (e_move hF rfl) ?_; intro a hF
    have hF := hF.topb (decide_eq_true c2)
    refine s_skip hF rfl rfl rfl ?_; intro a hF
    refine s_skip hF rfl rfl rfl ?_; intro a hF
    refine s_skip hF rfl rfl rfl ?_; intro a hF
    refine s_val hF rfl rfl rfl (e_pick_t hF rfl rfl) ?_; intro a hF
    refine s_nil ?_
    refine then_n ?_
    refine s_cond_t hF rfl rfl ?_
    refine wp_seq ?_
    obtain ⟨t3, h4, H⟩ := bind_some H
    refine s_region ?_
    refine s_val hF rfl rfl rfl (e_fa hF rfl Try.underlying25 rfl Try.sizeOf3 rfl rfl) ?_; intro a hF
    refine s_val hF rfl rfl rfl (e_ld (i := 0) (k := 1) hF hM rfl rfl rfl rfl Try.isAgg3 rfl) ?_; intro a hF
    refine s_call hF rfl rfl rfl Try.call54 (impl_within.calls K a0.2 0 120 t3 h4) ?_; intro a w v hF hf hR
    subst hR; have hM := hM.grow hf
    refine s_val hF rfl rfl rfl (e_assign hF rfl) ?_; intro a hF
    refine s_nil ?_
    refine then_n ?_
    refine wp_ret ?_
    refine then_r ?_
    obtain rfl := some_some H
    refine s_ret [Value.bool t3] hF Try.results17 ⟨rfl, trivial⟩ ?_
    exact ⟨_, rfl, hM.frm, rfl⟩
  ·
    refine s_region ?_
    refine s_val hF rfl rfl rfl (e_fa hF rfl Try.underlying25 rfl Try.sizeOf3 rfl rfl) ?_; intro a hF
    refine s_val hF rfl rfl rfl (e_ld (i := 0) (k := 0) hF hM rfl rfl rfl rfl Try.isAgg3 rfl) ?_; intro a hF
    refine s_val hF rfl rfl rfl (e_eql hF rfl rfl) ?_; intro a hF
    refine s_val hF rfl rfl rfl (e_move hF rfl) ?_; intro a hF
    have hF := hF.topb (decide_eq_false c2)
    refine s_val hF rfl rfl rfl (e_fa hF rfl Try.underlying25 rfl Try.sizeOf3 rfl rfl) ?_; intro a hF
    refine s_val hF rfl rfl rfl (e_ld (i := 0) (k := 0) hF hM rfl rfl rfl rfl Try.isAgg3 rfl) ?_; intro a hF
    refine s_val hF rfl rfl rfl (e_eql hF rfl rfl) ?_; intro a hF
    refine s_val hF rfl rfl rfl (e_pick_f hF rfl rfl) ?_; intro a hF
    refine s_nil ?_
    refine then_n ?_
    rcases ite_cases H with ⟨c5, H⟩ | ⟨c5, H⟩
    ·
      refine s_cond_t hF rfl (decide_eq_true c5) ?_
      refine wp_seq ?_
      obtain ⟨t6, h7, H⟩ := bind_some H
      refine s_region ?_
      refine s_val hF rfl rfl rfl (e_fa hF rfl Try.underlying25 rfl Try.sizeOf3 rfl rfl) ?_; intro a hF
      refine s_val hF rfl rfl rfl (e_ld (i := 0) (k := 1) hF hM rfl rfl rfl rfl Try.isAgg3 rfl) ?_; intro a hF
      refine s_call hF rfl rfl rfl Try.call54 (impl_within.calls K a0.2 0 120 t6 h7) ?_; intro a w v hF hf hR
      subst hR; have hM := hM.grow hf
      refine s_val hF rfl rfl rfl (e_assign hF rfl) ?_; intro a hF
      refine s_nil ?_
      refine then_n ?_
      refine wp_ret ?_
      refine then_r ?_
      obtain rfl := some_some H
      refine s_ret [Value.bool t6] hF Try.results17 ⟨rfl, trivial⟩ ?_
      exact ⟨_, rfl, hM.frm, rfl⟩
    ·
      refine s_cond_f hF rfl (decide_eq_false c5) ?_
      refine wp_skip ?_
      refine then_n ?_
      refine wp_seq ?_
      obtain ⟨t8, h9, H⟩ := bind_some H
      rcases ite_cases H with ⟨c10, H⟩ | ⟨c10, H⟩
      ·
        refine s_region ?_
        refine s_val hF rfl rfl rfl (e_fa hF rfl Try.underlying25 rfl Try.sizeOf3 rfl rfl) ?_; intro a hF
        refine s_val hF rfl rfl rfl (e_ld (i := 0) (k := 0) hF hM rfl rfl rfl rfl Try.isAgg3 rfl) ?_; intro a hF
        refine s_call hF rfl rfl rfl Try.call54 (impl_within.calls K a0.1 1 5 t8 h9) ?_; intro a w v hF hf hR
        subst hR; have hM := hM.grow hf
        refine s_val hF rfl rfl rfl (e_move hF rfl) ?_; intro a hF
        have hF := hF.topb c10
        refine s_val hF rfl rfl rfl (e_fa hF rfl Try.underlying25 rfl Try.sizeOf3 rfl rfl) ?_; intro a hF
        refine s_val hF rfl rfl rfl (e_ld (i := 0) (k := 1) hF hM rfl rfl rfl rfl Try.isAgg3 rfl) ?_; intro a hF
        refine s_val hF rfl rfl rfl (e_eql hF rfl rfl) ?_; intro a hF
        refine s_val hF rfl rfl rfl (e_pick_t hF rfl rfl) ?_; intro a hF
        refine s_val hF rfl rfl rfl (e_assign hF rfl) ?_; intro a hF
        refine s_nil ?_
        refine then_n ?_
        refine wp_ret ?_
        obtain rfl := some_some H
        refine s_ret [Value.bool (decide (a0.2 = 0))] hF Try.results17 ⟨rfl, trivial⟩ ?_
        exact ⟨_, rfl, hM.frm, rfl⟩
      ·
        refine s_region ?_
        refine s_val hF rfl rfl rfl (e_fa hF rfl Try.underlying25 rfl Try.sizeOf3 rfl rfl) ?_; intro a hF
        refine s_val hF rfl rfl rfl (e_ld (i := 0) (k := 0) hF hM rfl rfl rfl rfl Try.isAgg3 rfl) ?_; intro a hF
        refine s_call hF rfl rfl rfl Try.call54 (impl_within.calls K a0.1 1 5 t8 h9) ?_; intro a w v hF hf hR
        subst hR; have hM := hM.grow hf
        refine s_val hF rfl rfl rfl (e_move hF rfl) ?_; intro a hF
        have hF := hF.topb (bf c10)
        refine s_skip hF rfl rfl rfl ?_; intro a hF
        refine s_skip hF rfl rfl rfl ?_; intro a hF
        refine s_skip hF rfl rfl rfl ?_; intro a hF
        refine s_val hF rfl rfl rfl (e_pick_f hF rfl rfl) ?_; intro a hF
        refine s_val hF rfl rfl rfl (e_assign hF rfl) ?_; intro a hF
        refine s_nil ?_
        refine then_n ?_
        refine wp_ret ?_
        obtain rfl := some_some H
        refine s_ret [Value.bool false] hF Try.results17 ⟨rfl, trivial⟩ ?_
        exact ⟨_, rfl, hM.frm, rfl⟩

/-! ### loop.example/g01210/impl.isAgain: function 83 -/
def impl_isAgain.f (K : Nat) (l0 : (List (Ar 6))) (a1 : (Int × Int)) (a2 : Int) (a3 : Int) : Option Bool := (impl_IsPool.f K l0).bind fun t2 => if t2 = true then (if (l0.length : Int) ≤ 3 then ((impl_IsGoal.f K a1).bind fun t6 => if t6 = true then ((impl_within.f K a2 a3 2).bind fun t9 => some t9) else (some false)) else (some false)) else (some false)
set_option maxRecDepth 100000 in
set_option maxHeartbeats 4000000 in
theorem impl_isAgain.calls {w0 : World} (K : Nat) (l0 : (List (Ar 6))) (u0 : Value) (q0 : SlR cd28 w0 u0 l0) (a1 : (Int × Int)) (a2 : Int) (a3 : Int) (r : Bool) (H : impl_isAgain.f K l0 a1 a2 a3 = some r) : Calls Try.prog 83 [u0, ag [Pt.int a1.1, Pt.int a1.2], Value.int .i64 a2, Value.int .i64 a3].toArray w0 (Post w0 fun w v => v = Value.bool r) := by
  rw [impl_isAgain.f] at H
  refine s_start Try.func83 rfl Try.ntmps83 rfl ?_
  intro a hF
  have hM := Ms.start w0
  skip
  refine wp_seq ?_
  refine s_region ?_
  refine s_box (ps := [Pt.int a1.1, Pt.int a1.2]) hF hM rfl rfl rfl rfl ?_; intro a w b1 hF hM
  refine s_val hF rfl rfl rfl (e_assign hF rfl) ?_; intro a hF
  refine s_nil ?_
  refine then_n ?_
  refine wp_seq ?_
  obtain ⟨t2, h3, H⟩ := bind_some H
  rcases ite_cases H with ⟨c4, H⟩ | ⟨c4, H⟩
  ·
    rcases ite_cases H with ⟨c5, H⟩ | ⟨c5, H⟩
    ·
      obtain ⟨t6, h7, H⟩ := bind_some H
      rcases ite_cases H with ⟨c8, H⟩ | ⟨c8, H⟩
      ·
        obtain ⟨t9, h10, H⟩ := bind_some H
        refine s_region ?_
        refine s_val hF rfl rfl rfl (e_move hF rfl) ?_; intro a hF
        refine s_call hF rfl rfl rfl Try.call72 (impl_IsPool.calls K l0 u0 (q0.frm hM.frm) t2 h3) ?_; intro a w v hF hf hR
        subst hR; have hM := hM.grow hf
        refine s_val hF rfl rfl rfl (e_move hF rfl) ?_; intro a hF
        have hF := hF.topb c4
        refine s_val hF rfl rfl rfl (e_move hF rfl) ?_; intro a hF
        refine s_val hF rfl rfl rfl (e_len hF rfl (q0.frm hM.frm).toF Try.underlying43) ?_; intro a hF
        refine s_val hF rfl rfl rfl (e_leq hF rfl rfl) ?_; intro a hF
        refine s_val hF rfl rfl rfl (e_pick_t hF rfl rfl) ?_; intro a hF
        refine s_val hF rfl rfl rfl (e_move hF rfl) ?_; intro a hF
        have hF := hF.topb (decide_eq_true c5)
        refine s_val hF rfl rfl rfl (e_lda (i := 0) 0 2 hF hM rfl rfl rfl rfl Try.isAgg25 Try.sizeOf25 rfl) ?_; intro a hF
        refine s_call hF rfl rfl rfl Try.call17 (impl_IsGoal.calls K a1 t6 h7) ?_; intro a w v hF hf hR
        subst hR; have hM := hM.grow hf
        refine s_val hF rfl rfl rfl (e_pick_t hF rfl rfl) ?_; intro a hF
        refine s_val hF rfl rfl rfl (e_move hF rfl) ?_; intro a hF
        have hF := hF.topb c8
        refine s_val hF rfl rfl rfl (e_move hF rfl) ?_; intro a hF
        refine s_val hF rfl rfl rfl (e_move hF rfl) ?_; intro a hF
        refine s_call hF rfl rfl rfl Try.call54 (impl_within.calls K a2 a3 2 t9 h10) ?_; intro a w v hF hf hR
        subst hR; have hM := hM.grow hf
        refine s_val hF rfl rfl rfl (e_pick_t hF rfl rfl) ?_; intro a hF
        refine s_val hF rfl rfl rfl (e_assign hF rfl) ?_; intro a hF
        refine s_nil ?_
        refine then_n ?_
        refine wp_ret ?_
        obtain rfl := some_some H
        refine s_ret [Value.bool t9] hF Try.results83 ⟨rfl, trivial⟩ ?_
        exact ⟨_, rfl, hM.frm, rfl⟩
      ·
        refine s_region ?_
        refine s_val hF rfl rfl rfl (e_move hF rfl) ?_; intro a hF
        refine s_call hF rfl rfl rfl Try.call72 (impl_IsPool.calls K l0 u0 (q0.frm hM.frm) t2 h3) ?_; intro a w v hF hf hR
        subst hR; have hM := hM.grow hf
        refine s_val hF rfl rfl rfl (e_move hF rfl) ?_; intro a hF
        have hF := hF.topb c4
        refine s_val hF rfl rfl rfl (e_move hF rfl) ?_; intro a hF
        refine s_val hF rfl rfl rfl (e_len hF rfl (q0.frm hM.frm).toF Try.underlying43) ?_; intro a hF
        refine s_val hF rfl rfl rfl (e_leq hF rfl rfl) ?_; intro a hF
        refine s_val hF rfl rfl rfl (e_pick_t hF rfl rfl) ?_; intro a hF
        refine s_val hF rfl rfl rfl (e_move hF rfl) ?_; intro a hF
        have hF := hF.topb (decide_eq_true c5)
        refine s_val hF rfl rfl rfl (e_lda (i := 0) 0 2 hF hM rfl rfl rfl rfl Try.isAgg25 Try.sizeOf25 rfl) ?_; intro a hF
        refine s_call hF rfl rfl rfl Try.call17 (impl_IsGoal.calls K a1 t6 h7) ?_; intro a w v hF hf hR
        subst hR; have hM := hM.grow hf
        refine s_val hF rfl rfl rfl (e_pick_t hF rfl rfl) ?_; intro a hF
        refine s_val hF rfl rfl rfl (e_move hF rfl) ?_; intro a hF
        have hF := hF.topb (bf c8)
        refine s_skip hF rfl rfl rfl ?_; intro a hF
        refine s_skip hF rfl rfl rfl ?_; intro a hF
        refine s_skip hF rfl rfl rfl ?_; intro a hF
        refine s_val hF rfl rfl rfl (e_pick_f hF rfl rfl) ?_; intro a hF
        refine s_val hF rfl rfl rfl (e_assign hF rfl) ?_; intro a hF
        refine s_nil ?_
        refine then_n ?_
        refine wp_ret ?_
        obtain rfl := some_some H
        refine s_ret [Value.bool false] hF Try.results83 ⟨rfl, trivial⟩ ?_
        exact ⟨_, rfl, hM.frm, rfl⟩
    ·
      refine s_region ?_
      refine s_val hF rfl rfl rfl (e_move hF rfl) ?_; intro a hF
      refine s_call hF rfl rfl rfl Try.call72 (impl_IsPool.calls K l0 u0 (q0.frm hM.frm) t2 h3) ?_; intro a w v hF hf hR
      subst hR; have hM := hM.grow hf
      refine s_val hF rfl rfl rfl (e_move hF rfl) ?_; intro a hF
      have hF := hF.topb c4
      refine s_val hF rfl rfl rfl (e_move hF rfl) ?_; intro a hF
      refine s_val hF rfl rfl rfl (e_len hF rfl (q0.frm hM.frm).toF Try.underlying43) ?_; intro a hF
      refine s_val hF rfl rfl rfl (e_leq hF rfl rfl) ?_; intro a hF
      refine s_val hF rfl rfl rfl (e_pick_t hF rfl rfl) ?_; intro a hF
      refine s_val hF rfl rfl rfl (e_move hF rfl) ?_; intro a hF
      have hF := hF.topb (decide_eq_false c5)
      refine s_skip hF rfl rfl rfl ?_; intro a hF
      refine s_skip hF rfl rfl rfl ?_; intro a hF
      refine s_val hF rfl rfl rfl (e_pick_f hF rfl rfl) ?_; intro a hF
      refine s_val hF rfl rfl rfl (e_move hF rfl) ?_; intro a hF
      refine s_skip hF rfl rfl rfl ?_; intro a hF
      refine s_skip hF rfl rfl rfl ?_; intro a hF
      refine s_skip hF rfl rfl rfl ?_; intro a hF
      refine s_val hF rfl rfl rfl (e_pick_f hF rfl rfl) ?_; intro a hF
      refine s_val hF rfl rfl rfl (e_assign hF rfl) ?_; intro a hF
      refine s_nil ?_
      refine then_n ?_
      refine wp_ret ?_
      obtain rfl := some_some H
      refine s_ret [Value.bool false] hF Try.results83 ⟨rfl, trivial⟩ ?_
      exact ⟨_, rfl, hM.frm, rfl⟩
  ·
    refine s_region ?_
    refine s_val hF rfl rfl rfl (e_move hF rfl) ?_; intro a hF
    refine s_call hF rfl rfl rfl Try.call72 (impl_IsPool.calls K l0 u0 (q0.frm hM.frm) t2 h3) ?_; intro a w v hF hf hR
    subst hR; have hM := hM.grow hf
    refine s_val hF rfl rfl rfl (e_move hF rfl) ?_; intro a hF
    have hF := hF.topb (bf c4)
    refine s_skip hF rfl rfl rfl ?_; intro a hF
    refine s_skip hF rfl rfl rfl ?_; intro a hF
    refine s_skip hF rfl rfl rfl ?_; intro a hF
    refine s_val hF rfl rfl rfl (e_pick_f hF rfl rfl) ?_; intro a hF
    refine s_val hF rfl rfl rfl (e_move hF rfl) ?_; intro a hF
    refine s_skip hF rfl rfl rfl ?_; intro a hF
    refine s_skip hF rfl rfl rfl ?_; intro a hF
    refine s_val hF rfl rfl rfl (e_pick_f hF rfl rfl) ?_; intro a hF
    refine s_val hF rfl rfl rfl (e_move hF rfl) ?_; intro a hF
    refine s_skip hF rfl rfl rfl ?_; intro a hF
    refine s_skip hF rfl rfl rfl ?_; intro a hF
    refine s_skip hF rfl rfl rfl ?_; intro a hF
    refine s_val hF rfl rfl rfl (e_pick_f hF rfl rfl) ?_; intro a hF
    refine s_val hF rfl rfl rfl (e_assign hF rfl) ?_; intro a hF
    refine s_nil ?_
    refine then_n ?_
    refine wp_ret ?_
    obtain rfl := some_some H
    refine s_ret [Value.bool false] hF Try.results83 ⟨rfl, trivial⟩ ?_
    exact ⟨_, rfl, hM.frm, rfl⟩

/-! ### loop.example/g01210/impl.power: function 60 -/
def impl_power.l0 (K : Nat) (a0 : Int) : Nat → Int → Int → Option Int
  | 0, _, _ => none
  | k + 1, x6, x7 => if x7 < a0 then (impl_power.l0 K a0 k (wrap64 (x6 * 6)) (wrap64 (x7 + 1))) else (some x6)
def impl_power.f (K : Nat) (a0 : Int) : Option Int := (impl_power.l0 K a0 K 1 0).bind fun x5 => some x5
set_option maxRecDepth 100000 in
set_option maxHeartbeats 4000000 in
theorem impl_power.calls {w0 : World} (K : Nat) (a0 : Int) (r : Int) (H : impl_power.f K a0 = some r) : Calls Try.prog 60 [Value.int .i64 a0].toArray w0 (Post w0 fun w v => v = Value.int .i64 r) := by
  rw [impl_power.f] at H
  refine s_start Try.func60 rfl Try.ntmps60 rfl ?_
  intro a hF
  have hM := Ms.start w0
  skip
  refine wp_seq ?_
  refine s_region ?_
  refine s_val hF rfl rfl rfl (e_assign hF rfl) ?_; intro a hF
  refine s_nil ?_
  refine then_n ?_
  refine wp_seq ?_
  refine s_region ?_
  refine s_val hF rfl rfl rfl (e_assign hF rfl) ?_; intro a hF
  refine s_nil ?_
  refine then_n ?_
  refine wp_seq ?_
  refine wp_seq ?_
  refine s_region ?_
  refine s_val hF rfl rfl rfl (e_move hF rfl) ?_; intro a hF
  refine s_val hF rfl rfl rfl (e_move hF rfl) ?_; intro a hF
  refine s_nil ?_
  refine then_n ?_
  refine wp_block ?_
  obtain ⟨o9, h10, H⟩ := bind_some H
  refine wp_mono (Q := fun e a w => (e = Exit.exit 0 ∧ ∃ x5 : Int, x5 = o9 ∧ Fr 11 a [(3, Value.int .i64 x5)] ∧ Ms [] w0 w [])) ?_ ?_
  · refine s_loop (fun kq a w => ∃ x6 : Int, ∃ x7 : Int, impl_power.l0 K a0 kq x6 x7 = some o9 ∧ Fr 11 a [(3, Value.int .i64 x6), (4, Value.int .i64 a0), (5, Value.int .i64 x7)] ∧ Ms [] w0 w []) K ⟨1, 0, h10, hF.sub _ ⟨rfl, rfl, rfl, trivial⟩, hM.pick [] rfl rfl⟩ ?_ ?_
    · rintro a w ⟨_, _, H, _⟩; exact none_some H
    · rintro k a w ⟨x6, x7, H, hF, hM⟩; rw [impl_power.l0] at H
      refine wp_seq ?_
      refine s_region ?_
      refine s_val hF rfl rfl rfl (e_lss hF rfl rfl) ?_; intro a hF
      refine s_nil ?_
      refine then_n ?_
      refine wp_seq ?_
      rcases ite_cases H with ⟨c8, H⟩ | ⟨c8, H⟩
      ·
        refine s_cond_t hF rfl (decide_eq_true c8) ?_
        refine wp_skip ?_
        refine then_n ?_
        refine wp_seq ?_
        refine wp_block ?_
        refine s_region ?_
        refine s_val hF rfl rfl rfl (e_move hF rfl) ?_; intro a hF
        refine s_val hF rfl rfl rfl (e_mul hF rfl rfl) ?_; intro a hF
        refine s_val hF rfl rfl rfl (e_assign hF rfl) ?_; intro a hF
        refine s_nil ?_
        refine blk_n ?_
        refine then_n ?_
        refine s_region ?_
        refine s_val hF rfl rfl rfl (e_add hF rfl rfl) ?_; intro a hF
        refine s_val hF rfl rfl rfl (e_move hF rfl) ?_; intro a hF
        refine s_nil ?_
        refine then_n ?_
        exact ⟨(wrap64 (x6 * 6)), (wrap64 (x7 + 1)), H, hF.sub _ ⟨rfl, rfl, rfl, trivial⟩, hM.pick [] rfl rfl⟩
      ·
        refine s_cond_f hF rfl (decide_eq_false c8) ?_
        refine wp_exit ?_
        refine then_x ?_
        refine then_x ?_
        exact ⟨rfl, x6, some_some H, hF.sub _ ⟨rfl, trivial⟩, hM.pick [] rfl rfl⟩
  · rintro e a w ⟨rfl, x5, rfl, hF, hM⟩
    skip
    refine blk_x ?_
    refine then_n ?_
    refine wp_seq ?_
    refine s_region ?_
    refine s_val hF rfl rfl rfl (e_move hF rfl) ?_; intro a hF
    refine s_val hF rfl rfl rfl (e_assign hF rfl) ?_; intro a hF
    refine s_nil ?_
    refine then_n ?_
    refine wp_ret ?_
    obtain rfl := some_some H
    refine s_ret [Value.int .i64 x5] hF Try.results60 ⟨rfl, trivial⟩ ?_
    exact ⟨_, rfl, hM.frm, rfl⟩

/-! ### (*loop.example/g01210/impl.again).outcomes: function 89 -/
def impl_again_outcomes__c.f (K : Nat) (y4 : (List (Ar 6))) (y7 : (List (List Int))) : Option Int := (impl_power.f K (y4.length : Int)).bind fun t10 => some t10
set_option maxRecDepth 100000 in
set_option maxHeartbeats 4000000 in
theorem impl_again_outcomes__c.calls {w0 : World} (K : Nat) (v3 : Value) (y4 : (List (Ar 6))) (q5 : SlR cd28 w0 v3 y4) (v6 : Value) (y7 : (List (List Int))) (z8 : List Value) (q9 : NeR cd3 33 w0 v6 z8 y7) (b1 : Nat) (q2 : (boxR b1 [Pt.any v3, Pt.any v6] 80).holds w0) (r : Int) (H : impl_again_outcomes__c.f K y4 y7 = some r) : Calls Try.prog 89 [pt b1 0].toArray w0 (Post w0 fun w v => v = Value.int .i64 r) := by
  rw [impl_again_outcomes__c.f] at H
  refine s_start Try.func89 rfl Try.ntmps89 rfl ?_
  intro a hF
  have hM := Ms.start w0
  skip
  refine wp_seq ?_
  refine s_region ?_
  refine s_val hF rfl rfl rfl (e_assign hF rfl) ?_; intro a hF
  refine s_nil ?_
  refine then_n ?_
  refine wp_seq ?_
  obtain ⟨t10, h11, H⟩ := bind_some H
  refine s_region ?_
  refine s_val hF rfl rfl rfl (e_move hF rfl) ?_; intro a hF
  refine s_val hF rfl rfl rfl (e_nilc hF rfl) ?_; intro a hF
  refine s_val hF rfl rfl rfl (e_fa hF rfl Try.underlying80 rfl Try.sizeOf43 rfl rfl) ?_; intro a hF
  refine s_val hF rfl rfl rfl (e_ld (i := 0) (k := 0) hF (lent_ms (box_frm q2 hM.frm)) rfl rfl rfl rfl Try.isAgg43 (any_cs (q5.frm hM.frm).toF.one)) ?_; intro a hF
  refine s_val hF rfl rfl rfl (e_len hF rfl (q5.frm hM.frm).toF Try.underlying43) ?_; intro a hF
  refine s_call hF rfl rfl rfl Try.call60 (impl_power.calls K (y4.length : Int) t10 h11) ?_; intro a w v hF hf hR
  subst hR; have hM := hM.grow hf
  refine s_val hF rfl rfl rfl (e_assign hF rfl) ?_; intro a hF
  refine s_nil ?_
  refine then_n ?_
  refine wp_ret ?_
  obtain rfl := some_some H
  refine s_ret [Value.int .i64 t10] hF Try.results89 ⟨rfl, trivial⟩ ?_
  exact ⟨_, rfl, hM.frm, rfl⟩

/-! ### loop.example/g01210/impl.rollAt: function 76 -/
def impl_rollAt.l0 (K : Nat) (l0 : (List (Ar 6))) : Nat → Int → Int → (List Int) → Option (List Int)
  | 0, _, _, _ => none
  | k + 1, x15, x16, x17 => if 0 ≤ x16 then (if (0 : Int) ≤ x16 ∧ x16 < (l0.length : Int) then (if (0 : Int) ≤ (x15.tmod 6) ∧ (x15.tmod 6) < 6 then (if (0 : Int) ≤ x16 ∧ x16 < (x17.length : Int) then (impl_rollAt.l0 K l0 k (wrap64 (x15.tdiv 6)) (wrap64 (x16 - 1)) (x17.set (x16 : Int).toNat ((l0.getD (x16 : Int).toNat (Ar.zero 6)).get (x15.tmod 6)))) else none) else none) else none) else (some x17)
def impl_rollAt.f (K : Nat) (l0 : (List (Ar 6))) (a1 : Int) : Option (List Int) := if (0 : Int) ≤ (l0.length : Int) ∧ (l0.length : Int) ≤ 1073741824 then ((impl_rollAt.l0 K l0 K a1 (wrap64 ((l0.length : Int) - 1)) (List.replicate (l0.length : Int).toNat (0 : Int))).bind fun x14 => some x14) else none
set_option maxRecDepth 100000 in
set_option maxHeartbeats 4000000 in
theorem impl_rollAt.calls {w0 : World} (K : Nat) (l0 : (List (Ar 6))) (u0 : Value) (q0 : SlR cd28 w0 u0 l0) (a1 : Int) (r : (List Int)) (H : impl_rollAt.f K l0 a1 = some r) : Calls Try.prog 76 [u0, Value.int .i64 a1].toArray w0 (Post w0 fun w v => Fresh cd3 w0.heap.size w v r) := by
  rw [impl_rollAt.f] at H
  refine s_start Try.func76 rfl Try.ntmps76 rfl ?_
  intro a hF
  have hM := Ms.start w0
  skip
  refine wp_seq ?_
  refine s_region ?_
  refine s_val hF rfl rfl rfl (e_assign hF rfl) ?_; intro a hF
  refine s_nil ?_
  refine then_n ?_
  refine wp_seq ?_
  obtain ⟨c2, H⟩ := ite_some H
  refine s_region ?_
  refine s_val hF rfl rfl rfl (e_move hF rfl) ?_; intro a hF
  refine s_val hF rfl rfl rfl (e_len hF rfl (q0.frm hM.frm).toF Try.underlying43) ?_; intro a hF
  refine s_make (C := cd3) cdok3 hF hM rfl rfl rfl rfl Try.underlying33 c2.1 c2.2 ?_; intro a w v1 hF hM
  refine s_val hF rfl rfl rfl (e_assign hF rfl) ?_; intro a hF
  refine s_nil ?_
  refine then_n ?_
  refine wp_seq ?_
  refine wp_seq ?_
  refine s_region ?_
  refine s_val hF rfl rfl rfl (e_move hF rfl) ?_; intro a hF
  refine s_val hF rfl rfl rfl (e_len hF rfl (q0.frm hM.frm).toF Try.underlying43) ?_; intro a hF
  refine s_val hF rfl rfl rfl (e_sub hF rfl rfl) ?_; intro a hF
  refine s_val hF rfl rfl rfl (e_assign hF rfl) ?_; intro a hF
  refine s_nil ?_
  refine then_n ?_
  refine wp_block ?_
  obtain ⟨o22, h23, H⟩ := bind_some H
  refine wp_mono (Q := fun e a w => (e = Exit.exit 0 ∧ ∃ x14 : (List Int), x14 = o22 ∧ Fr 30 a [(5, v1)] ∧ Ms [] w0 w [rowR cd3 v1 x14])) ?_ ?_
  · refine s_loop (fun kq a w => ∃ x15 : Int, ∃ x16 : Int, ∃ x17 : (List Int), impl_rollAt.l0 K l0 kq x15 x16 x17 = some o22 ∧ Fr 30 a [(0, u0), (1, Value.int .i64 x15), (5, v1), (6, Value.int .i64 x16)] ∧ Ms [] w0 w [rowR cd3 v1 x17]) K ⟨a1, (wrap64 ((l0.length : Int) - 1)), (List.replicate (l0.length : Int).toNat (0 : Int)), h23, hF.sub _ ⟨rfl, rfl, rfl, rfl, trivial⟩, hM.pick [0] rfl rfl⟩ ?_ ?_
    · rintro a w ⟨_, _, _, H, _⟩; exact none_some H
    · rintro k a w ⟨x15, x16, x17, H, hF, hM⟩; rw [impl_rollAt.l0] at H
      refine wp_seq ?_
      refine wp_seq ?_
      refine s_region ?_
      refine s_val hF rfl rfl rfl (e_move hF rfl) ?_; intro a hF
      refine s_val hF rfl rfl rfl (e_geq hF rfl rfl) ?_; intro a hF
      refine s_nil ?_
      refine then_n ?_
      rcases ite_cases H with ⟨c18, H⟩ | ⟨c18, H⟩
      ·
        refine s_cond_t hF rfl (decide_eq_true c18) ?_
        refine wp_skip ?_
        refine then_n ?_
        refine wp_seq ?_
        refine wp_block ?_
        refine wp_seq ?_
        obtain ⟨c19, H⟩ := ite_some H
        obtain ⟨c20, H⟩ := ite_some H
        obtain ⟨c21, H⟩ := ite_some H
        refine s_region ?_
        refine s_val hF rfl rfl rfl (e_move hF rfl) ?_; intro a hF
        refine s_val hF rfl rfl rfl (e_move hF rfl) ?_; intro a hF
        refine s_val hF rfl rfl rfl (e_move hF rfl) ?_; intro a hF
        refine s_val hF rfl rfl rfl (e_move hF rfl) ?_; intro a hF
        refine s_val hF rfl rfl rfl (e_move hF rfl) ?_; intro a hF
        refine s_val hF rfl rfl rfl (e_rem hF rfl rfl (by decide)) ?_; intro a hF
        refine s_val hF rfl rfl rfl (e_ias cd28 hF rfl rfl (q0.frm hM.frm).toF Try.underlying43 Try.sizeOf28 c19.1 c19.2) ?_; intro a hF
        refine s_val hF rfl rfl rfl (e_ia hF rfl rfl Try.underlying28 Try.sizeOf3 c20.1 c20.2) ?_; intro a hF
        refine s_val hF rfl rfl rfl (e_ldsi (m := x16) (p := (x15.tmod 6)) (o := 0) (k := 0) hF rfl (q0.frm hM.frm) (getD_some (z := (Ar.zero 6)) c19.1 c19.2) rfl rfl Try.isAgg3 c20.1 c20.2) ?_; intro a hF
        refine s_val hF rfl rfl rfl (e_ias cd3 hF rfl rfl (hM.sl 0 rfl).toF Try.underlying33 Try.sizeOf3 c21.1 c21.2) ?_; intro a hF
        refine s_sts (i := 0) ((l0.getD (x16 : Int).toNat (Ar.zero 6)).get (x15.tmod 6)) hF hM rfl rfl rfl rfl rfl c21.1 c21.2 Try.sizeOf3 ?_; intro a w hF hM
        refine s_nil ?_
        refine then_n ?_
        refine s_region ?_
        refine s_val hF rfl rfl rfl (e_move hF rfl) ?_; intro a hF
        refine s_val hF rfl rfl rfl (e_quo hF rfl rfl (by decide)) ?_; intro a hF
        refine s_val hF rfl rfl rfl (e_assign hF rfl) ?_; intro a hF
        refine s_nil ?_
        refine blk_n ?_
        refine then_n ?_
        refine s_region ?_
        refine s_val hF rfl rfl rfl (e_move hF rfl) ?_; intro a hF
        refine s_val hF rfl rfl rfl (e_sub hF rfl rfl) ?_; intro a hF
        refine s_val hF rfl rfl rfl (e_assign hF rfl) ?_; intro a hF
        refine s_nil ?_
        refine then_n ?_
        exact ⟨(wrap64 (x15.tdiv 6)), (wrap64 (x16 - 1)), (x17.set (x16 : Int).toNat ((l0.getD (x16 : Int).toNat (Ar.zero 6)).get (x15.tmod 6))), H, hF.sub _ ⟨rfl, rfl, rfl, rfl, trivial⟩, hM.pick [0] rfl rfl⟩
      ·
        refine s_cond_f hF rfl (decide_eq_false c18) ?_
        refine wp_exit ?_
        refine then_x ?_
        refine then_x ?_
        exact ⟨rfl, x17, some_some H, hF.sub _ ⟨rfl, trivial⟩, hM.pick [0] rfl rfl⟩
  · rintro e a w ⟨rfl, x14, rfl, hF, hM⟩
    skip
    refine blk_x ?_
    refine then_n ?_
    refine wp_seq ?_
    refine s_region ?_
    refine s_val hF rfl rfl rfl (e_move hF rfl) ?_; intro a hF
    refine s_val hF rfl rfl rfl (e_assign hF rfl) ?_; intro a hF
    refine s_nil ?_
    refine then_n ?_
    refine wp_ret ?_
    obtain rfl := some_some H
    refine s_ret [v1] hF Try.results76 ⟨rfl, trivial⟩ ?_
    exact ⟨_, rfl, hM.frm, hM.give 0 rfl⟩

/-! ### loop.example/g01210/impl.total: function 87 -/
def impl_total.l0 (K : Nat) (l0 : (List Int)) : Nat → Int → Int → Option Int
  | 0, _, _ => none
  | k + 1, x8, x9 => if x9 < (l0.length : Int) then (if (0 : Int) ≤ x9 ∧ x9 < (l0.length : Int) then (impl_total.l0 K l0 k (wrap64 (x8 + (l0.getD (x9 : Int).toNat (0 : Int)))) (wrap64 (x9 + 1))) else none) else (some x8)
def impl_total.f (K : Nat) (l0 : (List Int)) : Option Int := (impl_total.l0 K l0 K 0 0).bind fun x7 => some x7
set_option maxRecDepth 100000 in
set_option maxHeartbeats 4000000 in
theorem impl_total.calls {w0 : World} (K : Nat) (l0 : (List Int)) (u0 : Value) (q0 : SlR cd3 w0 u0 l0) (r : Int) (H : impl_total.f K l0 = some r) : Calls Try.prog 87 [u0].toArray w0 (Post w0 fun w v => v = Value.int .i64 r) := by
  rw [impl_total.f] at H
  refine s_start Try.func87 rfl Try.ntmps87 rfl ?_
  intro a hF
  have hM := Ms.start w0
  skip
  refine wp_seq ?_
  refine s_region ?_
  refine s_val hF rfl rfl rfl (e_assign hF rfl) ?_; intro a hF
  refine s_nil ?_
  refine then_n ?_
  refine wp_seq ?_
  refine s_region ?_
  refine s_val hF rfl rfl rfl (e_assign hF rfl) ?_; intro a hF
  refine s_nil ?_
  refine then_n ?_
  refine wp_seq ?_
  refine wp_seq ?_
  refine s_region ?_
  refine s_val hF rfl rfl rfl (e_move hF rfl) ?_; intro a hF
  refine s_val hF rfl rfl rfl (e_len hF rfl (q0.frm hM.frm).toF Try.underlying33) ?_; intro a hF
  refine s_val hF rfl rfl rfl (e_move hF rfl) ?_; intro a hF
  refine s_nil ?_
  refine then_n ?_
  refine wp_block ?_
  obtain ⟨o12, h13, H⟩ := bind_some H
  refine wp_mono (Q := fun e a w => (e = Exit.exit 0 ∧ ∃ x7 : Int, x7 = o12 ∧ Fr 17 a [(3, Value.int .i64 x7)] ∧ Ms [] w0 w [])) ?_ ?_
  · refine s_loop (fun kq a w => ∃ x8 : Int, ∃ x9 : Int, impl_total.l0 K l0 kq x8 x9 = some o12 ∧ Fr 17 a [(3, Value.int .i64 x8), (6, u0), (7, Value.int .i64 (l0.length : Int)), (8, Value.int .i64 x9)] ∧ Ms [] w0 w []) K ⟨0, 0, h13, hF.sub _ ⟨rfl, rfl, rfl, rfl, trivial⟩, hM.pick [] rfl rfl⟩ ?_ ?_
    · rintro a w ⟨_, _, H, _⟩; exact none_some H
    · rintro k a w ⟨x8, x9, H, hF, hM⟩; rw [impl_total.l0] at H
      refine wp_seq ?_
      refine s_region ?_
      refine s_val hF rfl rfl rfl (e_lss hF rfl rfl) ?_; intro a hF
      refine s_nil ?_
      refine then_n ?_
      refine wp_seq ?_
      rcases ite_cases H with ⟨c10, H⟩ | ⟨c10, H⟩
      ·
        refine s_cond_t hF rfl (decide_eq_true c10) ?_
        refine wp_skip ?_
        refine then_n ?_
        refine wp_seq ?_
        refine wp_block ?_
        refine wp_seq ?_
        obtain ⟨c11, H⟩ := ite_some H
        refine s_region ?_
        refine s_val hF rfl rfl rfl (e_ias cd3 hF rfl rfl (q0.frm hM.frm).toF Try.underlying33 Try.sizeOf3 c11.1 c11.2) ?_; intro a hF
        refine s_val hF rfl rfl rfl (e_lds (m := x9) hF rfl (q0.frm hM.frm) (getD_some (z := (0 : Int)) c11.1 c11.2) rfl rfl Try.isAgg3) ?_; intro a hF
        refine s_val hF rfl rfl rfl (e_assign hF rfl) ?_; intro a hF
        refine s_nil ?_
        refine then_n ?_
        refine s_region ?_
        refine s_val hF rfl rfl rfl (e_move hF rfl) ?_; intro a hF
        refine s_val hF rfl rfl rfl (e_move hF rfl) ?_; intro a hF
        refine s_val hF rfl rfl rfl (e_add hF rfl rfl) ?_; intro a hF
        refine s_val hF rfl rfl rfl (e_assign hF rfl) ?_; intro a hF
        refine s_nil ?_
        refine blk_n ?_
        refine then_n ?_
        refine s_region ?_
        refine s_val hF rfl rfl rfl (e_add hF rfl rfl) ?_; intro a hF
        refine s_val hF rfl rfl rfl (e_move hF rfl) ?_; intro a hF
        refine s_nil ?_
        refine then_n ?_
        exact ⟨(wrap64 (x8 + (l0.getD (x9 : Int).toNat (0 : Int)))), (wrap64 (x9 + 1)), H, hF.sub _ ⟨rfl, rfl, rfl, rfl, trivial⟩, hM.pick [] rfl rfl⟩
      ·
        refine s_cond_f hF rfl (decide_eq_false c10) ?_
        refine wp_exit ?_
        refine then_x ?_
        refine then_x ?_
        exact ⟨rfl, x8, some_some H, hF.sub _ ⟨rfl, trivial⟩, hM.pick [] rfl rfl⟩
  · rintro e a w ⟨rfl, x7, rfl, hF, hM⟩
    skip
    refine blk_x ?_
    refine then_n ?_
    refine wp_seq ?_
    refine s_region ?_
    refine s_val hF rfl rfl rfl (e_move hF rfl) ?_; intro a hF
    refine s_val hF rfl rfl rfl (e_assign hF rfl) ?_; intro a hF
    refine s_nil ?_
    refine then_n ?_
    refine wp_ret ?_
    obtain rfl := some_some H
    refine s_ret [Value.int .i64 x7] hF Try.results87 ⟨rfl, trivial⟩ ?_
    exact ⟨_, rfl, hM.frm, rfl⟩

/-! ### loop.example/g01210/impl.truth: function 90 -/
def impl_truth.f (K : Nat) (a0 : Bool) : Option Int := if a0 = true then (some 1) else (some 0)
set_option maxRecDepth 100000 in
set_option maxHeartbeats 4000000 in
theorem impl_truth.calls {w0 : World} (K : Nat) (a0 : Bool) (r : Int) (H : impl_truth.f K a0 = some r) : Calls Try.prog 90 [Value.bool a0].toArray w0 (Post w0 fun w v => v = Value.int .i64 r) := by
  rw [impl_truth.f] at H
  refine s_start Try.func90 rfl Try.ntmps90 rfl ?_
  intro a hF
  have hM := Ms.start w0
  skip
  refine wp_seq ?_
  refine s_region ?_
  refine s_val hF rfl rfl rfl (e_assign hF rfl) ?_; intro a hF
  refine s_nil ?_
  refine then_n ?_
  refine wp_seq ?_
  refine wp_seq ?_
  refine s_region ?_
  refine s_val hF rfl rfl rfl (e_move hF rfl) ?_; intro a hF
  refine s_nil ?_
  refine then_n ?_
  rcases ite_cases H with ⟨c1, H⟩ | ⟨c1, H⟩
  ·
    refine s_cond_t hF rfl c1 ?_
    refine wp_seq ?_
    refine s_region ?_
    refine s_val hF rfl rfl rfl (e_assign hF rfl) ?_; intro a hF
    refine s_nil ?_
    refine then_n ?_
    refine wp_ret ?_
    refine then_r ?_
    obtain rfl := some_some H
    refine s_ret [Value.int .i64 1] hF Try.results90 ⟨rfl, trivial⟩ ?_
    exact ⟨_, rfl, hM.frm, rfl⟩
  ·
    refine s_cond_f hF rfl (bf c1) ?_
    refine wp_skip ?_
    refine then_n ?_
    refine wp_seq ?_
    refine s_region ?_
    refine s_val hF rfl rfl rfl (e_assign hF rfl) ?_; intro a hF
    refine s_nil ?_
    refine then_n ?_
    refine wp_ret ?_
    obtain rfl := some_some H
    refine s_ret [Value.int .i64 0] hF Try.results90 ⟨rfl, trivial⟩ ?_
    exact ⟨_, rfl, hM.frm, rfl⟩

end Go.Proofs.Ytlbedonjfihldaa.WMeanRolled

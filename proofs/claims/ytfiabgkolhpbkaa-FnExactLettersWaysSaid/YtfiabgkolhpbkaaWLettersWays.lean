/- The walk through the code that the statement reaches: what each function computes. Conditions: none but those in each line. -/
import Derived.Test.YtfiabgkolhpbkaaProg
import Derived.Test.YtfiabgkolhpbkaaK
namespace Go.Proofs.Ytfiabgkolhpbkaa.WLettersWays
open Go.K Go.RowKit
set_option linter.unusedVariables false
set_option linter.unusedSimpArgs false

def cd3 : Cd Int := ⟨3, 1, 8, fun x => [Pt.int x], fun x => Value.int .i64 x, (0 : Int), fun _ => rfl, fun _ => rfl, by decide⟩
theorem cdok3 : CdOk Try.prog cd3 := by
  obtain ⟨i, h1, h2, h3, h4⟩ := info_parts (by kernel_rfl : (Try.prog.info? 3).map (fun i => (i.zero, i.size, i.bytes)) = some (some (cd3.v cd3.z), 1, 8))
  exact ⟨⟨i, h1, h3, h4, h2⟩, by decide⟩
def cd48 : Cd (Ar 4) := ⟨48, 4, 32, fun x => [Pt.ar x], fun x => ag [Pt.ar x], (Ar.zero 4), fun _ => rfl, fun _ => rfl, by decide⟩
theorem cdok48 : CdOk Try.prog cd48 := by
  obtain ⟨i, h1, h2, h3, h4⟩ := info_parts (by kernel_rfl : (Try.prog.info? 48).map (fun i => (i.zero, i.size, i.bytes)) = some (some (cd48.v cd48.z), 4, 32))
  exact ⟨⟨i, h1, h3, h4, h2⟩, by decide⟩
def cd62 : Cd (Ar 6) := ⟨62, 6, 48, fun x => [Pt.ar x], fun x => ag [Pt.ar x], (Ar.zero 6), fun _ => rfl, fun _ => rfl, by decide⟩
theorem cdok62 : CdOk Try.prog cd62 := by
  obtain ⟨i, h1, h2, h3, h4⟩ := info_parts (by kernel_rfl : (Try.prog.info? 62).map (fun i => (i.zero, i.size, i.bytes)) = some (some (cd62.v cd62.z), 6, 48))
  exact ⟨⟨i, h1, h3, h4, h2⟩, by decide⟩
theorem zv32 (w : World) : (zeroValue 32).run Try.prog w = .ok (Value.slice none 0 0) w := by kernel_rfl
theorem zv46 (w : World) : (zeroValue 46).run Try.prog w = .ok (ag [Pt.ar (Ar.zero 4)]) w := by kernel_rfl
theorem zv48 (w : World) : (zeroValue 48).run Try.prog w = .ok (ag [Pt.ar (Ar.zero 4)]) w := by kernel_rfl
theorem zv74 (w : World) : (zeroValue 74).run Try.prog w = .ok (Value.nilFunc) w := by kernel_rfl
theorem bld48 (A0 : (Ar 4)) : Try.prog.built 48 [(0, ag [Pt.ar A0])] = some (cat [Pt.ar A0]).toArray := by
  obtain ⟨A0_0, A0_1, A0_2, A0_3, rfl⟩ := Ar.cases4 A0
  kernel_rfl
theorem mixed : Try.prog.follows .mixedOrders = true := by kernel_rfl

/-! ### loop.example/g01210/laws.toIntS: function 15 -/
def laws_toIntS.l0 (K : Nat) (l0 : (List Int)) : Nat → Int → (List Int) → Option (List Int)
  | 0, _, _ => none
  | k + 1, x12, x13 => if x12 < (l0.length : Int) then (if (0 : Int) ≤ x12 ∧ x12 < (l0.length : Int) then (if (0 : Int) ≤ x12 ∧ x12 < (x13.length : Int) then (laws_toIntS.l0 K l0 k (wrap64 (x12 + 1)) (x13.set (x12 : Int).toNat (l0.getD (x12 : Int).toNat (0 : Int)))) else none) else none) else (some x13)
def laws_toIntS.f (K : Nat) (l0 : (List Int)) : Option (List Int) := if (0 : Int) ≤ (l0.length : Int) ∧ (l0.length : Int) ≤ 1073741824 then ((laws_toIntS.l0 K l0 K 0 (List.replicate (l0.length : Int).toNat (0 : Int))).bind fun x11 => some x11) else none
set_option maxRecDepth 100000 in
set_option maxHeartbeats 4000000 in
theorem laws_toIntS.calls {w0 : World} (K : Nat) (l0 : (List Int)) (u0 : Value) (q0 : SlR cd3 w0 u0 l0) (r : (List Int)) (H : laws_toIntS.f K l0 = some r) : Calls Try.prog 15 [u0].toArray w0 (Post w0 fun w v => Fresh cd3 w0.heap.size w v r) := by
  rw [laws_toIntS.f] at H
  refine s_start Try.func15 rfl Try.ntmps15 rfl ?_
  intro a hF
  have hM := Ms.start w0
  skip
  refine wp_seq ?_
  refine s_region ?_
  refine s_val hF rfl rfl rfl (e_assign hF rfl) ?_; intro a hF
  refine s_nil ?_
  refine then_n ?_
  refine wp_seq ?_
  obtain ⟨c2, H⟩ := ite_some H
  refine s_region ?_
  refine s_val hF rfl rfl rfl (e_move hF rfl) ?_; intro a hF
  refine s_val hF rfl rfl rfl (e_len hF rfl (q0.frm hM.frm).toF Try.underlying25) ?_; intro a hF
  refine s_make (C := cd3) cdok3 hF hM rfl rfl rfl rfl Try.underlying25 c2.1 c2.2 ?_; intro a w v1 hF hM
  refine s_val hF rfl rfl rfl (e_assign hF rfl) ?_; intro a hF
  refine s_nil ?_
  refine then_n ?_
  refine wp_seq ?_
  refine wp_seq ?_
  refine s_region ?_
  refine s_val hF rfl rfl rfl (e_assign hF rfl) ?_; intro a hF
  refine s_nil ?_
  refine then_n ?_
  refine wp_block ?_
  obtain ⟨o17, h18, H⟩ := bind_some H
  refine wp_mono (Q := fun e a w => (e = Exit.exit 0 ∧ ∃ x11 : (List Int), x11 = o17 ∧ Fr 22 a [(3, v1)] ∧ Ms [] w0 w [rowR cd3 v1 x11])) ?_ ?_
  · refine s_loop (fun kq a w => ∃ x12 : Int, ∃ x13 : (List Int), laws_toIntS.l0 K l0 kq x12 x13 = some o17 ∧ Fr 22 a [(0, u0), (3, v1), (4, Value.int .i64 x12)] ∧ Ms [] w0 w [rowR cd3 v1 x13]) K ⟨0, (List.replicate (l0.length : Int).toNat (0 : Int)), h18, hF.sub _ ⟨rfl, rfl, rfl, trivial⟩, hM.pick [0] rfl rfl⟩ ?_ ?_
    · rintro a w ⟨_, _, H, _⟩; exact none_some H
    · rintro k a w ⟨x12, x13, H, hF, hM⟩; rw [laws_toIntS.l0] at H
      refine wp_seq ?_
      refine wp_seq ?_
      refine s_region ?_
      refine s_val hF rfl rfl rfl (e_move hF rfl) ?_; intro a hF
      refine s_val hF rfl rfl rfl (e_move hF rfl) ?_; intro a hF
      refine s_val hF rfl rfl rfl (e_len hF rfl (q0.frm hM.frm).toF Try.underlying25) ?_; intro a hF
      refine s_val hF rfl rfl rfl (e_lss hF rfl rfl) ?_; intro a hF
      refine s_nil ?_
      refine then_n ?_
      rcases ite_cases H with ⟨c14, H⟩ | ⟨c14, H⟩
      ·
        refine s_cond_t hF rfl (decide_eq_true c14) ?_
        refine wp_skip ?_
        refine then_n ?_
        refine wp_seq ?_
        refine wp_block ?_
        obtain ⟨c15, H⟩ := ite_some H
        obtain ⟨c16, H⟩ := ite_some H
        refine s_region ?_
        refine s_val hF rfl rfl rfl (e_move hF rfl) ?_; intro a hF
        refine s_val hF rfl rfl rfl (e_move hF rfl) ?_; intro a hF
        refine s_val hF rfl rfl rfl (e_move hF rfl) ?_; intro a hF
        refine s_val hF rfl rfl rfl (e_move hF rfl) ?_; intro a hF
        refine s_val hF rfl rfl rfl (e_ias cd3 hF rfl rfl (q0.frm hM.frm).toF Try.underlying25 Try.sizeOf3 c15.1 c15.2) ?_; intro a hF
        refine s_val hF rfl rfl rfl (e_lds (m := x12) hF rfl (q0.frm hM.frm) (getD_some (z := (0 : Int)) c15.1 c15.2) rfl rfl Try.isAgg3) ?_; intro a hF
        refine s_val hF rfl rfl rfl (e_ias cd3 hF rfl rfl (hM.sl 0 rfl).toF Try.underlying25 Try.sizeOf3 c16.1 c16.2) ?_; intro a hF
        refine s_sts (i := 0) (l0.getD (x12 : Int).toNat (0 : Int)) hF hM rfl rfl rfl rfl rfl c16.1 c16.2 Try.sizeOf3 ?_; intro a w hF hM
        refine s_nil ?_
        refine blk_n ?_
        refine then_n ?_
        refine s_region ?_
        refine s_val hF rfl rfl rfl (e_move hF rfl) ?_; intro a hF
        refine s_val hF rfl rfl rfl (e_add hF rfl rfl) ?_; intro a hF
        refine s_val hF rfl rfl rfl (e_assign hF rfl) ?_; intro a hF
        refine s_nil ?_
        refine then_n ?_
        exact ⟨(wrap64 (x12 + 1)), (x13.set (x12 : Int).toNat (l0.getD (x12 : Int).toNat (0 : Int))), H, hF.sub _ ⟨rfl, rfl, rfl, trivial⟩, hM.pick [0] rfl rfl⟩
      ·
        refine s_cond_f hF rfl (decide_eq_false c14) ?_
        refine wp_exit ?_
        refine then_x ?_
        refine then_x ?_
        exact ⟨rfl, x13, some_some H, hF.sub _ ⟨rfl, trivial⟩, hM.pick [0] rfl rfl⟩
  · rintro e a w ⟨rfl, x11, rfl, hF, hM⟩
    skip
    refine blk_x ?_
    refine then_n ?_
    refine wp_seq ?_
    refine s_region ?_
    refine s_val hF rfl rfl rfl (e_move hF rfl) ?_; intro a hF
    refine s_val hF rfl rfl rfl (e_assign hF rfl) ?_; intro a hF
    refine s_nil ?_
    refine then_n ?_
    refine wp_ret ?_
    obtain rfl := some_some H
    refine s_ret [v1] hF Try.results15 ⟨rfl, trivial⟩ ?_
    exact ⟨_, rfl, hM.frm, hM.give 0 rfl⟩

/-! ### loop.example/g01210/spec.l1In: function 43 -/
def spec_l1In.f (K : Nat) (a0 : Int) (a1 : Int) (a2 : Int) : Option Bool := if a1 ≤ a0 then (some (decide (a0 ≤ a2))) else (some false)
set_option maxRecDepth 100000 in
set_option maxHeartbeats 4000000 in
theorem spec_l1In.calls {w0 : World} (K : Nat) (a0 : Int) (a1 : Int) (a2 : Int) (r : Bool) (H : spec_l1In.f K a0 a1 a2 = some r) : Calls Try.prog 43 [Value.int .i64 a0, Value.int .i64 a1, Value.int .i64 a2].toArray w0 (Post w0 fun w v => v = Value.bool r) := by
  rw [spec_l1In.f] at H
  refine s_start Try.func43 rfl Try.ntmps43 rfl ?_
  intro a hF
  have hM := Ms.start w0
  skip
  refine wp_seq ?_
  refine s_region ?_
  refine s_val hF rfl rfl rfl (e_assign hF rfl) ?_; intro a hF
  refine s_nil ?_
  refine then_n ?_
  refine wp_seq ?_
  rcases ite_cases H with ⟨c1, H⟩ | ⟨c1, H⟩
  ·
    refine s_region ?_
    refine s_val hF rfl rfl rfl (e_move hF rfl) ?_; intro a hF
    refine s_val hF rfl rfl rfl (e_move hF rfl) ?_; intro a hF
    refine s_val hF rfl rfl rfl (e_geq hF rfl rfl) ?_; intro a hF
    refine s_val hF rfl rfl rfl (e_move hF rfl) ?_; intro a hF
    have hF := hF.topb (decide_eq_true c1)
    refine s_val hF rfl rfl rfl (e_move hF rfl) ?_; intro a hF
    refine s_val hF rfl rfl rfl (e_move hF rfl) ?_; intro a hF
    refine s_val hF rfl rfl rfl (e_leq hF rfl rfl) ?_; intro a hF
    refine s_val hF rfl rfl rfl (e_pick_t hF rfl rfl) ?_; intro a hF
    refine s_val hF rfl rfl rfl (e_assign hF rfl) ?_; intro a hF
    refine s_nil ?_
    refine then_n ?_
    refine wp_ret ?_
    obtain rfl := some_some H
    refine s_ret [Value.bool (decide (a0 ≤ a2))] hF Try.results43 ⟨rfl, trivial⟩ ?_
    exact ⟨_, rfl, hM.frm, rfl⟩
  ·
    refine s_region ?_
    refine s_val hF rfl rfl rfl (e_move hF rfl) ?_; intro a hF
    refine s_val hF rfl rfl rfl (e_move hF rfl) ?_; intro a hF
    refine s_val hF rfl rfl rfl (e_geq hF rfl rfl) ?_; intro a hF
    refine s_val hF rfl rfl rfl (e_move hF rfl) ?_; intro a hF
    have hF := hF.topb (decide_eq_false c1)
    refine s_skip hF rfl rfl rfl ?_; intro a hF
    refine s_skip hF rfl rfl rfl ?_; intro a hF
    refine s_skip hF rfl rfl rfl ?_; intro a hF
    refine s_val hF rfl rfl rfl (e_pick_f hF rfl rfl) ?_; intro a hF
    refine s_val hF rfl rfl rfl (e_assign hF rfl) ?_; intro a hF
    refine s_nil ?_
    refine then_n ?_
    refine wp_ret ?_
    obtain rfl := some_some H
    refine s_ret [Value.bool false] hF Try.results43 ⟨rfl, trivial⟩ ?_
    exact ⟨_, rfl, hM.frm, rfl⟩

/-! ### loop.example/g01210/spec.l10Letters: function 47 -/
def spec_l10Letters.l0 (K : Nat) (l0 : (List Int)) : Nat → Int → (Ar 4) → Option (Sum (Ar 4) Bool)
  | 0, _, _ => none
  | k + 1, x21, x22 => if x21 < (l0.length : Int) then (if (0 : Int) ≤ x21 ∧ x21 < (l0.length : Int) then ((spec_l1In.f K (l0.getD (x21 : Int).toNat (0 : Int)) 0 (wrap64 ((wrap64 ((l0.length : Int).tdiv 6)) - 1))).bind fun t25 => if t25 = true then (if (0 : Int) ≤ (l0.getD (x21 : Int).toNat (0 : Int)) ∧ (l0.getD (x21 : Int).toNat (0 : Int)) < 4 then (spec_l10Letters.l0 K l0 k (wrap64 (x21 + 1)) (x22.set (l0.getD (x21 : Int).toNat (0 : Int)) (wrap64 ((x22.get (l0.getD (x21 : Int).toNat (0 : Int))) + 1)))) else none) else (some (Sum.inr false))) else none) else (some (Sum.inl x22))
def spec_l10Letters.l1 (K : Nat) (l0 : (List Int)) (x20 : (Ar 4)) : Nat → Int → Option (Sum Unit Bool)
  | 0, _ => none
  | k + 1, x38 => if x38 < (wrap64 ((l0.length : Int).tdiv 6)) then (if (0 : Int) ≤ x38 ∧ x38 < 4 then (if (x20.get x38) = 6 then (spec_l10Letters.l1 K l0 x20 k (wrap64 (x38 + 1))) else (some (Sum.inr false))) else none) else (some (Sum.inl ()))
def spec_l10Letters.f (K : Nat) (l0 : (List Int)) : Option Bool := if ((l0.length : Int).tmod 6) = 0 then ((spec_l1In.f K (l0.length : Int) 6 24).bind fun t3 => if t3 = true then ((spec_l10Letters.l0 K l0 K 0 (⟨[0, 0, 0, 0], rfl⟩ : Ar 4)).bind fun o29 => (match o29 with | .inl x20 => (spec_l10Letters.l1 K l0 x20 K 0).bind fun o42 => (match o42 with | .inl () => some true | .inr r44 => some r44) | .inr r31 => some r31)) else (some false)) else (some false)
set_option maxRecDepth 100000 in
set_option maxHeartbeats 4000000 in
theorem spec_l10Letters.calls {w0 : World} (K : Nat) (l0 : (List Int)) (u0 : Value) (q0 : SlR cd3 w0 u0 l0) (r : Bool) (H : spec_l10Letters.f K l0 = some r) : Calls Try.prog 47 [u0].toArray w0 (Post w0 fun w v => v = Value.bool r) := by
  rw [spec_l10Letters.f] at H
  refine s_start Try.func47 rfl Try.ntmps47 rfl ?_
  intro a hF
  have hM := Ms.start w0
  skip
  refine wp_seq ?_
  refine s_region ?_
  refine s_val hF rfl rfl rfl (e_assign hF rfl) ?_; intro a hF
  refine s_nil ?_
  refine then_n ?_
  refine wp_seq ?_
  refine s_region ?_
  refine s_val hF rfl rfl rfl (e_build' (cells := cat [Pt.ar (⟨[0, 0, 0, 0], rfl⟩ : Ar 4)]) hF rfl (by kernel_rfl)) ?_; intro a hF
  refine s_alloc (ps := [Pt.ar (Ar.zero 4)]) hF hM rfl rfl zv46 rfl ?_; intro a w b1 hF hM
  refine s_stw (i := 0) (ps' := [Pt.ar (⟨[0, 0, 0, 0], rfl⟩ : Ar 4)]) hF hM rfl rfl rfl rfl rfl rfl Try.sizeOf46 rfl ?_; intro a w hF hM
  refine s_nil ?_
  refine then_n ?_
  refine wp_seq ?_
  refine wp_seq ?_
  rcases ite_cases H with ⟨c2, H⟩ | ⟨c2, H⟩
  ·
    obtain ⟨t3, h4, H⟩ := bind_some H
    refine s_region ?_
    refine s_val hF rfl rfl rfl (e_move hF rfl) ?_; intro a hF
    refine s_val hF rfl rfl rfl (e_len hF rfl (q0.frm hM.frm).toF Try.underlying25) ?_; intro a hF
    refine s_val hF rfl rfl rfl (e_rem hF rfl rfl (by decide)) ?_; intro a hF
    refine s_val hF rfl rfl rfl (e_neq hF rfl rfl) ?_; intro a hF
    refine s_val hF rfl rfl rfl (e_move hF rfl) ?_; intro a hF
    have hF := hF.topb (congrArg Bool.not (decide_eq_true c2))
    refine s_val hF rfl rfl rfl (e_move hF rfl) ?_; intro a hF
    refine s_val hF rfl rfl rfl (e_len hF rfl (q0.frm hM.frm).toF Try.underlying25) ?_; intro a hF
    refine s_call hF rfl rfl rfl Try.call43 (spec_l1In.calls K (l0.length : Int) 6 24 t3 h4) ?_; intro a w v hF hf hR
    subst hR; have hM := hM.grow hf
    refine s_val hF rfl rfl rfl (e_not hF rfl) ?_; intro a hF
    refine s_val hF rfl rfl rfl (e_pick_f hF rfl rfl) ?_; intro a hF
    refine s_nil ?_
    refine then_n ?_
    rcases ite_cases H with ⟨c5, H⟩ | ⟨c5, H⟩
    ·
      refine s_cond_f hF rfl (congrArg Bool.not c5) ?_
      refine wp_skip ?_
      refine then_n ?_
      refine wp_seq ?_
      refine wp_seq ?_
      refine s_region ?_
      refine s_val hF rfl rfl rfl (e_assign hF rfl) ?_; intro a hF
      refine s_nil ?_
      refine then_n ?_
      refine wp_block ?_
      obtain ⟨o29, h30, H⟩ := bind_some H
      refine wp_mono (Q := fun e a w => (e = Exit.exit 0 ∧ ∃ x20 : (Ar 4), Sum.inl x20 = o29 ∧ Fr 52 a [(0, u0), (3, pt b1 0)] ∧ Ms [] w0 w [boxR b1 [Pt.ar x20] 46]) ∨ (e = Exit.ret ∧ ∃ r31 : Bool, Sum.inr r31 = o29 ∧ Fr 52 a [(2, Value.bool r31)] ∧ Ms [] w0 w [])) ?_ ?_
      · refine s_loop (fun kq a w => ∃ x21 : Int, ∃ x22 : (Ar 4), spec_l10Letters.l0 K l0 kq x21 x22 = some o29 ∧ Fr 52 a [(0, u0), (3, pt b1 0), (4, Value.int .i64 x21)] ∧ Ms [] w0 w [boxR b1 [Pt.ar x22] 46]) K ⟨0, (⟨[0, 0, 0, 0], rfl⟩ : Ar 4), h30, hF.sub _ ⟨rfl, rfl, rfl, trivial⟩, hM.pick [0] rfl rfl⟩ ?_ ?_
        · rintro a w ⟨_, _, H, _⟩; exact none_some H
        · rintro k a w ⟨x21, x22, H, hF, hM⟩; rw [spec_l10Letters.l0] at H
          refine wp_seq ?_
          refine wp_seq ?_
          refine s_region ?_
          refine s_val hF rfl rfl rfl (e_move hF rfl) ?_; intro a hF
          refine s_val hF rfl rfl rfl (e_move hF rfl) ?_; intro a hF
          refine s_val hF rfl rfl rfl (e_len hF rfl (q0.frm hM.frm).toF Try.underlying25) ?_; intro a hF
          refine s_val hF rfl rfl rfl (e_lss hF rfl rfl) ?_; intro a hF
          refine s_nil ?_
          refine then_n ?_
          rcases ite_cases H with ⟨c23, H⟩ | ⟨c23, H⟩
          ·
            refine s_cond_t hF rfl (decide_eq_true c23) ?_
            refine wp_skip ?_
            refine then_n ?_
            refine wp_seq ?_
            refine wp_block ?_
            refine wp_seq ?_
            refine wp_seq ?_
            obtain ⟨c24, H⟩ := ite_some H
            obtain ⟨t25, h26, H⟩ := bind_some H
            refine s_region ?_
            refine s_val hF rfl rfl rfl (e_move hF rfl) ?_; intro a hF
            refine s_val hF rfl rfl rfl (e_move hF rfl) ?_; intro a hF
            refine s_val hF rfl rfl rfl (e_ias cd3 hF rfl rfl (q0.frm hM.frm).toF Try.underlying25 Try.sizeOf3 c24.1 c24.2) ?_; intro a hF
            refine s_val hF rfl rfl rfl (e_lds (m := x21) hF rfl (q0.frm hM.frm) (getD_some (z := (0 : Int)) c24.1 c24.2) rfl rfl Try.isAgg3) ?_; intro a hF
            refine s_val hF rfl rfl rfl (e_move hF rfl) ?_; intro a hF
            refine s_val hF rfl rfl rfl (e_len hF rfl (q0.frm hM.frm).toF Try.underlying25) ?_; intro a hF
            refine s_val hF rfl rfl rfl (e_quo hF rfl rfl (by decide)) ?_; intro a hF
            refine s_val hF rfl rfl rfl (e_sub hF rfl rfl) ?_; intro a hF
            refine s_call hF rfl rfl rfl Try.call43 (spec_l1In.calls K (l0.getD (x21 : Int).toNat (0 : Int)) 0 (wrap64 ((wrap64 ((l0.length : Int).tdiv 6)) - 1)) t25 h26) ?_; intro a w v hF hf hR
            subst hR; have hM := hM.grow hf
            refine s_val hF rfl rfl rfl (e_not hF rfl) ?_; intro a hF
            refine s_nil ?_
            refine then_n ?_
            rcases ite_cases H with ⟨c27, H⟩ | ⟨c27, H⟩
            ·
              refine s_cond_f hF rfl (congrArg Bool.not c27) ?_
              refine wp_skip ?_
              refine then_n ?_
              obtain ⟨c28, H⟩ := ite_some H
              refine s_region ?_
              refine s_val hF rfl rfl rfl (e_move hF rfl) ?_; intro a hF
              refine s_val hF rfl rfl rfl (e_move hF rfl) ?_; intro a hF
              refine s_val hF rfl rfl rfl (e_ias cd3 hF rfl rfl (q0.frm hM.frm).toF Try.underlying25 Try.sizeOf3 c24.1 c24.2) ?_; intro a hF
              refine s_val hF rfl rfl rfl (e_lds (m := x21) hF rfl (q0.frm hM.frm) (getD_some (z := (0 : Int)) c24.1 c24.2) rfl rfl Try.isAgg3) ?_; intro a hF
              refine s_val hF rfl rfl rfl (e_ia hF rfl rfl Try.underlying46 Try.sizeOf3 c28.1 c28.2) ?_; intro a hF
              refine s_val hF rfl rfl rfl (e_ldi (i := 0) (k := 0) hF hM rfl rfl rfl rfl rfl Try.isAgg3 c28.1 c28.2) ?_; intro a hF
              refine s_val hF rfl rfl rfl (e_add hF rfl rfl) ?_; intro a hF
              refine s_val hF rfl rfl rfl (e_ia hF rfl rfl Try.underlying46 Try.sizeOf3 c28.1 c28.2) ?_; intro a hF
              refine s_sti (i := 0) (k := 0) hF hM rfl rfl rfl rfl rfl rfl rfl Try.sizeOf3 c28.1 c28.2 ?_; intro a w hF hM
              refine s_nil ?_
              refine blk_n ?_
              refine then_n ?_
              refine s_region ?_
              refine s_val hF rfl rfl rfl (e_move hF rfl) ?_; intro a hF
              refine s_val hF rfl rfl rfl (e_add hF rfl rfl) ?_; intro a hF
              refine s_val hF rfl rfl rfl (e_assign hF rfl) ?_; intro a hF
              refine s_nil ?_
              refine then_n ?_
              exact ⟨(wrap64 (x21 + 1)), (x22.set (l0.getD (x21 : Int).toNat (0 : Int)) (wrap64 ((x22.get (l0.getD (x21 : Int).toNat (0 : Int))) + 1))), H, hF.sub _ ⟨rfl, rfl, rfl, trivial⟩, hM.pick [0] rfl rfl⟩
            ·
              refine s_cond_t hF rfl (congrArg Bool.not (bf c27)) ?_
              refine wp_seq ?_
              refine s_region ?_
              refine s_val hF rfl rfl rfl (e_assign hF rfl) ?_; intro a hF
              refine s_nil ?_
              refine then_n ?_
              refine wp_ret ?_
              refine then_r ?_
              refine blk_r ?_
              refine then_r ?_
              refine then_r ?_
              exact Or.inr (⟨rfl, false, some_some H, hF.sub _ ⟨rfl, trivial⟩, hM.pick [] rfl rfl⟩)
          ·
            refine s_cond_f hF rfl (decide_eq_false c23) ?_
            refine wp_exit ?_
            refine then_x ?_
            refine then_x ?_
            exact Or.inl (⟨rfl, x22, some_some H, hF.sub _ ⟨rfl, rfl, trivial⟩, hM.pick [0] rfl rfl⟩)
      · rintro e a w (⟨rfl, x20, rfl, hF, hM⟩ | ⟨rfl, r31, rfl, hF, hM⟩)
        ·
          dsimp only at H
          refine blk_x ?_
          refine then_n ?_
          refine wp_seq ?_
          refine wp_seq ?_
          refine s_region ?_
          refine s_val hF rfl rfl rfl (e_assign hF rfl) ?_; intro a hF
          refine s_nil ?_
          refine then_n ?_
          refine wp_block ?_
          obtain ⟨o42, h43, H⟩ := bind_some H
          refine wp_mono (Q := fun e a w => (e = Exit.exit 2 ∧ Sum.inl () = o42 ∧ Fr 52 a [] ∧ Ms [] w0 w []) ∨ (e = Exit.ret ∧ ∃ r44 : Bool, Sum.inr r44 = o42 ∧ Fr 52 a [(2, Value.bool r44)] ∧ Ms [] w0 w [])) ?_ ?_
          · refine s_loop (fun kq a w => ∃ x38 : Int, spec_l10Letters.l1 K l0 x20 kq x38 = some o42 ∧ Fr 52 a [(0, u0), (3, pt b1 0), (5, Value.int .i64 x38)] ∧ Ms [] w0 w [boxR b1 [Pt.ar x20] 46]) K ⟨0, h43, hF.sub _ ⟨rfl, rfl, rfl, trivial⟩, hM.pick [0] rfl rfl⟩ ?_ ?_
            · rintro a w ⟨_, H, _⟩; exact none_some H
            · rintro k a w ⟨x38, H, hF, hM⟩; rw [spec_l10Letters.l1] at H
              refine wp_seq ?_
              refine wp_seq ?_
              refine s_region ?_
              refine s_val hF rfl rfl rfl (e_move hF rfl) ?_; intro a hF
              refine s_val hF rfl rfl rfl (e_move hF rfl) ?_; intro a hF
              refine s_val hF rfl rfl rfl (e_len hF rfl (q0.frm hM.frm).toF Try.underlying25) ?_; intro a hF
              refine s_val hF rfl rfl rfl (e_quo hF rfl rfl (by decide)) ?_; intro a hF
              refine s_val hF rfl rfl rfl (e_lss hF rfl rfl) ?_; intro a hF
              refine s_nil ?_
              refine then_n ?_
              rcases ite_cases H with ⟨c39, H⟩ | ⟨c39, H⟩
              ·
                refine s_cond_t hF rfl (decide_eq_true c39) ?_
                refine wp_skip ?_
                refine then_n ?_
                refine wp_seq ?_
                refine wp_block ?_
                refine wp_seq ?_
                obtain ⟨c40, H⟩ := ite_some H
                refine s_region ?_
                refine s_val hF rfl rfl rfl (e_move hF rfl) ?_; intro a hF
                refine s_val hF rfl rfl rfl (e_ia hF rfl rfl Try.underlying46 Try.sizeOf3 c40.1 c40.2) ?_; intro a hF
                refine s_val hF rfl rfl rfl (e_ldi (i := 0) (k := 0) hF hM rfl rfl rfl rfl rfl Try.isAgg3 c40.1 c40.2) ?_; intro a hF
                refine s_val hF rfl rfl rfl (e_neq hF rfl rfl) ?_; intro a hF
                refine s_nil ?_
                refine then_n ?_
                rcases ite_cases H with ⟨c41, H⟩ | ⟨c41, H⟩
                ·
                  refine s_cond_f hF rfl (congrArg Bool.not (decide_eq_true c41)) ?_
                  refine wp_skip ?_
                  refine blk_n ?_
                  refine then_n ?_
                  refine s_region ?_
                  refine s_val hF rfl rfl rfl (e_move hF rfl) ?_; intro a hF
                  refine s_val hF rfl rfl rfl (e_add hF rfl rfl) ?_; intro a hF
                  refine s_val hF rfl rfl rfl (e_assign hF rfl) ?_; intro a hF
                  refine s_nil ?_
                  refine then_n ?_
                  exact ⟨(wrap64 (x38 + 1)), H, hF.sub _ ⟨rfl, rfl, rfl, trivial⟩, hM.pick [0] rfl rfl⟩
                ·
                  refine s_cond_t hF rfl (congrArg Bool.not (decide_eq_false c41)) ?_
                  refine wp_seq ?_
                  refine s_region ?_
                  refine s_val hF rfl rfl rfl (e_assign hF rfl) ?_; intro a hF
                  refine s_nil ?_
                  refine then_n ?_
                  refine wp_ret ?_
                  refine blk_r ?_
                  refine then_r ?_
                  refine then_r ?_
                  exact Or.inr (⟨rfl, false, some_some H, hF.sub _ ⟨rfl, trivial⟩, hM.pick [] rfl rfl⟩)
              ·
                refine s_cond_f hF rfl (decide_eq_false c39) ?_
                refine wp_exit ?_
                refine then_x ?_
                refine then_x ?_
                exact Or.inl (⟨rfl, some_some H, hF.sub _ trivial, hM.pick [] rfl rfl⟩)
          · rintro e a w (⟨rfl, rfl, hF, hM⟩ | ⟨rfl, r44, rfl, hF, hM⟩)
            ·
              dsimp only at H
              refine blk_x ?_
              refine then_n ?_
              refine wp_seq ?_
              refine s_region ?_
              refine s_val hF rfl rfl rfl (e_assign hF rfl) ?_; intro a hF
              refine s_nil ?_
              refine then_n ?_
              refine wp_ret ?_
              obtain rfl := some_some H
              refine s_ret [Value.bool true] hF Try.results47 ⟨rfl, trivial⟩ ?_
              exact ⟨_, rfl, hM.frm, rfl⟩
            ·
              dsimp only at H
              refine blk_r ?_
              refine then_r ?_
              obtain rfl := some_some H
              refine s_ret [Value.bool r44] hF Try.results47 ⟨rfl, trivial⟩ ?_
              exact ⟨_, rfl, hM.frm, rfl⟩
        ·
          dsimp only at H
          refine blk_r ?_
          refine then_r ?_
          obtain rfl := some_some H
          refine s_ret [Value.bool r31] hF Try.results47 ⟨rfl, trivial⟩ ?_
          exact ⟨_, rfl, hM.frm, rfl⟩
    ·
      refine s_cond_t hF rfl (congrArg Bool.not (bf c5)) ?_
      refine wp_seq ?_
      refine s_region ?_
      refine s_val hF rfl rfl rfl (e_assign hF rfl) ?_; intro a hF
      refine s_nil ?_
      refine then_n ?_
      refine wp_ret ?_
      refine then_r ?_
      obtain rfl := some_some H
      refine s_ret [Value.bool false] hF Try.results47 ⟨rfl, trivial⟩ ?_
      exact ⟨_, rfl, hM.frm, rfl⟩
  ·
    refine s_region ?_
    refine s_val hF rfl rfl rfl (e_move hF rfl) ?_; intro a hF
    refine s_val hF rfl rfl rfl (e_len hF rfl (q0.frm hM.frm).toF Try.underlying25) ?_; intro a hF
    refine s_val hF rfl rfl rfl (e_rem hF rfl rfl (by decide)) ?_; intro a hF
    refine s_val hF rfl rfl rfl (e_neq hF rfl rfl) ?_; intro a hF
    refine s_val hF rfl rfl rfl (e_move hF rfl) ?_; intro a hF
    have hF := hF.topb (congrArg Bool.not (decide_eq_false c2))
    refine s_skip hF rfl rfl rfl ?_; intro a hF
    refine s_skip hF rfl rfl rfl ?_; intro a hF
    refine s_skip hF rfl rfl rfl ?_; intro a hF
    refine s_skip hF rfl rfl rfl ?_; intro a hF
    refine s_val hF rfl rfl rfl (e_pick_t hF rfl rfl) ?_; intro a hF
    refine s_nil ?_
    refine then_n ?_
    refine s_cond_t hF rfl rfl ?_
    refine wp_seq ?_
    refine s_region ?_
    refine s_val hF rfl rfl rfl (e_assign hF rfl) ?_; intro a hF
    refine s_nil ?_
    refine then_n ?_
    refine wp_ret ?_
    refine then_r ?_
    obtain rfl := some_some H
    refine s_ret [Value.bool false] hF Try.results47 ⟨rfl, trivial⟩ ?_
    exact ⟨_, rfl, hM.frm, rfl⟩

/-! ### loop.example/g01210/spec.l10Pool: function 53 -/
def spec_l10Pool.l0 (K : Nat) (l0 : (List Int)) : Nat → Int → (List (Ar 6)) → (Ar 4) → Option (List (Ar 6))
  | 0, _, _, _ => none
  | k + 1, x18, x19, x20 => if x18 < (l0.length : Int) then (if (0 : Int) ≤ x18 ∧ x18 < (l0.length : Int) then (if (0 : Int) ≤ (l0.getD (x18 : Int).toNat (0 : Int)) ∧ (l0.getD (x18 : Int).toNat (0 : Int)) < 4 then (if (0 : Int) ≤ (l0.getD (x18 : Int).toNat (0 : Int)) ∧ (l0.getD (x18 : Int).toNat (0 : Int)) < (x19.length : Int) then (if (0 : Int) ≤ (x20.get (l0.getD (x18 : Int).toNat (0 : Int))) ∧ (x20.get (l0.getD (x18 : Int).toNat (0 : Int))) < 6 then (spec_l10Pool.l0 K l0 k (wrap64 (x18 + 1)) (x19.set ((l0.getD (x18 : Int).toNat (0 : Int)) : Int).toNat ((x19.getD ((l0.getD (x18 : Int).toNat (0 : Int)) : Int).toNat (Ar.zero 6)).set (x20.get (l0.getD (x18 : Int).toNat (0 : Int))) (wrap64 (x18 + 1)))) (x20.set (l0.getD (x18 : Int).toNat (0 : Int)) (wrap64 ((x20.get (l0.getD (x18 : Int).toNat (0 : Int))) + 1)))) else none) else none) else none) else none) else (some x19)
def spec_l10Pool.f (K : Nat) (l0 : (List Int)) : Option (List (Ar 6)) := if (0 : Int) ≤ (wrap64 ((l0.length : Int).tdiv 6)) ∧ (wrap64 ((l0.length : Int).tdiv 6)) ≤ 1073741824 then ((spec_l10Pool.l0 K l0 K 0 (List.replicate (wrap64 ((l0.length : Int).tdiv 6)).toNat (Ar.zero 6)) (⟨[0, 0, 0, 0], rfl⟩ : Ar 4)).bind fun x17 => some x17) else none
set_option maxRecDepth 100000 in
set_option maxHeartbeats 4000000 in
theorem spec_l10Pool.calls {w0 : World} (K : Nat) (l0 : (List Int)) (u0 : Value) (q0 : SlR cd3 w0 u0 l0) (r : (List (Ar 6))) (H : spec_l10Pool.f K l0 = some r) : Calls Try.prog 53 [u0].toArray w0 (Post w0 fun w v => Fresh cd62 w0.heap.size w v r) := by
  rw [spec_l10Pool.f] at H
  refine s_start Try.func53 rfl Try.ntmps53 rfl ?_
  intro a hF
  have hM := Ms.start w0
  skip
  refine wp_seq ?_
  refine s_region ?_
  refine s_val hF rfl rfl rfl (e_assign hF rfl) ?_; intro a hF
  refine s_nil ?_
  refine then_n ?_
  refine wp_seq ?_
  obtain ⟨c2, H⟩ := ite_some H
  refine s_region ?_
  refine s_val hF rfl rfl rfl (e_move hF rfl) ?_; intro a hF
  refine s_val hF rfl rfl rfl (e_len hF rfl (q0.frm hM.frm).toF Try.underlying25) ?_; intro a hF
  refine s_val hF rfl rfl rfl (e_quo hF rfl rfl (by decide)) ?_; intro a hF
  refine s_make (C := cd62) cdok62 hF hM rfl rfl rfl rfl Try.underlying37 c2.1 c2.2 ?_; intro a w v1 hF hM
  refine s_val hF rfl rfl rfl (e_build' (cells := cat [Pt.ar (⟨[0, 0, 0, 0], rfl⟩ : Ar 4)]) hF rfl (by kernel_rfl)) ?_; intro a hF
  refine s_alloc (ps := [Pt.ar (Ar.zero 4)]) hF hM rfl rfl zv46 rfl ?_; intro a w b3 hF hM
  refine s_val hF rfl rfl rfl (e_assign hF rfl) ?_; intro a hF
  refine s_stw (i := 0) (ps' := [Pt.ar (⟨[0, 0, 0, 0], rfl⟩ : Ar 4)]) hF hM rfl rfl rfl rfl rfl rfl Try.sizeOf46 rfl ?_; intro a w hF hM
  refine s_nil ?_
  refine then_n ?_
  refine wp_seq ?_
  refine wp_seq ?_
  refine s_region ?_
  refine s_val hF rfl rfl rfl (e_assign hF rfl) ?_; intro a hF
  refine s_nil ?_
  refine then_n ?_
  refine wp_block ?_
  obtain ⟨o29, h30, H⟩ := bind_some H
  refine wp_mono (Q := fun e a w => (e = Exit.exit 0 ∧ ∃ x17 : (List (Ar 6)), x17 = o29 ∧ Fr 41 a [(3, v1)] ∧ Ms [] w0 w [rowR cd62 v1 x17])) ?_ ?_
  · refine s_loop (fun kq a w => ∃ x18 : Int, ∃ x19 : (List (Ar 6)), ∃ x20 : (Ar 4), spec_l10Pool.l0 K l0 kq x18 x19 x20 = some o29 ∧ Fr 41 a [(0, u0), (3, v1), (4, pt b3 0), (5, Value.int .i64 x18)] ∧ Ms [] w0 w [rowR cd62 v1 x19, boxR b3 [Pt.ar x20] 46]) K ⟨0, (List.replicate (wrap64 ((l0.length : Int).tdiv 6)).toNat (Ar.zero 6)), (⟨[0, 0, 0, 0], rfl⟩ : Ar 4), h30, hF.sub _ ⟨rfl, rfl, rfl, rfl, trivial⟩, hM.pick [1, 0] rfl rfl⟩ ?_ ?_
    · rintro a w ⟨_, _, _, H, _⟩; exact none_some H
    · rintro k a w ⟨x18, x19, x20, H, hF, hM⟩; rw [spec_l10Pool.l0] at H
      refine wp_seq ?_
      refine wp_seq ?_
      refine s_region ?_
      refine s_val hF rfl rfl rfl (e_move hF rfl) ?_; intro a hF
      refine s_val hF rfl rfl rfl (e_move hF rfl) ?_; intro a hF
      refine s_val hF rfl rfl rfl (e_len hF rfl (q0.frm hM.frm).toF Try.underlying25) ?_; intro a hF
      refine s_val hF rfl rfl rfl (e_lss hF rfl rfl) ?_; intro a hF
      refine s_nil ?_
      refine then_n ?_
      rcases ite_cases H with ⟨c21, H⟩ | ⟨c21, H⟩
      ·
        refine s_cond_t hF rfl (decide_eq_true c21) ?_
        refine wp_skip ?_
        refine then_n ?_
        refine wp_seq ?_
        refine wp_block ?_
        refine wp_seq ?_
        obtain ⟨c22, H⟩ := ite_some H
        obtain ⟨c23, H⟩ := ite_some H
        obtain ⟨c24, H⟩ := ite_some H
        obtain ⟨c25, H⟩ := ite_some H
        refine s_held (fun w => Ms [] w0 w [boxR b3 [Pt.ar x20] 46]) #[false, false, false, false, false, false, false, false, false, false, false, false, false, false, false, false] mixed rfl rfl hM ?_; intro w hf hM; clear hf
        refine h_val 0 #[true, false, false, false, false, false, false, false, false, false, false, false, false, false, false, false] rfl (by kernel_rfl) hF rfl rfl rfl (fun w hS => e_move hF rfl) (hM.pick [1] rfl rfl) ?_; intro a hF
        refine h_val 1 #[true, true, false, false, false, false, false, false, false, false, false, false, false, false, false, false] rfl (by kernel_rfl) hF rfl rfl rfl (fun w hS => e_move hF rfl) (hM.pick [1] rfl rfl) ?_; intro a hF
        refine h_val 2 #[true, true, true, false, false, false, false, false, false, false, false, false, false, false, false, false] rfl (by kernel_rfl) hF rfl rfl rfl (fun w hS => e_move hF rfl) (hM.pick [1] rfl rfl) ?_; intro a hF
        have f26 := (q0.frm hM.frm).toF
        refine h_val 3 #[true, true, true, true, false, false, false, false, false, false, false, false, false, false, false, false] rfl (by kernel_rfl) hF rfl rfl rfl (fun w hS => e_ias cd3 hF rfl rfl f26 Try.underlying25 Try.sizeOf3 c22.1 c22.2) (hM.pick [1] rfl rfl) ?_; intro a hF
        refine h_val 4 #[true, true, true, true, true, false, false, false, false, false, false, false, false, false, false, false] rfl (by kernel_rfl) hF rfl rfl rfl (fun w hS => e_lds (m := x18) hF rfl (q0.frm hS.frm) (getD_some (z := (0 : Int)) c22.1 c22.2) rfl rfl Try.isAgg3) (hM.pick [1] rfl rfl) ?_; intro a hF
        refine h_val 5 #[true, true, true, true, true, true, false, false, false, false, false, false, false, false, false, false] rfl (by kernel_rfl) hF rfl rfl rfl (fun w hS => e_move hF rfl) (hM.pick [1] rfl rfl) ?_; intro a hF
        refine h_val 6 #[true, true, true, true, true, true, true, false, false, false, false, false, false, false, false, false] rfl (by kernel_rfl) hF rfl rfl rfl (fun w hS => e_move hF rfl) (hM.pick [1] rfl rfl) ?_; intro a hF
        have f27 := (q0.frm hM.frm).toF
        refine h_val 7 #[true, true, true, true, true, true, true, true, false, false, false, false, false, false, false, false] rfl (by kernel_rfl) hF rfl rfl rfl (fun w hS => e_ias cd3 hF rfl rfl f27 Try.underlying25 Try.sizeOf3 c22.1 c22.2) (hM.pick [1] rfl rfl) ?_; intro a hF
        refine h_val 8 #[true, true, true, true, true, true, true, true, true, false, false, false, false, false, false, false] rfl (by kernel_rfl) hF rfl rfl rfl (fun w hS => e_lds (m := x18) hF rfl (q0.frm hS.frm) (getD_some (z := (0 : Int)) c22.1 c22.2) rfl rfl Try.isAgg3) (hM.pick [1] rfl rfl) ?_; intro a hF
        refine h_val 9 #[true, true, true, true, true, true, true, true, true, true, false, false, false, false, false, false] rfl (by kernel_rfl) hF rfl rfl rfl (fun w hS => e_ia hF rfl rfl Try.underlying46 Try.sizeOf3 c23.1 c23.2) (hM.pick [1] rfl rfl) ?_; intro a hF
        refine h_val 10 #[true, true, true, true, true, true, true, true, true, true, true, false, false, false, false, false] rfl (by kernel_rfl) hF rfl rfl rfl (fun w hS => e_ldi (i := 0) (k := 0) hF hS rfl rfl rfl rfl rfl Try.isAgg3 c23.1 c23.2) (hM.pick [1] rfl rfl) ?_; intro a hF
        refine h_val 11 #[true, true, true, true, true, true, true, true, true, true, true, true, false, false, false, false] rfl (by kernel_rfl) hF rfl rfl rfl (fun w hS => e_move hF rfl) (hM.pick [1] rfl rfl) ?_; intro a hF
        refine h_val 12 #[true, true, true, true, true, true, true, true, true, true, true, true, true, false, false, false] rfl (by kernel_rfl) hF rfl rfl rfl (fun w hS => e_add hF rfl rfl) (hM.pick [1] rfl rfl) ?_; intro a hF
        have f28 := (hM.sl 0 rfl).toF
        refine h_val 13 #[true, true, true, true, true, true, true, true, true, true, true, true, true, true, false, false] rfl (by kernel_rfl) hF rfl rfl rfl (fun w hS => e_ias cd62 hF rfl rfl f28 Try.underlying37 Try.sizeOf62 c24.1 c24.2) (hM.pick [1] rfl rfl) ?_; intro a hF
        refine h_val 14 #[true, true, true, true, true, true, true, true, true, true, true, true, true, true, true, false] rfl (by kernel_rfl) hF rfl rfl rfl (fun w hS => e_ia hF rfl rfl Try.underlying62 Try.sizeOf3 c25.1 c25.2) (hM.pick [1] rfl rfl) ?_; intro a hF
        refine h_one 15 #[true, true, true, true, true, true, true, true, true, true, true, true, true, true, true, true] rfl (by kernel_rfl) ?_
        refine s_stsi (i := 0) (k := 0) (o := 0) (m := (l0.getD (x18 : Int).toNat (0 : Int))) (m2 := (x20.get (l0.getD (x18 : Int).toNat (0 : Int)))) ((x19.getD ((l0.getD (x18 : Int).toNat (0 : Int)) : Int).toNat (Ar.zero 6)).set (x20.get (l0.getD (x18 : Int).toNat (0 : Int))) (wrap64 (x18 + 1))) hF hM rfl rfl rfl rfl (getD_some (z := (Ar.zero 6)) c24.1 c24.2) rfl rfl rfl Try.sizeOf3 c25.1 c25.2 ?_; intro a w hF hM
        refine s_nil ⟨rfl, (hM.pick [1] rfl rfl), ?_⟩
        refine h_done rfl ?_
        refine then_n ?_
        refine s_region ?_
        refine s_val hF rfl rfl rfl (e_move hF rfl) ?_; intro a hF
        refine s_val hF rfl rfl rfl (e_move hF rfl) ?_; intro a hF
        refine s_val hF rfl rfl rfl (e_ias cd3 hF rfl rfl (q0.frm hM.frm).toF Try.underlying25 Try.sizeOf3 c22.1 c22.2) ?_; intro a hF
        refine s_val hF rfl rfl rfl (e_lds (m := x18) hF rfl (q0.frm hM.frm) (getD_some (z := (0 : Int)) c22.1 c22.2) rfl rfl Try.isAgg3) ?_; intro a hF
        refine s_val hF rfl rfl rfl (e_ia hF rfl rfl Try.underlying46 Try.sizeOf3 c23.1 c23.2) ?_; intro a hF
        refine s_val hF rfl rfl rfl (e_ldi (i := 1) (k := 0) hF hM rfl rfl rfl rfl rfl Try.isAgg3 c23.1 c23.2) ?_; intro a hF
        refine s_val hF rfl rfl rfl (e_add hF rfl rfl) ?_; intro a hF
        refine s_val hF rfl rfl rfl (e_ia hF rfl rfl Try.underlying46 Try.sizeOf3 c23.1 c23.2) ?_; intro a hF
        refine s_sti (i := 1) (k := 0) hF hM rfl rfl rfl rfl rfl rfl rfl Try.sizeOf3 c23.1 c23.2 ?_; intro a w hF hM
        refine s_nil ?_
        refine blk_n ?_
        refine then_n ?_
        refine s_region ?_
        refine s_val hF rfl rfl rfl (e_move hF rfl) ?_; intro a hF
        refine s_val hF rfl rfl rfl (e_add hF rfl rfl) ?_; intro a hF
        refine s_val hF rfl rfl rfl (e_assign hF rfl) ?_; intro a hF
        refine s_nil ?_
        refine then_n ?_
        exact ⟨(wrap64 (x18 + 1)), (x19.set ((l0.getD (x18 : Int).toNat (0 : Int)) : Int).toNat ((x19.getD ((l0.getD (x18 : Int).toNat (0 : Int)) : Int).toNat (Ar.zero 6)).set (x20.get (l0.getD (x18 : Int).toNat (0 : Int))) (wrap64 (x18 + 1)))), (x20.set (l0.getD (x18 : Int).toNat (0 : Int)) (wrap64 ((x20.get (l0.getD (x18 : Int).toNat (0 : Int))) + 1))), H, hF.sub _ ⟨rfl, rfl, rfl, rfl, trivial⟩, hM.pick [0, 1] rfl rfl⟩
      ·
        refine s_cond_f hF rfl (decide_eq_false c21) ?_
        refine wp_exit ?_
        refine then_x ?_
        refine then_x ?_
        exact ⟨rfl, x19, some_some H, hF.sub _ ⟨rfl, trivial⟩, hM.pick [0] rfl rfl⟩
  · rintro e a w ⟨rfl, x17, rfl, hF, hM⟩
    skip
    refine blk_x ?_
    refine then_n ?_
    refine wp_seq ?_
    refine s_region ?_
    refine s_val hF rfl rfl rfl (e_move hF rfl) ?_; intro a hF
    refine s_val hF rfl rfl rfl (e_assign hF rfl) ?_; intro a hF
    refine s_nil ?_
    refine then_n ?_
    refine wp_ret ?_
    obtain rfl := some_some H
    refine s_ret [v1] hF Try.results53 ⟨rfl, trivial⟩ ?_
    exact ⟨_, rfl, hM.frm, hM.give 0 rfl⟩

/-! ### loop.example/g01210/spec.l8Power: function 73 -/
def spec_l8Power.l0 (K : Nat) (a0 : Int) (a1 : Int) : Nat → Int → Int → Option Int
  | 0, _, _ => none
  | k + 1, x6, x7 => if x7 < a1 then (spec_l8Power.l0 K a0 a1 k (wrap64 (x6 * a0)) (wrap64 (x7 + 1))) else (some x6)
def spec_l8Power.f (K : Nat) (a0 : Int) (a1 : Int) : Option Int := (spec_l8Power.l0 K a0 a1 K 1 0).bind fun x5 => some x5
set_option maxRecDepth 100000 in
set_option maxHeartbeats 4000000 in
theorem spec_l8Power.calls {w0 : World} (K : Nat) (a0 : Int) (a1 : Int) (r : Int) (H : spec_l8Power.f K a0 a1 = some r) : Calls Try.prog 73 [Value.int .i64 a0, Value.int .i64 a1].toArray w0 (Post w0 fun w v => v = Value.int .i64 r) := by
  rw [spec_l8Power.f] at H
  refine s_start Try.func73 rfl Try.ntmps73 rfl ?_
  intro a hF
  have hM := Ms.start w0
  skip
  refine wp_seq ?_
  refine s_region ?_
  refine s_val hF rfl rfl rfl (e_assign hF rfl) ?_; intro a hF
  refine s_nil ?_
  refine then_n ?_
  refine wp_seq ?_
  refine s_region ?_
  refine s_val hF rfl rfl rfl (e_assign hF rfl) ?_; intro a hF
  refine s_nil ?_
  refine then_n ?_
  refine wp_seq ?_
  refine wp_seq ?_
  refine s_region ?_
  refine s_val hF rfl rfl rfl (e_assign hF rfl) ?_; intro a hF
  refine s_nil ?_
  refine then_n ?_
  refine wp_block ?_
  obtain ⟨o9, h10, H⟩ := bind_some H
  refine wp_mono (Q := fun e a w => (e = Exit.exit 0 ∧ ∃ x5 : Int, x5 = o9 ∧ Fr 16 a [(5, Value.int .i64 x5)] ∧ Ms [] w0 w [])) ?_ ?_
  · refine s_loop (fun kq a w => ∃ x6 : Int, ∃ x7 : Int, spec_l8Power.l0 K a0 a1 kq x6 x7 = some o9 ∧ Fr 16 a [(0, Value.int .i64 a0), (1, Value.int .i64 a1), (5, Value.int .i64 x6), (6, Value.int .i64 x7)] ∧ Ms [] w0 w []) K ⟨1, 0, h10, hF.sub _ ⟨rfl, rfl, rfl, rfl, trivial⟩, hM.pick [] rfl rfl⟩ ?_ ?_
    · rintro a w ⟨_, _, H, _⟩; exact none_some H
    · rintro k a w ⟨x6, x7, H, hF, hM⟩; rw [spec_l8Power.l0] at H
      refine wp_seq ?_
      refine wp_seq ?_
      refine s_region ?_
      refine s_val hF rfl rfl rfl (e_move hF rfl) ?_; intro a hF
      refine s_val hF rfl rfl rfl (e_move hF rfl) ?_; intro a hF
      refine s_val hF rfl rfl rfl (e_lss hF rfl rfl) ?_; intro a hF
      refine s_nil ?_
      refine then_n ?_
      rcases ite_cases H with ⟨c8, H⟩ | ⟨c8, H⟩
      ·
        refine s_cond_t hF rfl (decide_eq_true c8) ?_
        refine wp_skip ?_
        refine then_n ?_
        refine wp_seq ?_
        refine wp_block ?_
        refine s_region ?_
        refine s_val hF rfl rfl rfl (e_move hF rfl) ?_; intro a hF
        refine s_val hF rfl rfl rfl (e_move hF rfl) ?_; intro a hF
        refine s_val hF rfl rfl rfl (e_mul hF rfl rfl) ?_; intro a hF
        refine s_val hF rfl rfl rfl (e_assign hF rfl) ?_; intro a hF
        refine s_nil ?_
        refine blk_n ?_
        refine then_n ?_
        refine s_region ?_
        refine s_val hF rfl rfl rfl (e_move hF rfl) ?_; intro a hF
        refine s_val hF rfl rfl rfl (e_add hF rfl rfl) ?_; intro a hF
        refine s_val hF rfl rfl rfl (e_assign hF rfl) ?_; intro a hF
        refine s_nil ?_
        refine then_n ?_
        exact ⟨(wrap64 (x6 * a0)), (wrap64 (x7 + 1)), H, hF.sub _ ⟨rfl, rfl, rfl, rfl, trivial⟩, hM.pick [] rfl rfl⟩
      ·
        refine s_cond_f hF rfl (decide_eq_false c8) ?_
        refine wp_exit ?_
        refine then_x ?_
        refine then_x ?_
        exact ⟨rfl, x6, some_some H, hF.sub _ ⟨rfl, trivial⟩, hM.pick [] rfl rfl⟩
  · rintro e a w ⟨rfl, x5, rfl, hF, hM⟩
    skip
    refine blk_x ?_
    refine then_n ?_
    refine wp_seq ?_
    refine s_region ?_
    refine s_val hF rfl rfl rfl (e_move hF rfl) ?_; intro a hF
    refine s_val hF rfl rfl rfl (e_assign hF rfl) ?_; intro a hF
    refine s_nil ?_
    refine then_n ?_
    refine wp_ret ?_
    obtain rfl := some_some H
    refine s_ret [Value.int .i64 x5] hF Try.results73 ⟨rfl, trivial⟩ ?_
    exact ⟨_, rfl, hM.frm, rfl⟩

/-! ### loop.example/g01210/spec.l10Orders: function 51 -/
def spec_l10Orders.l3 (K : Nat) (a0 : Int) : Nat → Int → Int → Int → (Ar 4) → Option (Int × (Ar 4))
  | 0, _, _, _, _ => none
  | k + 1, x94, x95, x96, x97 => if 0 ≤ x96 then (if a0 ≠ 0 then (if (0 : Int) ≤ x96 ∧ x96 < 4 then (if 0 ≤ (x95.tmod a0) then (spec_l10Orders.l3 K a0 k (Go.bits .or .i64 x94 (wrap64 (1 * 2 ^ (min ((x95.tmod a0) : Int).toNat 64)))) (wrap64 (x95.tdiv a0)) (wrap64 (x96 - 1)) (x97.set x96 (x95.tmod a0))) else none) else none) else none) else (some (x94, x97))
def spec_l10Orders.l2 (K : Nat) (a0 : Int) : Nat → Int → (List (Ar 4)) → Option (List (Ar 4))
  | 0, _, _ => none
  | k + 1, x73, x75 => (spec_l8Power.f K a0 a0).bind fun t76 => if x73 < t76 then ((spec_l10Orders.l3 K a0 K 0 x73 (wrap64 (a0 - 1)) (⟨[(-1), (-1), (-1), (-1)], rfl⟩ : Ar 4)).bind fun (x92, x93) => if 0 ≤ a0 then (if x92 = (wrap64 ((wrap64 (1 * 2 ^ (min (a0 : Int).toNat 64))) - 1)) then (if x75.length + [x93].length ≤ 1073741824 then (spec_l10Orders.l2 K a0 k (wrap64 (x73 + 1)) (x75 ++ [x93])) else none) else (spec_l10Orders.l2 K a0 k (wrap64 (x73 + 1)) x75)) else none) else (some x75)
def spec_l10Orders.f (K : Nat) (a0 : Int) : Option (List (Ar 4)) := (spec_l10Orders.l2 K a0 K 0 ([] : List (Ar 4))).bind fun x72 => some x72
set_option maxRecDepth 100000 in
set_option maxHeartbeats 4000000 in
theorem spec_l10Orders.calls {w0 : World} (K : Nat) (a0 : Int) (r : (List (Ar 4))) (H : spec_l10Orders.f K a0 = some r) : Calls Try.prog 51 [Value.int .i64 a0].toArray w0 (Post w0 fun w v => Fresh cd48 w0.heap.size w v r) := by
  rw [spec_l10Orders.f] at H
  refine s_start Try.func51 rfl Try.ntmps51 rfl ?_
  intro a hF
  have hM := Ms.start w0
  skip
  refine wp_seq ?_
  refine s_region ?_
  refine s_val hF rfl rfl rfl (e_assign hF rfl) ?_; intro a hF
  refine s_nil ?_
  refine then_n ?_
  refine wp_seq ?_
  refine s_region ?_
  refine s_bsl (C := cd48) ([] : List (Ar 4)) cdok48 hF hM rfl rfl rfl rfl Try.underlying32 rfl ?_; intro a w v1 hF hM
  refine s_val hF rfl rfl rfl (e_assign hF rfl) ?_; intro a hF
  refine s_nil ?_
  refine then_n ?_
  refine wp_seq ?_
  refine wp_seq ?_
  refine s_region ?_
  refine s_val hF rfl rfl rfl (e_assign hF rfl) ?_; intro a hF
  refine s_nil ?_
  refine then_n ?_
  refine wp_block ?_
  obtain ⟨o109, h110, H⟩ := bind_some H
  refine wp_mono (Q := fun e a w => (e = Exit.exit 0 ∧ ∃ v71 : Value, ∃ x72 : (List (Ar 4)), x72 = o109 ∧ Fr 51 a [(3, v71)] ∧ Ms [] w0 w [rowR cd48 v71 x72])) ?_ ?_
  · refine s_loop (fun kq a w => ∃ v74 : Value, ∃ x73 : Int, ∃ x75 : (List (Ar 4)), spec_l10Orders.l2 K a0 kq x73 x75 = some o109 ∧ Fr 51 a [(0, Value.int .i64 a0), (3, v74), (4, Value.int .i64 x73)] ∧ Ms [] w0 w [rowR cd48 v74 x75]) K ⟨v1, 0, ([] : List (Ar 4)), h110, hF.sub _ ⟨rfl, rfl, rfl, trivial⟩, hM.pick [0] rfl rfl⟩ ?_ ?_
    · rintro a w ⟨_, _, _, H, _⟩; exact none_some H
    · rintro k a w ⟨v74, x73, x75, H, hF, hM⟩; rw [spec_l10Orders.l2] at H
      refine wp_seq ?_
      refine wp_seq ?_
      obtain ⟨t76, h77, H⟩ := bind_some H
      refine s_region ?_
      refine s_val hF rfl rfl rfl (e_move hF rfl) ?_; intro a hF
      refine s_val hF rfl rfl rfl (e_move hF rfl) ?_; intro a hF
      refine s_val hF rfl rfl rfl (e_move hF rfl) ?_; intro a hF
      refine s_call hF rfl rfl rfl Try.call73 (spec_l8Power.calls K a0 a0 t76 h77) ?_; intro a w v hF hf hR
      subst hR; have hM := hM.grow hf
      refine s_val hF rfl rfl rfl (e_lss hF rfl rfl) ?_; intro a hF
      refine s_nil ?_
      refine then_n ?_
      rcases ite_cases H with ⟨c78, H⟩ | ⟨c78, H⟩
      ·
        refine s_cond_t hF rfl (decide_eq_true c78) ?_
        refine wp_skip ?_
        refine then_n ?_
        refine wp_seq ?_
        refine wp_block ?_
        refine wp_seq ?_
        refine s_region ?_
        refine s_val hF rfl rfl rfl (e_build' (cells := cat [Pt.ar (⟨[(-1), (-1), (-1), (-1)], rfl⟩ : Ar 4)]) hF rfl (by kernel_rfl)) ?_; intro a hF
        refine s_val hF rfl rfl rfl (e_build' hF rfl (bld48 (⟨[(-1), (-1), (-1), (-1)], rfl⟩ : Ar 4))) ?_; intro a hF
        refine s_val hF rfl rfl rfl (e_move hF rfl) ?_; intro a hF
        refine s_alloc (ps := [Pt.ar (Ar.zero 4)]) hF hM rfl rfl zv48 rfl ?_; intro a w b79 hF hM
        refine s_stw (i := 0) (ps' := [Pt.ar (⟨[(-1), (-1), (-1), (-1)], rfl⟩ : Ar 4)]) hF hM rfl rfl rfl rfl rfl rfl Try.sizeOf48 rfl ?_; intro a w hF hM
        refine s_val hF rfl rfl rfl (e_assign hF rfl) ?_; intro a hF
        refine s_val hF rfl rfl rfl (e_assign hF rfl) ?_; intro a hF
        refine s_nil ?_
        refine then_n ?_
        refine wp_seq ?_
        refine wp_seq ?_
        refine s_region ?_
        refine s_val hF rfl rfl rfl (e_move hF rfl) ?_; intro a hF
        refine s_val hF rfl rfl rfl (e_sub hF rfl rfl) ?_; intro a hF
        refine s_val hF rfl rfl rfl (e_assign hF rfl) ?_; intro a hF
        refine s_nil ?_
        refine then_n ?_
        refine wp_block ?_
        obtain ⟨o102, h103, H⟩ := bind_some H
        refine wp_mono (Q := fun e a w => (e = Exit.exit 2 ∧ ∃ x92 : Int, ∃ x93 : (Ar 4), (x92, x93) = o102 ∧ Fr 51 a [(0, Value.int .i64 a0), (3, v74), (4, Value.int .i64 x73), (5, pt b79 0), (6, Value.int .i64 x92)] ∧ Ms [] w0 w [rowR cd48 v74 x75, boxR b79 [Pt.ar x93] 48])) ?_ ?_
        · refine s_loop (fun kq a w => ∃ x94 : Int, ∃ x95 : Int, ∃ x96 : Int, ∃ x97 : (Ar 4), spec_l10Orders.l3 K a0 kq x94 x95 x96 x97 = some o102 ∧ Fr 51 a [(0, Value.int .i64 a0), (3, v74), (4, Value.int .i64 x73), (5, pt b79 0), (6, Value.int .i64 x94), (7, Value.int .i64 x95), (8, Value.int .i64 x96)] ∧ Ms [] w0 w [rowR cd48 v74 x75, boxR b79 [Pt.ar x97] 48]) K ⟨0, x73, (wrap64 (a0 - 1)), (⟨[(-1), (-1), (-1), (-1)], rfl⟩ : Ar 4), h103, hF.sub _ ⟨rfl, rfl, rfl, rfl, rfl, rfl, rfl, trivial⟩, hM.pick [1, 0] rfl rfl⟩ ?_ ?_
          · rintro a w ⟨_, _, _, _, H, _⟩; exact none_some H
          · rintro k a w ⟨x94, x95, x96, x97, H, hF, hM⟩; rw [spec_l10Orders.l3] at H
            refine wp_seq ?_
            refine wp_seq ?_
            refine s_region ?_
            refine s_val hF rfl rfl rfl (e_move hF rfl) ?_; intro a hF
            refine s_val hF rfl rfl rfl (e_geq hF rfl rfl) ?_; intro a hF
            refine s_nil ?_
            refine then_n ?_
            rcases ite_cases H with ⟨c98, H⟩ | ⟨c98, H⟩
            ·
              refine s_cond_t hF rfl (decide_eq_true c98) ?_
              refine wp_skip ?_
              refine then_n ?_
              refine wp_seq ?_
              refine wp_block ?_
              refine wp_seq ?_
              obtain ⟨c99, H⟩ := ite_some H
              obtain ⟨c100, H⟩ := ite_some H
              refine s_region ?_
              refine s_val hF rfl rfl rfl (e_move hF rfl) ?_; intro a hF
              refine s_val hF rfl rfl rfl (e_move hF rfl) ?_; intro a hF
              refine s_val hF rfl rfl rfl (e_move hF rfl) ?_; intro a hF
              refine s_val hF rfl rfl rfl (e_rem hF rfl rfl c99) ?_; intro a hF
              refine s_val hF rfl rfl rfl (e_fa hF rfl Try.underlying48 rfl Try.sizeOf46 rfl rfl) ?_; intro a hF
              refine s_val hF rfl rfl rfl (e_ia hF rfl rfl Try.underlying46 Try.sizeOf3 c100.1 c100.2) ?_; intro a hF
              refine s_sti (i := 1) (k := 0) hF hM rfl rfl rfl rfl rfl rfl rfl Try.sizeOf3 c100.1 c100.2 ?_; intro a w hF hM
              refine s_nil ?_
              refine then_n ?_
              refine wp_seq ?_
              obtain ⟨c101, H⟩ := ite_some H
              refine s_region ?_
              refine s_val hF rfl rfl rfl (e_move hF rfl) ?_; intro a hF
              refine s_val hF rfl rfl rfl (e_move hF rfl) ?_; intro a hF
              refine s_val hF rfl rfl rfl (e_move hF rfl) ?_; intro a hF
              refine s_val hF rfl rfl rfl (e_rem hF rfl rfl c99) ?_; intro a hF
              refine s_val hF rfl rfl rfl (e_shl hF rfl rfl c101) ?_; intro a hF
              refine s_val hF rfl rfl rfl (e_or hF rfl rfl) ?_; intro a hF
              refine s_val hF rfl rfl rfl (e_assign hF rfl) ?_; intro a hF
              refine s_nil ?_
              refine then_n ?_
              refine s_region ?_
              refine s_val hF rfl rfl rfl (e_move hF rfl) ?_; intro a hF
              refine s_val hF rfl rfl rfl (e_move hF rfl) ?_; intro a hF
              refine s_val hF rfl rfl rfl (e_quo hF rfl rfl c99) ?_; intro a hF
              refine s_val hF rfl rfl rfl (e_assign hF rfl) ?_; intro a hF
              refine s_nil ?_
              refine blk_n ?_
              refine then_n ?_
              refine s_region ?_
              refine s_val hF rfl rfl rfl (e_move hF rfl) ?_; intro a hF
              refine s_val hF rfl rfl rfl (e_sub hF rfl rfl) ?_; intro a hF
              refine s_val hF rfl rfl rfl (e_assign hF rfl) ?_; intro a hF
              refine s_nil ?_
              refine then_n ?_
              exact ⟨(Go.bits .or .i64 x94 (wrap64 (1 * 2 ^ (min ((x95.tmod a0) : Int).toNat 64)))), (wrap64 (x95.tdiv a0)), (wrap64 (x96 - 1)), (x97.set x96 (x95.tmod a0)), H, hF.sub _ ⟨rfl, rfl, rfl, rfl, rfl, rfl, rfl, trivial⟩, hM.pick [0, 1] rfl rfl⟩
            ·
              refine s_cond_f hF rfl (decide_eq_false c98) ?_
              refine wp_exit ?_
              refine then_x ?_
              refine then_x ?_
              exact ⟨rfl, x94, x97, some_some H, hF.sub _ ⟨rfl, rfl, rfl, rfl, rfl, trivial⟩, hM.pick [0, 1] rfl rfl⟩
        · rintro e a w ⟨rfl, x92, x93, rfl, hF, hM⟩
          skip
          refine blk_x ?_
          refine then_n ?_
          refine wp_seq ?_
          obtain ⟨c104, H⟩ := ite_some H
          refine s_region ?_
          refine s_val hF rfl rfl rfl (e_move hF rfl) ?_; intro a hF
          refine s_val hF rfl rfl rfl (e_move hF rfl) ?_; intro a hF
          refine s_val hF rfl rfl rfl (e_shl hF rfl rfl c104) ?_; intro a hF
          refine s_val hF rfl rfl rfl (e_sub hF rfl rfl) ?_; intro a hF
          refine s_val hF rfl rfl rfl (e_eql hF rfl rfl) ?_; intro a hF
          refine s_nil ?_
          refine then_n ?_
          rcases ite_cases H with ⟨c105, H⟩ | ⟨c105, H⟩
          ·
            refine s_cond_t hF rfl (decide_eq_true c105) ?_
            obtain ⟨c108, H⟩ := ite_some H
            refine s_region ?_
            refine s_val hF rfl rfl rfl (e_move hF rfl) ?_; intro a hF
            refine s_val hF rfl rfl rfl (e_lda (i := 1) 0 1 hF hM rfl rfl rfl rfl Try.isAgg48 Try.sizeOf48 rfl) ?_; intro a hF
            refine s_bsl (C := cd48) [x93] cdok48 hF hM rfl rfl rfl rfl Try.underlying32 rfl ?_; intro a w v106 hF hM
            refine s_append (i := 1) cdok48 hF hM rfl rfl rfl rfl rfl (hM.sl 0 rfl) Try.underlying32 c108 ?_; intro a w v107 hF hM
            refine s_val hF rfl rfl rfl (e_assign hF rfl) ?_; intro a hF
            refine s_nil ?_
            refine blk_n ?_
            refine then_n ?_
            refine s_region ?_
            refine s_val hF rfl rfl rfl (e_move hF rfl) ?_; intro a hF
            refine s_val hF rfl rfl rfl (e_add hF rfl rfl) ?_; intro a hF
            refine s_val hF rfl rfl rfl (e_assign hF rfl) ?_; intro a hF
            refine s_nil ?_
            refine then_n ?_
            exact ⟨v107, (wrap64 (x73 + 1)), (x75 ++ [x93]), H, hF.sub _ ⟨rfl, rfl, rfl, trivial⟩, hM.pick [1] rfl rfl⟩
          ·
            refine s_cond_f hF rfl (decide_eq_false c105) ?_
            refine wp_skip ?_
            refine blk_n ?_
            refine then_n ?_
            refine s_region ?_
            refine s_val hF rfl rfl rfl (e_move hF rfl) ?_; intro a hF
            refine s_val hF rfl rfl rfl (e_add hF rfl rfl) ?_; intro a hF
            refine s_val hF rfl rfl rfl (e_assign hF rfl) ?_; intro a hF
            refine s_nil ?_
            refine then_n ?_
            exact ⟨v74, (wrap64 (x73 + 1)), x75, H, hF.sub _ ⟨rfl, rfl, rfl, trivial⟩, hM.pick [0] rfl rfl⟩
      ·
        refine s_cond_f hF rfl (decide_eq_false c78) ?_
        refine wp_exit ?_
        refine then_x ?_
        refine then_x ?_
        exact ⟨rfl, v74, x75, some_some H, hF.sub _ ⟨rfl, trivial⟩, hM.pick [0] rfl rfl⟩
  · rintro e a w ⟨rfl, v71, x72, rfl, hF, hM⟩
    skip
    refine blk_x ?_
    refine then_n ?_
    refine wp_seq ?_
    refine s_region ?_
    refine s_val hF rfl rfl rfl (e_move hF rfl) ?_; intro a hF
    refine s_val hF rfl rfl rfl (e_assign hF rfl) ?_; intro a hF
    refine s_nil ?_
    refine then_n ?_
    refine wp_ret ?_
    obtain rfl := some_some H
    refine s_ret [v71] hF Try.results51 ⟨rfl, trivial⟩ ?_
    exact ⟨_, rfl, hM.frm, hM.give 0 rfl⟩

/-! ### loop.example/g01210/spec.l2All: function 82 -/
def spec_l2All.l0 (K : Nat) (a0 : Int) : Nat → Int → Int → Option Int
  | 0, _, _ => none
  | k + 1, x6, x7 => if x7 < a0 then (spec_l2All.l0 K a0 k (wrap64 (x6 * 6)) (wrap64 (x7 + 1))) else (some x6)
def spec_l2All.f (K : Nat) (a0 : Int) : Option Int := (spec_l2All.l0 K a0 K 1 0).bind fun x5 => some x5
set_option maxRecDepth 100000 in
set_option maxHeartbeats 4000000 in
theorem spec_l2All.calls {w0 : World} (K : Nat) (a0 : Int) (r : Int) (H : spec_l2All.f K a0 = some r) : Calls Try.prog 82 [Value.int .i64 a0].toArray w0 (Post w0 fun w v => v = Value.int .i64 r) := by
  rw [spec_l2All.f] at H
  refine s_start Try.func82 rfl Try.ntmps82 rfl ?_
  intro a hF
  have hM := Ms.start w0
  skip
  refine wp_seq ?_
  refine s_region ?_
  refine s_val hF rfl rfl rfl (e_assign hF rfl) ?_; intro a hF
  refine s_nil ?_
  refine then_n ?_
  refine wp_seq ?_
  refine s_region ?_
  refine s_val hF rfl rfl rfl (e_assign hF rfl) ?_; intro a hF
  refine s_nil ?_
  refine then_n ?_
  refine wp_seq ?_
  refine wp_seq ?_
  refine s_region ?_
  refine s_val hF rfl rfl rfl (e_assign hF rfl) ?_; intro a hF
  refine s_nil ?_
  refine then_n ?_
  refine wp_block ?_
  obtain ⟨o9, h10, H⟩ := bind_some H
  refine wp_mono (Q := fun e a w => (e = Exit.exit 0 ∧ ∃ x5 : Int, x5 = o9 ∧ Fr 13 a [(3, Value.int .i64 x5)] ∧ Ms [] w0 w [])) ?_ ?_
  · refine s_loop (fun kq a w => ∃ x6 : Int, ∃ x7 : Int, spec_l2All.l0 K a0 kq x6 x7 = some o9 ∧ Fr 13 a [(0, Value.int .i64 a0), (3, Value.int .i64 x6), (4, Value.int .i64 x7)] ∧ Ms [] w0 w []) K ⟨1, 0, h10, hF.sub _ ⟨rfl, rfl, rfl, trivial⟩, hM.pick [] rfl rfl⟩ ?_ ?_
    · rintro a w ⟨_, _, H, _⟩; exact none_some H
    · rintro k a w ⟨x6, x7, H, hF, hM⟩; rw [spec_l2All.l0] at H
      refine wp_seq ?_
      refine wp_seq ?_
      refine s_region ?_
      refine s_val hF rfl rfl rfl (e_move hF rfl) ?_; intro a hF
      refine s_val hF rfl rfl rfl (e_move hF rfl) ?_; intro a hF
      refine s_val hF rfl rfl rfl (e_lss hF rfl rfl) ?_; intro a hF
      refine s_nil ?_
      refine then_n ?_
      rcases ite_cases H with ⟨c8, H⟩ | ⟨c8, H⟩
      ·
        refine s_cond_t hF rfl (decide_eq_true c8) ?_
        refine wp_skip ?_
        refine then_n ?_
        refine wp_seq ?_
        refine wp_block ?_
        refine s_region ?_
        refine s_val hF rfl rfl rfl (e_move hF rfl) ?_; intro a hF
        refine s_val hF rfl rfl rfl (e_mul hF rfl rfl) ?_; intro a hF
        refine s_val hF rfl rfl rfl (e_assign hF rfl) ?_; intro a hF
        refine s_nil ?_
        refine blk_n ?_
        refine then_n ?_
        refine s_region ?_
        refine s_val hF rfl rfl rfl (e_move hF rfl) ?_; intro a hF
        refine s_val hF rfl rfl rfl (e_add hF rfl rfl) ?_; intro a hF
        refine s_val hF rfl rfl rfl (e_assign hF rfl) ?_; intro a hF
        refine s_nil ?_
        refine then_n ?_
        exact ⟨(wrap64 (x6 * 6)), (wrap64 (x7 + 1)), H, hF.sub _ ⟨rfl, rfl, rfl, trivial⟩, hM.pick [] rfl rfl⟩
      ·
        refine s_cond_f hF rfl (decide_eq_false c8) ?_
        refine wp_exit ?_
        refine then_x ?_
        refine then_x ?_
        exact ⟨rfl, x6, some_some H, hF.sub _ ⟨rfl, trivial⟩, hM.pick [] rfl rfl⟩
  · rintro e a w ⟨rfl, x5, rfl, hF, hM⟩
    skip
    refine blk_x ?_
    refine then_n ?_
    refine wp_seq ?_
    refine s_region ?_
    refine s_val hF rfl rfl rfl (e_move hF rfl) ?_; intro a hF
    refine s_val hF rfl rfl rfl (e_assign hF rfl) ?_; intro a hF
    refine s_nil ?_
    refine then_n ?_
    refine wp_ret ?_
    obtain rfl := some_some H
    refine s_ret [Value.int .i64 x5] hF Try.results82 ⟨rfl, trivial⟩ ?_
    exact ⟨_, rfl, hM.frm, rfl⟩

/-! ### loop.example/g01210/spec.l2Roll: function 83 -/
def spec_l2Roll.l0 (K : Nat) (l0 : (List (Ar 6))) : Nat → Int → Int → (List Int) → Option (List Int)
  | 0, _, _, _ => none
  | k + 1, x15, x16, x17 => if 0 ≤ x16 then (if (0 : Int) ≤ x16 ∧ x16 < (l0.length : Int) then (if (0 : Int) ≤ (x15.tmod 6) ∧ (x15.tmod 6) < 6 then (if (0 : Int) ≤ x16 ∧ x16 < (x17.length : Int) then (spec_l2Roll.l0 K l0 k (wrap64 (x15.tdiv 6)) (wrap64 (x16 - 1)) (x17.set (x16 : Int).toNat ((l0.getD (x16 : Int).toNat (Ar.zero 6)).get (x15.tmod 6)))) else none) else none) else none) else (some x17)
def spec_l2Roll.f (K : Nat) (l0 : (List (Ar 6))) (a1 : Int) : Option (List Int) := if (0 : Int) ≤ (l0.length : Int) ∧ (l0.length : Int) ≤ 1073741824 then ((spec_l2Roll.l0 K l0 K a1 (wrap64 ((l0.length : Int) - 1)) (List.replicate (l0.length : Int).toNat (0 : Int))).bind fun x14 => some x14) else none
set_option maxRecDepth 100000 in
set_option maxHeartbeats 4000000 in
theorem spec_l2Roll.calls {w0 : World} (K : Nat) (l0 : (List (Ar 6))) (u0 : Value) (q0 : SlR cd62 w0 u0 l0) (a1 : Int) (r : (List Int)) (H : spec_l2Roll.f K l0 a1 = some r) : Calls Try.prog 83 [u0, Value.int .i64 a1].toArray w0 (Post w0 fun w v => Fresh cd3 w0.heap.size w v r) := by
  rw [spec_l2Roll.f] at H
  refine s_start Try.func83 rfl Try.ntmps83 rfl ?_
  intro a hF
  have hM := Ms.start w0
  skip
  refine wp_seq ?_
  refine s_region ?_
  refine s_val hF rfl rfl rfl (e_assign hF rfl) ?_; intro a hF
  refine s_nil ?_
  refine then_n ?_
  refine wp_seq ?_
  obtain ⟨c2, H⟩ := ite_some H
  refine s_region ?_
  refine s_val hF rfl rfl rfl (e_move hF rfl) ?_; intro a hF
  refine s_val hF rfl rfl rfl (e_len hF rfl (q0.frm hM.frm).toF Try.underlying37) ?_; intro a hF
  refine s_make (C := cd3) cdok3 hF hM rfl rfl rfl rfl Try.underlying25 c2.1 c2.2 ?_; intro a w v1 hF hM
  refine s_val hF rfl rfl rfl (e_assign hF rfl) ?_; intro a hF
  refine s_nil ?_
  refine then_n ?_
  refine wp_seq ?_
  refine wp_seq ?_
  refine s_region ?_
  refine s_val hF rfl rfl rfl (e_move hF rfl) ?_; intro a hF
  refine s_val hF rfl rfl rfl (e_len hF rfl (q0.frm hM.frm).toF Try.underlying37) ?_; intro a hF
  refine s_val hF rfl rfl rfl (e_sub hF rfl rfl) ?_; intro a hF
  refine s_val hF rfl rfl rfl (e_assign hF rfl) ?_; intro a hF
  refine s_nil ?_
  refine then_n ?_
  refine wp_block ?_
  obtain ⟨o22, h23, H⟩ := bind_some H
  refine wp_mono (Q := fun e a w => (e = Exit.exit 0 ∧ ∃ x14 : (List Int), x14 = o22 ∧ Fr 30 a [(5, v1)] ∧ Ms [] w0 w [rowR cd3 v1 x14])) ?_ ?_
  · refine s_loop (fun kq a w => ∃ x15 : Int, ∃ x16 : Int, ∃ x17 : (List Int), spec_l2Roll.l0 K l0 kq x15 x16 x17 = some o22 ∧ Fr 30 a [(0, u0), (1, Value.int .i64 x15), (5, v1), (6, Value.int .i64 x16)] ∧ Ms [] w0 w [rowR cd3 v1 x17]) K ⟨a1, (wrap64 ((l0.length : Int) - 1)), (List.replicate (l0.length : Int).toNat (0 : Int)), h23, hF.sub _ ⟨rfl, rfl, rfl, rfl, trivial⟩, hM.pick [0] rfl rfl⟩ ?_ ?_
    · rintro a w ⟨_, _, _, H, _⟩; exact none_some H
    · rintro k a w ⟨x15, x16, x17, H, hF, hM⟩; rw [spec_l2Roll.l0] at H
      refine wp_seq ?_
      refine wp_seq ?_
      refine s_region ?_
      refine s_val hF rfl rfl rfl (e_move hF rfl) ?_; intro a hF
      refine s_val hF rfl rfl rfl (e_geq hF rfl rfl) ?_; intro a hF
      refine s_nil ?_
      refine then_n ?_
      rcases ite_cases H with ⟨c18, H⟩ | ⟨c18, H⟩
      ·
        refine s_cond_t hF rfl (decide_eq_true c18) ?_
        refine wp_skip ?_
        refine then_n ?_
        refine wp_seq ?_
        refine wp_block ?_
        refine wp_seq ?_
        obtain ⟨c19, H⟩ := ite_some H
        obtain ⟨c20, H⟩ := ite_some H
        obtain ⟨c21, H⟩ := ite_some H
        refine s_region ?_
        refine s_val hF rfl rfl rfl (e_move hF rfl) ?_; intro a hF
        refine s_val hF rfl rfl rfl (e_move hF rfl) ?_; intro a hF
        refine s_val hF rfl rfl rfl (e_move hF rfl) ?_; intro a hF
        refine s_val hF rfl rfl rfl (e_move hF rfl) ?_; intro a hF
        refine s_val hF rfl rfl rfl (e_move hF rfl) ?_; intro a hF
        refine s_val hF rfl rfl rfl (e_rem hF rfl rfl (by decide)) ?_; intro a hF
        refine s_val hF rfl rfl rfl (e_ias cd62 hF rfl rfl (q0.frm hM.frm).toF Try.underlying37 Try.sizeOf62 c19.1 c19.2) ?_; intro a hF
        refine s_val hF rfl rfl rfl (e_ia hF rfl rfl Try.underlying62 Try.sizeOf3 c20.1 c20.2) ?_; intro a hF
        refine s_val hF rfl rfl rfl (e_ldsi (m := x16) (p := (x15.tmod 6)) (o := 0) (k := 0) hF rfl (q0.frm hM.frm) (getD_some (z := (Ar.zero 6)) c19.1 c19.2) rfl rfl Try.isAgg3 c20.1 c20.2) ?_; intro a hF
        refine s_val hF rfl rfl rfl (e_ias cd3 hF rfl rfl (hM.sl 0 rfl).toF Try.underlying25 Try.sizeOf3 c21.1 c21.2) ?_; intro a hF
        refine s_sts (i := 0) ((l0.getD (x16 : Int).toNat (Ar.zero 6)).get (x15.tmod 6)) hF hM rfl rfl rfl rfl rfl c21.1 c21.2 Try.sizeOf3 ?_; intro a w hF hM
        refine s_nil ?_
        refine then_n ?_
        refine s_region ?_
        refine s_val hF rfl rfl rfl (e_move hF rfl) ?_; intro a hF
        refine s_val hF rfl rfl rfl (e_quo hF rfl rfl (by decide)) ?_; intro a hF
        refine s_val hF rfl rfl rfl (e_assign hF rfl) ?_; intro a hF
        refine s_nil ?_
        refine blk_n ?_
        refine then_n ?_
        refine s_region ?_
        refine s_val hF rfl rfl rfl (e_move hF rfl) ?_; intro a hF
        refine s_val hF rfl rfl rfl (e_sub hF rfl rfl) ?_; intro a hF
        refine s_val hF rfl rfl rfl (e_assign hF rfl) ?_; intro a hF
        refine s_nil ?_
        refine then_n ?_
        exact ⟨(wrap64 (x15.tdiv 6)), (wrap64 (x16 - 1)), (x17.set (x16 : Int).toNat ((l0.getD (x16 : Int).toNat (Ar.zero 6)).get (x15.tmod 6))), H, hF.sub _ ⟨rfl, rfl, rfl, rfl, trivial⟩, hM.pick [0] rfl rfl⟩
      ·
        refine s_cond_f hF rfl (decide_eq_false c18) ?_
        refine wp_exit ?_
        refine then_x ?_
        refine then_x ?_
        exact ⟨rfl, x17, some_some H, hF.sub _ ⟨rfl, trivial⟩, hM.pick [0] rfl rfl⟩
  · rintro e a w ⟨rfl, x14, rfl, hF, hM⟩
    skip
    refine blk_x ?_
    refine then_n ?_
    refine wp_seq ?_
    refine s_region ?_
    refine s_val hF rfl rfl rfl (e_move hF rfl) ?_; intro a hF
    refine s_val hF rfl rfl rfl (e_assign hF rfl) ?_; intro a hF
    refine s_nil ?_
    refine then_n ?_
    refine wp_ret ?_
    obtain rfl := some_some H
    refine s_ret [v1] hF Try.results83 ⟨rfl, trivial⟩ ?_
    exact ⟨_, rfl, hM.frm, hM.give 0 rfl⟩

/-! ### loop.example/g01210/spec.l10Order: function 61 -/
def spec_l10Order.l3 (K : Nat) (l0 : (List Int)) (x75 : Int) : Nat → Int → Int → Option (Sum Int ((Ar 4) × Bool))
  | 0, _, _ => none
  | k + 1, x99, x100 => if x100 < (l0.length : Int) then (if x100 = x75 then (if (0 : Int) ≤ x100 ∧ x100 < (l0.length : Int) then (if (0 : Int) ≤ x75 ∧ x75 < (l0.length : Int) then (if (l0.getD (x75 : Int).toNat (0 : Int)) < (l0.getD (x100 : Int).toNat (0 : Int)) then (spec_l10Order.l3 K l0 x75 k (wrap64 (x99 + 1)) (wrap64 (x100 + 1))) else (spec_l10Order.l3 K l0 x75 k x99 (wrap64 (x100 + 1)))) else none) else none) else (if (0 : Int) ≤ x100 ∧ x100 < (l0.length : Int) then (if (0 : Int) ≤ x75 ∧ x75 < (l0.length : Int) then (if (l0.getD (x100 : Int).toNat (0 : Int)) = (l0.getD (x75 : Int).toNat (0 : Int)) then (some (Sum.inr ((Ar.zero 4), false))) else (if (l0.getD (x75 : Int).toNat (0 : Int)) < (l0.getD (x100 : Int).toNat (0 : Int)) then (spec_l10Order.l3 K l0 x75 k (wrap64 (x99 + 1)) (wrap64 (x100 + 1))) else (spec_l10Order.l3 K l0 x75 k x99 (wrap64 (x100 + 1))))) else none) else none)) else (some (Sum.inl x99))
def spec_l10Order.l2 (K : Nat) (l0 : (List Int)) : Nat → Int → (Ar 4) → Option (Sum (Ar 4) ((Ar 4) × Bool))
  | 0, _, _ => none
  | k + 1, x75, x76 => if x75 < (l0.length : Int) then ((spec_l10Order.l3 K l0 x75 K 0 0).bind fun o116 => (match o116 with | .inl x98 => if (0 : Int) ≤ x98 ∧ x98 < 4 then (spec_l10Order.l2 K l0 k (wrap64 (x75 + 1)) (x76.set x98 x75)) else none | .inr r118 => some (Sum.inr (r118.1, r118.2)))) else (some (Sum.inl x76))
def spec_l10Order.f (K : Nat) (l0 : (List Int)) : Option ((Ar 4) × Bool) := (spec_l10Order.l2 K l0 K 0 (⟨[(-1), (-1), (-1), (-1)], rfl⟩ : Ar 4)).bind fun o121 => (match o121 with | .inl x74 => some (x74, true) | .inr r123 => some (r123.1, r123.2))
set_option maxRecDepth 100000 in
set_option maxHeartbeats 4000000 in
theorem spec_l10Order.calls {w0 : World} (K : Nat) (l0 : (List Int)) (u0 : Value) (q0 : SlR cd3 w0 u0 l0) (r : ((Ar 4) × Bool)) (H : spec_l10Order.f K l0 = some r) : Calls Try.prog 61 [u0].toArray w0 (Post w0 fun w v => v = Value.tuple #[ag [Pt.ar r.1], Value.bool r.2]) := by
  rw [spec_l10Order.f] at H
  refine s_start Try.func61 rfl Try.ntmps61 rfl ?_
  intro a hF
  have hM := Ms.start w0
  skip
  refine wp_seq ?_
  refine s_region ?_
  refine s_alloc (ps := [Pt.ar (Ar.zero 4)]) hF hM rfl rfl zv48 rfl ?_; intro a w b1 hF hM
  refine s_val hF rfl rfl rfl (e_assign hF rfl) ?_; intro a hF
  refine s_nil ?_
  refine then_n ?_
  refine wp_seq ?_
  refine s_region ?_
  refine s_val hF rfl rfl rfl (e_build' (cells := cat [Pt.ar (⟨[(-1), (-1), (-1), (-1)], rfl⟩ : Ar 4)]) hF rfl (by kernel_rfl)) ?_; intro a hF
  refine s_val hF rfl rfl rfl (e_build' hF rfl (bld48 (⟨[(-1), (-1), (-1), (-1)], rfl⟩ : Ar 4))) ?_; intro a hF
  refine s_alloc (ps := [Pt.ar (Ar.zero 4)]) hF hM rfl rfl zv48 rfl ?_; intro a w b2 hF hM
  refine s_stw (i := 0) (ps' := [Pt.ar (⟨[(-1), (-1), (-1), (-1)], rfl⟩ : Ar 4)]) hF hM rfl rfl rfl rfl rfl rfl Try.sizeOf48 rfl ?_; intro a w hF hM
  refine s_nil ?_
  refine then_n ?_
  refine wp_seq ?_
  refine wp_seq ?_
  refine s_region ?_
  refine s_val hF rfl rfl rfl (e_assign hF rfl) ?_; intro a hF
  refine s_nil ?_
  refine then_n ?_
  refine wp_block ?_
  obtain ⟨o121, h122, H⟩ := bind_some H
  refine wp_mono (Q := fun e a w => (e = Exit.exit 0 ∧ ∃ x74 : (Ar 4), Sum.inl x74 = o121 ∧ Fr 53 a [(2, pt b1 0), (4, pt b2 0)] ∧ Ms [] w0 w [boxR b1 [Pt.ar (Ar.zero 4)] 48, boxR b2 [Pt.ar x74] 48]) ∨ (e = Exit.ret ∧ ∃ b124 : Nat, ∃ r123 : ((Ar 4) × Bool), Sum.inr r123 = o121 ∧ Fr 53 a [(2, pt b124 0), (3, Value.bool r123.2)] ∧ Ms [] w0 w [boxR b124 [Pt.ar r123.1] 48])) ?_ ?_
  · refine s_loop (fun kq a w => ∃ x75 : Int, ∃ x76 : (Ar 4), spec_l10Order.l2 K l0 kq x75 x76 = some o121 ∧ Fr 53 a [(0, u0), (2, pt b1 0), (4, pt b2 0), (5, Value.int .i64 x75)] ∧ Ms [] w0 w [boxR b1 [Pt.ar (Ar.zero 4)] 48, boxR b2 [Pt.ar x76] 48]) K ⟨0, (⟨[(-1), (-1), (-1), (-1)], rfl⟩ : Ar 4), h122, hF.sub _ ⟨rfl, rfl, rfl, rfl, trivial⟩, hM.pick [1, 0] rfl rfl⟩ ?_ ?_
    · rintro a w ⟨_, _, H, _⟩; exact none_some H
    · rintro k a w ⟨x75, x76, H, hF, hM⟩; rw [spec_l10Order.l2] at H
      refine wp_seq ?_
      refine wp_seq ?_
      refine s_region ?_
      refine s_val hF rfl rfl rfl (e_move hF rfl) ?_; intro a hF
      refine s_val hF rfl rfl rfl (e_move hF rfl) ?_; intro a hF
      refine s_val hF rfl rfl rfl (e_len hF rfl (q0.frm hM.frm).toF Try.underlying25) ?_; intro a hF
      refine s_val hF rfl rfl rfl (e_lss hF rfl rfl) ?_; intro a hF
      refine s_nil ?_
      refine then_n ?_
      rcases ite_cases H with ⟨c77, H⟩ | ⟨c77, H⟩
      ·
        refine s_cond_t hF rfl (decide_eq_true c77) ?_
        refine wp_skip ?_
        refine then_n ?_
        refine wp_seq ?_
        refine wp_block ?_
        refine wp_seq ?_
        refine s_region ?_
        refine s_val hF rfl rfl rfl (e_assign hF rfl) ?_; intro a hF
        refine s_nil ?_
        refine then_n ?_
        refine wp_seq ?_
        refine wp_seq ?_
        refine s_region ?_
        refine s_val hF rfl rfl rfl (e_assign hF rfl) ?_; intro a hF
        refine s_nil ?_
        refine then_n ?_
        refine wp_block ?_
        obtain ⟨o116, h117, H⟩ := bind_some H
        refine wp_mono (Q := fun e a w => (e = Exit.exit 2 ∧ ∃ x98 : Int, Sum.inl x98 = o116 ∧ Fr 53 a [(0, u0), (2, pt b1 0), (4, pt b2 0), (5, Value.int .i64 x75), (6, Value.int .i64 x98)] ∧ Ms [] w0 w [boxR b1 [Pt.ar (Ar.zero 4)] 48, boxR b2 [Pt.ar x76] 48]) ∨ (e = Exit.ret ∧ ∃ b119 : Nat, ∃ r118 : ((Ar 4) × Bool), Sum.inr r118 = o116 ∧ Fr 53 a [(2, pt b119 0), (3, Value.bool r118.2)] ∧ Ms [] w0 w [boxR b119 [Pt.ar r118.1] 48])) ?_ ?_
        · refine s_loop (fun kq a w => ∃ x99 : Int, ∃ x100 : Int, spec_l10Order.l3 K l0 x75 kq x99 x100 = some o116 ∧ Fr 53 a [(0, u0), (2, pt b1 0), (4, pt b2 0), (5, Value.int .i64 x75), (6, Value.int .i64 x99), (7, Value.int .i64 x100)] ∧ Ms [] w0 w [boxR b1 [Pt.ar (Ar.zero 4)] 48, boxR b2 [Pt.ar x76] 48]) K ⟨0, 0, h117, hF.sub _ ⟨rfl, rfl, rfl, rfl, rfl, rfl, trivial⟩, hM.pick [0, 1] rfl rfl⟩ ?_ ?_
          · rintro a w ⟨_, _, H, _⟩; exact none_some H
          · rintro k a w ⟨x99, x100, H, hF, hM⟩; rw [spec_l10Order.l3] at H
            refine wp_seq ?_
            refine wp_seq ?_
            refine s_region ?_
            refine s_val hF rfl rfl rfl (e_move hF rfl) ?_; intro a hF
            refine s_val hF rfl rfl rfl (e_move hF rfl) ?_; intro a hF
            refine s_val hF rfl rfl rfl (e_len hF rfl (q0.frm hM.frm).toF Try.underlying25) ?_; intro a hF
            refine s_val hF rfl rfl rfl (e_lss hF rfl rfl) ?_; intro a hF
            refine s_nil ?_
            refine then_n ?_
            rcases ite_cases H with ⟨c101, H⟩ | ⟨c101, H⟩
            ·
              refine s_cond_t hF rfl (decide_eq_true c101) ?_
              refine wp_skip ?_
              refine then_n ?_
              refine wp_seq ?_
              refine wp_block ?_
              refine wp_seq ?_
              refine wp_seq ?_
              rcases ite_cases H with ⟨c102, H⟩ | ⟨c102, H⟩
              ·
                refine s_held (fun w => Ms [] w0 w [boxR b1 [Pt.ar (Ar.zero 4)] 48, boxR b2 [Pt.ar x76] 48]) #[false, false, false, false, false, false, false, false, false, false, false, false, false, false] mixed rfl rfl hM ?_; intro w hf hM; clear hf
                refine h_val 0 #[true, false, false, false, false, false, false, false, false, false, false, false, false, false] rfl (by kernel_rfl) hF rfl rfl rfl (fun w hS => e_move hF rfl) (hM.pick [0, 1] rfl rfl) ?_; intro a hF
                refine h_val 1 #[true, true, false, false, false, false, false, false, false, false, false, false, false, false] rfl (by kernel_rfl) hF rfl rfl rfl (fun w hS => e_move hF rfl) (hM.pick [0, 1] rfl rfl) ?_; intro a hF
                refine h_val 2 #[true, true, true, false, false, false, false, false, false, false, false, false, false, false] rfl (by kernel_rfl) hF rfl rfl rfl (fun w hS => e_neq hF rfl rfl) (hM.pick [0, 1] rfl rfl) ?_; intro a hF
                refine h_val 3 #[true, true, true, true, false, false, false, false, false, false, false, false, false, false] rfl (by kernel_rfl) hF rfl rfl rfl (fun w hS => e_move hF rfl) (hM.pick [0, 1] rfl rfl) ?_; intro a hF
                have hF := hF.topb (congrArg Bool.not (decide_eq_true c102))
                refine h_skip 4 #[true, true, true, true, true, false, false, false, false, false, false, false, false, false] rfl (by kernel_rfl) hF rfl rfl rfl (hM.pick [0, 1] rfl rfl) ?_; intro a hF
                refine h_skip 5 #[true, true, true, true, true, true, false, false, false, false, false, false, false, false] rfl (by kernel_rfl) hF rfl rfl rfl (hM.pick [0, 1] rfl rfl) ?_; intro a hF
                refine h_skip 6 #[true, true, true, true, true, true, true, false, false, false, false, false, false, false] rfl (by kernel_rfl) hF rfl rfl rfl (hM.pick [0, 1] rfl rfl) ?_; intro a hF
                refine h_skip 7 #[true, true, true, true, true, true, true, true, false, false, false, false, false, false] rfl (by kernel_rfl) hF rfl rfl rfl (hM.pick [0, 1] rfl rfl) ?_; intro a hF
                refine h_skip 8 #[true, true, true, true, true, true, true, true, true, false, false, false, false, false] rfl (by kernel_rfl) hF rfl rfl rfl (hM.pick [0, 1] rfl rfl) ?_; intro a hF
                refine h_skip 9 #[true, true, true, true, true, true, true, true, true, true, false, false, false, false] rfl (by kernel_rfl) hF rfl rfl rfl (hM.pick [0, 1] rfl rfl) ?_; intro a hF
                refine h_skip 10 #[true, true, true, true, true, true, true, true, true, true, true, false, false, false] rfl (by kernel_rfl) hF rfl rfl rfl (hM.pick [0, 1] rfl rfl) ?_; intro a hF
                refine h_skip 11 #[true, true, true, true, true, true, true, true, true, true, true, true, false, false] rfl (by kernel_rfl) hF rfl rfl rfl (hM.pick [0, 1] rfl rfl) ?_; intro a hF
                refine h_skip 12 #[true, true, true, true, true, true, true, true, true, true, true, true, true, false] rfl (by kernel_rfl) hF rfl rfl rfl (hM.pick [0, 1] rfl rfl) ?_; intro a hF
                refine h_val 13 #[true, true, true, true, true, true, true, true, true, true, true, true, true, true] rfl (by kernel_rfl) hF rfl rfl rfl (fun w hS => e_pick_f hF rfl rfl) (hM.pick [0, 1] rfl rfl) ?_; intro a hF
                refine h_done rfl ?_
                refine then_n ?_
                refine s_cond_f hF rfl rfl ?_
                refine wp_skip ?_
                refine then_n ?_
                refine wp_seq ?_
                obtain ⟨c103, H⟩ := ite_some H
                obtain ⟨c104, H⟩ := ite_some H
                refine s_held (fun w => Ms [] w0 w [boxR b1 [Pt.ar (Ar.zero 4)] 48, boxR b2 [Pt.ar x76] 48]) #[false, false, false, false, false, false, false, false, false] mixed rfl rfl hM ?_; intro w hf hM; clear hf
                refine h_val 0 #[true, false, false, false, false, false, false, false, false] rfl (by kernel_rfl) hF rfl rfl rfl (fun w hS => e_move hF rfl) (hM.pick [0, 1] rfl rfl) ?_; intro a hF
                refine h_val 1 #[true, true, false, false, false, false, false, false, false] rfl (by kernel_rfl) hF rfl rfl rfl (fun w hS => e_move hF rfl) (hM.pick [0, 1] rfl rfl) ?_; intro a hF
                have f105 := (q0.frm hM.frm).toF
                refine h_val 2 #[true, true, true, false, false, false, false, false, false] rfl (by kernel_rfl) hF rfl rfl rfl (fun w hS => e_ias cd3 hF rfl rfl f105 Try.underlying25 Try.sizeOf3 c103.1 c103.2) (hM.pick [0, 1] rfl rfl) ?_; intro a hF
                refine h_val 3 #[true, true, true, true, false, false, false, false, false] rfl (by kernel_rfl) hF rfl rfl rfl (fun w hS => e_lds (m := x100) hF rfl (q0.frm hS.frm) (getD_some (z := (0 : Int)) c103.1 c103.2) rfl rfl Try.isAgg3) (hM.pick [0, 1] rfl rfl) ?_; intro a hF
                refine h_val 4 #[true, true, true, true, true, false, false, false, false] rfl (by kernel_rfl) hF rfl rfl rfl (fun w hS => e_move hF rfl) (hM.pick [0, 1] rfl rfl) ?_; intro a hF
                refine h_val 5 #[true, true, true, true, true, true, false, false, false] rfl (by kernel_rfl) hF rfl rfl rfl (fun w hS => e_move hF rfl) (hM.pick [0, 1] rfl rfl) ?_; intro a hF
                have f106 := (q0.frm hM.frm).toF
                refine h_val 6 #[true, true, true, true, true, true, true, false, false] rfl (by kernel_rfl) hF rfl rfl rfl (fun w hS => e_ias cd3 hF rfl rfl f106 Try.underlying25 Try.sizeOf3 c104.1 c104.2) (hM.pick [0, 1] rfl rfl) ?_; intro a hF
                refine h_val 7 #[true, true, true, true, true, true, true, true, false] rfl (by kernel_rfl) hF rfl rfl rfl (fun w hS => e_lds (m := x75) hF rfl (q0.frm hS.frm) (getD_some (z := (0 : Int)) c104.1 c104.2) rfl rfl Try.isAgg3) (hM.pick [0, 1] rfl rfl) ?_; intro a hF
                refine h_val 8 #[true, true, true, true, true, true, true, true, true] rfl (by kernel_rfl) hF rfl rfl rfl (fun w hS => e_gtr hF rfl rfl) (hM.pick [0, 1] rfl rfl) ?_; intro a hF
                refine h_done rfl ?_
                refine then_n ?_
                rcases ite_cases H with ⟨c107, H⟩ | ⟨c107, H⟩
                ·
                  refine s_cond_t hF rfl (decide_eq_true c107) ?_
                  refine s_region ?_
                  refine s_val hF rfl rfl rfl (e_move hF rfl) ?_; intro a hF
                  refine s_val hF rfl rfl rfl (e_add hF rfl rfl) ?_; intro a hF
                  refine s_val hF rfl rfl rfl (e_assign hF rfl) ?_; intro a hF
                  refine s_nil ?_
                  refine blk_n ?_
                  refine then_n ?_
                  refine s_region ?_
                  refine s_val hF rfl rfl rfl (e_move hF rfl) ?_; intro a hF
                  refine s_val hF rfl rfl rfl (e_add hF rfl rfl) ?_; intro a hF
                  refine s_val hF rfl rfl rfl (e_assign hF rfl) ?_; intro a hF
                  refine s_nil ?_
                  refine then_n ?_
                  exact ⟨(wrap64 (x99 + 1)), (wrap64 (x100 + 1)), H, hF.sub _ ⟨rfl, rfl, rfl, rfl, rfl, rfl, trivial⟩, hM.pick [0, 1] rfl rfl⟩
                ·
                  refine s_cond_f hF rfl (decide_eq_false c107) ?_
                  refine wp_skip ?_
                  refine blk_n ?_
                  refine then_n ?_
                  refine s_region ?_
                  refine s_val hF rfl rfl rfl (e_move hF rfl) ?_; intro a hF
                  refine s_val hF rfl rfl rfl (e_add hF rfl rfl) ?_; intro a hF
                  refine s_val hF rfl rfl rfl (e_assign hF rfl) ?_; intro a hF
                  refine s_nil ?_
                  refine then_n ?_
                  exact ⟨x99, (wrap64 (x100 + 1)), H, hF.sub _ ⟨rfl, rfl, rfl, rfl, rfl, rfl, trivial⟩, hM.pick [0, 1] rfl rfl⟩
              ·
                obtain ⟨c108, H⟩ := ite_some H
                obtain ⟨c109, H⟩ := ite_some H
                refine s_held (fun w => Ms [] w0 w [boxR b1 [Pt.ar (Ar.zero 4)] 48, boxR b2 [Pt.ar x76] 48]) #[false, false, false, false, false, false, false, false, false, false, false, false, false, false] mixed rfl rfl hM ?_; intro w hf hM; clear hf
                refine h_val 0 #[true, false, false, false, false, false, false, false, false, false, false, false, false, false] rfl (by kernel_rfl) hF rfl rfl rfl (fun w hS => e_move hF rfl) (hM.pick [0, 1] rfl rfl) ?_; intro a hF
                refine h_val 1 #[true, true, false, false, false, false, false, false, false, false, false, false, false, false] rfl (by kernel_rfl) hF rfl rfl rfl (fun w hS => e_move hF rfl) (hM.pick [0, 1] rfl rfl) ?_; intro a hF
                refine h_val 2 #[true, true, true, false, false, false, false, false, false, false, false, false, false, false] rfl (by kernel_rfl) hF rfl rfl rfl (fun w hS => e_neq hF rfl rfl) (hM.pick [0, 1] rfl rfl) ?_; intro a hF
                refine h_val 3 #[true, true, true, true, false, false, false, false, false, false, false, false, false, false] rfl (by kernel_rfl) hF rfl rfl rfl (fun w hS => e_move hF rfl) (hM.pick [0, 1] rfl rfl) ?_; intro a hF
                have hF := hF.topb (congrArg Bool.not (decide_eq_false c102))
                refine h_val 4 #[true, true, true, true, true, false, false, false, false, false, false, false, false, false] rfl (by kernel_rfl) hF rfl rfl rfl (fun w hS => e_move hF rfl) (hM.pick [0, 1] rfl rfl) ?_; intro a hF
                refine h_val 5 #[true, true, true, true, true, true, false, false, false, false, false, false, false, false] rfl (by kernel_rfl) hF rfl rfl rfl (fun w hS => e_move hF rfl) (hM.pick [0, 1] rfl rfl) ?_; intro a hF
                have f110 := (q0.frm hM.frm).toF
                refine h_val 6 #[true, true, true, true, true, true, true, false, false, false, false, false, false, false] rfl (by kernel_rfl) hF rfl rfl rfl (fun w hS => e_ias cd3 hF rfl rfl f110 Try.underlying25 Try.sizeOf3 c108.1 c108.2) (hM.pick [0, 1] rfl rfl) ?_; intro a hF
                refine h_val 7 #[true, true, true, true, true, true, true, true, false, false, false, false, false, false] rfl (by kernel_rfl) hF rfl rfl rfl (fun w hS => e_lds (m := x100) hF rfl (q0.frm hS.frm) (getD_some (z := (0 : Int)) c108.1 c108.2) rfl rfl Try.isAgg3) (hM.pick [0, 1] rfl rfl) ?_; intro a hF
                refine h_val 8 #[true, true, true, true, true, true, true, true, true, false, false, false, false, false] rfl (by kernel_rfl) hF rfl rfl rfl (fun w hS => e_move hF rfl) (hM.pick [0, 1] rfl rfl) ?_; intro a hF
                refine h_val 9 #[true, true, true, true, true, true, true, true, true, true, false, false, false, false] rfl (by kernel_rfl) hF rfl rfl rfl (fun w hS => e_move hF rfl) (hM.pick [0, 1] rfl rfl) ?_; intro a hF
                have f111 := (q0.frm hM.frm).toF
                refine h_val 10 #[true, true, true, true, true, true, true, true, true, true, true, false, false, false] rfl (by kernel_rfl) hF rfl rfl rfl (fun w hS => e_ias cd3 hF rfl rfl f111 Try.underlying25 Try.sizeOf3 c109.1 c109.2) (hM.pick [0, 1] rfl rfl) ?_; intro a hF
                refine h_val 11 #[true, true, true, true, true, true, true, true, true, true, true, true, false, false] rfl (by kernel_rfl) hF rfl rfl rfl (fun w hS => e_lds (m := x75) hF rfl (q0.frm hS.frm) (getD_some (z := (0 : Int)) c109.1 c109.2) rfl rfl Try.isAgg3) (hM.pick [0, 1] rfl rfl) ?_; intro a hF
                refine h_val 12 #[true, true, true, true, true, true, true, true, true, true, true, true, true, false] rfl (by kernel_rfl) hF rfl rfl rfl (fun w hS => e_eql hF rfl rfl) (hM.pick [0, 1] rfl rfl) ?_; intro a hF
                refine h_val 13 #[true, true, true, true, true, true, true, true, true, true, true, true, true, true] rfl (by kernel_rfl) hF rfl rfl rfl (fun w hS => e_pick_t hF rfl rfl) (hM.pick [0, 1] rfl rfl) ?_; intro a hF
                refine h_done rfl ?_
                refine then_n ?_
                rcases ite_cases H with ⟨c112, H⟩ | ⟨c112, H⟩
                ·
                  refine s_cond_t hF rfl (decide_eq_true c112) ?_
                  refine wp_seq ?_
                  refine s_region ?_
                  refine s_val hF rfl rfl rfl (e_build' (cells := cat [Pt.ar (Ar.zero 4)]) hF rfl (by kernel_rfl)) ?_; intro a hF
                  refine s_stw (i := 0) (ps' := [Pt.ar (Ar.zero 4)]) hF hM rfl rfl rfl rfl rfl rfl Try.sizeOf48 rfl ?_; intro a w hF hM
                  refine s_val hF rfl rfl rfl (e_assign hF rfl) ?_; intro a hF
                  refine s_nil ?_
                  refine then_n ?_
                  refine wp_ret ?_
                  refine then_r ?_
                  refine blk_r ?_
                  refine then_r ?_
                  refine then_r ?_
                  exact Or.inr (⟨rfl, b1, ((Ar.zero 4), false), some_some H, hF.sub _ ⟨rfl, rfl, trivial⟩, hM.pick [0] rfl rfl⟩)
                ·
                  refine s_cond_f hF rfl (decide_eq_false c112) ?_
                  refine wp_skip ?_
                  refine then_n ?_
                  refine wp_seq ?_
                  refine s_held (fun w => Ms [] w0 w [boxR b1 [Pt.ar (Ar.zero 4)] 48, boxR b2 [Pt.ar x76] 48]) #[false, false, false, false, false, false, false, false, false] mixed rfl rfl hM ?_; intro w hf hM; clear hf
                  refine h_val 0 #[true, false, false, false, false, false, false, false, false] rfl (by kernel_rfl) hF rfl rfl rfl (fun w hS => e_move hF rfl) (hM.pick [0, 1] rfl rfl) ?_; intro a hF
                  refine h_val 1 #[true, true, false, false, false, false, false, false, false] rfl (by kernel_rfl) hF rfl rfl rfl (fun w hS => e_move hF rfl) (hM.pick [0, 1] rfl rfl) ?_; intro a hF
                  have f113 := (q0.frm hM.frm).toF
                  refine h_val 2 #[true, true, true, false, false, false, false, false, false] rfl (by kernel_rfl) hF rfl rfl rfl (fun w hS => e_ias cd3 hF rfl rfl f113 Try.underlying25 Try.sizeOf3 c108.1 c108.2) (hM.pick [0, 1] rfl rfl) ?_; intro a hF
                  refine h_val 3 #[true, true, true, true, false, false, false, false, false] rfl (by kernel_rfl) hF rfl rfl rfl (fun w hS => e_lds (m := x100) hF rfl (q0.frm hS.frm) (getD_some (z := (0 : Int)) c108.1 c108.2) rfl rfl Try.isAgg3) (hM.pick [0, 1] rfl rfl) ?_; intro a hF
                  refine h_val 4 #[true, true, true, true, true, false, false, false, false] rfl (by kernel_rfl) hF rfl rfl rfl (fun w hS => e_move hF rfl) (hM.pick [0, 1] rfl rfl) ?_; intro a hF
                  refine h_val 5 #[true, true, true, true, true, true, false, false, false] rfl (by kernel_rfl) hF rfl rfl rfl (fun w hS => e_move hF rfl) (hM.pick [0, 1] rfl rfl) ?_; intro a hF
                  have f114 := (q0.frm hM.frm).toF
                  refine h_val 6 #[true, true, true, true, true, true, true, false, false] rfl (by kernel_rfl) hF rfl rfl rfl (fun w hS => e_ias cd3 hF rfl rfl f114 Try.underlying25 Try.sizeOf3 c109.1 c109.2) (hM.pick [0, 1] rfl rfl) ?_; intro a hF
                  refine h_val 7 #[true, true, true, true, true, true, true, true, false] rfl (by kernel_rfl) hF rfl rfl rfl (fun w hS => e_lds (m := x75) hF rfl (q0.frm hS.frm) (getD_some (z := (0 : Int)) c109.1 c109.2) rfl rfl Try.isAgg3) (hM.pick [0, 1] rfl rfl) ?_; intro a hF
                  refine h_val 8 #[true, true, true, true, true, true, true, true, true] rfl (by kernel_rfl) hF rfl rfl rfl (fun w hS => e_gtr hF rfl rfl) (hM.pick [0, 1] rfl rfl) ?_; intro a hF
                  refine h_done rfl ?_
                  refine then_n ?_
                  rcases ite_cases H with ⟨c115, H⟩ | ⟨c115, H⟩
                  ·
                    refine s_cond_t hF rfl (decide_eq_true c115) ?_
                    refine s_region ?_
                    refine s_val hF rfl rfl rfl (e_move hF rfl) ?_; intro a hF
                    refine s_val hF rfl rfl rfl (e_add hF rfl rfl) ?_; intro a hF
                    refine s_val hF rfl rfl rfl (e_assign hF rfl) ?_; intro a hF
                    refine s_nil ?_
                    refine blk_n ?_
                    refine then_n ?_
                    refine s_region ?_
                    refine s_val hF rfl rfl rfl (e_move hF rfl) ?_; intro a hF
                    refine s_val hF rfl rfl rfl (e_add hF rfl rfl) ?_; intro a hF
                    refine s_val hF rfl rfl rfl (e_assign hF rfl) ?_; intro a hF
                    refine s_nil ?_
                    refine then_n ?_
                    exact ⟨(wrap64 (x99 + 1)), (wrap64 (x100 + 1)), H, hF.sub _ ⟨rfl, rfl, rfl, rfl, rfl, rfl, trivial⟩, hM.pick [0, 1] rfl rfl⟩
                  ·
                    refine s_cond_f hF rfl (decide_eq_false c115) ?_
                    refine wp_skip ?_
                    refine blk_n ?_
                    refine then_n ?_
                    refine s_region ?_
                    refine s_val hF rfl rfl rfl (e_move hF rfl) ?_; intro a hF
                    refine s_val hF rfl rfl rfl (e_add hF rfl rfl) ?_; intro a hF
                    refine s_val hF rfl rfl rfl (e_assign hF rfl) ?_; intro a hF
                    refine s_nil ?_
                    refine then_n ?_
                    exact ⟨x99, (wrap64 (x100 + 1)), H, hF.sub _ ⟨rfl, rfl, rfl, rfl, rfl, rfl, trivial⟩, hM.pick [0, 1] rfl rfl⟩
            ·
              refine s_cond_f hF rfl (decide_eq_false c101) ?_
              refine wp_exit ?_
              refine then_x ?_
              refine then_x ?_
              exact Or.inl (⟨rfl, x99, some_some H, hF.sub _ ⟨rfl, rfl, rfl, rfl, rfl, trivial⟩, hM.pick [0, 1] rfl rfl⟩)
        · rintro e a w (⟨rfl, x98, rfl, hF, hM⟩ | ⟨rfl, b119, r118, rfl, hF, hM⟩)
          ·
            dsimp only at H
            refine blk_x ?_
            refine then_n ?_
            obtain ⟨c120, H⟩ := ite_some H
            refine s_region ?_
            refine s_val hF rfl rfl rfl (e_move hF rfl) ?_; intro a hF
            refine s_val hF rfl rfl rfl (e_move hF rfl) ?_; intro a hF
            refine s_val hF rfl rfl rfl (e_fa hF rfl Try.underlying48 rfl Try.sizeOf46 rfl rfl) ?_; intro a hF
            refine s_val hF rfl rfl rfl (e_ia hF rfl rfl Try.underlying46 Try.sizeOf3 c120.1 c120.2) ?_; intro a hF
            refine s_sti (i := 1) (k := 0) hF hM rfl rfl rfl rfl rfl rfl rfl Try.sizeOf3 c120.1 c120.2 ?_; intro a w hF hM
            refine s_nil ?_
            refine blk_n ?_
            refine then_n ?_
            refine s_region ?_
            refine s_val hF rfl rfl rfl (e_move hF rfl) ?_; intro a hF
            refine s_val hF rfl rfl rfl (e_add hF rfl rfl) ?_; intro a hF
            refine s_val hF rfl rfl rfl (e_assign hF rfl) ?_; intro a hF
            refine s_nil ?_
            refine then_n ?_
            exact ⟨(wrap64 (x75 + 1)), (x76.set x98 x75), H, hF.sub _ ⟨rfl, rfl, rfl, rfl, trivial⟩, hM.pick [0, 1] rfl rfl⟩
          ·
            dsimp only at H
            refine blk_r ?_
            refine then_r ?_
            refine blk_r ?_
            refine then_r ?_
            refine then_r ?_
            exact Or.inr (⟨rfl, b119, (r118.1, r118.2), some_some H, hF.sub _ ⟨rfl, rfl, trivial⟩, hM.pick [0] rfl rfl⟩)
      ·
        refine s_cond_f hF rfl (decide_eq_false c77) ?_
        refine wp_exit ?_
        refine then_x ?_
        refine then_x ?_
        exact Or.inl (⟨rfl, x76, some_some H, hF.sub _ ⟨rfl, rfl, trivial⟩, hM.pick [0, 1] rfl rfl⟩)
  · rintro e a w (⟨rfl, x74, rfl, hF, hM⟩ | ⟨rfl, b124, r123, rfl, hF, hM⟩)
    ·
      dsimp only at H
      refine blk_x ?_
      refine then_n ?_
      refine wp_seq ?_
      refine s_region ?_
      refine s_val hF rfl rfl rfl (e_lda (i := 1) 0 1 hF hM rfl rfl rfl rfl Try.isAgg48 Try.sizeOf48 rfl) ?_; intro a hF
      refine s_stw (i := 0) (ps' := [Pt.ar x74]) hF hM rfl rfl rfl rfl rfl rfl Try.sizeOf48 rfl ?_; intro a w hF hM
      refine s_val hF rfl rfl rfl (e_assign hF rfl) ?_; intro a hF
      refine s_nil ?_
      refine then_n ?_
      refine wp_ret ?_
      obtain rfl := some_some H
      refine s_ret [ag [Pt.ar x74], Value.bool true] hF Try.results61 ⟨⟨_, rfl, rv_box hM (i := 0) rfl Try.isAgg48 Try.sizeOf48 rfl⟩, rfl, trivial⟩ ?_
      exact ⟨_, rfl, hM.frm, rfl⟩
    ·
      dsimp only at H
      refine blk_r ?_
      refine then_r ?_
      obtain rfl := some_some H
      refine s_ret [ag [Pt.ar r123.1], Value.bool r123.2] hF Try.results61 ⟨⟨_, rfl, rv_box hM (i := 0) rfl Try.isAgg48 Try.sizeOf48 rfl⟩, rfl, trivial⟩ ?_
      exact ⟨_, rfl, hM.frm, rfl⟩

/-! ### loop.example/g01210/spec.l10Ways: function 66 -/
def spec_l10Ways.l3 (K : Nat) (t1 : (List (Ar 4))) (t79 : ((Ar 4) × Bool)) : Nat → Int → (List Int) → Option (List Int)
  | 0, _, _ => none
  | k + 1, x95, x96 => if x95 < (t1.length : Int) then (if t79.2 = true then (if (0 : Int) ≤ x95 ∧ x95 < (t1.length : Int) then (if (t1.getD (x95 : Int).toNat (Ar.zero 4)) = t79.1 then (if (0 : Int) ≤ x95 ∧ x95 < (x96.length : Int) then (spec_l10Ways.l3 K t1 t79 k (wrap64 (x95 + 1)) (x96.set (x95 : Int).toNat (wrap64 ((x96.getD (x95 : Int).toNat (0 : Int)) + 1)))) else none) else (spec_l10Ways.l3 K t1 t79 k (wrap64 (x95 + 1)) x96)) else none) else (spec_l10Ways.l3 K t1 t79 k (wrap64 (x95 + 1)) x96)) else (some x96)
def spec_l10Ways.l2 (K : Nat) (l0 : (List (Ar 6))) (t1 : (List (Ar 4))) : Nat → Int → (List Int) → Option (List Int)
  | 0, _, _ => none
  | k + 1, x71, x72 => (spec_l2All.f K (l0.length : Int)).bind fun t73 => if x71 < t73 then ((spec_l2Roll.f K l0 x71).bind fun t76 => (spec_l10Order.f K t76).bind fun t79 => (spec_l10Ways.l3 K t1 t79 K 0 x72).bind fun x94 => spec_l10Ways.l2 K l0 t1 k (wrap64 (x71 + 1)) x94) else (some x72)
def spec_l10Ways.f (K : Nat) (l0 : (List (Ar 6))) : Option (List Int) := (spec_l10Orders.f K (l0.length : Int)).bind fun t1 => if (0 : Int) ≤ (t1.length : Int) ∧ (t1.length : Int) ≤ 1073741824 then ((spec_l10Ways.l2 K l0 t1 K 0 (List.replicate (t1.length : Int).toNat (0 : Int))).bind fun x70 => some x70) else none
set_option maxRecDepth 100000 in
set_option maxHeartbeats 4000000 in
theorem spec_l10Ways.calls {w0 : World} (K : Nat) (l0 : (List (Ar 6))) (u0 : Value) (q0 : SlR cd62 w0 u0 l0) (r : (List Int)) (H : spec_l10Ways.f K l0 = some r) : Calls Try.prog 66 [u0].toArray w0 (Post w0 fun w v => Fresh cd3 w0.heap.size w v r) := by
  rw [spec_l10Ways.f] at H
  refine s_start Try.func66 rfl Try.ntmps66 rfl ?_
  intro a hF
  have hM := Ms.start w0
  skip
  refine wp_seq ?_
  refine s_region ?_
  refine s_val hF rfl rfl rfl (e_assign hF rfl) ?_; intro a hF
  refine s_nil ?_
  refine then_n ?_
  refine wp_seq ?_
  obtain ⟨t1, h2, H⟩ := bind_some H
  refine s_region ?_
  refine s_val hF rfl rfl rfl (e_move hF rfl) ?_; intro a hF
  refine s_val hF rfl rfl rfl (e_len hF rfl (q0.frm hM.frm).toF Try.underlying37) ?_; intro a hF
  refine s_call hF rfl rfl rfl Try.call51 (spec_l10Orders.calls K (l0.length : Int) t1 h2) ?_; intro a w v3 hF hf hR
  have hM := hM.fresh hf hR
  refine s_val hF rfl rfl rfl (e_assign hF rfl) ?_; intro a hF
  refine s_nil ?_
  refine then_n ?_
  refine wp_seq ?_
  obtain ⟨c5, H⟩ := ite_some H
  refine s_region ?_
  refine s_val hF rfl rfl rfl (e_move hF rfl) ?_; intro a hF
  refine s_val hF rfl rfl rfl (e_len hF rfl (hM.sl 0 rfl).toF Try.underlying32) ?_; intro a hF
  refine s_make (C := cd3) cdok3 hF hM rfl rfl rfl rfl Try.underlying25 c5.1 c5.2 ?_; intro a w v4 hF hM
  refine s_val hF rfl rfl rfl (e_assign hF rfl) ?_; intro a hF
  refine s_nil ?_
  refine then_n ?_
  refine wp_seq ?_
  refine wp_seq ?_
  refine s_region ?_
  refine s_val hF rfl rfl rfl (e_assign hF rfl) ?_; intro a hF
  refine s_nil ?_
  refine then_n ?_
  refine wp_block ?_
  obtain ⟨o105, h106, H⟩ := bind_some H
  refine wp_mono (Q := fun e a w => (e = Exit.exit 0 ∧ ∃ x70 : (List Int), x70 = o105 ∧ Fr 51 a [(4, v4)] ∧ Ms [] w0 w [rowR cd3 v4 x70])) ?_ ?_
  · refine s_loop (fun kq a w => ∃ x71 : Int, ∃ x72 : (List Int), spec_l10Ways.l2 K l0 t1 kq x71 x72 = some o105 ∧ Fr 51 a [(0, u0), (3, v3), (4, v4), (5, Value.int .i64 x71)] ∧ Ms [] w0 w [rowR cd48 v3 t1, rowR cd3 v4 x72]) K ⟨0, (List.replicate (t1.length : Int).toNat (0 : Int)), h106, hF.sub _ ⟨rfl, rfl, rfl, rfl, trivial⟩, hM.pick [1, 0] rfl rfl⟩ ?_ ?_
    · rintro a w ⟨_, _, H, _⟩; exact none_some H
    · rintro k a w ⟨x71, x72, H, hF, hM⟩; rw [spec_l10Ways.l2] at H
      refine wp_seq ?_
      refine wp_seq ?_
      obtain ⟨t73, h74, H⟩ := bind_some H
      refine s_region ?_
      refine s_val hF rfl rfl rfl (e_move hF rfl) ?_; intro a hF
      refine s_val hF rfl rfl rfl (e_move hF rfl) ?_; intro a hF
      refine s_val hF rfl rfl rfl (e_len hF rfl (q0.frm hM.frm).toF Try.underlying37) ?_; intro a hF
      refine s_call hF rfl rfl rfl Try.call82 (spec_l2All.calls K (l0.length : Int) t73 h74) ?_; intro a w v hF hf hR
      subst hR; have hM := hM.grow hf
      refine s_val hF rfl rfl rfl (e_lss hF rfl rfl) ?_; intro a hF
      refine s_nil ?_
      refine then_n ?_
      rcases ite_cases H with ⟨c75, H⟩ | ⟨c75, H⟩
      ·
        refine s_cond_t hF rfl (decide_eq_true c75) ?_
        refine wp_skip ?_
        refine then_n ?_
        refine wp_seq ?_
        refine wp_block ?_
        refine wp_seq ?_
        obtain ⟨t76, h77, H⟩ := bind_some H
        obtain ⟨t79, h80, H⟩ := bind_some H
        refine s_region ?_
        refine s_val hF rfl rfl rfl (e_move hF rfl) ?_; intro a hF
        refine s_val hF rfl rfl rfl (e_move hF rfl) ?_; intro a hF
        refine s_call hF rfl rfl rfl Try.call83 (spec_l2Roll.calls K l0 u0 (q0.frm hM.frm) x71 t76 h77) ?_; intro a w v78 hF hf hR
        have hM := hM.fresh hf hR
        refine s_call hF rfl rfl rfl Try.call61 (spec_l10Order.calls K t76 v78 (hM.sl 0 rfl) t79 h80) ?_; intro a w v hF hf hR
        subst hR; have hM := hM.grow hf
        refine s_val hF rfl rfl rfl (e_move hF rfl) ?_; intro a hF
        refine s_val hF rfl rfl rfl (e_extract hF rfl rfl) ?_; intro a hF
        refine s_val hF rfl rfl rfl (e_extract hF rfl rfl) ?_; intro a hF
        refine s_alloc (ps := [Pt.ar (Ar.zero 4)]) hF hM rfl rfl zv48 rfl ?_; intro a w b81 hF hM
        refine s_stw (i := 0) (ps' := [Pt.ar t79.1]) hF hM rfl rfl rfl rfl rfl rfl Try.sizeOf48 rfl ?_; intro a w hF hM
        refine s_val hF rfl rfl rfl (e_assign hF rfl) ?_; intro a hF
        refine s_nil ?_
        refine then_n ?_
        refine wp_seq ?_
        refine s_region ?_
        refine s_val hF rfl rfl rfl (e_assign hF rfl) ?_; intro a hF
        refine s_nil ?_
        refine then_n ?_
        refine wp_block ?_
        obtain ⟨o103, h104, H⟩ := bind_some H
        refine wp_mono (Q := fun e a w => (e = Exit.exit 2 ∧ ∃ x94 : (List Int), x94 = o103 ∧ Fr 51 a [(0, u0), (3, v3), (4, v4), (5, Value.int .i64 x71)] ∧ Ms [] w0 w [rowR cd48 v3 t1, rowR cd3 v4 x94])) ?_ ?_
        · refine s_loop (fun kq a w => ∃ x95 : Int, ∃ x96 : (List Int), spec_l10Ways.l3 K t1 t79 kq x95 x96 = some o103 ∧ Fr 51 a [(0, u0), (3, v3), (4, v4), (5, Value.int .i64 x71), (6, pt b81 0), (7, Value.bool t79.2), (8, Value.int .i64 x95)] ∧ Ms [] w0 w [rowR cd48 v3 t1, rowR cd3 v4 x96, boxR b81 [Pt.ar t79.1] 48]) K ⟨0, x72, h104, hF.sub _ ⟨rfl, rfl, rfl, rfl, rfl, rfl, rfl, trivial⟩, hM.pick [2, 3, 0] rfl rfl⟩ ?_ ?_
          · rintro a w ⟨_, _, H, _⟩; exact none_some H
          · rintro k a w ⟨x95, x96, H, hF, hM⟩; rw [spec_l10Ways.l3] at H
            refine wp_seq ?_
            refine wp_seq ?_
            refine s_region ?_
            refine s_val hF rfl rfl rfl (e_move hF rfl) ?_; intro a hF
            refine s_val hF rfl rfl rfl (e_move hF rfl) ?_; intro a hF
            refine s_val hF rfl rfl rfl (e_len hF rfl (hM.sl 0 rfl).toF Try.underlying32) ?_; intro a hF
            refine s_val hF rfl rfl rfl (e_lss hF rfl rfl) ?_; intro a hF
            refine s_nil ?_
            refine then_n ?_
            rcases ite_cases H with ⟨c97, H⟩ | ⟨c97, H⟩
            ·
              refine s_cond_t hF rfl (decide_eq_true c97) ?_
              refine wp_skip ?_
              refine then_n ?_
              refine wp_seq ?_
              refine wp_block ?_
              refine wp_seq ?_
              rcases ite_cases H with ⟨c98, H⟩ | ⟨c98, H⟩
              ·
                obtain ⟨c99, H⟩ := ite_some H
                refine s_held (fun w => Ms [] w0 w [rowR cd48 v3 t1, rowR cd3 v4 x96, boxR b81 [Pt.ar t79.1] 48]) #[false, false, false, false, false, false, false, false, false] mixed rfl rfl hM ?_; intro w hf hM; clear hf
                refine h_val 0 #[true, false, false, false, false, false, false, false, false] rfl (by kernel_rfl) hF rfl rfl rfl (fun w hS => e_move hF rfl) (hM.pick [0, 1, 2] rfl rfl) ?_; intro a hF
                refine h_val 1 #[true, true, false, false, false, false, false, false, false] rfl (by kernel_rfl) hF rfl rfl rfl (fun w hS => e_move hF rfl) (hM.pick [0, 1, 2] rfl rfl) ?_; intro a hF
                have hF := hF.topb c98
                refine h_val 2 #[true, true, true, false, false, false, false, false, false] rfl (by kernel_rfl) hF rfl rfl rfl (fun w hS => e_move hF rfl) (hM.pick [0, 1, 2] rfl rfl) ?_; intro a hF
                refine h_val 3 #[true, true, true, true, false, false, false, false, false] rfl (by kernel_rfl) hF rfl rfl rfl (fun w hS => e_move hF rfl) (hM.pick [0, 1, 2] rfl rfl) ?_; intro a hF
                have f100 := (hM.sl 0 rfl).toF
                refine h_val 4 #[true, true, true, true, true, false, false, false, false] rfl (by kernel_rfl) hF rfl rfl rfl (fun w hS => e_ias cd48 hF rfl rfl f100 Try.underlying32 Try.sizeOf48 c99.1 c99.2) (hM.pick [0, 1, 2] rfl rfl) ?_; intro a hF
                refine h_val 5 #[true, true, true, true, true, true, false, false, false] rfl (by kernel_rfl) hF rfl rfl rfl (fun w hS => e_ldsa (m := x95) hF rfl (hS.sl 0 rfl) (getD_some (z := (Ar.zero 4)) c99.1 c99.2) Try.isAgg48 Try.sizeOf48) (hM.pick [0, 1, 2] rfl rfl) ?_; intro a hF
                refine h_val 6 #[true, true, true, true, true, true, true, false, false] rfl (by kernel_rfl) hF rfl rfl rfl (fun w hS => e_lda (i := 2) 0 1 hF hS rfl rfl rfl rfl Try.isAgg48 Try.sizeOf48 rfl) (hM.pick [0, 1, 2] rfl rfl) ?_; intro a hF
                refine h_val 7 #[true, true, true, true, true, true, true, true, false] rfl (by kernel_rfl) hF rfl rfl rfl (fun w hS => e_aggeq _ (run_eq1 (t1.getD (x95 : Int).toNat (Ar.zero 4)) t79.1 Try.underlying48 Try.stoodInHeld48 (by decide) rfl Try.underlying46 Try.underlying3 Try.sizeOf3 Try.isAgg3 Try.sizeOf46 Try.isAgg46) Try.eqGuardType48 hF rfl rfl) (hM.pick [0, 1, 2] rfl rfl) ?_; intro a hF
                refine h_val 8 #[true, true, true, true, true, true, true, true, true] rfl (by kernel_rfl) hF rfl rfl rfl (fun w hS => e_pick_t hF rfl rfl) (hM.pick [0, 1, 2] rfl rfl) ?_; intro a hF
                refine h_done rfl ?_
                refine then_n ?_
                rcases ite_cases H with ⟨c101, H⟩ | ⟨c101, H⟩
                ·
                  refine s_cond_t hF rfl (decide_eq_true c101) ?_
                  obtain ⟨c102, H⟩ := ite_some H
                  refine s_region ?_
                  refine s_val hF rfl rfl rfl (e_move hF rfl) ?_; intro a hF
                  refine s_val hF rfl rfl rfl (e_move hF rfl) ?_; intro a hF
                  refine s_val hF rfl rfl rfl (e_ias cd3 hF rfl rfl (hM.sl 1 rfl).toF Try.underlying25 Try.sizeOf3 c102.1 c102.2) ?_; intro a hF
                  refine s_val hF rfl rfl rfl (e_lds (m := x95) hF rfl (hM.sl 1 rfl) (getD_some (z := (0 : Int)) c102.1 c102.2) rfl rfl Try.isAgg3) ?_; intro a hF
                  refine s_val hF rfl rfl rfl (e_add hF rfl rfl) ?_; intro a hF
                  refine s_val hF rfl rfl rfl (e_ias cd3 hF rfl rfl (hM.sl 1 rfl).toF Try.underlying25 Try.sizeOf3 c102.1 c102.2) ?_; intro a hF
                  refine s_sts (i := 1) (wrap64 ((x96.getD (x95 : Int).toNat (0 : Int)) + 1)) hF hM rfl rfl rfl rfl rfl c102.1 c102.2 Try.sizeOf3 ?_; intro a w hF hM
                  refine s_nil ?_
                  refine blk_n ?_
                  refine then_n ?_
                  refine s_region ?_
                  refine s_val hF rfl rfl rfl (e_move hF rfl) ?_; intro a hF
                  refine s_val hF rfl rfl rfl (e_add hF rfl rfl) ?_; intro a hF
                  refine s_val hF rfl rfl rfl (e_assign hF rfl) ?_; intro a hF
                  refine s_nil ?_
                  refine then_n ?_
                  exact ⟨(wrap64 (x95 + 1)), (x96.set (x95 : Int).toNat (wrap64 ((x96.getD (x95 : Int).toNat (0 : Int)) + 1))), H, hF.sub _ ⟨rfl, rfl, rfl, rfl, rfl, rfl, rfl, trivial⟩, hM.pick [0, 1, 2] rfl rfl⟩
                ·
                  refine s_cond_f hF rfl (decide_eq_false c101) ?_
                  refine wp_skip ?_
                  refine blk_n ?_
                  refine then_n ?_
                  refine s_region ?_
                  refine s_val hF rfl rfl rfl (e_move hF rfl) ?_; intro a hF
                  refine s_val hF rfl rfl rfl (e_add hF rfl rfl) ?_; intro a hF
                  refine s_val hF rfl rfl rfl (e_assign hF rfl) ?_; intro a hF
                  refine s_nil ?_
                  refine then_n ?_
                  exact ⟨(wrap64 (x95 + 1)), x96, H, hF.sub _ ⟨rfl, rfl, rfl, rfl, rfl, rfl, rfl, trivial⟩, hM.pick [0, 1, 2] rfl rfl⟩
              ·
                refine s_held (fun w => Ms [] w0 w [rowR cd48 v3 t1, rowR cd3 v4 x96, boxR b81 [Pt.ar t79.1] 48]) #[false, false, false, false, false, false, false, false, false] mixed rfl rfl hM ?_; intro w hf hM; clear hf
                refine h_val 0 #[true, false, false, false, false, false, false, false, false] rfl (by kernel_rfl) hF rfl rfl rfl (fun w hS => e_move hF rfl) (hM.pick [0, 1, 2] rfl rfl) ?_; intro a hF
                refine h_val 1 #[true, true, false, false, false, false, false, false, false] rfl (by kernel_rfl) hF rfl rfl rfl (fun w hS => e_move hF rfl) (hM.pick [0, 1, 2] rfl rfl) ?_; intro a hF
                have hF := hF.topb (bf c98)
                refine h_skip 2 #[true, true, true, false, false, false, false, false, false] rfl (by kernel_rfl) hF rfl rfl rfl (hM.pick [0, 1, 2] rfl rfl) ?_; intro a hF
                refine h_skip 3 #[true, true, true, true, false, false, false, false, false] rfl (by kernel_rfl) hF rfl rfl rfl (hM.pick [0, 1, 2] rfl rfl) ?_; intro a hF
                refine h_skip 4 #[true, true, true, true, true, false, false, false, false] rfl (by kernel_rfl) hF rfl rfl rfl (hM.pick [0, 1, 2] rfl rfl) ?_; intro a hF
                refine h_skip 5 #[true, true, true, true, true, true, false, false, false] rfl (by kernel_rfl) hF rfl rfl rfl (hM.pick [0, 1, 2] rfl rfl) ?_; intro a hF
                refine h_skip 6 #[true, true, true, true, true, true, true, false, false] rfl (by kernel_rfl) hF rfl rfl rfl (hM.pick [0, 1, 2] rfl rfl) ?_; intro a hF
                refine h_skip 7 #[true, true, true, true, true, true, true, true, false] rfl (by kernel_rfl) hF rfl rfl rfl (hM.pick [0, 1, 2] rfl rfl) ?_; intro a hF
                refine h_val 8 #[true, true, true, true, true, true, true, true, true] rfl (by kernel_rfl) hF rfl rfl rfl (fun w hS => e_pick_f hF rfl rfl) (hM.pick [0, 1, 2] rfl rfl) ?_; intro a hF
                refine h_done rfl ?_
                refine then_n ?_
                refine s_cond_f hF rfl rfl ?_
                refine wp_skip ?_
                refine blk_n ?_
                refine then_n ?_
                refine s_region ?_
                refine s_val hF rfl rfl rfl (e_move hF rfl) ?_; intro a hF
                refine s_val hF rfl rfl rfl (e_add hF rfl rfl) ?_; intro a hF
                refine s_val hF rfl rfl rfl (e_assign hF rfl) ?_; intro a hF
                refine s_nil ?_
                refine then_n ?_
                exact ⟨(wrap64 (x95 + 1)), x96, H, hF.sub _ ⟨rfl, rfl, rfl, rfl, rfl, rfl, rfl, trivial⟩, hM.pick [0, 1, 2] rfl rfl⟩
            ·
              refine s_cond_f hF rfl (decide_eq_false c97) ?_
              refine wp_exit ?_
              refine then_x ?_
              refine then_x ?_
              exact ⟨rfl, x96, some_some H, hF.sub _ ⟨rfl, rfl, rfl, rfl, trivial⟩, hM.pick [0, 1] rfl rfl⟩
        · rintro e a w ⟨rfl, x94, rfl, hF, hM⟩
          skip
          refine blk_x ?_
          refine blk_n ?_
          refine then_n ?_
          refine s_region ?_
          refine s_val hF rfl rfl rfl (e_move hF rfl) ?_; intro a hF
          refine s_val hF rfl rfl rfl (e_add hF rfl rfl) ?_; intro a hF
          refine s_val hF rfl rfl rfl (e_assign hF rfl) ?_; intro a hF
          refine s_nil ?_
          refine then_n ?_
          exact ⟨(wrap64 (x71 + 1)), x94, H, hF.sub _ ⟨rfl, rfl, rfl, rfl, trivial⟩, hM.pick [0, 1] rfl rfl⟩
      ·
        refine s_cond_f hF rfl (decide_eq_false c75) ?_
        refine wp_exit ?_
        refine then_x ?_
        refine then_x ?_
        exact ⟨rfl, x72, some_some H, hF.sub _ ⟨rfl, trivial⟩, hM.pick [1] rfl rfl⟩
  · rintro e a w ⟨rfl, x70, rfl, hF, hM⟩
    skip
    refine blk_x ?_
    refine then_n ?_
    refine wp_seq ?_
    refine s_region ?_
    refine s_val hF rfl rfl rfl (e_move hF rfl) ?_; intro a hF
    refine s_val hF rfl rfl rfl (e_assign hF rfl) ?_; intro a hF
    refine s_nil ?_
    refine then_n ?_
    refine wp_ret ?_
    obtain rfl := some_some H
    refine s_ret [v4] hF Try.results66 ⟨rfl, trivial⟩ ?_
    exact ⟨_, rfl, hM.frm, hM.give 0 rfl⟩

/-! ### loop.example/g01210/spec.LettersWays: function 37 -/
def spec_LettersWays.f (K : Nat) (l0 : (List Int)) : Option ((List Int) × Bool) := (spec_l10Letters.f K l0).bind fun t1 => if t1 = true then ((spec_l10Pool.f K l0).bind fun t4 => (spec_l10Ways.f K t4).bind fun t7 => some (t7, true)) else (some (([] : List Int), false))
set_option maxRecDepth 100000 in
set_option maxHeartbeats 4000000 in
theorem spec_LettersWays.calls {w0 : World} (K : Nat) (l0 : (List Int)) (u0 : Value) (q0 : SlR cd3 w0 u0 l0) (r : ((List Int) × Bool)) (H : spec_LettersWays.f K l0 = some r) : Calls Try.prog 37 [u0].toArray w0 (Post w0 fun w v => ∃ v0 : Value, v = Value.tuple #[v0, Value.bool r.2] ∧ Fresh cd3 w0.heap.size w v0 r.1) := by
  rw [spec_LettersWays.f] at H
  refine s_start Try.func37 rfl Try.ntmps37 rfl ?_
  intro a hF
  have hM := Ms.start w0
  skip
  refine wp_seq ?_
  refine s_region ?_
  refine s_val hF rfl rfl rfl (e_assign hF rfl) ?_; intro a hF
  refine s_val hF rfl rfl rfl (e_assign hF rfl) ?_; intro a hF
  refine s_nil ?_
  refine then_n ?_
  refine wp_seq ?_
  refine wp_seq ?_
  obtain ⟨t1, h2, H⟩ := bind_some H
  refine s_region ?_
  refine s_val hF rfl rfl rfl (e_move hF rfl) ?_; intro a hF
  refine s_call hF rfl rfl rfl Try.call47 (spec_l10Letters.calls K l0 u0 (q0.frm hM.frm) t1 h2) ?_; intro a w v hF hf hR
  subst hR; have hM := hM.grow hf
  refine s_val hF rfl rfl rfl (e_not hF rfl) ?_; intro a hF
  refine s_nil ?_
  refine then_n ?_
  rcases ite_cases H with ⟨c3, H⟩ | ⟨c3, H⟩
  ·
    refine s_cond_f hF rfl (congrArg Bool.not c3) ?_
    refine wp_skip ?_
    refine then_n ?_
    refine wp_seq ?_
    obtain ⟨t4, h5, H⟩ := bind_some H
    obtain ⟨t7, h8, H⟩ := bind_some H
    refine s_region ?_
    refine s_val hF rfl rfl rfl (e_move hF rfl) ?_; intro a hF
    refine s_call hF rfl rfl rfl Try.call53 (spec_l10Pool.calls K l0 u0 (q0.frm hM.frm) t4 h5) ?_; intro a w v6 hF hf hR
    have hM := hM.fresh hf hR
    refine s_call hF rfl rfl rfl Try.call66 (spec_l10Ways.calls K t4 v6 (hM.sl 0 rfl) t7 h8) ?_; intro a w v9 hF hf hR
    have hM := hM.fresh hf hR
    refine s_val hF rfl rfl rfl (e_assign hF rfl) ?_; intro a hF
    refine s_val hF rfl rfl rfl (e_assign hF rfl) ?_; intro a hF
    refine s_nil ?_
    refine then_n ?_
    refine wp_ret ?_
    obtain rfl := some_some H
    refine s_ret [v9, Value.bool true] hF Try.results37 ⟨rfl, rfl, trivial⟩ ?_
    exact ⟨_, rfl, hM.frm, ⟨v9, rfl, hM.give 0 rfl⟩⟩
  ·
    refine s_cond_t hF rfl (congrArg Bool.not (bf c3)) ?_
    refine wp_seq ?_
    refine s_region ?_
    refine s_bsl (C := cd3) ([] : List Int) cdok3 hF hM rfl rfl rfl rfl Try.underlying25 rfl ?_; intro a w v10 hF hM
    refine s_val hF rfl rfl rfl (e_assign hF rfl) ?_; intro a hF
    refine s_val hF rfl rfl rfl (e_assign hF rfl) ?_; intro a hF
    refine s_nil ?_
    refine then_n ?_
    refine wp_ret ?_
    refine then_r ?_
    obtain rfl := some_some H
    refine s_ret [v10, Value.bool false] hF Try.results37 ⟨rfl, rfl, trivial⟩ ?_
    exact ⟨_, rfl, hM.frm, ⟨v10, rfl, hM.give 0 rfl⟩⟩

/-! ### loop.example/g01210/impl.within: function 44 -/
def impl_within.f (K : Nat) (a0 : Int) (a1 : Int) (a2 : Int) : Option Bool := if a1 ≤ a0 then (some (decide (a0 ≤ a2))) else (some false)
set_option maxRecDepth 100000 in
set_option maxHeartbeats 4000000 in
theorem impl_within.calls {w0 : World} (K : Nat) (a0 : Int) (a1 : Int) (a2 : Int) (r : Bool) (H : impl_within.f K a0 a1 a2 = some r) : Calls Try.prog 44 [Value.int .i64 a0, Value.int .i64 a1, Value.int .i64 a2].toArray w0 (Post w0 fun w v => v = Value.bool r) := by
  rw [impl_within.f] at H
  refine s_start Try.func44 rfl Try.ntmps44 rfl ?_
  intro a hF
  have hM := Ms.start w0
  skip
  refine wp_seq ?_
  refine s_region ?_
  refine s_val hF rfl rfl rfl (e_assign hF rfl) ?_; intro a hF
  refine s_nil ?_
  refine then_n ?_
  refine wp_seq ?_
  rcases ite_cases H with ⟨c1, H⟩ | ⟨c1, H⟩
  ·
    refine s_region ?_
    refine s_val hF rfl rfl rfl (e_move hF rfl) ?_; intro a hF
    refine s_val hF rfl rfl rfl (e_move hF rfl) ?_; intro a hF
    refine s_val hF rfl rfl rfl (e_leq hF rfl rfl) ?_; intro a hF
    refine s_val hF rfl rfl rfl (e_move hF rfl) ?_; intro a hF
    have hF := hF.topb (decide_eq_true c1)
    refine s_val hF rfl rfl rfl (e_move hF rfl) ?_; intro a hF
    refine s_val hF rfl rfl rfl (e_move hF rfl) ?_; intro a hF
    refine s_val hF rfl rfl rfl (e_leq hF rfl rfl) ?_; intro a hF
    refine s_val hF rfl rfl rfl (e_pick_t hF rfl rfl) ?_; intro a hF
    refine s_val hF rfl rfl rfl (e_assign hF rfl) ?_; intro a hF
    refine s_nil ?_
    refine then_n ?_
    refine wp_ret ?_
    obtain rfl := some_some H
    refine s_ret [Value.bool (decide (a0 ≤ a2))] hF Try.results44 ⟨rfl, trivial⟩ ?_
    exact ⟨_, rfl, hM.frm, rfl⟩
  ·
    refine s_region ?_
    refine s_val hF rfl rfl rfl (e_move hF rfl) ?_; intro a hF
    refine s_val hF rfl rfl rfl (e_move hF rfl) ?_; intro a hF
    refine s_val hF rfl rfl rfl (e_leq hF rfl rfl) ?_; intro a hF
    refine s_val hF rfl rfl rfl (e_move hF rfl) ?_; intro a hF
    have hF := hF.topb (decide_eq_false c1)
    refine s_skip hF rfl rfl rfl ?_; intro a hF
    refine s_skip hF rfl rfl rfl ?_; intro a hF
    refine s_skip hF rfl rfl rfl ?_; intro a hF
    refine s_val hF rfl rfl rfl (e_pick_f hF rfl rfl) ?_; intro a hF
    refine s_val hF rfl rfl rfl (e_assign hF rfl) ?_; intro a hF
    refine s_nil ?_
    refine then_n ?_
    refine wp_ret ?_
    obtain rfl := some_some H
    refine s_ret [Value.bool false] hF Try.results44 ⟨rfl, trivial⟩ ?_
    exact ⟨_, rfl, hM.frm, rfl⟩

/-! ### loop.example/g01210/impl.fromLetters: function 48 -/
def impl_fromLetters.l0 (K : Nat) (l0 : (List Int)) : Nat → Int → (List (Ar 6)) → (List Int) → Option (Sum (List (Ar 6)) ((List (Ar 6)) × Bool))
  | 0, _, _, _ => none
  | k + 1, x30, x31, x32 => if x30 < (l0.length : Int) then (if (0 : Int) ≤ x30 ∧ x30 < (l0.length : Int) then ((impl_within.f K (l0.getD (x30 : Int).toNat (0 : Int)) 0 (wrap64 ((wrap64 ((l0.length : Int).tdiv 6)) - 1))).bind fun t35 => if t35 = true then (if (0 : Int) ≤ (l0.getD (x30 : Int).toNat (0 : Int)) ∧ (l0.getD (x30 : Int).toNat (0 : Int)) < (x32.length : Int) then (if (x32.getD ((l0.getD (x30 : Int).toNat (0 : Int)) : Int).toNat (0 : Int)) = 6 then (some (Sum.inr ([], false))) else (if (0 : Int) ≤ (l0.getD (x30 : Int).toNat (0 : Int)) ∧ (l0.getD (x30 : Int).toNat (0 : Int)) < (x31.length : Int) then (if (0 : Int) ≤ (x32.getD ((l0.getD (x30 : Int).toNat (0 : Int)) : Int).toNat (0 : Int)) ∧ (x32.getD ((l0.getD (x30 : Int).toNat (0 : Int)) : Int).toNat (0 : Int)) < 6 then (impl_fromLetters.l0 K l0 k (wrap64 (x30 + 1)) (x31.set ((l0.getD (x30 : Int).toNat (0 : Int)) : Int).toNat ((x31.getD ((l0.getD (x30 : Int).toNat (0 : Int)) : Int).toNat (Ar.zero 6)).set (x32.getD ((l0.getD (x30 : Int).toNat (0 : Int)) : Int).toNat (0 : Int)) (wrap64 (x30 + 1)))) (x32.set ((l0.getD (x30 : Int).toNat (0 : Int)) : Int).toNat (wrap64 ((x32.getD ((l0.getD (x30 : Int).toNat (0 : Int)) : Int).toNat (0 : Int)) + 1)))) else none) else none)) else none) else (some (Sum.inr ([], false)))) else none) else (some (Sum.inl x31))
def impl_fromLetters.f (K : Nat) (l0 : (List Int)) : Option ((List (Ar 6)) × Bool) := if ((l0.length : Int).tmod 6) = 0 then ((impl_within.f K (wrap64 ((l0.length : Int).tdiv 6)) 1 4).bind fun t2 => if t2 = true then (if (0 : Int) ≤ (wrap64 ((l0.length : Int).tdiv 6)) ∧ (wrap64 ((l0.length : Int).tdiv 6)) ≤ 1073741824 then ((impl_fromLetters.l0 K l0 K 0 (List.replicate (wrap64 ((l0.length : Int).tdiv 6)).toNat (Ar.zero 6)) (List.replicate (wrap64 ((l0.length : Int).tdiv 6)).toNat (0 : Int))).bind fun o44 => (match o44 with | .inl x29 => some (x29, true) | .inr r46 => some (r46.1, r46.2))) else none) else (some ([], false))) else (some ([], false))
set_option maxRecDepth 100000 in
set_option maxHeartbeats 4000000 in
theorem impl_fromLetters.calls {w0 : World} (K : Nat) (l0 : (List Int)) (u0 : Value) (q0 : SlR cd3 w0 u0 l0) (r : ((List (Ar 6)) × Bool)) (H : impl_fromLetters.f K l0 = some r) : Calls Try.prog 48 [u0].toArray w0 (Post w0 fun w v => ∃ v0 : Value, v = Value.tuple #[v0, Value.bool r.2] ∧ Fresh cd62 w0.heap.size w v0 r.1) := by
  rw [impl_fromLetters.f] at H
  refine s_start Try.func48 rfl Try.ntmps48 rfl ?_
  intro a hF
  have hM := Ms.start w0
  skip
  refine wp_seq ?_
  refine s_region ?_
  refine s_val hF rfl rfl rfl (e_assign hF rfl) ?_; intro a hF
  refine s_val hF rfl rfl rfl (e_assign hF rfl) ?_; intro a hF
  refine s_nil ?_
  refine then_n ?_
  refine wp_seq ?_
  refine s_region ?_
  refine s_val hF rfl rfl rfl (e_move hF rfl) ?_; intro a hF
  refine s_val hF rfl rfl rfl (e_len hF rfl (q0.frm hM.frm).toF Try.underlying25) ?_; intro a hF
  refine s_val hF rfl rfl rfl (e_quo hF rfl rfl (by decide)) ?_; intro a hF
  refine s_val hF rfl rfl rfl (e_assign hF rfl) ?_; intro a hF
  refine s_nil ?_
  refine then_n ?_
  refine wp_seq ?_
  refine wp_seq ?_
  rcases ite_cases H with ⟨c1, H⟩ | ⟨c1, H⟩
  ·
    obtain ⟨t2, h3, H⟩ := bind_some H
    refine s_region ?_
    refine s_val hF rfl rfl rfl (e_move hF rfl) ?_; intro a hF
    refine s_val hF rfl rfl rfl (e_len hF rfl (q0.frm hM.frm).toF Try.underlying25) ?_; intro a hF
    refine s_val hF rfl rfl rfl (e_rem hF rfl rfl (by decide)) ?_; intro a hF
    refine s_val hF rfl rfl rfl (e_neq hF rfl rfl) ?_; intro a hF
    refine s_val hF rfl rfl rfl (e_move hF rfl) ?_; intro a hF
    have hF := hF.topb (congrArg Bool.not (decide_eq_true c1))
    refine s_val hF rfl rfl rfl (e_move hF rfl) ?_; intro a hF
    refine s_call hF rfl rfl rfl Try.call44 (impl_within.calls K (wrap64 ((l0.length : Int).tdiv 6)) 1 4 t2 h3) ?_; intro a w v hF hf hR
    subst hR; have hM := hM.grow hf
    refine s_val hF rfl rfl rfl (e_not hF rfl) ?_; intro a hF
    refine s_val hF rfl rfl rfl (e_pick_f hF rfl rfl) ?_; intro a hF
    refine s_nil ?_
    refine then_n ?_
    rcases ite_cases H with ⟨c4, H⟩ | ⟨c4, H⟩
    ·
      refine s_cond_f hF rfl (congrArg Bool.not c4) ?_
      refine wp_skip ?_
      refine then_n ?_
      refine wp_seq ?_
      obtain ⟨c6, H⟩ := ite_some H
      refine wp_mono (Q := fun e a w => e = Exit.normal ∧ ∃ v5 : Value, ∃ v7 : Value, Fr 62 a [(0, u0), (4, Value.int .i64 (wrap64 ((l0.length : Int).tdiv 6))), (5, v5), (6, v7)] ∧ Ms [] w0 w [rowR cd62 v5 (List.replicate (wrap64 ((l0.length : Int).tdiv 6)).toNat (Ar.zero 6)), rowR cd3 v7 (List.replicate (wrap64 ((l0.length : Int).tdiv 6)).toNat (0 : Int))]) ?_ ?_
      · skip
        refine s_held (fun w => Ms [] w0 w []) #[false, false, false, false, false, false] mixed rfl rfl hM ?_; intro w hf hM; clear hf
        refine h_val 0 #[true, false, false, false, false, false] rfl (by kernel_rfl) hF rfl rfl rfl (fun w hS => e_move hF rfl) (hM.pick [] rfl rfl) ?_; intro a hF
        refine h_val 2 #[true, false, true, false, false, false] rfl (by kernel_rfl) hF rfl rfl rfl (fun w hS => e_move hF rfl) (hM.pick [] rfl rfl) ?_; intro a hF
        refine h_two 1 3 #[true, true, true, false, false, false] #[true, false, true, true, false, false] rfl rfl rfl rfl (by kernel_rfl) ?_ ?_
        · skip
          refine s_make (C := cd62) cdok62 hF hM rfl rfl rfl rfl Try.underlying37 c6.1 c6.2 ?_; intro a w v5 hF hM
          refine s_nil ⟨rfl, (hM.pick [] rfl rfl), ?_⟩
          refine h_val 4 #[true, true, true, false, true, false] rfl (by kernel_rfl) hF rfl rfl rfl (fun w hS => e_assign hF rfl) (hM.pick [] rfl rfl) ?_; intro a hF
          refine h_one 3 #[true, true, true, true, true, false] rfl (by kernel_rfl) ?_
          refine s_make (C := cd3) cdok3 hF hM rfl rfl rfl rfl Try.underlying25 c6.1 c6.2 ?_; intro a w v7 hF hM
          refine s_nil ⟨rfl, (hM.pick [] rfl rfl), ?_⟩
          refine h_val 5 #[true, true, true, true, true, true] rfl (by kernel_rfl) hF rfl rfl rfl (fun w hS => e_assign hF rfl) (hM.pick [] rfl rfl) ?_; intro a hF
          exact h_done rfl ⟨rfl, v5, v7, hF.sub _ ⟨rfl, rfl, rfl, rfl, trivial⟩, hM.pick [1, 0] rfl rfl⟩
        · skip
          refine s_make (C := cd3) cdok3 hF hM rfl rfl rfl rfl Try.underlying25 c6.1 c6.2 ?_; intro a w v7 hF hM
          refine s_nil ⟨rfl, (hM.pick [] rfl rfl), ?_⟩
          refine h_one 1 #[true, true, true, true, false, false] rfl (by kernel_rfl) ?_
          refine s_make (C := cd62) cdok62 hF hM rfl rfl rfl rfl Try.underlying37 c6.1 c6.2 ?_; intro a w v5 hF hM
          refine s_nil ⟨rfl, (hM.pick [] rfl rfl), ?_⟩
          refine h_val 4 #[true, true, true, true, true, false] rfl (by kernel_rfl) hF rfl rfl rfl (fun w hS => e_assign hF rfl) (hM.pick [] rfl rfl) ?_; intro a hF
          refine h_val 5 #[true, true, true, true, true, true] rfl (by kernel_rfl) hF rfl rfl rfl (fun w hS => e_assign hF rfl) (hM.pick [] rfl rfl) ?_; intro a hF
          exact h_done rfl ⟨rfl, v5, v7, hF.sub _ ⟨rfl, rfl, rfl, rfl, trivial⟩, hM.pick [0, 1] rfl rfl⟩
      rintro e a w ⟨rfl, v5, v7, hF, hM⟩
      refine then_n ?_
      refine wp_seq ?_
      refine wp_seq ?_
      refine s_region ?_
      refine s_val hF rfl rfl rfl (e_move hF rfl) ?_; intro a hF
      refine s_val hF rfl rfl rfl (e_len hF rfl (q0.frm hM.frm).toF Try.underlying25) ?_; intro a hF
      refine s_val hF rfl rfl rfl (e_move hF rfl) ?_; intro a hF
      refine s_nil ?_
      refine then_n ?_
      refine wp_block ?_
      obtain ⟨o44, h45, H⟩ := bind_some H
      refine wp_mono (Q := fun e a w => (e = Exit.exit 0 ∧ ∃ x29 : (List (Ar 6)), Sum.inl x29 = o44 ∧ Fr 62 a [(5, v5)] ∧ Ms [] w0 w [rowR cd62 v5 x29]) ∨ (e = Exit.ret ∧ ∃ v47 : Value, ∃ r46 : ((List (Ar 6)) × Bool), Sum.inr r46 = o44 ∧ Fr 62 a [(2, v47), (3, Value.bool r46.2)] ∧ Ms [] w0 w [rowR cd62 v47 r46.1])) ?_ ?_
      · refine s_loop (fun kq a w => ∃ x30 : Int, ∃ x31 : (List (Ar 6)), ∃ x32 : (List Int), impl_fromLetters.l0 K l0 kq x30 x31 x32 = some o44 ∧ Fr 62 a [(4, Value.int .i64 (wrap64 ((l0.length : Int).tdiv 6))), (5, v5), (6, v7), (25, u0), (26, Value.int .i64 (l0.length : Int)), (27, Value.int .i64 x30)] ∧ Ms [] w0 w [rowR cd62 v5 x31, rowR cd3 v7 x32]) K ⟨0, (List.replicate (wrap64 ((l0.length : Int).tdiv 6)).toNat (Ar.zero 6)), (List.replicate (wrap64 ((l0.length : Int).tdiv 6)).toNat (0 : Int)), h45, hF.sub _ ⟨rfl, rfl, rfl, rfl, rfl, rfl, trivial⟩, hM.pick [0, 1] rfl rfl⟩ ?_ ?_
        · rintro a w ⟨_, _, _, H, _⟩; exact none_some H
        · rintro k a w ⟨x30, x31, x32, H, hF, hM⟩; rw [impl_fromLetters.l0] at H
          refine wp_seq ?_
          refine s_region ?_
          refine s_val hF rfl rfl rfl (e_lss hF rfl rfl) ?_; intro a hF
          refine s_nil ?_
          refine then_n ?_
          refine wp_seq ?_
          rcases ite_cases H with ⟨c33, H⟩ | ⟨c33, H⟩
          ·
            refine s_cond_t hF rfl (decide_eq_true c33) ?_
            refine wp_skip ?_
            refine then_n ?_
            refine wp_seq ?_
            refine wp_block ?_
            refine wp_seq ?_
            obtain ⟨c34, H⟩ := ite_some H
            refine s_region ?_
            refine s_val hF rfl rfl rfl (e_move hF rfl) ?_; intro a hF
            refine s_val hF rfl rfl rfl (e_ias cd3 hF rfl rfl (q0.frm hM.frm).toF Try.underlying25 Try.sizeOf3 c34.1 c34.2) ?_; intro a hF
            refine s_val hF rfl rfl rfl (e_lds (m := x30) hF rfl (q0.frm hM.frm) (getD_some (z := (0 : Int)) c34.1 c34.2) rfl rfl Try.isAgg3) ?_; intro a hF
            refine s_val hF rfl rfl rfl (e_assign hF rfl) ?_; intro a hF
            refine s_val hF rfl rfl rfl (e_assign hF rfl) ?_; intro a hF
            refine s_nil ?_
            refine then_n ?_
            refine wp_seq ?_
            refine wp_seq ?_
            obtain ⟨t35, h36, H⟩ := bind_some H
            rcases ite_cases H with ⟨c37, H⟩ | ⟨c37, H⟩
            ·
              obtain ⟨c38, H⟩ := ite_some H
              refine s_region ?_
              refine s_val hF rfl rfl rfl (e_move hF rfl) ?_; intro a hF
              refine s_val hF rfl rfl rfl (e_move hF rfl) ?_; intro a hF
              refine s_val hF rfl rfl rfl (e_sub hF rfl rfl) ?_; intro a hF
              refine s_call hF rfl rfl rfl Try.call44 (impl_within.calls K (l0.getD (x30 : Int).toNat (0 : Int)) 0 (wrap64 ((wrap64 ((l0.length : Int).tdiv 6)) - 1)) t35 h36) ?_; intro a w v hF hf hR
              subst hR; have hM := hM.grow hf
              refine s_val hF rfl rfl rfl (e_not hF rfl) ?_; intro a hF
              refine s_val hF rfl rfl rfl (e_move hF rfl) ?_; intro a hF
              have hF := hF.topb (congrArg Bool.not c37)
              refine s_val hF rfl rfl rfl (e_move hF rfl) ?_; intro a hF
              refine s_val hF rfl rfl rfl (e_move hF rfl) ?_; intro a hF
              refine s_val hF rfl rfl rfl (e_ias cd3 hF rfl rfl (hM.sl 1 rfl).toF Try.underlying25 Try.sizeOf3 c38.1 c38.2) ?_; intro a hF
              refine s_val hF rfl rfl rfl (e_lds (m := (l0.getD (x30 : Int).toNat (0 : Int))) hF rfl (hM.sl 1 rfl) (getD_some (z := (0 : Int)) c38.1 c38.2) rfl rfl Try.isAgg3) ?_; intro a hF
              refine s_val hF rfl rfl rfl (e_eql hF rfl rfl) ?_; intro a hF
              refine s_val hF rfl rfl rfl (e_pick_f hF rfl rfl) ?_; intro a hF
              refine s_nil ?_
              refine then_n ?_
              rcases ite_cases H with ⟨c39, H⟩ | ⟨c39, H⟩
              ·
                refine s_cond_t hF rfl (decide_eq_true c39) ?_
                refine wp_seq ?_
                refine s_region ?_
                refine s_val hF rfl rfl rfl (e_assign hF rfl) ?_; intro a hF
                refine s_val hF rfl rfl rfl (e_assign hF rfl) ?_; intro a hF
                refine s_nil ?_
                refine then_n ?_
                refine wp_ret ?_
                refine then_r ?_
                refine blk_r ?_
                refine then_r ?_
                have hM := hM.nilRow cd62
                refine then_r ?_
                exact Or.inr (⟨rfl, (Value.slice none 0 0), ([], false), some_some H, hF.sub _ ⟨rfl, rfl, trivial⟩, hM.pick [0] rfl rfl⟩)
              ·
                refine s_cond_f hF rfl (decide_eq_false c39) ?_
                refine wp_skip ?_
                refine then_n ?_
                refine wp_seq ?_
                obtain ⟨c40, H⟩ := ite_some H
                obtain ⟨c41, H⟩ := ite_some H
                refine s_held (fun w => Ms [] w0 w [rowR cd3 v7 x32]) #[false, false, false, false, false, false, false, false, false, false, false] mixed rfl rfl hM ?_; intro w hf hM; clear hf
                refine h_val 0 #[true, false, false, false, false, false, false, false, false, false, false] rfl (by kernel_rfl) hF rfl rfl rfl (fun w hS => e_move hF rfl) (hM.pick [1] rfl rfl) ?_; intro a hF
                refine h_val 1 #[true, true, false, false, false, false, false, false, false, false, false] rfl (by kernel_rfl) hF rfl rfl rfl (fun w hS => e_move hF rfl) (hM.pick [1] rfl rfl) ?_; intro a hF
                refine h_val 2 #[true, true, true, false, false, false, false, false, false, false, false] rfl (by kernel_rfl) hF rfl rfl rfl (fun w hS => e_move hF rfl) (hM.pick [1] rfl rfl) ?_; intro a hF
                refine h_val 3 #[true, true, true, true, false, false, false, false, false, false, false] rfl (by kernel_rfl) hF rfl rfl rfl (fun w hS => e_move hF rfl) (hM.pick [1] rfl rfl) ?_; intro a hF
                have f42 := (hM.sl 1 rfl).toF
                refine h_val 4 #[true, true, true, true, true, false, false, false, false, false, false] rfl (by kernel_rfl) hF rfl rfl rfl (fun w hS => e_ias cd3 hF rfl rfl f42 Try.underlying25 Try.sizeOf3 c38.1 c38.2) (hM.pick [1] rfl rfl) ?_; intro a hF
                refine h_val 5 #[true, true, true, true, true, true, false, false, false, false, false] rfl (by kernel_rfl) hF rfl rfl rfl (fun w hS => e_lds (m := (l0.getD (x30 : Int).toNat (0 : Int))) hF rfl (hS.sl 0 rfl) (getD_some (z := (0 : Int)) c38.1 c38.2) rfl rfl Try.isAgg3) (hM.pick [1] rfl rfl) ?_; intro a hF
                refine h_val 6 #[true, true, true, true, true, true, true, false, false, false, false] rfl (by kernel_rfl) hF rfl rfl rfl (fun w hS => e_move hF rfl) (hM.pick [1] rfl rfl) ?_; intro a hF
                refine h_val 7 #[true, true, true, true, true, true, true, true, false, false, false] rfl (by kernel_rfl) hF rfl rfl rfl (fun w hS => e_add hF rfl rfl) (hM.pick [1] rfl rfl) ?_; intro a hF
                have f43 := (hM.sl 0 rfl).toF
                refine h_val 8 #[true, true, true, true, true, true, true, true, true, false, false] rfl (by kernel_rfl) hF rfl rfl rfl (fun w hS => e_ias cd62 hF rfl rfl f43 Try.underlying37 Try.sizeOf62 c40.1 c40.2) (hM.pick [1] rfl rfl) ?_; intro a hF
                refine h_val 9 #[true, true, true, true, true, true, true, true, true, true, false] rfl (by kernel_rfl) hF rfl rfl rfl (fun w hS => e_ia hF rfl rfl Try.underlying62 Try.sizeOf3 c41.1 c41.2) (hM.pick [1] rfl rfl) ?_; intro a hF
                refine h_one 10 #[true, true, true, true, true, true, true, true, true, true, true] rfl (by kernel_rfl) ?_
                refine s_stsi (i := 0) (k := 0) (o := 0) (m := (l0.getD (x30 : Int).toNat (0 : Int))) (m2 := (x32.getD ((l0.getD (x30 : Int).toNat (0 : Int)) : Int).toNat (0 : Int))) ((x31.getD ((l0.getD (x30 : Int).toNat (0 : Int)) : Int).toNat (Ar.zero 6)).set (x32.getD ((l0.getD (x30 : Int).toNat (0 : Int)) : Int).toNat (0 : Int)) (wrap64 (x30 + 1))) hF hM rfl rfl rfl rfl (getD_some (z := (Ar.zero 6)) c40.1 c40.2) rfl rfl rfl Try.sizeOf3 c41.1 c41.2 ?_; intro a w hF hM
                refine s_nil ⟨rfl, (hM.pick [1] rfl rfl), ?_⟩
                refine h_done rfl ?_
                refine then_n ?_
                refine s_region ?_
                refine s_val hF rfl rfl rfl (e_move hF rfl) ?_; intro a hF
                refine s_val hF rfl rfl rfl (e_move hF rfl) ?_; intro a hF
                refine s_val hF rfl rfl rfl (e_ias cd3 hF rfl rfl (hM.sl 1 rfl).toF Try.underlying25 Try.sizeOf3 c38.1 c38.2) ?_; intro a hF
                refine s_val hF rfl rfl rfl (e_lds (m := (l0.getD (x30 : Int).toNat (0 : Int))) hF rfl (hM.sl 1 rfl) (getD_some (z := (0 : Int)) c38.1 c38.2) rfl rfl Try.isAgg3) ?_; intro a hF
                refine s_val hF rfl rfl rfl (e_add hF rfl rfl) ?_; intro a hF
                refine s_val hF rfl rfl rfl (e_ias cd3 hF rfl rfl (hM.sl 1 rfl).toF Try.underlying25 Try.sizeOf3 c38.1 c38.2) ?_; intro a hF
                refine s_sts (i := 1) (wrap64 ((x32.getD ((l0.getD (x30 : Int).toNat (0 : Int)) : Int).toNat (0 : Int)) + 1)) hF hM rfl rfl rfl rfl rfl c38.1 c38.2 Try.sizeOf3 ?_; intro a w hF hM
                refine s_nil ?_
                refine blk_n ?_
                refine then_n ?_
                refine s_region ?_
                refine s_val hF rfl rfl rfl (e_add hF rfl rfl) ?_; intro a hF
                refine s_val hF rfl rfl rfl (e_move hF rfl) ?_; intro a hF
                refine s_nil ?_
                refine then_n ?_
                exact ⟨(wrap64 (x30 + 1)), (x31.set ((l0.getD (x30 : Int).toNat (0 : Int)) : Int).toNat ((x31.getD ((l0.getD (x30 : Int).toNat (0 : Int)) : Int).toNat (Ar.zero 6)).set (x32.getD ((l0.getD (x30 : Int).toNat (0 : Int)) : Int).toNat (0 : Int)) (wrap64 (x30 + 1)))), (x32.set ((l0.getD (x30 : Int).toNat (0 : Int)) : Int).toNat (wrap64 ((x32.getD ((l0.getD (x30 : Int).toNat (0 : Int)) : Int).toNat (0 : Int)) + 1))), H, hF.sub _ ⟨rfl, rfl, rfl, rfl, rfl, rfl, trivial⟩, hM.pick [0, 1] rfl rfl⟩
            ·
              refine s_region ?_
              refine s_val hF rfl rfl rfl (e_move hF rfl) ?_; intro a hF
              refine s_val hF rfl rfl rfl (e_move hF rfl) ?_; intro a hF
              refine s_val hF rfl rfl rfl (e_sub hF rfl rfl) ?_; intro a hF
              refine s_call hF rfl rfl rfl Try.call44 (impl_within.calls K (l0.getD (x30 : Int).toNat (0 : Int)) 0 (wrap64 ((wrap64 ((l0.length : Int).tdiv 6)) - 1)) t35 h36) ?_; intro a w v hF hf hR
              subst hR; have hM := hM.grow hf
              refine s_val hF rfl rfl rfl (e_not hF rfl) ?_; intro a hF
              refine s_val hF rfl rfl rfl (e_move hF rfl) ?_; intro a hF
              have hF := hF.topb (congrArg Bool.not (bf c37))
              refine s_skip hF rfl rfl rfl ?_; intro a hF
              refine s_skip hF rfl rfl rfl ?_; intro a hF
              refine s_skip hF rfl rfl rfl ?_; intro a hF
              refine s_skip hF rfl rfl rfl ?_; intro a hF
              refine s_skip hF rfl rfl rfl ?_; intro a hF
              refine s_val hF rfl rfl rfl (e_pick_t hF rfl rfl) ?_; intro a hF
              refine s_nil ?_
              refine then_n ?_
              refine s_cond_t hF rfl rfl ?_
              refine wp_seq ?_
              refine s_region ?_
              refine s_val hF rfl rfl rfl (e_assign hF rfl) ?_; intro a hF
              refine s_val hF rfl rfl rfl (e_assign hF rfl) ?_; intro a hF
              refine s_nil ?_
              refine then_n ?_
              refine wp_ret ?_
              refine then_r ?_
              refine blk_r ?_
              refine then_r ?_
              have hM := hM.nilRow cd62
              refine then_r ?_
              exact Or.inr (⟨rfl, (Value.slice none 0 0), ([], false), some_some H, hF.sub _ ⟨rfl, rfl, trivial⟩, hM.pick [0] rfl rfl⟩)
          ·
            refine s_cond_f hF rfl (decide_eq_false c33) ?_
            refine wp_exit ?_
            refine then_x ?_
            refine then_x ?_
            exact Or.inl (⟨rfl, x31, some_some H, hF.sub _ ⟨rfl, trivial⟩, hM.pick [0] rfl rfl⟩)
      · rintro e a w (⟨rfl, x29, rfl, hF, hM⟩ | ⟨rfl, v47, r46, rfl, hF, hM⟩)
        ·
          dsimp only at H
          refine blk_x ?_
          refine then_n ?_
          refine wp_seq ?_
          refine s_region ?_
          refine s_val hF rfl rfl rfl (e_move hF rfl) ?_; intro a hF
          refine s_val hF rfl rfl rfl (e_assign hF rfl) ?_; intro a hF
          refine s_val hF rfl rfl rfl (e_assign hF rfl) ?_; intro a hF
          refine s_nil ?_
          refine then_n ?_
          refine wp_ret ?_
          obtain rfl := some_some H
          refine s_ret [v5, Value.bool true] hF Try.results48 ⟨rfl, rfl, trivial⟩ ?_
          exact ⟨_, rfl, hM.frm, ⟨v5, rfl, hM.give 0 rfl⟩⟩
        ·
          dsimp only at H
          refine blk_r ?_
          refine then_r ?_
          obtain rfl := some_some H
          refine s_ret [v47, Value.bool r46.2] hF Try.results48 ⟨rfl, rfl, trivial⟩ ?_
          exact ⟨_, rfl, hM.frm, ⟨v47, rfl, hM.give 0 rfl⟩⟩
    ·
      refine s_cond_t hF rfl (congrArg Bool.not (bf c4)) ?_
      refine wp_seq ?_
      refine s_region ?_
      refine s_val hF rfl rfl rfl (e_assign hF rfl) ?_; intro a hF
      refine s_val hF rfl rfl rfl (e_assign hF rfl) ?_; intro a hF
      refine s_nil ?_
      refine then_n ?_
      refine wp_ret ?_
      refine then_r ?_
      obtain rfl := some_some H
      refine s_ret [(Value.slice none 0 0), Value.bool false] hF Try.results48 ⟨rfl, rfl, trivial⟩ ?_
      exact ⟨_, rfl, hM.frm, ⟨(Value.slice none 0 0), rfl, Fresh.nil _ _ _⟩⟩
  ·
    refine s_region ?_
    refine s_val hF rfl rfl rfl (e_move hF rfl) ?_; intro a hF
    refine s_val hF rfl rfl rfl (e_len hF rfl (q0.frm hM.frm).toF Try.underlying25) ?_; intro a hF
    refine s_val hF rfl rfl rfl (e_rem hF rfl rfl (by decide)) ?_; intro a hF
    refine s_val hF rfl rfl rfl (e_neq hF rfl rfl) ?_; intro a hF
    refine s_val hF rfl rfl rfl (e_move hF rfl) ?_; intro a hF
    have hF := hF.topb (congrArg Bool.not (decide_eq_false c1))
    refine s_skip hF rfl rfl rfl ?_; intro a hF
    refine s_skip hF rfl rfl rfl ?_; intro a hF
    refine s_skip hF rfl rfl rfl ?_; intro a hF
    refine s_val hF rfl rfl rfl (e_pick_t hF rfl rfl) ?_; intro a hF
    refine s_nil ?_
    refine then_n ?_
    refine s_cond_t hF rfl rfl ?_
    refine wp_seq ?_
    refine s_region ?_
    refine s_val hF rfl rfl rfl (e_assign hF rfl) ?_; intro a hF
    refine s_val hF rfl rfl rfl (e_assign hF rfl) ?_; intro a hF
    refine s_nil ?_
    refine then_n ?_
    refine wp_ret ?_
    refine then_r ?_
    obtain rfl := some_some H
    refine s_ret [(Value.slice none 0 0), Value.bool false] hF Try.results48 ⟨rfl, rfl, trivial⟩ ?_
    exact ⟨_, rfl, hM.frm, ⟨(Value.slice none 0 0), rfl, Fresh.nil _ _ _⟩⟩

/-! ### slices.Index[[]int,int]: function 88 -/
def slices_Index_int_int.l0 (K : Nat) (l0 : (List Int)) (a1 : Int) : Nat → Int → Option (Sum Unit Int)
  | 0, _ => none
  | k + 1, x8 => if x8 < (l0.length : Int) then (if (0 : Int) ≤ x8 ∧ x8 < (l0.length : Int) then (if a1 = (l0.getD (x8 : Int).toNat (0 : Int)) then (some (Sum.inr x8)) else (slices_Index_int_int.l0 K l0 a1 k (wrap64 (x8 + 1)))) else none) else (some (Sum.inl ()))
def slices_Index_int_int.f (K : Nat) (l0 : (List Int)) (a1 : Int) : Option Int := (slices_Index_int_int.l0 K l0 a1 K 0).bind fun o12 => (match o12 with | .inl () => some (-1) | .inr r14 => some r14)
set_option maxRecDepth 100000 in
set_option maxHeartbeats 4000000 in
theorem slices_Index_int_int.calls {w0 : World} (K : Nat) (l0 : (List Int)) (u0 : Value) (q0 : SlR cd3 w0 u0 l0) (a1 : Int) (r : Int) (H : slices_Index_int_int.f K l0 a1 = some r) : Calls Try.prog 88 [u0, Value.int .i64 a1].toArray w0 (Post w0 fun w v => v = Value.int .i64 r) := by
  rw [slices_Index_int_int.f] at H
  refine s_start Try.func88 rfl Try.ntmps88 rfl ?_
  intro a hF
  have hM := Ms.start w0
  skip
  refine wp_seq ?_
  refine s_region ?_
  refine s_val hF rfl rfl rfl (e_assign hF rfl) ?_; intro a hF
  refine s_nil ?_
  refine then_n ?_
  refine wp_seq ?_
  refine wp_seq ?_
  refine s_region ?_
  refine s_val hF rfl rfl rfl (e_move hF rfl) ?_; intro a hF
  refine s_val hF rfl rfl rfl (e_len hF rfl (q0.frm hM.frm).toF Try.underlying25) ?_; intro a hF
  refine s_val hF rfl rfl rfl (e_move hF rfl) ?_; intro a hF
  refine s_nil ?_
  refine then_n ?_
  refine wp_block ?_
  obtain ⟨o12, h13, H⟩ := bind_some H
  refine wp_mono (Q := fun e a w => (e = Exit.exit 0 ∧ Sum.inl () = o12 ∧ Fr 19 a [] ∧ Ms [] w0 w []) ∨ (e = Exit.ret ∧ ∃ r14 : Int, Sum.inr r14 = o12 ∧ Fr 19 a [(4, Value.int .i64 r14)] ∧ Ms [] w0 w [])) ?_ ?_
  · refine s_loop (fun kq a w => ∃ x8 : Int, slices_Index_int_int.l0 K l0 a1 kq x8 = some o12 ∧ Fr 19 a [(0, u0), (1, Value.int .i64 a1), (7, Value.int .i64 (l0.length : Int)), (8, Value.int .i64 x8)] ∧ Ms [] w0 w []) K ⟨0, h13, hF.sub _ ⟨rfl, rfl, rfl, rfl, trivial⟩, hM.pick [] rfl rfl⟩ ?_ ?_
    · rintro a w ⟨_, H, _⟩; exact none_some H
    · rintro k a w ⟨x8, H, hF, hM⟩; rw [slices_Index_int_int.l0] at H
      refine wp_seq ?_
      refine s_region ?_
      refine s_val hF rfl rfl rfl (e_lss hF rfl rfl) ?_; intro a hF
      refine s_nil ?_
      refine then_n ?_
      refine wp_seq ?_
      rcases ite_cases H with ⟨c9, H⟩ | ⟨c9, H⟩
      ·
        refine s_cond_t hF rfl (decide_eq_true c9) ?_
        refine wp_skip ?_
        refine then_n ?_
        refine wp_seq ?_
        refine wp_block ?_
        refine wp_seq ?_
        refine s_region ?_
        refine s_val hF rfl rfl rfl (e_move hF rfl) ?_; intro a hF
        refine s_val hF rfl rfl rfl (e_assign hF rfl) ?_; intro a hF
        refine s_nil ?_
        refine then_n ?_
        refine wp_seq ?_
        obtain ⟨c10, H⟩ := ite_some H
        refine s_region ?_
        refine s_val hF rfl rfl rfl (e_move hF rfl) ?_; intro a hF
        refine s_val hF rfl rfl rfl (e_move hF rfl) ?_; intro a hF
        refine s_val hF rfl rfl rfl (e_move hF rfl) ?_; intro a hF
        refine s_val hF rfl rfl rfl (e_ias cd3 hF rfl rfl (q0.frm hM.frm).toF Try.underlying25 Try.sizeOf3 c10.1 c10.2) ?_; intro a hF
        refine s_val hF rfl rfl rfl (e_lds (m := x8) hF rfl (q0.frm hM.frm) (getD_some (z := (0 : Int)) c10.1 c10.2) rfl rfl Try.isAgg3) ?_; intro a hF
        refine s_val hF rfl rfl rfl (e_eql hF rfl rfl) ?_; intro a hF
        refine s_nil ?_
        refine then_n ?_
        rcases ite_cases H with ⟨c11, H⟩ | ⟨c11, H⟩
        ·
          refine s_cond_t hF rfl (decide_eq_true c11) ?_
          refine wp_seq ?_
          refine s_region ?_
          refine s_val hF rfl rfl rfl (e_move hF rfl) ?_; intro a hF
          refine s_val hF rfl rfl rfl (e_assign hF rfl) ?_; intro a hF
          refine s_nil ?_
          refine then_n ?_
          refine wp_ret ?_
          refine blk_r ?_
          refine then_r ?_
          refine then_r ?_
          exact Or.inr (⟨rfl, x8, some_some H, hF.sub _ ⟨rfl, trivial⟩, hM.pick [] rfl rfl⟩)
        ·
          refine s_cond_f hF rfl (decide_eq_false c11) ?_
          refine wp_skip ?_
          refine blk_n ?_
          refine then_n ?_
          refine s_region ?_
          refine s_val hF rfl rfl rfl (e_add hF rfl rfl) ?_; intro a hF
          refine s_val hF rfl rfl rfl (e_move hF rfl) ?_; intro a hF
          refine s_nil ?_
          refine then_n ?_
          exact ⟨(wrap64 (x8 + 1)), H, hF.sub _ ⟨rfl, rfl, rfl, rfl, trivial⟩, hM.pick [] rfl rfl⟩
      ·
        refine s_cond_f hF rfl (decide_eq_false c9) ?_
        refine wp_exit ?_
        refine then_x ?_
        refine then_x ?_
        exact Or.inl (⟨rfl, some_some H, hF.sub _ trivial, hM.pick [] rfl rfl⟩)
  · rintro e a w (⟨rfl, rfl, hF, hM⟩ | ⟨rfl, r14, rfl, hF, hM⟩)
    ·
      dsimp only at H
      refine blk_x ?_
      refine then_n ?_
      refine wp_seq ?_
      refine s_region ?_
      refine s_val hF rfl rfl rfl (e_assign hF rfl) ?_; intro a hF
      refine s_nil ?_
      refine then_n ?_
      refine wp_ret ?_
      obtain rfl := some_some H
      refine s_ret [Value.int .i64 (-1)] hF Try.results88 ⟨rfl, trivial⟩ ?_
      exact ⟨_, rfl, hM.frm, rfl⟩
    ·
      dsimp only at H
      refine blk_r ?_
      refine then_r ?_
      obtain rfl := some_some H
      refine s_ret [Value.int .i64 r14] hF Try.results88 ⟨rfl, trivial⟩ ?_
      exact ⟨_, rfl, hM.frm, rfl⟩

/-! ### slices.Contains[[]int,int]: function 75 -/
def slices_Contains_int_int.f (K : Nat) (l0 : (List Int)) (a1 : Int) : Option Bool := (slices_Index_int_int.f K l0 a1).bind fun t1 => some (decide (0 ≤ t1))
set_option maxRecDepth 100000 in
set_option maxHeartbeats 4000000 in
theorem slices_Contains_int_int.calls {w0 : World} (K : Nat) (l0 : (List Int)) (u0 : Value) (q0 : SlR cd3 w0 u0 l0) (a1 : Int) (r : Bool) (H : slices_Contains_int_int.f K l0 a1 = some r) : Calls Try.prog 75 [u0, Value.int .i64 a1].toArray w0 (Post w0 fun w v => v = Value.bool r) := by
  rw [slices_Contains_int_int.f] at H
  refine s_start Try.func75 rfl Try.ntmps75 rfl ?_
  intro a hF
  have hM := Ms.start w0
  skip
  refine wp_seq ?_
  refine s_region ?_
  refine s_val hF rfl rfl rfl (e_assign hF rfl) ?_; intro a hF
  refine s_nil ?_
  refine then_n ?_
  refine wp_seq ?_
  obtain ⟨t1, h2, H⟩ := bind_some H
  refine s_region ?_
  refine s_val hF rfl rfl rfl (e_move hF rfl) ?_; intro a hF
  refine s_val hF rfl rfl rfl (e_move hF rfl) ?_; intro a hF
  refine s_call hF rfl rfl rfl Try.call88 (slices_Index_int_int.calls K l0 u0 (q0.frm hM.frm) a1 t1 h2) ?_; intro a w v hF hf hR
  subst hR; have hM := hM.grow hf
  refine s_val hF rfl rfl rfl (e_geq hF rfl rfl) ?_; intro a hF
  refine s_val hF rfl rfl rfl (e_assign hF rfl) ?_; intro a hF
  refine s_nil ?_
  refine then_n ?_
  refine wp_ret ?_
  obtain rfl := some_some H
  refine s_ret [Value.bool (decide (0 ≤ t1))] hF Try.results75 ⟨rfl, trivial⟩ ?_
  exact ⟨_, rfl, hM.frm, rfl⟩

/-! ### loop.example/g01210/impl.orders$1: function 74 -/
def impl_orders_1__orders_11.l0 (K : Nat) (a0 : Int) (y2 : Int) (rec : (Int → Int → (List (Ar 4)) → (Ar 4) → Option (Unit × ((List (Ar 4)) × (Ar 4))))) : Nat → Int → (Ar 4) → (List (Ar 4)) → Option ((Ar 4) × (List (Ar 4)))
  | 0, _, _, _ => none
  | k + 1, x38, x39, x41 => if x38 < y2 then (if (0 : Int) ≤ 0 ∧ (0 : Int) ≤ a0 ∧ a0 ≤ 4 then ((slices_Contains_int_int.f K ((x39.l.take (a0 : Int).toNat).drop 0) x38).bind fun t44 => if t44 = true then (impl_orders_1__orders_11.l0 K a0 y2 rec k (wrap64 (x38 + 1)) x39 x41) else (if (0 : Int) ≤ a0 ∧ a0 < 4 then ((rec (wrap64 (a0 + 1)) y2 x41 (x39.set a0 x38)).bind fun t48 => impl_orders_1__orders_11.l0 K a0 y2 rec k (wrap64 (x38 + 1)) t48.2.2 t48.2.1) else none)) else none) else (some (x39, x41))
def impl_orders_1__orders_11.g (K : Nat) (rec : (Int → Int → (List (Ar 4)) → (Ar 4) → Option (Unit × ((List (Ar 4)) × (Ar 4))))) (a0 : Int) (y2 : Int) (y5 : (List (Ar 4))) (y7 : (Ar 4)) : Option (Unit × ((List (Ar 4)) × (Ar 4))) := if a0 = y2 then (if y5.length + [y7].length ≤ 1073741824 then (some ((), ((y5 ++ [y7]), y7))) else none) else ((impl_orders_1__orders_11.l0 K a0 y2 rec K 0 y7 y5).bind fun (x35, x37) => if (0 : Int) ≤ a0 ∧ a0 < 4 then (some ((), (x37, (x35.set a0 (-1))))) else none)
def impl_orders_1__orders_11.r (K : Nat) : Nat → Int → Int → (List (Ar 4)) → (Ar 4) → Option (Unit × ((List (Ar 4)) × (Ar 4)))
  | 0 => fun _ _ _ _ => none
  | k + 1 => fun a0 y2 y5 y7 => impl_orders_1__orders_11.g K (impl_orders_1__orders_11.r K k) a0 y2 y5 y7
def impl_orders_1__orders_11.f (K : Nat) (a0 : Int) (y2 : Int) (y5 : (List (Ar 4))) (y7 : (Ar 4)) : Option (Unit × ((List (Ar 4)) × (Ar 4))) := impl_orders_1__orders_11.r K K a0 y2 y5 y7
set_option maxRecDepth 100000 in
set_option maxHeartbeats 4000000 in
theorem impl_orders_1__orders_11.step (K : Nat) (rec : (Int → Int → (List (Ar 4)) → (Ar 4) → Option (Unit × ((List (Ar 4)) × (Ar 4))))) (hrec : ∀ {w0 : World} {X : List Nat} (a0 : Int) (b1 : Nat) (y2 : Int)  (b3 : Nat)  (v4 : Value) (y5 : (List (Ar 4))) (b6 : Nat) (y7 : (Ar 4))  (b8 : Nat)  (qM : Ms X w0 w0 [boxR b1 [Pt.int y2] 3, boxR b3 [Pt.any v4] 32, rowR cd48 v4 y5, boxR b6 [Pt.ar y7] 48, boxR b8 [Pt.val (Value.func (.func 74) #[] #[pt b1 0, pt b3 0, pt b6 0, pt b8 0]) rfl] 74]) (r : (Unit × ((List (Ar 4)) × (Ar 4)))) (H : rec a0 y2 y5 y7 = some r), Calls Try.prog 74 [Value.int .i64 a0, pt b1 0, pt b3 0, pt b6 0, pt b8 0].toArray w0 (fun e w => ∃ v, e = .returned v ∧ ∃ v54 : Value, Ms X w0 w [boxR b1 [Pt.int y2] 3, boxR b3 [Pt.any v54] 32, rowR cd48 v54 r.2.1, boxR b6 [Pt.ar r.2.2] 48, boxR b8 [Pt.val (Value.func (.func 74) #[] #[pt b1 0, pt b3 0, pt b6 0, pt b8 0]) rfl] 74] ∧ Value.tuple #[] = v)) {w0 : World} {X : List Nat} (a0 : Int) (b1 : Nat) (y2 : Int)  (b3 : Nat)  (v4 : Value) (y5 : (List (Ar 4))) (b6 : Nat) (y7 : (Ar 4))  (b8 : Nat)  (qM : Ms X w0 w0 [boxR b1 [Pt.int y2] 3, boxR b3 [Pt.any v4] 32, rowR cd48 v4 y5, boxR b6 [Pt.ar y7] 48, boxR b8 [Pt.val (Value.func (.func 74) #[] #[pt b1 0, pt b3 0, pt b6 0, pt b8 0]) rfl] 74]) (r : (Unit × ((List (Ar 4)) × (Ar 4)))) (H : impl_orders_1__orders_11.g K rec a0 y2 y5 y7 = some r) : Calls Try.prog 74 [Value.int .i64 a0, pt b1 0, pt b3 0, pt b6 0, pt b8 0].toArray w0 (fun e w => ∃ v, e = .returned v ∧ ∃ v54 : Value, Ms X w0 w [boxR b1 [Pt.int y2] 3, boxR b3 [Pt.any v54] 32, rowR cd48 v54 r.2.1, boxR b6 [Pt.ar r.2.2] 48, boxR b8 [Pt.val (Value.func (.func 74) #[] #[pt b1 0, pt b3 0, pt b6 0, pt b8 0]) rfl] 74] ∧ Value.tuple #[] = v) := by
  rw [impl_orders_1__orders_11.g] at H
  refine s_start Try.func74 rfl Try.ntmps74 rfl ?_
  intro a hF
  have hM := qM
  refine wp_seq ?_
  refine wp_seq ?_
  refine s_region ?_
  refine s_val hF rfl rfl rfl (e_move hF rfl) ?_; intro a hF
  refine s_val hF rfl rfl rfl (e_ld (i := 0) (k := 0) hF hM rfl rfl rfl rfl Try.isAgg3 rfl) ?_; intro a hF
  refine s_val hF rfl rfl rfl (e_eql hF rfl rfl) ?_; intro a hF
  refine s_nil ?_
  refine then_n ?_
  rcases ite_cases H with ⟨c9, H⟩ | ⟨c9, H⟩
  ·
    refine s_cond_t hF rfl (decide_eq_true c9) ?_
    refine wp_seq ?_
    obtain ⟨c12, H⟩ := ite_some H
    refine s_region ?_
    refine s_val hF rfl rfl rfl (e_ld (i := 1) (k := 0) hF hM rfl rfl rfl rfl Try.isAgg32 (any_cs (hM.sl 2 rfl).toF.one)) ?_; intro a hF
    refine s_val hF rfl rfl rfl (e_lda (i := 3) 0 1 hF hM rfl rfl rfl rfl Try.isAgg48 Try.sizeOf48 rfl) ?_; intro a hF
    refine s_bsl (C := cd48) [y7] cdok48 hF hM rfl rfl rfl rfl Try.underlying32 rfl ?_; intro a w v10 hF hM
    refine s_append (i := 3) cdok48 hF hM rfl rfl rfl rfl rfl (hM.sl 0 rfl) Try.underlying32 c12 ?_; intro a w v11 hF hM
    refine s_st (i := 2) (k := 0) (Pt.any v11) hF hM rfl rfl rfl (any_cells (hM.sl 3 rfl).toF.one) rfl rfl rfl rfl Try.sizeOf32 rfl ?_; intro a w hF hM
    refine s_nil ?_
    refine then_n ?_
    refine wp_ret ?_
    refine then_r ?_
    obtain rfl := some_some H
    refine s_ret [] hF Try.results74 trivial ?_
    exact ⟨_, rfl, v11, hM.pick [1, 2, 3, 4, 5] rfl rfl, rfl⟩
  ·
    refine s_cond_f hF rfl (decide_eq_false c9) ?_
    refine wp_skip ?_
    refine then_n ?_
    refine wp_seq ?_
    refine wp_seq ?_
    refine s_region ?_
    refine s_val hF rfl rfl rfl (e_ld (i := 0) (k := 0) hF hM rfl rfl rfl rfl Try.isAgg3 rfl) ?_; intro a hF
    refine s_val hF rfl rfl rfl (e_move hF rfl) ?_; intro a hF
    refine s_nil ?_
    refine then_n ?_
    refine wp_block ?_
    obtain ⟨o51, h52, H⟩ := bind_some H
    refine wp_mono (Q := fun e a w => (e = Exit.exit 0 ∧ ∃ v36 : Value, ∃ x35 : (Ar 4), ∃ x37 : (List (Ar 4)), (x35, x37) = o51 ∧ Fr 36 a [(0, Value.int .i64 a0), (3, pt b6 0)] ∧ Ms X w0 w [boxR b6 [Pt.ar x35] 48, boxR b1 [Pt.int y2] 3, boxR b3 [Pt.any v36] 32, rowR cd48 v36 x37, boxR b8 [Pt.val (Value.func (.func 74) #[] #[pt b1 0, pt b3 0, pt b6 0, pt b8 0]) rfl] 74])) ?_ ?_
    · refine s_loop (fun kq a w => ∃ v40 : Value, ∃ x38 : Int, ∃ x39 : (Ar 4), ∃ x41 : (List (Ar 4)), impl_orders_1__orders_11.l0 K a0 y2 rec kq x38 x39 x41 = some o51 ∧ Fr 36 a [(0, Value.int .i64 a0), (3, pt b6 0), (4, pt b8 0), (14, Value.int .i64 y2), (15, Value.int .i64 x38)] ∧ Ms X w0 w [boxR b6 [Pt.ar x39] 48, boxR b8 [Pt.val (Value.func (.func 74) #[] #[pt b1 0, pt b3 0, pt b6 0, pt b8 0]) rfl] 74, boxR b1 [Pt.int y2] 3, boxR b3 [Pt.any v40] 32, rowR cd48 v40 x41]) K ⟨v4, 0, y7, y5, h52, hF.sub _ ⟨rfl, rfl, rfl, rfl, rfl, trivial⟩, hM.pick [3, 4, 0, 1, 2] rfl rfl⟩ ?_ ?_
      · rintro a w ⟨_, _, _, _, H, _⟩; exact none_some H
      · rintro k a w ⟨v40, x38, x39, x41, H, hF, hM⟩; rw [impl_orders_1__orders_11.l0] at H
        refine wp_seq ?_
        refine s_region ?_
        refine s_val hF rfl rfl rfl (e_lss hF rfl rfl) ?_; intro a hF
        refine s_nil ?_
        refine then_n ?_
        refine wp_seq ?_
        rcases ite_cases H with ⟨c42, H⟩ | ⟨c42, H⟩
        ·
          refine s_cond_t hF rfl (decide_eq_true c42) ?_
          refine wp_skip ?_
          refine then_n ?_
          refine wp_seq ?_
          refine wp_block ?_
          refine wp_seq ?_
          refine s_region ?_
          refine s_val hF rfl rfl rfl (e_move hF rfl) ?_; intro a hF
          refine s_val hF rfl rfl rfl (e_assign hF rfl) ?_; intro a hF
          refine s_nil ?_
          refine then_n ?_
          refine wp_seq ?_
          obtain ⟨c43, H⟩ := ite_some H
          obtain ⟨t44, h45, H⟩ := bind_some H
          refine s_region ?_
          refine s_val hF rfl rfl rfl (e_fa hF rfl Try.underlying48 rfl Try.sizeOf46 rfl rfl) ?_; intro a hF
          refine s_val hF rfl rfl rfl (e_move hF rfl) ?_; intro a hF
          refine s_val hF rfl rfl rfl (e_slA_h hF rfl rfl Try.underlying46 Try.sizeOf3 c43) ?_; intro a hF
          refine s_val hF rfl rfl rfl (e_move hF rfl) ?_; intro a hF
          refine s_call hF rfl rfl rfl Try.call75 (slices_Contains_int_int.calls K ((x39.l.take (a0 : Int).toNat).drop 0) (subv (Value.slice (some ⟨b6, 0, none⟩) 4 4) 0 (a0 : Int).toNat 1) ((hM.boxSl (k := 0) (m := 4) 0 rfl rfl rfl cd3 (fun _ => rfl) 4 (by decide)).sub 0 (a0 : Int).toNat (sl_0_i' c43).1 (Nat.le_trans (sl_0_i' c43).2 (Nat.le_of_eq (Ar.h _).symm))) x38 t44 h45) ?_; intro a w v hF hf hR
          subst hR; have hM := hM.grow hf
          refine s_val hF rfl rfl rfl (e_not hF rfl) ?_; intro a hF
          refine s_nil ?_
          refine then_n ?_
          rcases ite_cases H with ⟨c46, H⟩ | ⟨c46, H⟩
          ·
            refine s_cond_f hF rfl (congrArg Bool.not c46) ?_
            refine wp_skip ?_
            refine blk_n ?_
            refine then_n ?_
            refine s_region ?_
            refine s_val hF rfl rfl rfl (e_add hF rfl rfl) ?_; intro a hF
            refine s_val hF rfl rfl rfl (e_move hF rfl) ?_; intro a hF
            refine s_nil ?_
            refine then_n ?_
            exact ⟨v40, (wrap64 (x38 + 1)), x39, x41, H, hF.sub _ ⟨rfl, rfl, rfl, rfl, rfl, trivial⟩, hM.pick [0, 1, 2, 3, 4] rfl rfl⟩
          ·
            refine s_cond_t hF rfl (congrArg Bool.not (bf c46)) ?_
            refine wp_seq ?_
            obtain ⟨c47, H⟩ := ite_some H
            refine s_region ?_
            refine s_val hF rfl rfl rfl (e_move hF rfl) ?_; intro a hF
            refine s_val hF rfl rfl rfl (e_move hF rfl) ?_; intro a hF
            refine s_val hF rfl rfl rfl (e_fa hF rfl Try.underlying48 rfl Try.sizeOf46 rfl rfl) ?_; intro a hF
            refine s_val hF rfl rfl rfl (e_ia hF rfl rfl Try.underlying46 Try.sizeOf3 c47.1 c47.2) ?_; intro a hF
            refine s_sti (i := 0) (k := 0) hF hM rfl rfl rfl rfl rfl rfl rfl Try.sizeOf3 c47.1 c47.2 ?_; intro a w hF hM
            refine s_nil ?_
            refine then_n ?_
            obtain ⟨t48, h49, H⟩ := bind_some H
            refine s_region ?_
            refine s_val hF rfl rfl rfl (e_ld (i := 1) (k := 0) hF hM rfl rfl rfl rfl Try.isAgg74 rfl) ?_; intro a hF
            refine s_val hF rfl rfl rfl (e_move hF rfl) ?_; intro a hF
            refine s_val hF rfl rfl rfl (e_add hF rfl rfl) ?_; intro a hF
            refine s_callv hF rfl rfl rfl rfl (callsV_of Try.call74 (hrec (wrap64 (a0 + 1)) b1 y2 b3 v40 x41 b6 (x39.set a0 x38) b8 (hM.lend [2, 3, 4, 0, 1] rfl rfl) t48 h49)) ?_; intro a w v hF hR
            obtain ⟨v50, hR, rfl⟩ := hR; have hM := hM.back [2, 3, 4, 0, 1] [] (by decide) rfl rfl hR
            refine s_nil ?_
            refine blk_n ?_
            refine then_n ?_
            refine s_region ?_
            refine s_val hF rfl rfl rfl (e_add hF rfl rfl) ?_; intro a hF
            refine s_val hF rfl rfl rfl (e_move hF rfl) ?_; intro a hF
            refine s_nil ?_
            refine then_n ?_
            exact ⟨v50, (wrap64 (x38 + 1)), t48.2.2, t48.2.1, H, hF.sub _ ⟨rfl, rfl, rfl, rfl, rfl, trivial⟩, hM.pick [3, 4, 0, 1, 2] rfl rfl⟩
        ·
          refine s_cond_f hF rfl (decide_eq_false c42) ?_
          refine wp_exit ?_
          refine then_x ?_
          refine then_x ?_
          exact ⟨rfl, v40, x39, x41, some_some H, hF.sub _ ⟨rfl, rfl, trivial⟩, hM.pick [0, 2, 3, 4, 1] rfl rfl⟩
    · rintro e a w ⟨rfl, v36, x35, x37, rfl, hF, hM⟩
      skip
      refine blk_x ?_
      refine then_n ?_
      obtain ⟨c53, H⟩ := ite_some H
      refine s_region ?_
      refine s_val hF rfl rfl rfl (e_move hF rfl) ?_; intro a hF
      refine s_val hF rfl rfl rfl (e_fa hF rfl Try.underlying48 rfl Try.sizeOf46 rfl rfl) ?_; intro a hF
      refine s_val hF rfl rfl rfl (e_ia hF rfl rfl Try.underlying46 Try.sizeOf3 c53.1 c53.2) ?_; intro a hF
      refine s_sti (i := 0) (k := 0) hF hM rfl rfl rfl rfl rfl rfl rfl Try.sizeOf3 c53.1 c53.2 ?_; intro a w hF hM
      refine s_nil ?_
      obtain rfl := some_some H
      refine s_retn [] hF Try.results74 trivial ?_
      exact ⟨_, rfl, v36, hM.pick [1, 2, 3, 0, 4] rfl rfl, rfl⟩
theorem impl_orders_1__orders_11.rcalls (K : Nat) : ∀ (k : Nat) {w0 : World} {X : List Nat} (a0 : Int) (b1 : Nat) (y2 : Int)  (b3 : Nat)  (v4 : Value) (y5 : (List (Ar 4))) (b6 : Nat) (y7 : (Ar 4))  (b8 : Nat)  (qM : Ms X w0 w0 [boxR b1 [Pt.int y2] 3, boxR b3 [Pt.any v4] 32, rowR cd48 v4 y5, boxR b6 [Pt.ar y7] 48, boxR b8 [Pt.val (Value.func (.func 74) #[] #[pt b1 0, pt b3 0, pt b6 0, pt b8 0]) rfl] 74]) (r : (Unit × ((List (Ar 4)) × (Ar 4)))) (H : impl_orders_1__orders_11.r K k a0 y2 y5 y7 = some r), Calls Try.prog 74 [Value.int .i64 a0, pt b1 0, pt b3 0, pt b6 0, pt b8 0].toArray w0 (fun e w => ∃ v, e = .returned v ∧ ∃ v54 : Value, Ms X w0 w [boxR b1 [Pt.int y2] 3, boxR b3 [Pt.any v54] 32, rowR cd48 v54 r.2.1, boxR b6 [Pt.ar r.2.2] 48, boxR b8 [Pt.val (Value.func (.func 74) #[] #[pt b1 0, pt b3 0, pt b6 0, pt b8 0]) rfl] 74] ∧ Value.tuple #[] = v)
  | 0, _, _, _, _, _, _, _, _, _, _, _, _, r, H => none_some H
  | k + 1, _, _, a0, b1, y2, b3, v4, y5, b6, y7, b8, qM, r, H => impl_orders_1__orders_11.step K (impl_orders_1__orders_11.r K k) (impl_orders_1__orders_11.rcalls K k) a0 b1 y2 b3 v4 y5 b6 y7 b8 qM r H
theorem impl_orders_1__orders_11.calls {w0 : World} {X : List Nat} (K : Nat) (a0 : Int) (b1 : Nat) (y2 : Int)  (b3 : Nat)  (v4 : Value) (y5 : (List (Ar 4))) (b6 : Nat) (y7 : (Ar 4))  (b8 : Nat)  (qM : Ms X w0 w0 [boxR b1 [Pt.int y2] 3, boxR b3 [Pt.any v4] 32, rowR cd48 v4 y5, boxR b6 [Pt.ar y7] 48, boxR b8 [Pt.val (Value.func (.func 74) #[] #[pt b1 0, pt b3 0, pt b6 0, pt b8 0]) rfl] 74]) (r : (Unit × ((List (Ar 4)) × (Ar 4)))) (H : impl_orders_1__orders_11.f K a0 y2 y5 y7 = some r) : Calls Try.prog 74 [Value.int .i64 a0, pt b1 0, pt b3 0, pt b6 0, pt b8 0].toArray w0 (fun e w => ∃ v, e = .returned v ∧ ∃ v54 : Value, Ms X w0 w [boxR b1 [Pt.int y2] 3, boxR b3 [Pt.any v54] 32, rowR cd48 v54 r.2.1, boxR b6 [Pt.ar r.2.2] 48, boxR b8 [Pt.val (Value.func (.func 74) #[] #[pt b1 0, pt b3 0, pt b6 0, pt b8 0]) rfl] 74] ∧ Value.tuple #[] = v) := impl_orders_1__orders_11.rcalls K K a0 b1 y2 b3 v4 y5 b6 y7 b8 qM r H

/-! ### loop.example/g01210/impl.orders: function 52 -/
def impl_orders.f (K : Nat) (a0 : Int) : Option (List (Ar 4)) := (impl_orders_1__orders_11.f K 0 a0 ([] : List (Ar 4)) (⟨[(-1), (-1), (-1), (-1)], rfl⟩ : Ar 4)).bind fun t5 => some t5.2.1
set_option maxRecDepth 100000 in
set_option maxHeartbeats 4000000 in
theorem impl_orders.calls {w0 : World} (K : Nat) (a0 : Int) (r : (List (Ar 4))) (H : impl_orders.f K a0 = some r) : Calls Try.prog 52 [Value.int .i64 a0].toArray w0 (Post w0 fun w v => Fresh cd48 w0.heap.size w v r) := by
  rw [impl_orders.f] at H
  refine s_start Try.func52 rfl Try.ntmps52 rfl ?_
  intro a hF
  have hM := Ms.start w0
  skip
  refine wp_seq ?_
  refine s_region ?_
  refine s_box (ps := [Pt.int a0]) hF hM rfl rfl rfl rfl ?_; intro a w b1 hF hM
  refine s_val hF rfl rfl rfl (e_assign hF rfl) ?_; intro a hF
  refine s_nil ?_
  refine then_n ?_
  refine wp_seq ?_
  refine s_region ?_
  have hM := hM.nilRow cd48
  refine s_alloc (ps := [Pt.any (Value.slice none 0 0)]) hF hM rfl rfl zv32 rfl ?_; intro a w b2 hF hM
  refine s_nil ?_
  refine then_n ?_
  refine wp_seq ?_
  refine s_region ?_
  refine s_val hF rfl rfl rfl (e_build' (cells := cat [Pt.ar (⟨[(-1), (-1), (-1), (-1)], rfl⟩ : Ar 4)]) hF rfl (by kernel_rfl)) ?_; intro a hF
  refine s_val hF rfl rfl rfl (e_build' hF rfl (bld48 (⟨[(-1), (-1), (-1), (-1)], rfl⟩ : Ar 4))) ?_; intro a hF
  refine s_alloc (ps := [Pt.ar (Ar.zero 4)]) hF hM rfl rfl zv48 rfl ?_; intro a w b3 hF hM
  refine s_stw (i := 0) (ps' := [Pt.ar (⟨[(-1), (-1), (-1), (-1)], rfl⟩ : Ar 4)]) hF hM rfl rfl rfl rfl rfl rfl Try.sizeOf48 rfl ?_; intro a w hF hM
  refine s_nil ?_
  refine then_n ?_
  refine wp_seq ?_
  refine s_region ?_
  refine s_alloc (ps := [Pt.val Value.nilFunc rfl]) hF hM rfl rfl zv74 rfl ?_; intro a w b4 hF hM
  refine s_nil ?_
  refine then_n ?_
  refine wp_seq ?_
  refine s_region ?_
  refine s_val hF rfl rfl rfl (e_mkfunc (hF.evs' rfl)) ?_; intro a hF
  refine s_st (i := 0) (k := 0) (Pt.val (Value.func (.func 74) #[] #[pt b1 0, pt b2 0, pt b3 0, pt b4 0]) rfl) hF hM rfl rfl rfl rfl rfl rfl rfl rfl Try.sizeOf74 rfl ?_; intro a w hF hM
  refine s_nil ?_
  refine then_n ?_
  refine wp_seq ?_
  obtain ⟨t5, h6, H⟩ := bind_some H
  refine s_region ?_
  refine s_val hF rfl rfl rfl (e_ld (i := 0) (k := 0) hF hM rfl rfl rfl rfl Try.isAgg74 rfl) ?_; intro a hF
  refine s_callv hF rfl rfl rfl rfl (callsV_of Try.call74 (impl_orders_1__orders_11.calls K 0 b1 a0 b2 (Value.slice none 0 0) ([] : List (Ar 4)) b3 (⟨[(-1), (-1), (-1), (-1)], rfl⟩ : Ar 4) b4 (hM.lend [4, 2, 3, 1, 0] rfl rfl) t5 h6)) ?_; intro a w v hF hR
  obtain ⟨v7, hR, rfl⟩ := hR; have hM := hM.back [4, 2, 3, 1, 0] [] (by decide) rfl rfl hR
  refine s_nil ?_
  refine then_n ?_
  refine wp_seq ?_
  refine s_region ?_
  refine s_val hF rfl rfl rfl (e_ld (i := 1) (k := 0) hF hM rfl rfl rfl rfl Try.isAgg32 (any_cs (hM.sl 2 rfl).toF.one)) ?_; intro a hF
  refine s_val hF rfl rfl rfl (e_assign hF rfl) ?_; intro a hF
  refine s_nil ?_
  refine then_n ?_
  refine wp_ret ?_
  obtain rfl := some_some H
  refine s_ret [v7] hF Try.results52 ⟨rfl, trivial⟩ ?_
  exact ⟨_, rfl, hM.frm, hM.give 2 rfl⟩

/-! ### loop.example/g01210/impl.power: function 84 -/
def impl_power.l0 (K : Nat) (a0 : Int) : Nat → Int → Int → Option Int
  | 0, _, _ => none
  | k + 1, x6, x7 => if x7 < a0 then (impl_power.l0 K a0 k (wrap64 (x6 * 6)) (wrap64 (x7 + 1))) else (some x6)
def impl_power.f (K : Nat) (a0 : Int) : Option Int := (impl_power.l0 K a0 K 1 0).bind fun x5 => some x5
set_option maxRecDepth 100000 in
set_option maxHeartbeats 4000000 in
theorem impl_power.calls {w0 : World} (K : Nat) (a0 : Int) (r : Int) (H : impl_power.f K a0 = some r) : Calls Try.prog 84 [Value.int .i64 a0].toArray w0 (Post w0 fun w v => v = Value.int .i64 r) := by
  rw [impl_power.f] at H
  refine s_start Try.func84 rfl Try.ntmps84 rfl ?_
  intro a hF
  have hM := Ms.start w0
  skip
  refine wp_seq ?_
  refine s_region ?_
  refine s_val hF rfl rfl rfl (e_assign hF rfl) ?_; intro a hF
  refine s_nil ?_
  refine then_n ?_
  refine wp_seq ?_
  refine s_region ?_
  refine s_val hF rfl rfl rfl (e_assign hF rfl) ?_; intro a hF
  refine s_nil ?_
  refine then_n ?_
  refine wp_seq ?_
  refine wp_seq ?_
  refine s_region ?_
  refine s_val hF rfl rfl rfl (e_move hF rfl) ?_; intro a hF
  refine s_val hF rfl rfl rfl (e_move hF rfl) ?_; intro a hF
  refine s_nil ?_
  refine then_n ?_
  refine wp_block ?_
  obtain ⟨o9, h10, H⟩ := bind_some H
  refine wp_mono (Q := fun e a w => (e = Exit.exit 0 ∧ ∃ x5 : Int, x5 = o9 ∧ Fr 11 a [(3, Value.int .i64 x5)] ∧ Ms [] w0 w [])) ?_ ?_
  · refine s_loop (fun kq a w => ∃ x6 : Int, ∃ x7 : Int, impl_power.l0 K a0 kq x6 x7 = some o9 ∧ Fr 11 a [(3, Value.int .i64 x6), (4, Value.int .i64 a0), (5, Value.int .i64 x7)] ∧ Ms [] w0 w []) K ⟨1, 0, h10, hF.sub _ ⟨rfl, rfl, rfl, trivial⟩, hM.pick [] rfl rfl⟩ ?_ ?_
    · rintro a w ⟨_, _, H, _⟩; exact none_some H
    · rintro k a w ⟨x6, x7, H, hF, hM⟩; rw [impl_power.l0] at H
      refine wp_seq ?_
      refine s_region ?_
      refine s_val hF rfl rfl rfl (e_lss hF rfl rfl) ?_; intro a hF
      refine s_nil ?_
      refine then_n ?_
      refine wp_seq ?_
      rcases ite_cases H with ⟨c8, H⟩ | ⟨c8, H⟩
      ·
        refine s_cond_t hF rfl (decide_eq_true c8) ?_
        refine wp_skip ?_
        refine then_n ?_
        refine wp_seq ?_
        refine wp_block ?_
        refine s_region ?_
        refine s_val hF rfl rfl rfl (e_move hF rfl) ?_; intro a hF
        refine s_val hF rfl rfl rfl (e_mul hF rfl rfl) ?_; intro a hF
        refine s_val hF rfl rfl rfl (e_assign hF rfl) ?_; intro a hF
        refine s_nil ?_
        refine blk_n ?_
        refine then_n ?_
        refine s_region ?_
        refine s_val hF rfl rfl rfl (e_add hF rfl rfl) ?_; intro a hF
        refine s_val hF rfl rfl rfl (e_move hF rfl) ?_; intro a hF
        refine s_nil ?_
        refine then_n ?_
        exact ⟨(wrap64 (x6 * 6)), (wrap64 (x7 + 1)), H, hF.sub _ ⟨rfl, rfl, rfl, trivial⟩, hM.pick [] rfl rfl⟩
      ·
        refine s_cond_f hF rfl (decide_eq_false c8) ?_
        refine wp_exit ?_
        refine then_x ?_
        refine then_x ?_
        exact ⟨rfl, x6, some_some H, hF.sub _ ⟨rfl, trivial⟩, hM.pick [] rfl rfl⟩
  · rintro e a w ⟨rfl, x5, rfl, hF, hM⟩
    skip
    refine blk_x ?_
    refine then_n ?_
    refine wp_seq ?_
    refine s_region ?_
    refine s_val hF rfl rfl rfl (e_move hF rfl) ?_; intro a hF
    refine s_val hF rfl rfl rfl (e_assign hF rfl) ?_; intro a hF
    refine s_nil ?_
    refine then_n ?_
    refine wp_ret ?_
    obtain rfl := some_some H
    refine s_ret [Value.int .i64 x5] hF Try.results84 ⟨rfl, trivial⟩ ?_
    exact ⟨_, rfl, hM.frm, rfl⟩

/-! ### loop.example/g01210/impl.rollAt: function 64 -/
def impl_rollAt.l0 (K : Nat) (l0 : (List (Ar 6))) : Nat → Int → Int → (List Int) → Option (List Int)
  | 0, _, _, _ => none
  | k + 1, x15, x16, x17 => if 0 ≤ x16 then (if (0 : Int) ≤ x16 ∧ x16 < (l0.length : Int) then (if (0 : Int) ≤ (x15.tmod 6) ∧ (x15.tmod 6) < 6 then (if (0 : Int) ≤ x16 ∧ x16 < (x17.length : Int) then (impl_rollAt.l0 K l0 k (wrap64 (x15.tdiv 6)) (wrap64 (x16 - 1)) (x17.set (x16 : Int).toNat ((l0.getD (x16 : Int).toNat (Ar.zero 6)).get (x15.tmod 6)))) else none) else none) else none) else (some x17)
def impl_rollAt.f (K : Nat) (l0 : (List (Ar 6))) (a1 : Int) : Option (List Int) := if (0 : Int) ≤ (l0.length : Int) ∧ (l0.length : Int) ≤ 1073741824 then ((impl_rollAt.l0 K l0 K a1 (wrap64 ((l0.length : Int) - 1)) (List.replicate (l0.length : Int).toNat (0 : Int))).bind fun x14 => some x14) else none
set_option maxRecDepth 100000 in
set_option maxHeartbeats 4000000 in
theorem impl_rollAt.calls {w0 : World} (K : Nat) (l0 : (List (Ar 6))) (u0 : Value) (q0 : SlR cd62 w0 u0 l0) (a1 : Int) (r : (List Int)) (H : impl_rollAt.f K l0 a1 = some r) : Calls Try.prog 64 [u0, Value.int .i64 a1].toArray w0 (Post w0 fun w v => Fresh cd3 w0.heap.size w v r) := by
  rw [impl_rollAt.f] at H
  refine s_start Try.func64 rfl Try.ntmps64 rfl ?_
  intro a hF
  have hM := Ms.start w0
  skip
  refine wp_seq ?_
  refine s_region ?_
  refine s_val hF rfl rfl rfl (e_assign hF rfl) ?_; intro a hF
  refine s_nil ?_
  refine then_n ?_
  refine wp_seq ?_
  obtain ⟨c2, H⟩ := ite_some H
  refine s_region ?_
  refine s_val hF rfl rfl rfl (e_move hF rfl) ?_; intro a hF
  refine s_val hF rfl rfl rfl (e_len hF rfl (q0.frm hM.frm).toF Try.underlying37) ?_; intro a hF
  refine s_make (C := cd3) cdok3 hF hM rfl rfl rfl rfl Try.underlying25 c2.1 c2.2 ?_; intro a w v1 hF hM
  refine s_val hF rfl rfl rfl (e_assign hF rfl) ?_; intro a hF
  refine s_nil ?_
  refine then_n ?_
  refine wp_seq ?_
  refine wp_seq ?_
  refine s_region ?_
  refine s_val hF rfl rfl rfl (e_move hF rfl) ?_; intro a hF
  refine s_val hF rfl rfl rfl (e_len hF rfl (q0.frm hM.frm).toF Try.underlying37) ?_; intro a hF
  refine s_val hF rfl rfl rfl (e_sub hF rfl rfl) ?_; intro a hF
  refine s_val hF rfl rfl rfl (e_assign hF rfl) ?_; intro a hF
  refine s_nil ?_
  refine then_n ?_
  refine wp_block ?_
  obtain ⟨o22, h23, H⟩ := bind_some H
  refine wp_mono (Q := fun e a w => (e = Exit.exit 0 ∧ ∃ x14 : (List Int), x14 = o22 ∧ Fr 30 a [(5, v1)] ∧ Ms [] w0 w [rowR cd3 v1 x14])) ?_ ?_
  · refine s_loop (fun kq a w => ∃ x15 : Int, ∃ x16 : Int, ∃ x17 : (List Int), impl_rollAt.l0 K l0 kq x15 x16 x17 = some o22 ∧ Fr 30 a [(0, u0), (1, Value.int .i64 x15), (5, v1), (6, Value.int .i64 x16)] ∧ Ms [] w0 w [rowR cd3 v1 x17]) K ⟨a1, (wrap64 ((l0.length : Int) - 1)), (List.replicate (l0.length : Int).toNat (0 : Int)), h23, hF.sub _ ⟨rfl, rfl, rfl, rfl, trivial⟩, hM.pick [0] rfl rfl⟩ ?_ ?_
    · rintro a w ⟨_, _, _, H, _⟩; exact none_some H
    · rintro k a w ⟨x15, x16, x17, H, hF, hM⟩; rw [impl_rollAt.l0] at H
      refine wp_seq ?_
      refine wp_seq ?_
      refine s_region ?_
      refine s_val hF rfl rfl rfl (e_move hF rfl) ?_; intro a hF
      refine s_val hF rfl rfl rfl (e_geq hF rfl rfl) ?_; intro a hF
      refine s_nil ?_
      refine then_n ?_
      rcases ite_cases H with ⟨c18, H⟩ | ⟨c18, H⟩
      ·
        refine s_cond_t hF rfl (decide_eq_true c18) ?_
        refine wp_skip ?_
        refine then_n ?_
        refine wp_seq ?_
        refine wp_block ?_
        refine wp_seq ?_
        obtain ⟨c19, H⟩ := ite_some H
        obtain ⟨c20, H⟩ := ite_some H
        obtain ⟨c21, H⟩ := ite_some H
        refine s_region ?_
        refine s_val hF rfl rfl rfl (e_move hF rfl) ?_; intro a hF
        refine s_val hF rfl rfl rfl (e_move hF rfl) ?_; intro a hF
        refine s_val hF rfl rfl rfl (e_move hF rfl) ?_; intro a hF
        refine s_val hF rfl rfl rfl (e_move hF rfl) ?_; intro a hF
        refine s_val hF rfl rfl rfl (e_move hF rfl) ?_; intro a hF
        refine s_val hF rfl rfl rfl (e_rem hF rfl rfl (by decide)) ?_; intro a hF
        refine s_val hF rfl rfl rfl (e_ias cd62 hF rfl rfl (q0.frm hM.frm).toF Try.underlying37 Try.sizeOf62 c19.1 c19.2) ?_; intro a hF
        refine s_val hF rfl rfl rfl (e_ia hF rfl rfl Try.underlying62 Try.sizeOf3 c20.1 c20.2) ?_; intro a hF
        refine s_val hF rfl rfl rfl (e_ldsi (m := x16) (p := (x15.tmod 6)) (o := 0) (k := 0) hF rfl (q0.frm hM.frm) (getD_some (z := (Ar.zero 6)) c19.1 c19.2) rfl rfl Try.isAgg3 c20.1 c20.2) ?_; intro a hF
        refine s_val hF rfl rfl rfl (e_ias cd3 hF rfl rfl (hM.sl 0 rfl).toF Try.underlying25 Try.sizeOf3 c21.1 c21.2) ?_; intro a hF
        refine s_sts (i := 0) ((l0.getD (x16 : Int).toNat (Ar.zero 6)).get (x15.tmod 6)) hF hM rfl rfl rfl rfl rfl c21.1 c21.2 Try.sizeOf3 ?_; intro a w hF hM
        refine s_nil ?_
        refine then_n ?_
        refine s_region ?_
        refine s_val hF rfl rfl rfl (e_move hF rfl) ?_; intro a hF
        refine s_val hF rfl rfl rfl (e_quo hF rfl rfl (by decide)) ?_; intro a hF
        refine s_val hF rfl rfl rfl (e_assign hF rfl) ?_; intro a hF
        refine s_nil ?_
        refine blk_n ?_
        refine then_n ?_
        refine s_region ?_
        refine s_val hF rfl rfl rfl (e_move hF rfl) ?_; intro a hF
        refine s_val hF rfl rfl rfl (e_sub hF rfl rfl) ?_; intro a hF
        refine s_val hF rfl rfl rfl (e_assign hF rfl) ?_; intro a hF
        refine s_nil ?_
        refine then_n ?_
        exact ⟨(wrap64 (x15.tdiv 6)), (wrap64 (x16 - 1)), (x17.set (x16 : Int).toNat ((l0.getD (x16 : Int).toNat (Ar.zero 6)).get (x15.tmod 6))), H, hF.sub _ ⟨rfl, rfl, rfl, rfl, trivial⟩, hM.pick [0] rfl rfl⟩
      ·
        refine s_cond_f hF rfl (decide_eq_false c18) ?_
        refine wp_exit ?_
        refine then_x ?_
        refine then_x ?_
        exact ⟨rfl, x17, some_some H, hF.sub _ ⟨rfl, trivial⟩, hM.pick [0] rfl rfl⟩
  · rintro e a w ⟨rfl, x14, rfl, hF, hM⟩
    skip
    refine blk_x ?_
    refine then_n ?_
    refine wp_seq ?_
    refine s_region ?_
    refine s_val hF rfl rfl rfl (e_move hF rfl) ?_; intro a hF
    refine s_val hF rfl rfl rfl (e_assign hF rfl) ?_; intro a hF
    refine s_nil ?_
    refine then_n ?_
    refine wp_ret ?_
    obtain rfl := some_some H
    refine s_ret [v1] hF Try.results64 ⟨rfl, trivial⟩ ?_
    exact ⟨_, rfl, hM.frm, hM.give 0 rfl⟩

/-! ### loop.example/g01210/impl.truth: function 46 -/
def impl_truth.f (K : Nat) (a0 : Bool) : Option Int := if a0 = true then (some 1) else (some 0)
set_option maxRecDepth 100000 in
set_option maxHeartbeats 4000000 in
theorem impl_truth.calls {w0 : World} (K : Nat) (a0 : Bool) (r : Int) (H : impl_truth.f K a0 = some r) : Calls Try.prog 46 [Value.bool a0].toArray w0 (Post w0 fun w v => v = Value.int .i64 r) := by
  rw [impl_truth.f] at H
  refine s_start Try.func46 rfl Try.ntmps46 rfl ?_
  intro a hF
  have hM := Ms.start w0
  skip
  refine wp_seq ?_
  refine s_region ?_
  refine s_val hF rfl rfl rfl (e_assign hF rfl) ?_; intro a hF
  refine s_nil ?_
  refine then_n ?_
  refine wp_seq ?_
  refine wp_seq ?_
  refine s_region ?_
  refine s_val hF rfl rfl rfl (e_move hF rfl) ?_; intro a hF
  refine s_nil ?_
  refine then_n ?_
  rcases ite_cases H with ⟨c1, H⟩ | ⟨c1, H⟩
  ·
    refine s_cond_t hF rfl c1 ?_
    refine wp_seq ?_
    refine s_region ?_
    refine s_val hF rfl rfl rfl (e_assign hF rfl) ?_; intro a hF
    refine s_nil ?_
    refine then_n ?_
    refine wp_ret ?_
    refine then_r ?_
    obtain rfl := some_some H
    refine s_ret [Value.int .i64 1] hF Try.results46 ⟨rfl, trivial⟩ ?_
    exact ⟨_, rfl, hM.frm, rfl⟩
  ·
    refine s_cond_f hF rfl (bf c1) ?_
    refine wp_skip ?_
    refine then_n ?_
    refine wp_seq ?_
    refine s_region ?_
    refine s_val hF rfl rfl rfl (e_assign hF rfl) ?_; intro a hF
    refine s_nil ?_
    refine then_n ?_
    refine wp_ret ?_
    obtain rfl := some_some H
    refine s_ret [Value.int .i64 0] hF Try.results46 ⟨rfl, trivial⟩ ?_
    exact ⟨_, rfl, hM.frm, rfl⟩

/-! ### loop.example/g01210/impl.orderOf: function 63 -/
def impl_orderOf.l3 (K : Nat) (l0 : (List Int)) (x72 : Int) : Nat → Int → Int → Option (Sum Int ((Ar 4) × Bool))
  | 0, _, _ => none
  | k + 1, x95, x96 => if x96 < (l0.length : Int) then (if (0 : Int) ≤ x96 ∧ x96 < (l0.length : Int) then (if x96 = x72 then ((impl_truth.f K (decide ((l0.getD (x72 : Int).toNat (0 : Int)) < (l0.getD (x96 : Int).toNat (0 : Int))))).bind fun t100 => impl_orderOf.l3 K l0 x72 k (wrap64 (x95 + t100)) (wrap64 (x96 + 1))) else (if (l0.getD (x96 : Int).toNat (0 : Int)) = (l0.getD (x72 : Int).toNat (0 : Int)) then (some (Sum.inr ((Ar.zero 4), false))) else ((impl_truth.f K (decide ((l0.getD (x72 : Int).toNat (0 : Int)) < (l0.getD (x96 : Int).toNat (0 : Int))))).bind fun t103 => impl_orderOf.l3 K l0 x72 k (wrap64 (x95 + t103)) (wrap64 (x96 + 1))))) else none) else (some (Sum.inl x95))
def impl_orderOf.l2 (K : Nat) (l0 : (List Int)) : Nat → Int → (Ar 4) → Option (Sum (Ar 4) ((Ar 4) × Bool))
  | 0, _, _ => none
  | k + 1, x72, x73 => if x72 < (l0.length : Int) then (if (0 : Int) ≤ x72 ∧ x72 < (l0.length : Int) then ((impl_orderOf.l3 K l0 x72 K 0 0).bind fun o105 => (match o105 with | .inl x94 => if (0 : Int) ≤ x94 ∧ x94 < 4 then (impl_orderOf.l2 K l0 k (wrap64 (x72 + 1)) (x73.set x94 x72)) else none | .inr r107 => some (Sum.inr (r107.1, r107.2)))) else none) else (some (Sum.inl x73))
def impl_orderOf.f (K : Nat) (l0 : (List Int)) : Option ((Ar 4) × Bool) := (impl_orderOf.l2 K l0 K 0 (⟨[(-1), (-1), (-1), (-1)], rfl⟩ : Ar 4)).bind fun o110 => (match o110 with | .inl x71 => some (x71, true) | .inr r112 => some (r112.1, r112.2))
set_option maxRecDepth 100000 in
set_option maxHeartbeats 4000000 in
theorem impl_orderOf.calls {w0 : World} (K : Nat) (l0 : (List Int)) (u0 : Value) (q0 : SlR cd3 w0 u0 l0) (r : ((Ar 4) × Bool)) (H : impl_orderOf.f K l0 = some r) : Calls Try.prog 63 [u0].toArray w0 (Post w0 fun w v => v = Value.tuple #[ag [Pt.ar r.1], Value.bool r.2]) := by
  rw [impl_orderOf.f] at H
  refine s_start Try.func63 rfl Try.ntmps63 rfl ?_
  intro a hF
  have hM := Ms.start w0
  skip
  refine wp_seq ?_
  refine s_region ?_
  refine s_alloc (ps := [Pt.ar (Ar.zero 4)]) hF hM rfl rfl zv48 rfl ?_; intro a w b1 hF hM
  refine s_val hF rfl rfl rfl (e_assign hF rfl) ?_; intro a hF
  refine s_nil ?_
  refine then_n ?_
  refine wp_seq ?_
  refine s_region ?_
  refine s_val hF rfl rfl rfl (e_build' (cells := cat [Pt.ar (⟨[(-1), (-1), (-1), (-1)], rfl⟩ : Ar 4)]) hF rfl (by kernel_rfl)) ?_; intro a hF
  refine s_val hF rfl rfl rfl (e_build' hF rfl (bld48 (⟨[(-1), (-1), (-1), (-1)], rfl⟩ : Ar 4))) ?_; intro a hF
  refine s_alloc (ps := [Pt.ar (Ar.zero 4)]) hF hM rfl rfl zv48 rfl ?_; intro a w b2 hF hM
  refine s_stw (i := 0) (ps' := [Pt.ar (⟨[(-1), (-1), (-1), (-1)], rfl⟩ : Ar 4)]) hF hM rfl rfl rfl rfl rfl rfl Try.sizeOf48 rfl ?_; intro a w hF hM
  refine s_nil ?_
  refine then_n ?_
  refine wp_seq ?_
  refine wp_seq ?_
  refine s_region ?_
  refine s_val hF rfl rfl rfl (e_move hF rfl) ?_; intro a hF
  refine s_val hF rfl rfl rfl (e_len hF rfl (q0.frm hM.frm).toF Try.underlying25) ?_; intro a hF
  refine s_val hF rfl rfl rfl (e_move hF rfl) ?_; intro a hF
  refine s_nil ?_
  refine then_n ?_
  refine wp_block ?_
  obtain ⟨o110, h111, H⟩ := bind_some H
  refine wp_mono (Q := fun e a w => (e = Exit.exit 0 ∧ ∃ x71 : (Ar 4), Sum.inl x71 = o110 ∧ Fr 48 a [(2, pt b1 0), (4, pt b2 0)] ∧ Ms [] w0 w [boxR b1 [Pt.ar (Ar.zero 4)] 48, boxR b2 [Pt.ar x71] 48]) ∨ (e = Exit.ret ∧ ∃ b113 : Nat, ∃ r112 : ((Ar 4) × Bool), Sum.inr r112 = o110 ∧ Fr 48 a [(2, pt b113 0), (3, Value.bool r112.2)] ∧ Ms [] w0 w [boxR b113 [Pt.ar r112.1] 48])) ?_ ?_
  · refine s_loop (fun kq a w => ∃ x72 : Int, ∃ x73 : (Ar 4), impl_orderOf.l2 K l0 kq x72 x73 = some o110 ∧ Fr 48 a [(0, u0), (2, pt b1 0), (4, pt b2 0), (12, u0), (13, Value.int .i64 (l0.length : Int)), (14, Value.int .i64 x72)] ∧ Ms [] w0 w [boxR b1 [Pt.ar (Ar.zero 4)] 48, boxR b2 [Pt.ar x73] 48]) K ⟨0, (⟨[(-1), (-1), (-1), (-1)], rfl⟩ : Ar 4), h111, hF.sub _ ⟨rfl, rfl, rfl, rfl, rfl, rfl, trivial⟩, hM.pick [1, 0] rfl rfl⟩ ?_ ?_
    · rintro a w ⟨_, _, H, _⟩; exact none_some H
    · rintro k a w ⟨x72, x73, H, hF, hM⟩; rw [impl_orderOf.l2] at H
      refine wp_seq ?_
      refine s_region ?_
      refine s_val hF rfl rfl rfl (e_lss hF rfl rfl) ?_; intro a hF
      refine s_nil ?_
      refine then_n ?_
      refine wp_seq ?_
      rcases ite_cases H with ⟨c74, H⟩ | ⟨c74, H⟩
      ·
        refine s_cond_t hF rfl (decide_eq_true c74) ?_
        refine wp_skip ?_
        refine then_n ?_
        refine wp_seq ?_
        refine wp_block ?_
        refine wp_seq ?_
        obtain ⟨c75, H⟩ := ite_some H
        refine s_region ?_
        refine s_val hF rfl rfl rfl (e_move hF rfl) ?_; intro a hF
        refine s_val hF rfl rfl rfl (e_ias cd3 hF rfl rfl (q0.frm hM.frm).toF Try.underlying25 Try.sizeOf3 c75.1 c75.2) ?_; intro a hF
        refine s_val hF rfl rfl rfl (e_lds (m := x72) hF rfl (q0.frm hM.frm) (getD_some (z := (0 : Int)) c75.1 c75.2) rfl rfl Try.isAgg3) ?_; intro a hF
        refine s_val hF rfl rfl rfl (e_assign hF rfl) ?_; intro a hF
        refine s_val hF rfl rfl rfl (e_assign hF rfl) ?_; intro a hF
        refine s_nil ?_
        refine then_n ?_
        refine wp_seq ?_
        refine s_region ?_
        refine s_val hF rfl rfl rfl (e_assign hF rfl) ?_; intro a hF
        refine s_nil ?_
        refine then_n ?_
        refine wp_seq ?_
        refine wp_seq ?_
        refine s_region ?_
        refine s_val hF rfl rfl rfl (e_move hF rfl) ?_; intro a hF
        refine s_val hF rfl rfl rfl (e_len hF rfl (q0.frm hM.frm).toF Try.underlying25) ?_; intro a hF
        refine s_val hF rfl rfl rfl (e_move hF rfl) ?_; intro a hF
        refine s_nil ?_
        refine then_n ?_
        refine wp_block ?_
        obtain ⟨o105, h106, H⟩ := bind_some H
        refine wp_mono (Q := fun e a w => (e = Exit.exit 2 ∧ ∃ x94 : Int, Sum.inl x94 = o105 ∧ Fr 48 a [(0, u0), (2, pt b1 0), (4, pt b2 0), (5, Value.int .i64 x72), (7, Value.int .i64 x94), (12, u0), (13, Value.int .i64 (l0.length : Int)), (14, Value.int .i64 x72)] ∧ Ms [] w0 w [boxR b1 [Pt.ar (Ar.zero 4)] 48, boxR b2 [Pt.ar x73] 48]) ∨ (e = Exit.ret ∧ ∃ b108 : Nat, ∃ r107 : ((Ar 4) × Bool), Sum.inr r107 = o105 ∧ Fr 48 a [(2, pt b108 0), (3, Value.bool r107.2)] ∧ Ms [] w0 w [boxR b108 [Pt.ar r107.1] 48])) ?_ ?_
        · refine s_loop (fun kq a w => ∃ x95 : Int, ∃ x96 : Int, impl_orderOf.l3 K l0 x72 kq x95 x96 = some o105 ∧ Fr 48 a [(0, u0), (2, pt b1 0), (4, pt b2 0), (5, Value.int .i64 x72), (6, Value.int .i64 (l0.getD (x72 : Int).toNat (0 : Int))), (7, Value.int .i64 x95), (12, u0), (13, Value.int .i64 (l0.length : Int)), (14, Value.int .i64 x72), (19, u0), (20, Value.int .i64 (l0.length : Int)), (21, Value.int .i64 x96)] ∧ Ms [] w0 w [boxR b1 [Pt.ar (Ar.zero 4)] 48, boxR b2 [Pt.ar x73] 48]) K ⟨0, 0, h106, hF.sub _ ⟨rfl, rfl, rfl, rfl, rfl, rfl, rfl, rfl, rfl, rfl, rfl, rfl, trivial⟩, hM.pick [0, 1] rfl rfl⟩ ?_ ?_
          · rintro a w ⟨_, _, H, _⟩; exact none_some H
          · rintro k a w ⟨x95, x96, H, hF, hM⟩; rw [impl_orderOf.l3] at H
            refine wp_seq ?_
            refine s_region ?_
            refine s_val hF rfl rfl rfl (e_lss hF rfl rfl) ?_; intro a hF
            refine s_nil ?_
            refine then_n ?_
            refine wp_seq ?_
            rcases ite_cases H with ⟨c97, H⟩ | ⟨c97, H⟩
            ·
              refine s_cond_t hF rfl (decide_eq_true c97) ?_
              refine wp_skip ?_
              refine then_n ?_
              refine wp_seq ?_
              refine wp_block ?_
              refine wp_seq ?_
              obtain ⟨c98, H⟩ := ite_some H
              refine s_region ?_
              refine s_val hF rfl rfl rfl (e_move hF rfl) ?_; intro a hF
              refine s_val hF rfl rfl rfl (e_ias cd3 hF rfl rfl (q0.frm hM.frm).toF Try.underlying25 Try.sizeOf3 c98.1 c98.2) ?_; intro a hF
              refine s_val hF rfl rfl rfl (e_lds (m := x96) hF rfl (q0.frm hM.frm) (getD_some (z := (0 : Int)) c98.1 c98.2) rfl rfl Try.isAgg3) ?_; intro a hF
              refine s_val hF rfl rfl rfl (e_assign hF rfl) ?_; intro a hF
              refine s_val hF rfl rfl rfl (e_assign hF rfl) ?_; intro a hF
              refine s_nil ?_
              refine then_n ?_
              refine wp_seq ?_
              refine wp_seq ?_
              rcases ite_cases H with ⟨c99, H⟩ | ⟨c99, H⟩
              ·
                refine s_region ?_
                refine s_val hF rfl rfl rfl (e_move hF rfl) ?_; intro a hF
                refine s_val hF rfl rfl rfl (e_move hF rfl) ?_; intro a hF
                refine s_val hF rfl rfl rfl (e_neq hF rfl rfl) ?_; intro a hF
                refine s_val hF rfl rfl rfl (e_move hF rfl) ?_; intro a hF
                have hF := hF.topb (congrArg Bool.not (decide_eq_true c99))
                refine s_skip hF rfl rfl rfl ?_; intro a hF
                refine s_skip hF rfl rfl rfl ?_; intro a hF
                refine s_skip hF rfl rfl rfl ?_; intro a hF
                refine s_val hF rfl rfl rfl (e_pick_f hF rfl rfl) ?_; intro a hF
                refine s_nil ?_
                refine then_n ?_
                refine s_cond_f hF rfl rfl ?_
                refine wp_skip ?_
                refine then_n ?_
                obtain ⟨t100, h101, H⟩ := bind_some H
                refine s_region ?_
                refine s_val hF rfl rfl rfl (e_move hF rfl) ?_; intro a hF
                refine s_val hF rfl rfl rfl (e_move hF rfl) ?_; intro a hF
                refine s_val hF rfl rfl rfl (e_move hF rfl) ?_; intro a hF
                refine s_val hF rfl rfl rfl (e_gtr hF rfl rfl) ?_; intro a hF
                refine s_call hF rfl rfl rfl Try.call46 (impl_truth.calls K (decide ((l0.getD (x72 : Int).toNat (0 : Int)) < (l0.getD (x96 : Int).toNat (0 : Int)))) t100 h101) ?_; intro a w v hF hf hR
                subst hR; have hM := hM.grow hf
                refine s_val hF rfl rfl rfl (e_add hF rfl rfl) ?_; intro a hF
                refine s_val hF rfl rfl rfl (e_assign hF rfl) ?_; intro a hF
                refine s_nil ?_
                refine blk_n ?_
                refine then_n ?_
                refine s_region ?_
                refine s_val hF rfl rfl rfl (e_add hF rfl rfl) ?_; intro a hF
                refine s_val hF rfl rfl rfl (e_move hF rfl) ?_; intro a hF
                refine s_nil ?_
                refine then_n ?_
                exact ⟨(wrap64 (x95 + t100)), (wrap64 (x96 + 1)), H, hF.sub _ ⟨rfl, rfl, rfl, rfl, rfl, rfl, rfl, rfl, rfl, rfl, rfl, rfl, trivial⟩, hM.pick [0, 1] rfl rfl⟩
              ·
                refine s_region ?_
                refine s_val hF rfl rfl rfl (e_move hF rfl) ?_; intro a hF
                refine s_val hF rfl rfl rfl (e_move hF rfl) ?_; intro a hF
                refine s_val hF rfl rfl rfl (e_neq hF rfl rfl) ?_; intro a hF
                refine s_val hF rfl rfl rfl (e_move hF rfl) ?_; intro a hF
                have hF := hF.topb (congrArg Bool.not (decide_eq_false c99))
                refine s_val hF rfl rfl rfl (e_move hF rfl) ?_; intro a hF
                refine s_val hF rfl rfl rfl (e_move hF rfl) ?_; intro a hF
                refine s_val hF rfl rfl rfl (e_eql hF rfl rfl) ?_; intro a hF
                refine s_val hF rfl rfl rfl (e_pick_t hF rfl rfl) ?_; intro a hF
                refine s_nil ?_
                refine then_n ?_
                rcases ite_cases H with ⟨c102, H⟩ | ⟨c102, H⟩
                ·
                  refine s_cond_t hF rfl (decide_eq_true c102) ?_
                  refine wp_seq ?_
                  refine s_region ?_
                  refine s_val hF rfl rfl rfl (e_build' (cells := cat [Pt.ar (Ar.zero 4)]) hF rfl (by kernel_rfl)) ?_; intro a hF
                  refine s_stw (i := 0) (ps' := [Pt.ar (Ar.zero 4)]) hF hM rfl rfl rfl rfl rfl rfl Try.sizeOf48 rfl ?_; intro a w hF hM
                  refine s_val hF rfl rfl rfl (e_assign hF rfl) ?_; intro a hF
                  refine s_nil ?_
                  refine then_n ?_
                  refine wp_ret ?_
                  refine then_r ?_
                  refine blk_r ?_
                  refine then_r ?_
                  refine then_r ?_
                  exact Or.inr (⟨rfl, b1, ((Ar.zero 4), false), some_some H, hF.sub _ ⟨rfl, rfl, trivial⟩, hM.pick [0] rfl rfl⟩)
                ·
                  refine s_cond_f hF rfl (decide_eq_false c102) ?_
                  refine wp_skip ?_
                  refine then_n ?_
                  obtain ⟨t103, h104, H⟩ := bind_some H
                  refine s_region ?_
                  refine s_val hF rfl rfl rfl (e_move hF rfl) ?_; intro a hF
                  refine s_val hF rfl rfl rfl (e_move hF rfl) ?_; intro a hF
                  refine s_val hF rfl rfl rfl (e_move hF rfl) ?_; intro a hF
                  refine s_val hF rfl rfl rfl (e_gtr hF rfl rfl) ?_; intro a hF
                  refine s_call hF rfl rfl rfl Try.call46 (impl_truth.calls K (decide ((l0.getD (x72 : Int).toNat (0 : Int)) < (l0.getD (x96 : Int).toNat (0 : Int)))) t103 h104) ?_; intro a w v hF hf hR
                  subst hR; have hM := hM.grow hf
                  refine s_val hF rfl rfl rfl (e_add hF rfl rfl) ?_; intro a hF
                  refine s_val hF rfl rfl rfl (e_assign hF rfl) ?_; intro a hF
                  refine s_nil ?_
                  refine blk_n ?_
                  refine then_n ?_
                  refine s_region ?_
                  refine s_val hF rfl rfl rfl (e_add hF rfl rfl) ?_; intro a hF
                  refine s_val hF rfl rfl rfl (e_move hF rfl) ?_; intro a hF
                  refine s_nil ?_
                  refine then_n ?_
                  exact ⟨(wrap64 (x95 + t103)), (wrap64 (x96 + 1)), H, hF.sub _ ⟨rfl, rfl, rfl, rfl, rfl, rfl, rfl, rfl, rfl, rfl, rfl, rfl, trivial⟩, hM.pick [0, 1] rfl rfl⟩
            ·
              refine s_cond_f hF rfl (decide_eq_false c97) ?_
              refine wp_exit ?_
              refine then_x ?_
              refine then_x ?_
              exact Or.inl (⟨rfl, x95, some_some H, hF.sub _ ⟨rfl, rfl, rfl, rfl, rfl, rfl, rfl, rfl, trivial⟩, hM.pick [0, 1] rfl rfl⟩)
        · rintro e a w (⟨rfl, x94, rfl, hF, hM⟩ | ⟨rfl, b108, r107, rfl, hF, hM⟩)
          ·
            dsimp only at H
            refine blk_x ?_
            refine then_n ?_
            obtain ⟨c109, H⟩ := ite_some H
            refine s_region ?_
            refine s_val hF rfl rfl rfl (e_move hF rfl) ?_; intro a hF
            refine s_val hF rfl rfl rfl (e_move hF rfl) ?_; intro a hF
            refine s_val hF rfl rfl rfl (e_fa hF rfl Try.underlying48 rfl Try.sizeOf46 rfl rfl) ?_; intro a hF
            refine s_val hF rfl rfl rfl (e_ia hF rfl rfl Try.underlying46 Try.sizeOf3 c109.1 c109.2) ?_; intro a hF
            refine s_sti (i := 1) (k := 0) hF hM rfl rfl rfl rfl rfl rfl rfl Try.sizeOf3 c109.1 c109.2 ?_; intro a w hF hM
            refine s_nil ?_
            refine blk_n ?_
            refine then_n ?_
            refine s_region ?_
            refine s_val hF rfl rfl rfl (e_add hF rfl rfl) ?_; intro a hF
            refine s_val hF rfl rfl rfl (e_move hF rfl) ?_; intro a hF
            refine s_nil ?_
            refine then_n ?_
            exact ⟨(wrap64 (x72 + 1)), (x73.set x94 x72), H, hF.sub _ ⟨rfl, rfl, rfl, rfl, rfl, rfl, trivial⟩, hM.pick [0, 1] rfl rfl⟩
          ·
            dsimp only at H
            refine blk_r ?_
            refine then_r ?_
            refine blk_r ?_
            refine then_r ?_
            refine then_r ?_
            exact Or.inr (⟨rfl, b108, (r107.1, r107.2), some_some H, hF.sub _ ⟨rfl, rfl, trivial⟩, hM.pick [0] rfl rfl⟩)
      ·
        refine s_cond_f hF rfl (decide_eq_false c74) ?_
        refine wp_exit ?_
        refine then_x ?_
        refine then_x ?_
        exact Or.inl (⟨rfl, x73, some_some H, hF.sub _ ⟨rfl, rfl, trivial⟩, hM.pick [0, 1] rfl rfl⟩)
  · rintro e a w (⟨rfl, x71, rfl, hF, hM⟩ | ⟨rfl, b113, r112, rfl, hF, hM⟩)
    ·
      dsimp only at H
      refine blk_x ?_
      refine then_n ?_
      refine wp_seq ?_
      refine s_region ?_
      refine s_val hF rfl rfl rfl (e_lda (i := 1) 0 1 hF hM rfl rfl rfl rfl Try.isAgg48 Try.sizeOf48 rfl) ?_; intro a hF
      refine s_stw (i := 0) (ps' := [Pt.ar x71]) hF hM rfl rfl rfl rfl rfl rfl Try.sizeOf48 rfl ?_; intro a w hF hM
      refine s_val hF rfl rfl rfl (e_assign hF rfl) ?_; intro a hF
      refine s_nil ?_
      refine then_n ?_
      refine wp_ret ?_
      obtain rfl := some_some H
      refine s_ret [ag [Pt.ar x71], Value.bool true] hF Try.results63 ⟨⟨_, rfl, rv_box hM (i := 0) rfl Try.isAgg48 Try.sizeOf48 rfl⟩, rfl, trivial⟩ ?_
      exact ⟨_, rfl, hM.frm, rfl⟩
    ·
      dsimp only at H
      refine blk_r ?_
      refine then_r ?_
      obtain rfl := some_some H
      refine s_ret [ag [Pt.ar r112.1], Value.bool r112.2] hF Try.results63 ⟨⟨_, rfl, rv_box hM (i := 0) rfl Try.isAgg48 Try.sizeOf48 rfl⟩, rfl, trivial⟩ ?_
      exact ⟨_, rfl, hM.frm, rfl⟩

/-! ### slices.Index[[]loop.example/g01210/impl.Order,loop.example/g01210/impl.Order]: function 85 -/
def slices_Index_impl_Order_impl_Order.l0 (K : Nat) (l0 : (List (Ar 4))) (a1 : (Ar 4)) : Nat → Int → Option (Sum Unit Int)
  | 0, _ => none
  | k + 1, x9 => if x9 < (l0.length : Int) then (if (0 : Int) ≤ x9 ∧ x9 < (l0.length : Int) then (if a1 = (l0.getD (x9 : Int).toNat (Ar.zero 4)) then (some (Sum.inr x9)) else (slices_Index_impl_Order_impl_Order.l0 K l0 a1 k (wrap64 (x9 + 1)))) else none) else (some (Sum.inl ()))
def slices_Index_impl_Order_impl_Order.f (K : Nat) (l0 : (List (Ar 4))) (a1 : (Ar 4)) : Option Int := (slices_Index_impl_Order_impl_Order.l0 K l0 a1 K 0).bind fun o14 => (match o14 with | .inl () => some (-1) | .inr r16 => some r16)
set_option maxRecDepth 100000 in
set_option maxHeartbeats 4000000 in
theorem slices_Index_impl_Order_impl_Order.calls {w0 : World} (K : Nat) (l0 : (List (Ar 4))) (u0 : Value) (q0 : SlR cd48 w0 u0 l0) (a1 : (Ar 4)) (r : Int) (H : slices_Index_impl_Order_impl_Order.f K l0 a1 = some r) : Calls Try.prog 85 [u0, ag [Pt.ar a1]].toArray w0 (Post w0 fun w v => v = Value.int .i64 r) := by
  rw [slices_Index_impl_Order_impl_Order.f] at H
  refine s_start Try.func85 rfl Try.ntmps85 rfl ?_
  intro a hF
  have hM := Ms.start w0
  skip
  refine wp_seq ?_
  refine s_region ?_
  refine s_box (ps := [Pt.ar a1]) hF hM rfl rfl rfl rfl ?_; intro a w b1 hF hM
  refine s_val hF rfl rfl rfl (e_assign hF rfl) ?_; intro a hF
  refine s_nil ?_
  refine then_n ?_
  refine wp_seq ?_
  refine wp_seq ?_
  refine s_region ?_
  refine s_val hF rfl rfl rfl (e_move hF rfl) ?_; intro a hF
  refine s_val hF rfl rfl rfl (e_len hF rfl (q0.frm hM.frm).toF Try.underlying32) ?_; intro a hF
  refine s_val hF rfl rfl rfl (e_move hF rfl) ?_; intro a hF
  refine s_nil ?_
  refine then_n ?_
  refine wp_block ?_
  obtain ⟨o14, h15, H⟩ := bind_some H
  refine wp_mono (Q := fun e a w => (e = Exit.exit 0 ∧ Sum.inl () = o14 ∧ Fr 19 a [] ∧ Ms [] w0 w []) ∨ (e = Exit.ret ∧ ∃ r16 : Int, Sum.inr r16 = o14 ∧ Fr 19 a [(4, Value.int .i64 r16)] ∧ Ms [] w0 w [])) ?_ ?_
  · refine s_loop (fun kq a w => ∃ x9 : Int, slices_Index_impl_Order_impl_Order.l0 K l0 a1 kq x9 = some o14 ∧ Fr 19 a [(0, u0), (3, pt b1 0), (7, Value.int .i64 (l0.length : Int)), (8, Value.int .i64 x9)] ∧ Ms [] w0 w [boxR b1 [Pt.ar a1] 48]) K ⟨0, h15, hF.sub _ ⟨rfl, rfl, rfl, rfl, trivial⟩, hM.pick [0] rfl rfl⟩ ?_ ?_
    · rintro a w ⟨_, H, _⟩; exact none_some H
    · rintro k a w ⟨x9, H, hF, hM⟩; rw [slices_Index_impl_Order_impl_Order.l0] at H
      refine wp_seq ?_
      refine s_region ?_
      refine s_val hF rfl rfl rfl (e_lss hF rfl rfl) ?_; intro a hF
      refine s_nil ?_
      refine then_n ?_
      refine wp_seq ?_
      rcases ite_cases H with ⟨c10, H⟩ | ⟨c10, H⟩
      ·
        refine s_cond_t hF rfl (decide_eq_true c10) ?_
        refine wp_skip ?_
        refine then_n ?_
        refine wp_seq ?_
        refine wp_block ?_
        refine wp_seq ?_
        refine s_region ?_
        refine s_val hF rfl rfl rfl (e_move hF rfl) ?_; intro a hF
        refine s_val hF rfl rfl rfl (e_assign hF rfl) ?_; intro a hF
        refine s_nil ?_
        refine then_n ?_
        refine wp_seq ?_
        obtain ⟨c11, H⟩ := ite_some H
        refine s_held (fun w => Ms [] w0 w [boxR b1 [Pt.ar a1] 48]) #[false, false, false, false, false, false] mixed rfl rfl hM ?_; intro w hf hM; clear hf
        refine h_val 0 #[true, false, false, false, false, false] rfl (by kernel_rfl) hF rfl rfl rfl (fun w hS => e_lda (i := 0) 0 1 hF hS rfl rfl rfl rfl Try.isAgg48 Try.sizeOf48 rfl) (hM.pick [0] rfl rfl) ?_; intro a hF
        refine h_val 1 #[true, true, false, false, false, false] rfl (by kernel_rfl) hF rfl rfl rfl (fun w hS => e_move hF rfl) (hM.pick [0] rfl rfl) ?_; intro a hF
        refine h_val 2 #[true, true, true, false, false, false] rfl (by kernel_rfl) hF rfl rfl rfl (fun w hS => e_move hF rfl) (hM.pick [0] rfl rfl) ?_; intro a hF
        have f12 := (q0.frm hM.frm).toF
        refine h_val 3 #[true, true, true, true, false, false] rfl (by kernel_rfl) hF rfl rfl rfl (fun w hS => e_ias cd48 hF rfl rfl f12 Try.underlying32 Try.sizeOf48 c11.1 c11.2) (hM.pick [0] rfl rfl) ?_; intro a hF
        refine h_val 4 #[true, true, true, true, true, false] rfl (by kernel_rfl) hF rfl rfl rfl (fun w hS => e_ldsa (m := x9) hF rfl (q0.frm hS.frm) (getD_some (z := (Ar.zero 4)) c11.1 c11.2) Try.isAgg48 Try.sizeOf48) (hM.pick [0] rfl rfl) ?_; intro a hF
        refine h_val 5 #[true, true, true, true, true, true] rfl (by kernel_rfl) hF rfl rfl rfl (fun w hS => e_aggeq _ (run_eq1 a1 (l0.getD (x9 : Int).toNat (Ar.zero 4)) Try.underlying48 Try.stoodInHeld48 (by decide) rfl Try.underlying46 Try.underlying3 Try.sizeOf3 Try.isAgg3 Try.sizeOf46 Try.isAgg46) Try.eqGuardType48 hF rfl rfl) (hM.pick [0] rfl rfl) ?_; intro a hF
        refine h_done rfl ?_
        refine then_n ?_
        rcases ite_cases H with ⟨c13, H⟩ | ⟨c13, H⟩
        ·
          refine s_cond_t hF rfl (decide_eq_true c13) ?_
          refine wp_seq ?_
          refine s_region ?_
          refine s_val hF rfl rfl rfl (e_move hF rfl) ?_; intro a hF
          refine s_val hF rfl rfl rfl (e_assign hF rfl) ?_; intro a hF
          refine s_nil ?_
          refine then_n ?_
          refine wp_ret ?_
          refine blk_r ?_
          refine then_r ?_
          refine then_r ?_
          exact Or.inr (⟨rfl, x9, some_some H, hF.sub _ ⟨rfl, trivial⟩, hM.pick [] rfl rfl⟩)
        ·
          refine s_cond_f hF rfl (decide_eq_false c13) ?_
          refine wp_skip ?_
          refine blk_n ?_
          refine then_n ?_
          refine s_region ?_
          refine s_val hF rfl rfl rfl (e_add hF rfl rfl) ?_; intro a hF
          refine s_val hF rfl rfl rfl (e_move hF rfl) ?_; intro a hF
          refine s_nil ?_
          refine then_n ?_
          exact ⟨(wrap64 (x9 + 1)), H, hF.sub _ ⟨rfl, rfl, rfl, rfl, trivial⟩, hM.pick [0] rfl rfl⟩
      ·
        refine s_cond_f hF rfl (decide_eq_false c10) ?_
        refine wp_exit ?_
        refine then_x ?_
        refine then_x ?_
        exact Or.inl (⟨rfl, some_some H, hF.sub _ trivial, hM.pick [] rfl rfl⟩)
  · rintro e a w (⟨rfl, rfl, hF, hM⟩ | ⟨rfl, r16, rfl, hF, hM⟩)
    ·
      dsimp only at H
      refine blk_x ?_
      refine then_n ?_
      refine wp_seq ?_
      refine s_region ?_
      refine s_val hF rfl rfl rfl (e_assign hF rfl) ?_; intro a hF
      refine s_nil ?_
      refine then_n ?_
      refine wp_ret ?_
      obtain rfl := some_some H
      refine s_ret [Value.int .i64 (-1)] hF Try.results85 ⟨rfl, trivial⟩ ?_
      exact ⟨_, rfl, hM.frm, rfl⟩
    ·
      dsimp only at H
      refine blk_r ?_
      refine then_r ?_
      obtain rfl := some_some H
      refine s_ret [Value.int .i64 r16] hF Try.results85 ⟨rfl, trivial⟩ ?_
      exact ⟨_, rfl, hM.frm, rfl⟩

/-! ### loop.example/g01210/impl.orderWays: function 67 -/
def impl_orderWays.l0 (K : Nat) (l0 : (List (Ar 6))) (t1 : (List (Ar 4))) (t6 : Int) : Nat → Int → (List Int) → Option (List Int)
  | 0, _, _ => none
  | k + 1, x33, x34 => if x33 < t6 then ((impl_rollAt.f K l0 x33).bind fun t36 => (impl_orderOf.f K t36).bind fun t39 => if t39.2 = true then ((slices_Index_impl_Order_impl_Order.f K t1 t39.1).bind fun t43 => if (0 : Int) ≤ t43 ∧ t43 < (x34.length : Int) then (impl_orderWays.l0 K l0 t1 t6 k (wrap64 (x33 + 1)) (x34.set (t43 : Int).toNat (wrap64 ((x34.getD (t43 : Int).toNat (0 : Int)) + 1)))) else none) else (impl_orderWays.l0 K l0 t1 t6 k (wrap64 (x33 + 1)) x34)) else (some x34)
def impl_orderWays.f (K : Nat) (l0 : (List (Ar 6))) : Option (List Int) := (impl_orders.f K (l0.length : Int)).bind fun t1 => if (0 : Int) ≤ (t1.length : Int) ∧ (t1.length : Int) ≤ 1073741824 then ((impl_power.f K (l0.length : Int)).bind fun t6 => (impl_orderWays.l0 K l0 t1 t6 K 0 (List.replicate (t1.length : Int).toNat (0 : Int))).bind fun x32 => some x32) else none
set_option maxRecDepth 100000 in
set_option maxHeartbeats 4000000 in
theorem impl_orderWays.calls {w0 : World} (K : Nat) (l0 : (List (Ar 6))) (u0 : Value) (q0 : SlR cd62 w0 u0 l0) (r : (List Int)) (H : impl_orderWays.f K l0 = some r) : Calls Try.prog 67 [u0].toArray w0 (Post w0 fun w v => Fresh cd3 w0.heap.size w v r) := by
  rw [impl_orderWays.f] at H
  refine s_start Try.func67 rfl Try.ntmps67 rfl ?_
  intro a hF
  have hM := Ms.start w0
  skip
  refine wp_seq ?_
  refine s_region ?_
  refine s_val hF rfl rfl rfl (e_assign hF rfl) ?_; intro a hF
  refine s_nil ?_
  refine then_n ?_
  refine wp_seq ?_
  obtain ⟨t1, h2, H⟩ := bind_some H
  refine s_region ?_
  refine s_val hF rfl rfl rfl (e_move hF rfl) ?_; intro a hF
  refine s_val hF rfl rfl rfl (e_len hF rfl (q0.frm hM.frm).toF Try.underlying37) ?_; intro a hF
  refine s_call hF rfl rfl rfl Try.call52 (impl_orders.calls K (l0.length : Int) t1 h2) ?_; intro a w v3 hF hf hR
  have hM := hM.fresh hf hR
  refine s_val hF rfl rfl rfl (e_assign hF rfl) ?_; intro a hF
  refine s_nil ?_
  refine then_n ?_
  refine wp_seq ?_
  obtain ⟨c5, H⟩ := ite_some H
  refine s_region ?_
  refine s_val hF rfl rfl rfl (e_move hF rfl) ?_; intro a hF
  refine s_val hF rfl rfl rfl (e_len hF rfl (hM.sl 0 rfl).toF Try.underlying32) ?_; intro a hF
  refine s_make (C := cd3) cdok3 hF hM rfl rfl rfl rfl Try.underlying25 c5.1 c5.2 ?_; intro a w v4 hF hM
  refine s_val hF rfl rfl rfl (e_assign hF rfl) ?_; intro a hF
  refine s_nil ?_
  refine then_n ?_
  refine wp_seq ?_
  refine wp_seq ?_
  obtain ⟨t6, h7, H⟩ := bind_some H
  refine s_region ?_
  refine s_val hF rfl rfl rfl (e_move hF rfl) ?_; intro a hF
  refine s_val hF rfl rfl rfl (e_len hF rfl (q0.frm hM.frm).toF Try.underlying37) ?_; intro a hF
  refine s_call hF rfl rfl rfl Try.call84 (impl_power.calls K (l0.length : Int) t6 h7) ?_; intro a w v hF hf hR
  subst hR; have hM := hM.grow hf
  refine s_val hF rfl rfl rfl (e_move hF rfl) ?_; intro a hF
  refine s_nil ?_
  refine then_n ?_
  refine wp_block ?_
  obtain ⟨o46, h47, H⟩ := bind_some H
  refine wp_mono (Q := fun e a w => (e = Exit.exit 0 ∧ ∃ x32 : (List Int), x32 = o46 ∧ Fr 38 a [(4, v4)] ∧ Ms [] w0 w [rowR cd3 v4 x32])) ?_ ?_
  · refine s_loop (fun kq a w => ∃ x33 : Int, ∃ x34 : (List Int), impl_orderWays.l0 K l0 t1 t6 kq x33 x34 = some o46 ∧ Fr 38 a [(0, u0), (3, v3), (4, v4), (16, Value.int .i64 t6), (17, Value.int .i64 x33)] ∧ Ms [] w0 w [rowR cd48 v3 t1, rowR cd3 v4 x34]) K ⟨0, (List.replicate (t1.length : Int).toNat (0 : Int)), h47, hF.sub _ ⟨rfl, rfl, rfl, rfl, rfl, trivial⟩, hM.pick [1, 0] rfl rfl⟩ ?_ ?_
    · rintro a w ⟨_, _, H, _⟩; exact none_some H
    · rintro k a w ⟨x33, x34, H, hF, hM⟩; rw [impl_orderWays.l0] at H
      refine wp_seq ?_
      refine s_region ?_
      refine s_val hF rfl rfl rfl (e_lss hF rfl rfl) ?_; intro a hF
      refine s_nil ?_
      refine then_n ?_
      refine wp_seq ?_
      rcases ite_cases H with ⟨c35, H⟩ | ⟨c35, H⟩
      ·
        refine s_cond_t hF rfl (decide_eq_true c35) ?_
        refine wp_skip ?_
        refine then_n ?_
        refine wp_seq ?_
        refine wp_block ?_
        refine wp_seq ?_
        refine s_region ?_
        refine s_val hF rfl rfl rfl (e_move hF rfl) ?_; intro a hF
        refine s_val hF rfl rfl rfl (e_assign hF rfl) ?_; intro a hF
        refine s_nil ?_
        refine then_n ?_
        refine wp_seq ?_
        obtain ⟨t36, h37, H⟩ := bind_some H
        obtain ⟨t39, h40, H⟩ := bind_some H
        refine s_region ?_
        refine s_val hF rfl rfl rfl (e_move hF rfl) ?_; intro a hF
        refine s_val hF rfl rfl rfl (e_move hF rfl) ?_; intro a hF
        refine s_call hF rfl rfl rfl Try.call64 (impl_rollAt.calls K l0 u0 (q0.frm hM.frm) x33 t36 h37) ?_; intro a w v38 hF hf hR
        have hM := hM.fresh hf hR
        refine s_call hF rfl rfl rfl Try.call63 (impl_orderOf.calls K t36 v38 (hM.sl 0 rfl) t39 h40) ?_; intro a w v hF hf hR
        subst hR; have hM := hM.grow hf
        refine s_val hF rfl rfl rfl (e_move hF rfl) ?_; intro a hF
        refine s_val hF rfl rfl rfl (e_extract hF rfl rfl) ?_; intro a hF
        refine s_val hF rfl rfl rfl (e_extract hF rfl rfl) ?_; intro a hF
        refine s_alloc (ps := [Pt.ar (Ar.zero 4)]) hF hM rfl rfl zv48 rfl ?_; intro a w b41 hF hM
        refine s_stw (i := 0) (ps' := [Pt.ar t39.1]) hF hM rfl rfl rfl rfl rfl rfl Try.sizeOf48 rfl ?_; intro a w hF hM
        refine s_val hF rfl rfl rfl (e_assign hF rfl) ?_; intro a hF
        refine s_nil ?_
        refine then_n ?_
        refine wp_seq ?_
        refine s_region ?_
        refine s_val hF rfl rfl rfl (e_move hF rfl) ?_; intro a hF
        refine s_nil ?_
        refine then_n ?_
        rcases ite_cases H with ⟨c42, H⟩ | ⟨c42, H⟩
        ·
          refine s_cond_t hF rfl c42 ?_
          obtain ⟨t43, h44, H⟩ := bind_some H
          obtain ⟨c45, H⟩ := ite_some H
          refine s_region ?_
          refine s_val hF rfl rfl rfl (e_move hF rfl) ?_; intro a hF
          refine s_val hF rfl rfl rfl (e_move hF rfl) ?_; intro a hF
          refine s_val hF rfl rfl rfl (e_lda (i := 0) 0 1 hF hM rfl rfl rfl rfl Try.isAgg48 Try.sizeOf48 rfl) ?_; intro a hF
          refine s_call hF rfl rfl rfl Try.call85 (slices_Index_impl_Order_impl_Order.calls K t1 v3 (hM.sl 2 rfl) t39.1 t43 h44) ?_; intro a w v hF hf hR
          subst hR; have hM := hM.grow hf
          refine s_val hF rfl rfl rfl (e_ias cd3 hF rfl rfl (hM.sl 3 rfl).toF Try.underlying25 Try.sizeOf3 c45.1 c45.2) ?_; intro a hF
          refine s_val hF rfl rfl rfl (e_lds (m := t43) hF rfl (hM.sl 3 rfl) (getD_some (z := (0 : Int)) c45.1 c45.2) rfl rfl Try.isAgg3) ?_; intro a hF
          refine s_val hF rfl rfl rfl (e_add hF rfl rfl) ?_; intro a hF
          refine s_val hF rfl rfl rfl (e_ias cd3 hF rfl rfl (hM.sl 3 rfl).toF Try.underlying25 Try.sizeOf3 c45.1 c45.2) ?_; intro a hF
          refine s_sts (i := 3) (wrap64 ((x34.getD (t43 : Int).toNat (0 : Int)) + 1)) hF hM rfl rfl rfl rfl rfl c45.1 c45.2 Try.sizeOf3 ?_; intro a w hF hM
          refine s_nil ?_
          refine blk_n ?_
          refine then_n ?_
          refine s_region ?_
          refine s_val hF rfl rfl rfl (e_add hF rfl rfl) ?_; intro a hF
          refine s_val hF rfl rfl rfl (e_move hF rfl) ?_; intro a hF
          refine s_nil ?_
          refine then_n ?_
          exact ⟨(wrap64 (x33 + 1)), (x34.set (t43 : Int).toNat (wrap64 ((x34.getD (t43 : Int).toNat (0 : Int)) + 1))), H, hF.sub _ ⟨rfl, rfl, rfl, rfl, rfl, trivial⟩, hM.pick [2, 3] rfl rfl⟩
        ·
          refine s_cond_f hF rfl (bf c42) ?_
          refine wp_skip ?_
          refine blk_n ?_
          refine then_n ?_
          refine s_region ?_
          refine s_val hF rfl rfl rfl (e_add hF rfl rfl) ?_; intro a hF
          refine s_val hF rfl rfl rfl (e_move hF rfl) ?_; intro a hF
          refine s_nil ?_
          refine then_n ?_
          exact ⟨(wrap64 (x33 + 1)), x34, H, hF.sub _ ⟨rfl, rfl, rfl, rfl, rfl, trivial⟩, hM.pick [2, 3] rfl rfl⟩
      ·
        refine s_cond_f hF rfl (decide_eq_false c35) ?_
        refine wp_exit ?_
        refine then_x ?_
        refine then_x ?_
        exact ⟨rfl, x34, some_some H, hF.sub _ ⟨rfl, trivial⟩, hM.pick [1] rfl rfl⟩
  · rintro e a w ⟨rfl, x32, rfl, hF, hM⟩
    skip
    refine blk_x ?_
    refine then_n ?_
    refine wp_seq ?_
    refine s_region ?_
    refine s_val hF rfl rfl rfl (e_move hF rfl) ?_; intro a hF
    refine s_val hF rfl rfl rfl (e_assign hF rfl) ?_; intro a hF
    refine s_nil ?_
    refine then_n ?_
    refine wp_ret ?_
    obtain rfl := some_some H
    refine s_ret [v4] hF Try.results67 ⟨rfl, trivial⟩ ?_
    exact ⟨_, rfl, hM.frm, hM.give 0 rfl⟩

/-! ### loop.example/g01210/impl.LettersWays: function 38 -/
def impl_LettersWays.f (K : Nat) (l0 : (List Int)) : Option ((List Int) × Bool) := (impl_fromLetters.f K l0).bind fun t1 => if t1.2 = true then ((impl_orderWays.f K t1.1).bind fun t5 => some (t5, true)) else (some ([], false))
set_option maxRecDepth 100000 in
set_option maxHeartbeats 4000000 in
theorem impl_LettersWays.calls {w0 : World} (K : Nat) (l0 : (List Int)) (u0 : Value) (q0 : SlR cd3 w0 u0 l0) (r : ((List Int) × Bool)) (H : impl_LettersWays.f K l0 = some r) : Calls Try.prog 38 [u0].toArray w0 (Post w0 fun w v => ∃ v0 : Value, v = Value.tuple #[v0, Value.bool r.2] ∧ Fresh cd3 w0.heap.size w v0 r.1) := by
  rw [impl_LettersWays.f] at H
  refine s_start Try.func38 rfl Try.ntmps38 rfl ?_
  intro a hF
  have hM := Ms.start w0
  skip
  refine wp_seq ?_
  refine s_region ?_
  refine s_val hF rfl rfl rfl (e_assign hF rfl) ?_; intro a hF
  refine s_val hF rfl rfl rfl (e_assign hF rfl) ?_; intro a hF
  refine s_nil ?_
  refine then_n ?_
  refine wp_seq ?_
  obtain ⟨t1, h2, H⟩ := bind_some H
  refine s_region ?_
  refine s_val hF rfl rfl rfl (e_move hF rfl) ?_; intro a hF
  refine s_call hF rfl rfl rfl Try.call48 (impl_fromLetters.calls K l0 u0 (q0.frm hM.frm) t1 h2) ?_; intro a w v hF hf hR
  obtain ⟨v3, rfl, hR⟩ := hR; have hM := hM.fresh hf hR
  refine s_val hF rfl rfl rfl (e_move hF rfl) ?_; intro a hF
  refine s_val hF rfl rfl rfl (e_extract hF rfl rfl) ?_; intro a hF
  refine s_val hF rfl rfl rfl (e_extract hF rfl rfl) ?_; intro a hF
  refine s_val hF rfl rfl rfl (e_assign hF rfl) ?_; intro a hF
  refine s_val hF rfl rfl rfl (e_assign hF rfl) ?_; intro a hF
  refine s_nil ?_
  refine then_n ?_
  refine wp_seq ?_
  refine wp_seq ?_
  refine s_region ?_
  refine s_val hF rfl rfl rfl (e_move hF rfl) ?_; intro a hF
  refine s_val hF rfl rfl rfl (e_not hF rfl) ?_; intro a hF
  refine s_nil ?_
  refine then_n ?_
  rcases ite_cases H with ⟨c4, H⟩ | ⟨c4, H⟩
  ·
    refine s_cond_f hF rfl (congrArg Bool.not c4) ?_
    refine wp_skip ?_
    refine then_n ?_
    refine wp_seq ?_
    obtain ⟨t5, h6, H⟩ := bind_some H
    refine s_region ?_
    refine s_val hF rfl rfl rfl (e_move hF rfl) ?_; intro a hF
    refine s_call hF rfl rfl rfl Try.call67 (impl_orderWays.calls K t1.1 v3 (hM.sl 0 rfl) t5 h6) ?_; intro a w v7 hF hf hR
    have hM := hM.fresh hf hR
    refine s_val hF rfl rfl rfl (e_assign hF rfl) ?_; intro a hF
    refine s_val hF rfl rfl rfl (e_assign hF rfl) ?_; intro a hF
    refine s_nil ?_
    refine then_n ?_
    refine wp_ret ?_
    obtain rfl := some_some H
    refine s_ret [v7, Value.bool true] hF Try.results38 ⟨rfl, rfl, trivial⟩ ?_
    exact ⟨_, rfl, hM.frm, ⟨v7, rfl, hM.give 0 rfl⟩⟩
  ·
    refine s_cond_t hF rfl (congrArg Bool.not (bf c4)) ?_
    refine wp_seq ?_
    refine s_region ?_
    refine s_val hF rfl rfl rfl (e_assign hF rfl) ?_; intro a hF
    refine s_val hF rfl rfl rfl (e_assign hF rfl) ?_; intro a hF
    refine s_nil ?_
    refine then_n ?_
    refine wp_ret ?_
    refine then_r ?_
    obtain rfl := some_some H
    refine s_ret [(Value.slice none 0 0), Value.bool false] hF Try.results38 ⟨rfl, rfl, trivial⟩ ?_
    exact ⟨_, rfl, hM.frm, ⟨(Value.slice none 0 0), rfl, Fresh.nil _ _ _⟩⟩

/-! ### loop.example/g01210/laws.eqIntS: function 17 -/
def laws_eqIntS.l0 (K : Nat) (l0 : (List Int)) (l1 : (List Int)) : Nat → Int → Option (Sum Unit Bool)
  | 0, _ => none
  | k + 1, x11 => if x11 < (l0.length : Int) then (if (0 : Int) ≤ x11 ∧ x11 < (l0.length : Int) then (if (0 : Int) ≤ x11 ∧ x11 < (l1.length : Int) then (if (l0.getD (x11 : Int).toNat (0 : Int)) = (l1.getD (x11 : Int).toNat (0 : Int)) then (laws_eqIntS.l0 K l0 l1 k (wrap64 (x11 + 1))) else (some (Sum.inr false))) else none) else none) else (some (Sum.inl ()))
def laws_eqIntS.f (K : Nat) (l0 : (List Int)) (l1 : (List Int)) : Option Bool := if (l0.length : Int) = (l1.length : Int) then ((laws_eqIntS.l0 K l0 l1 K 0).bind fun o18 => (match o18 with | .inl () => some true | .inr r20 => some r20)) else (some false)
set_option maxRecDepth 100000 in
set_option maxHeartbeats 4000000 in
theorem laws_eqIntS.calls {w0 : World} (K : Nat) (l0 : (List Int)) (u0 : Value) (q0 : SlR cd3 w0 u0 l0) (l1 : (List Int)) (u1 : Value) (q1 : SlR cd3 w0 u1 l1) (r : Bool) (H : laws_eqIntS.f K l0 l1 = some r) : Calls Try.prog 17 [u0, u1].toArray w0 (Post w0 fun w v => v = Value.bool r) := by
  rw [laws_eqIntS.f] at H
  refine s_start Try.func17 rfl Try.ntmps17 rfl ?_
  intro a hF
  have hM := Ms.start w0
  skip
  refine wp_seq ?_
  refine s_region ?_
  refine s_val hF rfl rfl rfl (e_assign hF rfl) ?_; intro a hF
  refine s_nil ?_
  refine then_n ?_
  refine wp_seq ?_
  refine wp_seq ?_
  refine s_region ?_
  refine s_val hF rfl rfl rfl (e_move hF rfl) ?_; intro a hF
  refine s_val hF rfl rfl rfl (e_len hF rfl (q0.frm hM.frm).toF Try.underlying25) ?_; intro a hF
  refine s_val hF rfl rfl rfl (e_move hF rfl) ?_; intro a hF
  refine s_val hF rfl rfl rfl (e_len hF rfl (q1.frm hM.frm).toF Try.underlying25) ?_; intro a hF
  refine s_val hF rfl rfl rfl (e_neq hF rfl rfl) ?_; intro a hF
  refine s_nil ?_
  refine then_n ?_
  rcases ite_cases H with ⟨c1, H⟩ | ⟨c1, H⟩
  ·
    refine s_cond_f hF rfl (congrArg Bool.not (decide_eq_true c1)) ?_
    refine wp_skip ?_
    refine then_n ?_
    refine wp_seq ?_
    refine wp_seq ?_
    refine s_region ?_
    refine s_val hF rfl rfl rfl (e_assign hF rfl) ?_; intro a hF
    refine s_nil ?_
    refine then_n ?_
    refine wp_block ?_
    obtain ⟨o18, h19, H⟩ := bind_some H
    refine wp_mono (Q := fun e a w => (e = Exit.exit 0 ∧ Sum.inl () = o18 ∧ Fr 26 a [] ∧ Ms [] w0 w []) ∨ (e = Exit.ret ∧ ∃ r20 : Bool, Sum.inr r20 = o18 ∧ Fr 26 a [(4, Value.bool r20)] ∧ Ms [] w0 w [])) ?_ ?_
    · refine s_loop (fun kq a w => ∃ x11 : Int, laws_eqIntS.l0 K l0 l1 kq x11 = some o18 ∧ Fr 26 a [(0, u0), (1, u1), (5, Value.int .i64 x11)] ∧ Ms [] w0 w []) K ⟨0, h19, hF.sub _ ⟨rfl, rfl, rfl, trivial⟩, hM.pick [] rfl rfl⟩ ?_ ?_
      · rintro a w ⟨_, H, _⟩; exact none_some H
      · rintro k a w ⟨x11, H, hF, hM⟩; rw [laws_eqIntS.l0] at H
        refine wp_seq ?_
        refine wp_seq ?_
        refine s_region ?_
        refine s_val hF rfl rfl rfl (e_move hF rfl) ?_; intro a hF
        refine s_val hF rfl rfl rfl (e_move hF rfl) ?_; intro a hF
        refine s_val hF rfl rfl rfl (e_len hF rfl (q0.frm hM.frm).toF Try.underlying25) ?_; intro a hF
        refine s_val hF rfl rfl rfl (e_lss hF rfl rfl) ?_; intro a hF
        refine s_nil ?_
        refine then_n ?_
        rcases ite_cases H with ⟨c12, H⟩ | ⟨c12, H⟩
        ·
          refine s_cond_t hF rfl (decide_eq_true c12) ?_
          refine wp_skip ?_
          refine then_n ?_
          refine wp_seq ?_
          refine wp_block ?_
          refine wp_seq ?_
          obtain ⟨c13, H⟩ := ite_some H
          obtain ⟨c14, H⟩ := ite_some H
          refine s_held (fun w => Ms [] w0 w []) #[false, false, false, false, false, false, false, false, false] mixed rfl rfl hM ?_; intro w hf hM; clear hf
          refine h_val 0 #[true, false, false, false, false, false, false, false, false] rfl (by kernel_rfl) hF rfl rfl rfl (fun w hS => e_move hF rfl) (hM.pick [] rfl rfl) ?_; intro a hF
          refine h_val 1 #[true, true, false, false, false, false, false, false, false] rfl (by kernel_rfl) hF rfl rfl rfl (fun w hS => e_move hF rfl) (hM.pick [] rfl rfl) ?_; intro a hF
          have f15 := (q0.frm hM.frm).toF
          refine h_val 2 #[true, true, true, false, false, false, false, false, false] rfl (by kernel_rfl) hF rfl rfl rfl (fun w hS => e_ias cd3 hF rfl rfl f15 Try.underlying25 Try.sizeOf3 c13.1 c13.2) (hM.pick [] rfl rfl) ?_; intro a hF
          refine h_val 3 #[true, true, true, true, false, false, false, false, false] rfl (by kernel_rfl) hF rfl rfl rfl (fun w hS => e_lds (m := x11) hF rfl (q0.frm hS.frm) (getD_some (z := (0 : Int)) c13.1 c13.2) rfl rfl Try.isAgg3) (hM.pick [] rfl rfl) ?_; intro a hF
          refine h_val 4 #[true, true, true, true, true, false, false, false, false] rfl (by kernel_rfl) hF rfl rfl rfl (fun w hS => e_move hF rfl) (hM.pick [] rfl rfl) ?_; intro a hF
          refine h_val 5 #[true, true, true, true, true, true, false, false, false] rfl (by kernel_rfl) hF rfl rfl rfl (fun w hS => e_move hF rfl) (hM.pick [] rfl rfl) ?_; intro a hF
          have f16 := (q1.frm hM.frm).toF
          refine h_val 6 #[true, true, true, true, true, true, true, false, false] rfl (by kernel_rfl) hF rfl rfl rfl (fun w hS => e_ias cd3 hF rfl rfl f16 Try.underlying25 Try.sizeOf3 c14.1 c14.2) (hM.pick [] rfl rfl) ?_; intro a hF
          refine h_val 7 #[true, true, true, true, true, true, true, true, false] rfl (by kernel_rfl) hF rfl rfl rfl (fun w hS => e_lds (m := x11) hF rfl (q1.frm hS.frm) (getD_some (z := (0 : Int)) c14.1 c14.2) rfl rfl Try.isAgg3) (hM.pick [] rfl rfl) ?_; intro a hF
          refine h_val 8 #[true, true, true, true, true, true, true, true, true] rfl (by kernel_rfl) hF rfl rfl rfl (fun w hS => e_neq hF rfl rfl) (hM.pick [] rfl rfl) ?_; intro a hF
          refine h_done rfl ?_
          refine then_n ?_
          rcases ite_cases H with ⟨c17, H⟩ | ⟨c17, H⟩
          ·
            refine s_cond_f hF rfl (congrArg Bool.not (decide_eq_true c17)) ?_
            refine wp_skip ?_
            refine blk_n ?_
            refine then_n ?_
            refine s_region ?_
            refine s_val hF rfl rfl rfl (e_move hF rfl) ?_; intro a hF
            refine s_val hF rfl rfl rfl (e_add hF rfl rfl) ?_; intro a hF
            refine s_val hF rfl rfl rfl (e_assign hF rfl) ?_; intro a hF
            refine s_nil ?_
            refine then_n ?_
            exact ⟨(wrap64 (x11 + 1)), H, hF.sub _ ⟨rfl, rfl, rfl, trivial⟩, hM.pick [] rfl rfl⟩
          ·
            refine s_cond_t hF rfl (congrArg Bool.not (decide_eq_false c17)) ?_
            refine wp_seq ?_
            refine s_region ?_
            refine s_val hF rfl rfl rfl (e_assign hF rfl) ?_; intro a hF
            refine s_nil ?_
            refine then_n ?_
            refine wp_ret ?_
            refine blk_r ?_
            refine then_r ?_
            refine then_r ?_
            exact Or.inr (⟨rfl, false, some_some H, hF.sub _ ⟨rfl, trivial⟩, hM.pick [] rfl rfl⟩)
        ·
          refine s_cond_f hF rfl (decide_eq_false c12) ?_
          refine wp_exit ?_
          refine then_x ?_
          refine then_x ?_
          exact Or.inl (⟨rfl, some_some H, hF.sub _ trivial, hM.pick [] rfl rfl⟩)
    · rintro e a w (⟨rfl, rfl, hF, hM⟩ | ⟨rfl, r20, rfl, hF, hM⟩)
      ·
        dsimp only at H
        refine blk_x ?_
        refine then_n ?_
        refine wp_seq ?_
        refine s_region ?_
        refine s_val hF rfl rfl rfl (e_assign hF rfl) ?_; intro a hF
        refine s_nil ?_
        refine then_n ?_
        refine wp_ret ?_
        obtain rfl := some_some H
        refine s_ret [Value.bool true] hF Try.results17 ⟨rfl, trivial⟩ ?_
        exact ⟨_, rfl, hM.frm, rfl⟩
      ·
        dsimp only at H
        refine blk_r ?_
        refine then_r ?_
        obtain rfl := some_some H
        refine s_ret [Value.bool r20] hF Try.results17 ⟨rfl, trivial⟩ ?_
        exact ⟨_, rfl, hM.frm, rfl⟩
  ·
    refine s_cond_t hF rfl (congrArg Bool.not (decide_eq_false c1)) ?_
    refine wp_seq ?_
    refine s_region ?_
    refine s_val hF rfl rfl rfl (e_assign hF rfl) ?_; intro a hF
    refine s_nil ?_
    refine then_n ?_
    refine wp_ret ?_
    refine then_r ?_
    obtain rfl := some_some H
    refine s_ret [Value.bool false] hF Try.results17 ⟨rfl, trivial⟩ ?_
    exact ⟨_, rfl, hM.frm, rfl⟩

/-! ### loop.example/g01210/laws.markIntS: function 18 -/
def laws_markIntS.l0 (K : Nat) (l0 : (List Int)) : Nat → Int → Int → (List Int) → Option (Int × (List Int))
  | 0, _, _, _ => none
  | k + 1, x10, x11, x12 => if x11 < (x12.length : Int) then (if (0 : Int) ≤ x11 ∧ x11 < (x12.length : Int) then (laws_markIntS.l0 K l0 k (wrap64 (x10 + 1)) (wrap64 (x11 + 1)) (x12.set (x11 : Int).toNat x10)) else none) else (some (x10, x12))
def laws_markIntS.f (K : Nat) (l0 : (List Int)) (a1 : Int) : Option (Int × (List Int)) := (laws_markIntS.l0 K l0 K a1 0 l0).bind fun (x8, x9) => some (x8, x9)
set_option maxRecDepth 100000 in
set_option maxHeartbeats 4000000 in
theorem laws_markIntS.calls {w0 : World} (K : Nat) (l0 : (List Int)) (u0 : Value) (q0 : (rowR cd3 u0 l0).holds w0) (a1 : Int) (r : (Int × (List Int))) (H : laws_markIntS.f K l0 a1 = some r) : Calls Try.prog 18 [u0, Value.int .i64 a1].toArray w0 (fun e w => ∃ v, e = .returned v ∧ Frm u0.ownBlock.toList w0 w ∧ (v = Value.int .i64 r.1) ∧ (rowR cd3 u0 r.2).holds w) := by
  rw [laws_markIntS.f] at H
  refine s_start Try.func18 rfl Try.ntmps18 rfl ?_
  intro a hF
  have hM := Ms.start1 w0 (rowR cd3 u0 l0) q0 (fun b hb => (World.ownsRow.lt q0 b (by simpa [rowR] using hb)).2)
  skip
  refine wp_seq ?_
  refine s_region ?_
  refine s_val hF rfl rfl rfl (e_assign hF rfl) ?_; intro a hF
  refine s_nil ?_
  refine then_n ?_
  refine wp_seq ?_
  refine wp_seq ?_
  refine s_region ?_
  refine s_val hF rfl rfl rfl (e_assign hF rfl) ?_; intro a hF
  refine s_nil ?_
  refine then_n ?_
  refine wp_block ?_
  obtain ⟨o15, h16, H⟩ := bind_some H
  refine wp_mono (Q := fun e a w => (e = Exit.exit 0 ∧ ∃ x8 : Int, ∃ x9 : (List Int), (x8, x9) = o15 ∧ Fr 19 a [(1, Value.int .i64 x8)] ∧ Ms u0.ownBlock.toList w0 w [rowR cd3 u0 x9])) ?_ ?_
  · refine s_loop (fun kq a w => ∃ x10 : Int, ∃ x11 : Int, ∃ x12 : (List Int), laws_markIntS.l0 K l0 kq x10 x11 x12 = some o15 ∧ Fr 19 a [(0, u0), (1, Value.int .i64 x10), (5, Value.int .i64 x11)] ∧ Ms u0.ownBlock.toList w0 w [rowR cd3 u0 x12]) K ⟨a1, 0, l0, h16, hF.sub _ ⟨rfl, rfl, rfl, trivial⟩, hM.pick [0] rfl rfl⟩ ?_ ?_
    · rintro a w ⟨_, _, _, H, _⟩; exact none_some H
    · rintro k a w ⟨x10, x11, x12, H, hF, hM⟩; rw [laws_markIntS.l0] at H
      refine wp_seq ?_
      refine wp_seq ?_
      refine s_region ?_
      refine s_val hF rfl rfl rfl (e_move hF rfl) ?_; intro a hF
      refine s_val hF rfl rfl rfl (e_move hF rfl) ?_; intro a hF
      refine s_val hF rfl rfl rfl (e_len hF rfl (hM.sl 0 rfl).toF Try.underlying25) ?_; intro a hF
      refine s_val hF rfl rfl rfl (e_lss hF rfl rfl) ?_; intro a hF
      refine s_nil ?_
      refine then_n ?_
      rcases ite_cases H with ⟨c13, H⟩ | ⟨c13, H⟩
      ·
        refine s_cond_t hF rfl (decide_eq_true c13) ?_
        refine wp_skip ?_
        refine then_n ?_
        refine wp_seq ?_
        refine wp_block ?_
        refine wp_seq ?_
        obtain ⟨c14, H⟩ := ite_some H
        refine s_region ?_
        refine s_val hF rfl rfl rfl (e_move hF rfl) ?_; intro a hF
        refine s_val hF rfl rfl rfl (e_move hF rfl) ?_; intro a hF
        refine s_val hF rfl rfl rfl (e_move hF rfl) ?_; intro a hF
        refine s_val hF rfl rfl rfl (e_ias cd3 hF rfl rfl (hM.sl 0 rfl).toF Try.underlying25 Try.sizeOf3 c14.1 c14.2) ?_; intro a hF
        refine s_sts (i := 0) x10 hF hM rfl rfl rfl rfl rfl c14.1 c14.2 Try.sizeOf3 ?_; intro a w hF hM
        refine s_nil ?_
        refine then_n ?_
        refine s_region ?_
        refine s_val hF rfl rfl rfl (e_move hF rfl) ?_; intro a hF
        refine s_val hF rfl rfl rfl (e_add hF rfl rfl) ?_; intro a hF
        refine s_val hF rfl rfl rfl (e_assign hF rfl) ?_; intro a hF
        refine s_nil ?_
        refine blk_n ?_
        refine then_n ?_
        refine s_region ?_
        refine s_val hF rfl rfl rfl (e_move hF rfl) ?_; intro a hF
        refine s_val hF rfl rfl rfl (e_add hF rfl rfl) ?_; intro a hF
        refine s_val hF rfl rfl rfl (e_assign hF rfl) ?_; intro a hF
        refine s_nil ?_
        refine then_n ?_
        exact ⟨(wrap64 (x10 + 1)), (wrap64 (x11 + 1)), (x12.set (x11 : Int).toNat x10), H, hF.sub _ ⟨rfl, rfl, rfl, trivial⟩, hM.pick [0] rfl rfl⟩
      ·
        refine s_cond_f hF rfl (decide_eq_false c13) ?_
        refine wp_exit ?_
        refine then_x ?_
        refine then_x ?_
        exact ⟨rfl, x10, x12, some_some H, hF.sub _ ⟨rfl, trivial⟩, hM.pick [0] rfl rfl⟩
  · rintro e a w ⟨rfl, x8, x9, rfl, hF, hM⟩
    skip
    refine blk_x ?_
    refine then_n ?_
    refine wp_seq ?_
    refine s_region ?_
    refine s_val hF rfl rfl rfl (e_move hF rfl) ?_; intro a hF
    refine s_val hF rfl rfl rfl (e_assign hF rfl) ?_; intro a hF
    refine s_nil ?_
    refine then_n ?_
    refine wp_ret ?_
    obtain rfl := some_some H
    refine s_ret [Value.int .i64 x8] hF Try.results18 ⟨rfl, trivial⟩ ?_
    exact ⟨_, rfl, hM.frm, ⟨rfl, hM.get 0 rfl⟩⟩

/-! ### loop.example/g01210/laws.heldIntS: function 19 -/
def laws_heldIntS.l0 (K : Nat) (l0 : (List Int)) : Nat → Int → Int → Option (Sum Int Int)
  | 0, _, _ => none
  | k + 1, x10, x11 => if x11 < (l0.length : Int) then (if (0 : Int) ≤ x11 ∧ x11 < (l0.length : Int) then (if (l0.getD (x11 : Int).toNat (0 : Int)) = x10 then (laws_heldIntS.l0 K l0 k (wrap64 (x10 + 1)) (wrap64 (x11 + 1))) else (some (Sum.inr (-1)))) else none) else (some (Sum.inl x10))
def laws_heldIntS.f (K : Nat) (l0 : (List Int)) (a1 : Int) : Option Int := (laws_heldIntS.l0 K l0 K a1 0).bind fun o15 => (match o15 with | .inl x9 => some x9 | .inr r17 => some r17)
set_option maxRecDepth 100000 in
set_option maxHeartbeats 4000000 in
theorem laws_heldIntS.calls {w0 : World} (K : Nat) (l0 : (List Int)) (u0 : Value) (q0 : SlR cd3 w0 u0 l0) (a1 : Int) (r : Int) (H : laws_heldIntS.f K l0 a1 = some r) : Calls Try.prog 19 [u0, Value.int .i64 a1].toArray w0 (Post w0 fun w v => v = Value.int .i64 r) := by
  rw [laws_heldIntS.f] at H
  refine s_start Try.func19 rfl Try.ntmps19 rfl ?_
  intro a hF
  have hM := Ms.start w0
  skip
  refine wp_seq ?_
  refine s_region ?_
  refine s_val hF rfl rfl rfl (e_assign hF rfl) ?_; intro a hF
  refine s_nil ?_
  refine then_n ?_
  refine wp_seq ?_
  refine wp_seq ?_
  refine s_region ?_
  refine s_val hF rfl rfl rfl (e_assign hF rfl) ?_; intro a hF
  refine s_nil ?_
  refine then_n ?_
  refine wp_block ?_
  obtain ⟨o15, h16, H⟩ := bind_some H
  refine wp_mono (Q := fun e a w => (e = Exit.exit 0 ∧ ∃ x9 : Int, Sum.inl x9 = o15 ∧ Fr 21 a [(1, Value.int .i64 x9)] ∧ Ms [] w0 w []) ∨ (e = Exit.ret ∧ ∃ r17 : Int, Sum.inr r17 = o15 ∧ Fr 21 a [(4, Value.int .i64 r17)] ∧ Ms [] w0 w [])) ?_ ?_
  · refine s_loop (fun kq a w => ∃ x10 : Int, ∃ x11 : Int, laws_heldIntS.l0 K l0 kq x10 x11 = some o15 ∧ Fr 21 a [(0, u0), (1, Value.int .i64 x10), (5, Value.int .i64 x11)] ∧ Ms [] w0 w []) K ⟨a1, 0, h16, hF.sub _ ⟨rfl, rfl, rfl, trivial⟩, hM.pick [] rfl rfl⟩ ?_ ?_
    · rintro a w ⟨_, _, H, _⟩; exact none_some H
    · rintro k a w ⟨x10, x11, H, hF, hM⟩; rw [laws_heldIntS.l0] at H
      refine wp_seq ?_
      refine wp_seq ?_
      refine s_region ?_
      refine s_val hF rfl rfl rfl (e_move hF rfl) ?_; intro a hF
      refine s_val hF rfl rfl rfl (e_move hF rfl) ?_; intro a hF
      refine s_val hF rfl rfl rfl (e_len hF rfl (q0.frm hM.frm).toF Try.underlying25) ?_; intro a hF
      refine s_val hF rfl rfl rfl (e_lss hF rfl rfl) ?_; intro a hF
      refine s_nil ?_
      refine then_n ?_
      rcases ite_cases H with ⟨c12, H⟩ | ⟨c12, H⟩
      ·
        refine s_cond_t hF rfl (decide_eq_true c12) ?_
        refine wp_skip ?_
        refine then_n ?_
        refine wp_seq ?_
        refine wp_block ?_
        refine wp_seq ?_
        refine wp_seq ?_
        obtain ⟨c13, H⟩ := ite_some H
        refine s_region ?_
        refine s_val hF rfl rfl rfl (e_move hF rfl) ?_; intro a hF
        refine s_val hF rfl rfl rfl (e_move hF rfl) ?_; intro a hF
        refine s_val hF rfl rfl rfl (e_ias cd3 hF rfl rfl (q0.frm hM.frm).toF Try.underlying25 Try.sizeOf3 c13.1 c13.2) ?_; intro a hF
        refine s_val hF rfl rfl rfl (e_lds (m := x11) hF rfl (q0.frm hM.frm) (getD_some (z := (0 : Int)) c13.1 c13.2) rfl rfl Try.isAgg3) ?_; intro a hF
        refine s_val hF rfl rfl rfl (e_move hF rfl) ?_; intro a hF
        refine s_val hF rfl rfl rfl (e_neq hF rfl rfl) ?_; intro a hF
        refine s_nil ?_
        refine then_n ?_
        rcases ite_cases H with ⟨c14, H⟩ | ⟨c14, H⟩
        ·
          refine s_cond_f hF rfl (congrArg Bool.not (decide_eq_true c14)) ?_
          refine wp_skip ?_
          refine then_n ?_
          refine s_region ?_
          refine s_val hF rfl rfl rfl (e_move hF rfl) ?_; intro a hF
          refine s_val hF rfl rfl rfl (e_add hF rfl rfl) ?_; intro a hF
          refine s_val hF rfl rfl rfl (e_assign hF rfl) ?_; intro a hF
          refine s_nil ?_
          refine blk_n ?_
          refine then_n ?_
          refine s_region ?_
          refine s_val hF rfl rfl rfl (e_move hF rfl) ?_; intro a hF
          refine s_val hF rfl rfl rfl (e_add hF rfl rfl) ?_; intro a hF
          refine s_val hF rfl rfl rfl (e_assign hF rfl) ?_; intro a hF
          refine s_nil ?_
          refine then_n ?_
          exact ⟨(wrap64 (x10 + 1)), (wrap64 (x11 + 1)), H, hF.sub _ ⟨rfl, rfl, rfl, trivial⟩, hM.pick [] rfl rfl⟩
        ·
          refine s_cond_t hF rfl (congrArg Bool.not (decide_eq_false c14)) ?_
          refine wp_seq ?_
          refine s_region ?_
          refine s_val hF rfl rfl rfl (e_assign hF rfl) ?_; intro a hF
          refine s_nil ?_
          refine then_n ?_
          refine wp_ret ?_
          refine then_r ?_
          refine blk_r ?_
          refine then_r ?_
          refine then_r ?_
          exact Or.inr (⟨rfl, (-1), some_some H, hF.sub _ ⟨rfl, trivial⟩, hM.pick [] rfl rfl⟩)
      ·
        refine s_cond_f hF rfl (decide_eq_false c12) ?_
        refine wp_exit ?_
        refine then_x ?_
        refine then_x ?_
        exact Or.inl (⟨rfl, x10, some_some H, hF.sub _ ⟨rfl, trivial⟩, hM.pick [] rfl rfl⟩)
  · rintro e a w (⟨rfl, x9, rfl, hF, hM⟩ | ⟨rfl, r17, rfl, hF, hM⟩)
    ·
      dsimp only at H
      refine blk_x ?_
      refine then_n ?_
      refine wp_seq ?_
      refine s_region ?_
      refine s_val hF rfl rfl rfl (e_move hF rfl) ?_; intro a hF
      refine s_val hF rfl rfl rfl (e_assign hF rfl) ?_; intro a hF
      refine s_nil ?_
      refine then_n ?_
      refine wp_ret ?_
      obtain rfl := some_some H
      refine s_ret [Value.int .i64 x9] hF Try.results19 ⟨rfl, trivial⟩ ?_
      exact ⟨_, rfl, hM.frm, rfl⟩
    ·
      dsimp only at H
      refine blk_r ?_
      refine then_r ?_
      obtain rfl := some_some H
      refine s_ret [Value.int .i64 r17] hF Try.results19 ⟨rfl, trivial⟩ ?_
      exact ⟨_, rfl, hM.frm, rfl⟩

/-! ### loop.example/g01210/laws.FnExactLettersWays: function 9 -/
def laws_FnExactLettersWays.f (K : Nat) (l0 : (List Int)) : Option Bool := if 1048576 < (l0.length : Int) then (some true) else ((laws_toIntS.f K l0).bind fun t2 => (spec_LettersWays.f K t2).bind fun t5 => (laws_toIntS.f K l0).bind fun t8 => (impl_LettersWays.f K t8).bind fun t11 => (laws_eqIntS.f K t11.1 t5.1).bind fun t14 => if t14 = true then (if (t11.2 == t5.2) = true then ((laws_toIntS.f K l0).bind fun t18 => (laws_eqIntS.f K t8 t18).bind fun t21 => if t21 = true then ((laws_markIntS.f K t8 1).bind fun t24 => if t24.1 < 0 then (some false) else ((laws_eqIntS.f K t11.1 t5.1).bind fun t27 => if t27 = true then ((laws_markIntS.f K t11.1 1).bind fun t30 => (laws_heldIntS.f K t30.2 1).bind fun t32 => if t32 < 0 then (some false) else (if t32 = t30.1 then ((laws_toIntS.f K l0).bind fun t36 => (impl_LettersWays.f K t36).bind fun t39 => (laws_eqIntS.f K t39.1 t5.1).bind fun t42 => if t42 = true then (if (t39.2 == t5.2) = true then ((laws_heldIntS.f K t30.2 1).bind fun t46 => if t46 < 0 then (some false) else (if t46 = t30.1 then (some true) else (some false))) else (some false)) else (some false)) else (some false))) else (some false))) else (some false)) else (some false)) else (some false))
set_option maxRecDepth 100000 in
set_option maxHeartbeats 4000000 in
theorem laws_FnExactLettersWays.calls {w0 : World} (K : Nat) (l0 : (List Int)) (u0 : Value) (q0 : SlR cd3 w0 u0 l0) (r : Bool) (H : laws_FnExactLettersWays.f K l0 = some r) : Calls Try.prog 9 [u0].toArray w0 (Post w0 fun w v => v = Value.bool r) := by
  rw [laws_FnExactLettersWays.f] at H
  refine s_start Try.func9 rfl Try.ntmps9 rfl ?_
  intro a hF
  have hM := Ms.start w0
  skip
  refine wp_seq ?_
  refine s_region ?_
  refine s_val hF rfl rfl rfl (e_assign hF rfl) ?_; intro a hF
  refine s_nil ?_
  refine then_n ?_
  refine wp_seq ?_
  refine wp_seq ?_
  refine s_region ?_
  refine s_val hF rfl rfl rfl (e_move hF rfl) ?_; intro a hF
  refine s_val hF rfl rfl rfl (e_len hF rfl (q0.frm hM.frm).toF Try.underlying25) ?_; intro a hF
  refine s_val hF rfl rfl rfl (e_gtr hF rfl rfl) ?_; intro a hF
  refine s_nil ?_
  refine then_n ?_
  rcases ite_cases H with ⟨c1, H⟩ | ⟨c1, H⟩
  ·
    refine s_cond_t hF rfl (decide_eq_true c1) ?_
    refine wp_seq ?_
    refine s_region ?_
    refine s_val hF rfl rfl rfl (e_assign hF rfl) ?_; intro a hF
    refine s_nil ?_
    refine then_n ?_
    refine wp_ret ?_
    refine then_r ?_
    obtain rfl := some_some H
    refine s_ret [Value.bool true] hF Try.results9 ⟨rfl, trivial⟩ ?_
    exact ⟨_, rfl, hM.frm, rfl⟩
  ·
    refine s_cond_f hF rfl (decide_eq_false c1) ?_
    refine wp_skip ?_
    refine then_n ?_
    refine wp_seq ?_
    obtain ⟨t2, h3, H⟩ := bind_some H
    obtain ⟨t5, h6, H⟩ := bind_some H
    refine s_region ?_
    refine s_val hF rfl rfl rfl (e_move hF rfl) ?_; intro a hF
    refine s_call hF rfl rfl rfl Try.call15 (laws_toIntS.calls K l0 u0 (q0.frm hM.frm) t2 h3) ?_; intro a w v4 hF hf hR
    have hM := hM.fresh hf hR
    refine s_call hF rfl rfl rfl Try.call37 (spec_LettersWays.calls K t2 v4 (hM.sl 0 rfl) t5 h6) ?_; intro a w v hF hf hR
    obtain ⟨v7, rfl, hR⟩ := hR; have hM := hM.fresh hf hR
    refine s_val hF rfl rfl rfl (e_move hF rfl) ?_; intro a hF
    refine s_val hF rfl rfl rfl (e_extract hF rfl rfl) ?_; intro a hF
    refine s_val hF rfl rfl rfl (e_extract hF rfl rfl) ?_; intro a hF
    refine s_val hF rfl rfl rfl (e_assign hF rfl) ?_; intro a hF
    refine s_val hF rfl rfl rfl (e_assign hF rfl) ?_; intro a hF
    refine s_nil ?_
    refine then_n ?_
    refine wp_seq ?_
    obtain ⟨t8, h9, H⟩ := bind_some H
    refine s_region ?_
    refine s_val hF rfl rfl rfl (e_move hF rfl) ?_; intro a hF
    refine s_call hF rfl rfl rfl Try.call15 (laws_toIntS.calls K l0 u0 (q0.frm hM.frm) t8 h9) ?_; intro a w v10 hF hf hR
    have hM := hM.fresh hf hR
    refine s_val hF rfl rfl rfl (e_assign hF rfl) ?_; intro a hF
    refine s_nil ?_
    refine then_n ?_
    refine wp_seq ?_
    obtain ⟨t11, h12, H⟩ := bind_some H
    refine s_region ?_
    refine s_val hF rfl rfl rfl (e_move hF rfl) ?_; intro a hF
    refine s_call hF rfl rfl rfl Try.call38 (impl_LettersWays.calls K t8 v10 (hM.sl 0 rfl) t11 h12) ?_; intro a w v hF hf hR
    obtain ⟨v13, rfl, hR⟩ := hR; have hM := hM.fresh hf hR
    refine s_val hF rfl rfl rfl (e_move hF rfl) ?_; intro a hF
    refine s_val hF rfl rfl rfl (e_extract hF rfl rfl) ?_; intro a hF
    refine s_val hF rfl rfl rfl (e_extract hF rfl rfl) ?_; intro a hF
    refine s_val hF rfl rfl rfl (e_assign hF rfl) ?_; intro a hF
    refine s_val hF rfl rfl rfl (e_assign hF rfl) ?_; intro a hF
    refine s_nil ?_
    refine then_n ?_
    refine wp_seq ?_
    refine wp_seq ?_
    obtain ⟨t14, h15, H⟩ := bind_some H
    rcases ite_cases H with ⟨c16, H⟩ | ⟨c16, H⟩
    ·
      refine s_region ?_
      refine s_val hF rfl rfl rfl (e_move hF rfl) ?_; intro a hF
      refine s_val hF rfl rfl rfl (e_move hF rfl) ?_; intro a hF
      refine s_call hF rfl rfl rfl Try.call17 (laws_eqIntS.calls K t11.1 v13 (hM.sl 0 rfl) t5.1 v7 (hM.sl 2 rfl) t14 h15) ?_; intro a w v hF hf hR
      subst hR; have hM := hM.grow hf
      refine s_val hF rfl rfl rfl (e_not hF rfl) ?_; intro a hF
      refine s_val hF rfl rfl rfl (e_move hF rfl) ?_; intro a hF
      have hF := hF.topb (congrArg Bool.not c16)
      refine s_val hF rfl rfl rfl (e_move hF rfl) ?_; intro a hF
      refine s_val hF rfl rfl rfl (e_move hF rfl) ?_; intro a hF
      refine s_val hF rfl rfl rfl (e_bneq hF rfl rfl Try.underlying4) ?_; intro a hF
      refine s_val hF rfl rfl rfl (e_pick_f hF rfl rfl) ?_; intro a hF
      refine s_nil ?_
      refine then_n ?_
      rcases ite_cases H with ⟨c17, H⟩ | ⟨c17, H⟩
      ·
        refine s_cond_f hF rfl (congrArg Bool.not c17) ?_
        refine wp_skip ?_
        refine then_n ?_
        refine wp_seq ?_
        refine wp_seq ?_
        obtain ⟨t18, h19, H⟩ := bind_some H
        obtain ⟨t21, h22, H⟩ := bind_some H
        refine s_region ?_
        refine s_val hF rfl rfl rfl (e_move hF rfl) ?_; intro a hF
        refine s_val hF rfl rfl rfl (e_move hF rfl) ?_; intro a hF
        refine s_call hF rfl rfl rfl Try.call15 (laws_toIntS.calls K l0 u0 (q0.frm hM.frm) t18 h19) ?_; intro a w v20 hF hf hR
        have hM := hM.fresh hf hR
        refine s_call hF rfl rfl rfl Try.call17 (laws_eqIntS.calls K t8 v10 (hM.sl 2 rfl) t18 v20 (hM.sl 0 rfl) t21 h22) ?_; intro a w v hF hf hR
        subst hR; have hM := hM.grow hf
        refine s_val hF rfl rfl rfl (e_not hF rfl) ?_; intro a hF
        refine s_nil ?_
        refine then_n ?_
        rcases ite_cases H with ⟨c23, H⟩ | ⟨c23, H⟩
        ·
          refine s_cond_f hF rfl (congrArg Bool.not c23) ?_
          refine wp_skip ?_
          refine then_n ?_
          refine wp_seq ?_
          refine s_region ?_
          refine s_val hF rfl rfl rfl (e_assign hF rfl) ?_; intro a hF
          refine s_nil ?_
          refine then_n ?_
          refine wp_seq ?_
          obtain ⟨t24, h25, H⟩ := bind_some H
          refine s_region ?_
          refine s_val hF rfl rfl rfl (e_move hF rfl) ?_; intro a hF
          refine s_val hF rfl rfl rfl (e_move hF rfl) ?_; intro a hF
          refine s_callx hF rfl rfl rfl Try.call18 (laws_markIntS.calls K t8 v10 (hM.get 2 rfl) 1 t24 h25) ?_; intro a w v hF ⟨hf, hR⟩
          obtain ⟨hR, hO⟩ := hR; subst hR; have hM := hM.turn (i := 2) (R' := rowR cd3 v10 t24.2) rfl hf hO (fun _ hb => .inl hb)
          refine s_val hF rfl rfl rfl (e_assign hF rfl) ?_; intro a hF
          refine s_nil ?_
          refine then_n ?_
          refine wp_seq ?_
          refine wp_seq ?_
          rcases ite_cases H with ⟨c26, H⟩ | ⟨c26, H⟩
          ·
            refine s_region ?_
            refine s_val hF rfl rfl rfl (e_move hF rfl) ?_; intro a hF
            refine s_val hF rfl rfl rfl (e_lss hF rfl rfl) ?_; intro a hF
            refine s_val hF rfl rfl rfl (e_move hF rfl) ?_; intro a hF
            have hF := hF.topb (decide_eq_true c26)
            refine s_skip hF rfl rfl rfl ?_; intro a hF
            refine s_skip hF rfl rfl rfl ?_; intro a hF
            refine s_skip hF rfl rfl rfl ?_; intro a hF
            refine s_skip hF rfl rfl rfl ?_; intro a hF
            refine s_val hF rfl rfl rfl (e_pick_t hF rfl rfl) ?_; intro a hF
            refine s_val hF rfl rfl rfl (e_move hF rfl) ?_; intro a hF
            refine s_skip hF rfl rfl rfl ?_; intro a hF
            refine s_skip hF rfl rfl rfl ?_; intro a hF
            refine s_skip hF rfl rfl rfl ?_; intro a hF
            refine s_val hF rfl rfl rfl (e_pick_t hF rfl rfl) ?_; intro a hF
            refine s_nil ?_
            refine then_n ?_
            refine s_cond_t hF rfl rfl ?_
            refine wp_seq ?_
            refine s_region ?_
            refine s_val hF rfl rfl rfl (e_assign hF rfl) ?_; intro a hF
            refine s_nil ?_
            refine then_n ?_
            refine wp_ret ?_
            refine then_r ?_
            obtain rfl := some_some H
            refine s_ret [Value.bool false] hF Try.results9 ⟨rfl, trivial⟩ ?_
            exact ⟨_, rfl, hM.frm, rfl⟩
          ·
            obtain ⟨t27, h28, H⟩ := bind_some H
            rcases ite_cases H with ⟨c29, H⟩ | ⟨c29, H⟩
            ·
              refine s_region ?_
              refine s_val hF rfl rfl rfl (e_move hF rfl) ?_; intro a hF
              refine s_val hF rfl rfl rfl (e_lss hF rfl rfl) ?_; intro a hF
              refine s_val hF rfl rfl rfl (e_move hF rfl) ?_; intro a hF
              have hF := hF.topb (decide_eq_false c26)
              refine s_val hF rfl rfl rfl (e_move hF rfl) ?_; intro a hF
              refine s_val hF rfl rfl rfl (e_move hF rfl) ?_; intro a hF
              refine s_call hF rfl rfl rfl Try.call17 (laws_eqIntS.calls K t11.1 v13 (hM.sl 1 rfl) t5.1 v7 (hM.sl 3 rfl) t27 h28) ?_; intro a w v hF hf hR
              subst hR; have hM := hM.grow hf
              refine s_val hF rfl rfl rfl (e_not hF rfl) ?_; intro a hF
              refine s_val hF rfl rfl rfl (e_pick_f hF rfl rfl) ?_; intro a hF
              refine s_val hF rfl rfl rfl (e_move hF rfl) ?_; intro a hF
              have hF := hF.topb (congrArg Bool.not c29)
              refine s_val hF rfl rfl rfl (e_move hF rfl) ?_; intro a hF
              refine s_val hF rfl rfl rfl (e_move hF rfl) ?_; intro a hF
              refine s_val hF rfl rfl rfl (e_bneq hF rfl rfl Try.underlying4) ?_; intro a hF
              refine s_val hF rfl rfl rfl (e_pick_f hF rfl rfl) ?_; intro a hF
              refine s_nil ?_
              refine then_n ?_
              refine s_cond_f hF rfl (congrArg Bool.not c17) ?_
              refine wp_skip ?_
              refine then_n ?_
              refine wp_seq ?_
              refine s_region ?_
              refine s_val hF rfl rfl rfl (e_assign hF rfl) ?_; intro a hF
              refine s_nil ?_
              refine then_n ?_
              refine wp_seq ?_
              obtain ⟨t30, h31, H⟩ := bind_some H
              refine s_region ?_
              refine s_val hF rfl rfl rfl (e_move hF rfl) ?_; intro a hF
              refine s_val hF rfl rfl rfl (e_move hF rfl) ?_; intro a hF
              refine s_callx hF rfl rfl rfl Try.call18 (laws_markIntS.calls K t11.1 v13 (hM.get 1 rfl) 1 t30 h31) ?_; intro a w v hF ⟨hf, hR⟩
              obtain ⟨hR, hO⟩ := hR; subst hR; have hM := hM.turn (i := 1) (R' := rowR cd3 v13 t30.2) rfl hf hO (fun _ hb => .inl hb)
              refine s_val hF rfl rfl rfl (e_assign hF rfl) ?_; intro a hF
              refine s_nil ?_
              refine then_n ?_
              refine wp_seq ?_
              refine s_region ?_
              refine s_val hF rfl rfl rfl (e_assign hF rfl) ?_; intro a hF
              refine s_nil ?_
              refine then_n ?_
              refine wp_seq ?_
              obtain ⟨t32, h33, H⟩ := bind_some H
              refine s_region ?_
              refine s_val hF rfl rfl rfl (e_move hF rfl) ?_; intro a hF
              refine s_val hF rfl rfl rfl (e_move hF rfl) ?_; intro a hF
              refine s_call hF rfl rfl rfl Try.call19 (laws_heldIntS.calls K t30.2 v13 (hM.sl 1 rfl) 1 t32 h33) ?_; intro a w v hF hf hR
              subst hR; have hM := hM.grow hf
              refine s_val hF rfl rfl rfl (e_assign hF rfl) ?_; intro a hF
              refine s_nil ?_
              refine then_n ?_
              refine wp_seq ?_
              refine wp_seq ?_
              refine s_region ?_
              refine s_val hF rfl rfl rfl (e_move hF rfl) ?_; intro a hF
              refine s_val hF rfl rfl rfl (e_lss hF rfl rfl) ?_; intro a hF
              refine s_nil ?_
              refine then_n ?_
              rcases ite_cases H with ⟨c34, H⟩ | ⟨c34, H⟩
              ·
                refine s_cond_t hF rfl (decide_eq_true c34) ?_
                refine wp_seq ?_
                refine s_region ?_
                refine s_val hF rfl rfl rfl (e_assign hF rfl) ?_; intro a hF
                refine s_nil ?_
                refine then_n ?_
                refine wp_ret ?_
                refine then_r ?_
                obtain rfl := some_some H
                refine s_ret [Value.bool false] hF Try.results9 ⟨rfl, trivial⟩ ?_
                exact ⟨_, rfl, hM.frm, rfl⟩
              ·
                refine s_cond_f hF rfl (decide_eq_false c34) ?_
                refine wp_skip ?_
                refine then_n ?_
                refine wp_seq ?_
                refine wp_seq ?_
                refine s_region ?_
                refine s_val hF rfl rfl rfl (e_move hF rfl) ?_; intro a hF
                refine s_val hF rfl rfl rfl (e_move hF rfl) ?_; intro a hF
                refine s_val hF rfl rfl rfl (e_neq hF rfl rfl) ?_; intro a hF
                refine s_nil ?_
                refine then_n ?_
                rcases ite_cases H with ⟨c35, H⟩ | ⟨c35, H⟩
                ·
                  refine s_cond_f hF rfl (congrArg Bool.not (decide_eq_true c35)) ?_
                  refine wp_skip ?_
                  refine then_n ?_
                  refine wp_seq ?_
                  obtain ⟨t36, h37, H⟩ := bind_some H
                  obtain ⟨t39, h40, H⟩ := bind_some H
                  refine s_region ?_
                  refine s_val hF rfl rfl rfl (e_move hF rfl) ?_; intro a hF
                  refine s_call hF rfl rfl rfl Try.call15 (laws_toIntS.calls K l0 u0 (q0.frm hM.frm) t36 h37) ?_; intro a w v38 hF hf hR
                  have hM := hM.fresh hf hR
                  refine s_call hF rfl rfl rfl Try.call38 (impl_LettersWays.calls K t36 v38 (hM.sl 0 rfl) t39 h40) ?_; intro a w v hF hf hR
                  obtain ⟨v41, rfl, hR⟩ := hR; have hM := hM.fresh hf hR
                  refine s_val hF rfl rfl rfl (e_move hF rfl) ?_; intro a hF
                  refine s_val hF rfl rfl rfl (e_extract hF rfl rfl) ?_; intro a hF
                  refine s_val hF rfl rfl rfl (e_extract hF rfl rfl) ?_; intro a hF
                  refine s_val hF rfl rfl rfl (e_assign hF rfl) ?_; intro a hF
                  refine s_val hF rfl rfl rfl (e_assign hF rfl) ?_; intro a hF
                  refine s_nil ?_
                  refine then_n ?_
                  refine wp_seq ?_
                  refine wp_seq ?_
                  obtain ⟨t42, h43, H⟩ := bind_some H
                  rcases ite_cases H with ⟨c44, H⟩ | ⟨c44, H⟩
                  ·
                    refine s_region ?_
                    refine s_val hF rfl rfl rfl (e_move hF rfl) ?_; intro a hF
                    refine s_val hF rfl rfl rfl (e_move hF rfl) ?_; intro a hF
                    refine s_call hF rfl rfl rfl Try.call17 (laws_eqIntS.calls K t39.1 v41 (hM.sl 0 rfl) t5.1 v7 (hM.sl 5 rfl) t42 h43) ?_; intro a w v hF hf hR
                    subst hR; have hM := hM.grow hf
                    refine s_val hF rfl rfl rfl (e_not hF rfl) ?_; intro a hF
                    refine s_val hF rfl rfl rfl (e_move hF rfl) ?_; intro a hF
                    have hF := hF.topb (congrArg Bool.not c44)
                    refine s_val hF rfl rfl rfl (e_move hF rfl) ?_; intro a hF
                    refine s_val hF rfl rfl rfl (e_move hF rfl) ?_; intro a hF
                    refine s_val hF rfl rfl rfl (e_bneq hF rfl rfl Try.underlying4) ?_; intro a hF
                    refine s_val hF rfl rfl rfl (e_pick_f hF rfl rfl) ?_; intro a hF
                    refine s_nil ?_
                    refine then_n ?_
                    rcases ite_cases H with ⟨c45, H⟩ | ⟨c45, H⟩
                    ·
                      refine s_cond_f hF rfl (congrArg Bool.not c45) ?_
                      refine wp_skip ?_
                      refine then_n ?_
                      refine wp_seq ?_
                      refine s_region ?_
                      refine s_val hF rfl rfl rfl (e_assign hF rfl) ?_; intro a hF
                      refine s_nil ?_
                      refine then_n ?_
                      refine wp_seq ?_
                      obtain ⟨t46, h47, H⟩ := bind_some H
                      refine s_region ?_
                      refine s_val hF rfl rfl rfl (e_move hF rfl) ?_; intro a hF
                      refine s_val hF rfl rfl rfl (e_move hF rfl) ?_; intro a hF
                      refine s_call hF rfl rfl rfl Try.call19 (laws_heldIntS.calls K t30.2 v13 (hM.sl 3 rfl) 1 t46 h47) ?_; intro a w v hF hf hR
                      subst hR; have hM := hM.grow hf
                      refine s_val hF rfl rfl rfl (e_assign hF rfl) ?_; intro a hF
                      refine s_nil ?_
                      refine then_n ?_
                      refine wp_seq ?_
                      refine wp_seq ?_
                      refine s_region ?_
                      refine s_val hF rfl rfl rfl (e_move hF rfl) ?_; intro a hF
                      refine s_val hF rfl rfl rfl (e_lss hF rfl rfl) ?_; intro a hF
                      refine s_nil ?_
                      refine then_n ?_
                      rcases ite_cases H with ⟨c48, H⟩ | ⟨c48, H⟩
                      ·
                        refine s_cond_t hF rfl (decide_eq_true c48) ?_
                        refine wp_seq ?_
                        refine s_region ?_
                        refine s_val hF rfl rfl rfl (e_assign hF rfl) ?_; intro a hF
                        refine s_nil ?_
                        refine then_n ?_
                        refine wp_ret ?_
                        refine then_r ?_
                        obtain rfl := some_some H
                        refine s_ret [Value.bool false] hF Try.results9 ⟨rfl, trivial⟩ ?_
                        exact ⟨_, rfl, hM.frm, rfl⟩
                      ·
                        refine s_cond_f hF rfl (decide_eq_false c48) ?_
                        refine wp_skip ?_
                        refine then_n ?_
                        refine wp_seq ?_
                        refine wp_seq ?_
                        refine s_region ?_
                        refine s_val hF rfl rfl rfl (e_move hF rfl) ?_; intro a hF
                        refine s_val hF rfl rfl rfl (e_move hF rfl) ?_; intro a hF
                        refine s_val hF rfl rfl rfl (e_neq hF rfl rfl) ?_; intro a hF
                        refine s_nil ?_
                        refine then_n ?_
                        rcases ite_cases H with ⟨c49, H⟩ | ⟨c49, H⟩
                        ·
                          refine s_cond_f hF rfl (congrArg Bool.not (decide_eq_true c49)) ?_
                          refine wp_skip ?_
                          refine then_n ?_
                          refine wp_seq ?_
                          refine s_region ?_
                          refine s_val hF rfl rfl rfl (e_assign hF rfl) ?_; intro a hF
                          refine s_nil ?_
                          refine then_n ?_
                          refine wp_ret ?_
                          obtain rfl := some_some H
                          refine s_ret [Value.bool true] hF Try.results9 ⟨rfl, trivial⟩ ?_
                          exact ⟨_, rfl, hM.frm, rfl⟩
                        ·
                          refine s_cond_t hF rfl (congrArg Bool.not (decide_eq_false c49)) ?_
                          refine wp_seq ?_
                          refine s_region ?_
                          refine s_val hF rfl rfl rfl (e_assign hF rfl) ?_; intro a hF
                          refine s_nil ?_
                          refine then_n ?_
                          refine wp_ret ?_
                          refine then_r ?_
                          obtain rfl := some_some H
                          refine s_ret [Value.bool false] hF Try.results9 ⟨rfl, trivial⟩ ?_
                          exact ⟨_, rfl, hM.frm, rfl⟩
                    ·
                      refine s_cond_t hF rfl (congrArg Bool.not (bf c45)) ?_
                      refine wp_seq ?_
                      refine s_region ?_
                      refine s_val hF rfl rfl rfl (e_assign hF rfl) ?_; intro a hF
                      refine s_nil ?_
                      refine then_n ?_
                      refine wp_ret ?_
                      refine then_r ?_
                      obtain rfl := some_some H
                      refine s_ret [Value.bool false] hF Try.results9 ⟨rfl, trivial⟩ ?_
                      exact ⟨_, rfl, hM.frm, rfl⟩
                  ·
                    refine s_region ?_
                    refine s_val hF rfl rfl rfl (e_move hF rfl) ?_; intro a hF
                    refine s_val hF rfl rfl rfl (e_move hF rfl) ?_; intro a hF
                    refine s_call hF rfl rfl rfl Try.call17 (laws_eqIntS.calls K t39.1 v41 (hM.sl 0 rfl) t5.1 v7 (hM.sl 5 rfl) t42 h43) ?_; intro a w v hF hf hR
                    subst hR; have hM := hM.grow hf
                    refine s_val hF rfl rfl rfl (e_not hF rfl) ?_; intro a hF
                    refine s_val hF rfl rfl rfl (e_move hF rfl) ?_; intro a hF
                    have hF := hF.topb (congrArg Bool.not (bf c44))
                    refine s_skip hF rfl rfl rfl ?_; intro a hF
                    refine s_skip hF rfl rfl rfl ?_; intro a hF
                    refine s_skip hF rfl rfl rfl ?_; intro a hF
                    refine s_val hF rfl rfl rfl (e_pick_t hF rfl rfl) ?_; intro a hF
                    refine s_nil ?_
                    refine then_n ?_
                    refine s_cond_t hF rfl rfl ?_
                    refine wp_seq ?_
                    refine s_region ?_
                    refine s_val hF rfl rfl rfl (e_assign hF rfl) ?_; intro a hF
                    refine s_nil ?_
                    refine then_n ?_
                    refine wp_ret ?_
                    refine then_r ?_
                    obtain rfl := some_some H
                    refine s_ret [Value.bool false] hF Try.results9 ⟨rfl, trivial⟩ ?_
                    exact ⟨_, rfl, hM.frm, rfl⟩
                ·
                  refine s_cond_t hF rfl (congrArg Bool.not (decide_eq_false c35)) ?_
                  refine wp_seq ?_
                  refine s_region ?_
                  refine s_val hF rfl rfl rfl (e_assign hF rfl) ?_; intro a hF
                  refine s_nil ?_
                  refine then_n ?_
                  refine wp_ret ?_
                  refine then_r ?_
                  obtain rfl := some_some H
                  refine s_ret [Value.bool false] hF Try.results9 ⟨rfl, trivial⟩ ?_
                  exact ⟨_, rfl, hM.frm, rfl⟩
            ·
              refine s_region ?_
              refine s_val hF rfl rfl rfl (e_move hF rfl) ?_; intro a hF
              refine s_val hF rfl rfl rfl (e_lss hF rfl rfl) ?_; intro a hF
              refine s_val hF rfl rfl rfl (e_move hF rfl) ?_; intro a hF
              have hF := hF.topb (decide_eq_false c26)
              refine s_val hF rfl rfl rfl (e_move hF rfl) ?_; intro a hF
              refine s_val hF rfl rfl rfl (e_move hF rfl) ?_; intro a hF
              refine s_call hF rfl rfl rfl Try.call17 (laws_eqIntS.calls K t11.1 v13 (hM.sl 1 rfl) t5.1 v7 (hM.sl 3 rfl) t27 h28) ?_; intro a w v hF hf hR
              subst hR; have hM := hM.grow hf
              refine s_val hF rfl rfl rfl (e_not hF rfl) ?_; intro a hF
              refine s_val hF rfl rfl rfl (e_pick_f hF rfl rfl) ?_; intro a hF
              refine s_val hF rfl rfl rfl (e_move hF rfl) ?_; intro a hF
              have hF := hF.topb (congrArg Bool.not (bf c29))
              refine s_skip hF rfl rfl rfl ?_; intro a hF
              refine s_skip hF rfl rfl rfl ?_; intro a hF
              refine s_skip hF rfl rfl rfl ?_; intro a hF
              refine s_val hF rfl rfl rfl (e_pick_t hF rfl rfl) ?_; intro a hF
              refine s_nil ?_
              refine then_n ?_
              refine s_cond_t hF rfl rfl ?_
              refine wp_seq ?_
              refine s_region ?_
              refine s_val hF rfl rfl rfl (e_assign hF rfl) ?_; intro a hF
              refine s_nil ?_
              refine then_n ?_
              refine wp_ret ?_
              refine then_r ?_
              obtain rfl := some_some H
              refine s_ret [Value.bool false] hF Try.results9 ⟨rfl, trivial⟩ ?_
              exact ⟨_, rfl, hM.frm, rfl⟩
        ·
          refine s_cond_t hF rfl (congrArg Bool.not (bf c23)) ?_
          refine wp_seq ?_
          refine s_region ?_
          refine s_val hF rfl rfl rfl (e_assign hF rfl) ?_; intro a hF
          refine s_nil ?_
          refine then_n ?_
          refine wp_ret ?_
          refine then_r ?_
          obtain rfl := some_some H
          refine s_ret [Value.bool false] hF Try.results9 ⟨rfl, trivial⟩ ?_
          exact ⟨_, rfl, hM.frm, rfl⟩
      ·
        refine s_cond_t hF rfl (congrArg Bool.not (bf c17)) ?_
        refine wp_seq ?_
        refine s_region ?_
        refine s_val hF rfl rfl rfl (e_assign hF rfl) ?_; intro a hF
        refine s_nil ?_
        refine then_n ?_
        refine wp_ret ?_
        refine then_r ?_
        obtain rfl := some_some H
        refine s_ret [Value.bool false] hF Try.results9 ⟨rfl, trivial⟩ ?_
        exact ⟨_, rfl, hM.frm, rfl⟩
    ·
      refine s_region ?_
      refine s_val hF rfl rfl rfl (e_move hF rfl) ?_; intro a hF
      refine s_val hF rfl rfl rfl (e_move hF rfl) ?_; intro a hF
      refine s_call hF rfl rfl rfl Try.call17 (laws_eqIntS.calls K t11.1 v13 (hM.sl 0 rfl) t5.1 v7 (hM.sl 2 rfl) t14 h15) ?_; intro a w v hF hf hR
      subst hR; have hM := hM.grow hf
      refine s_val hF rfl rfl rfl (e_not hF rfl) ?_; intro a hF
      refine s_val hF rfl rfl rfl (e_move hF rfl) ?_; intro a hF
      have hF := hF.topb (congrArg Bool.not (bf c16))
      refine s_skip hF rfl rfl rfl ?_; intro a hF
      refine s_skip hF rfl rfl rfl ?_; intro a hF
      refine s_skip hF rfl rfl rfl ?_; intro a hF
      refine s_val hF rfl rfl rfl (e_pick_t hF rfl rfl) ?_; intro a hF
      refine s_nil ?_
      refine then_n ?_
      refine s_cond_t hF rfl rfl ?_
      refine wp_seq ?_
      refine s_region ?_
      refine s_val hF rfl rfl rfl (e_assign hF rfl) ?_; intro a hF
      refine s_nil ?_
      refine then_n ?_
      refine wp_ret ?_
      refine then_r ?_
      obtain rfl := some_some H
      refine s_ret [Value.bool false] hF Try.results9 ⟨rfl, trivial⟩ ?_
      exact ⟨_, rfl, hM.frm, rfl⟩

/-! ### loop.example/g01210/impl.FromLetters: function 26 -/
def impl_FromLetters.f (K : Nat) (l0 : (List Int)) : Option ((List (Ar 6)) × Bool) := (impl_fromLetters.f K l0).bind fun t1 => some (t1.1, t1.2)
set_option maxRecDepth 100000 in
set_option maxHeartbeats 4000000 in
theorem impl_FromLetters.calls {w0 : World} (K : Nat) (l0 : (List Int)) (u0 : Value) (q0 : SlR cd3 w0 u0 l0) (r : ((List (Ar 6)) × Bool)) (H : impl_FromLetters.f K l0 = some r) : Calls Try.prog 26 [u0].toArray w0 (Post w0 fun w v => ∃ v0 : Value, v = Value.tuple #[v0, Value.bool r.2] ∧ Fresh cd62 w0.heap.size w v0 r.1) := by
  rw [impl_FromLetters.f] at H
  refine s_start Try.func26 rfl Try.ntmps26 rfl ?_
  intro a hF
  have hM := Ms.start w0
  skip
  refine wp_seq ?_
  refine s_region ?_
  refine s_val hF rfl rfl rfl (e_assign hF rfl) ?_; intro a hF
  refine s_val hF rfl rfl rfl (e_assign hF rfl) ?_; intro a hF
  refine s_nil ?_
  refine then_n ?_
  refine wp_seq ?_
  obtain ⟨t1, h2, H⟩ := bind_some H
  refine s_region ?_
  refine s_val hF rfl rfl rfl (e_move hF rfl) ?_; intro a hF
  refine s_call hF rfl rfl rfl Try.call48 (impl_fromLetters.calls K l0 u0 (q0.frm hM.frm) t1 h2) ?_; intro a w v hF hf hR
  obtain ⟨v3, rfl, hR⟩ := hR; have hM := hM.fresh hf hR
  refine s_val hF rfl rfl rfl (e_extract hF rfl rfl) ?_; intro a hF
  refine s_val hF rfl rfl rfl (e_extract hF rfl rfl) ?_; intro a hF
  refine s_val hF rfl rfl rfl (e_assign hF rfl) ?_; intro a hF
  refine s_val hF rfl rfl rfl (e_assign hF rfl) ?_; intro a hF
  refine s_nil ?_
  refine then_n ?_
  refine wp_ret ?_
  obtain rfl := some_some H
  refine s_ret [v3, Value.bool t1.2] hF Try.results26 ⟨rfl, rfl, trivial⟩ ?_
  exact ⟨_, rfl, hM.frm, ⟨v3, rfl, hM.give 0 rfl⟩⟩

/-! ### loop.example/g01210/spec.FromLetters: function 25 -/
def spec_FromLetters.f (K : Nat) (l0 : (List Int)) : Option ((List (Ar 6)) × Bool) := (spec_l10Letters.f K l0).bind fun t1 => if t1 = true then ((spec_l10Pool.f K l0).bind fun t4 => some (t4, true)) else (some (([] : List (Ar 6)), false))
set_option maxRecDepth 100000 in
set_option maxHeartbeats 4000000 in
theorem spec_FromLetters.calls {w0 : World} (K : Nat) (l0 : (List Int)) (u0 : Value) (q0 : SlR cd3 w0 u0 l0) (r : ((List (Ar 6)) × Bool)) (H : spec_FromLetters.f K l0 = some r) : Calls Try.prog 25 [u0].toArray w0 (Post w0 fun w v => ∃ v0 : Value, v = Value.tuple #[v0, Value.bool r.2] ∧ Fresh cd62 w0.heap.size w v0 r.1) := by
  rw [spec_FromLetters.f] at H
  refine s_start Try.func25 rfl Try.ntmps25 rfl ?_
  intro a hF
  have hM := Ms.start w0
  skip
  refine wp_seq ?_
  refine s_region ?_
  refine s_val hF rfl rfl rfl (e_assign hF rfl) ?_; intro a hF
  refine s_val hF rfl rfl rfl (e_assign hF rfl) ?_; intro a hF
  refine s_nil ?_
  refine then_n ?_
  refine wp_seq ?_
  refine wp_seq ?_
  obtain ⟨t1, h2, H⟩ := bind_some H
  refine s_region ?_
  refine s_val hF rfl rfl rfl (e_move hF rfl) ?_; intro a hF
  refine s_call hF rfl rfl rfl Try.call47 (spec_l10Letters.calls K l0 u0 (q0.frm hM.frm) t1 h2) ?_; intro a w v hF hf hR
  subst hR; have hM := hM.grow hf
  refine s_val hF rfl rfl rfl (e_not hF rfl) ?_; intro a hF
  refine s_nil ?_
  refine then_n ?_
  rcases ite_cases H with ⟨c3, H⟩ | ⟨c3, H⟩
  ·
    refine s_cond_f hF rfl (congrArg Bool.not c3) ?_
    refine wp_skip ?_
    refine then_n ?_
    refine wp_seq ?_
    obtain ⟨t4, h5, H⟩ := bind_some H
    refine s_region ?_
    refine s_val hF rfl rfl rfl (e_move hF rfl) ?_; intro a hF
    refine s_call hF rfl rfl rfl Try.call53 (spec_l10Pool.calls K l0 u0 (q0.frm hM.frm) t4 h5) ?_; intro a w v6 hF hf hR
    have hM := hM.fresh hf hR
    refine s_val hF rfl rfl rfl (e_assign hF rfl) ?_; intro a hF
    refine s_val hF rfl rfl rfl (e_assign hF rfl) ?_; intro a hF
    refine s_nil ?_
    refine then_n ?_
    refine wp_ret ?_
    obtain rfl := some_some H
    refine s_ret [v6, Value.bool true] hF Try.results25 ⟨rfl, rfl, trivial⟩ ?_
    exact ⟨_, rfl, hM.frm, ⟨v6, rfl, hM.give 0 rfl⟩⟩
  ·
    refine s_cond_t hF rfl (congrArg Bool.not (bf c3)) ?_
    refine wp_seq ?_
    refine s_region ?_
    refine s_bsl (C := cd62) ([] : List (Ar 6)) cdok62 hF hM rfl rfl rfl rfl Try.underlying37 rfl ?_; intro a w v7 hF hM
    refine s_val hF rfl rfl rfl (e_assign hF rfl) ?_; intro a hF
    refine s_val hF rfl rfl rfl (e_assign hF rfl) ?_; intro a hF
    refine s_nil ?_
    refine then_n ?_
    refine wp_ret ?_
    refine then_r ?_
    obtain rfl := some_some H
    refine s_ret [v7, Value.bool false] hF Try.results25 ⟨rfl, rfl, trivial⟩ ?_
    exact ⟨_, rfl, hM.frm, ⟨v7, rfl, hM.give 0 rfl⟩⟩

end Go.Proofs.Ytfiabgkolhpbkaa.WLettersWays

/- The walk through the code that the statement reaches: what each function computes. Conditions: none but those in each line. -/
import Derived.Test.YtfiabgkolhpbkaaProg
import Derived.Test.YtfiabgkolhpbkaaK
namespace Go.Proofs.Ytfiabgkolhpbkaa.WFromLetters
open Go.K Go.RowKit
set_option linter.unusedVariables false
set_option linter.unusedSimpArgs false

def cd3 : Cd Int := ⟨3, 1, 8, fun x => [Pt.int x], fun x => Value.int .i64 x, (0 : Int), fun _ => rfl, fun _ => rfl, by decide⟩
theorem cdok3 : CdOk Try.prog cd3 := by
  obtain ⟨i, h1, h2, h3, h4⟩ := info_parts (by kernel_rfl : (Try.prog.info? 3).map (fun i => (i.zero, i.size, i.bytes)) = some (some (cd3.v cd3.z), 1, 8))
  exact ⟨⟨i, h1, h3, h4, h2⟩, by decide⟩
def cd62 : Cd (Ar 6) := ⟨62, 6, 48, fun x => [Pt.ar x], fun x => ag [Pt.ar x], (Ar.zero 6), fun _ => rfl, fun _ => rfl, by decide⟩
theorem cdok62 : CdOk Try.prog cd62 := by
  obtain ⟨i, h1, h2, h3, h4⟩ := info_parts (by kernel_rfl : (Try.prog.info? 62).map (fun i => (i.zero, i.size, i.bytes)) = some (some (cd62.v cd62.z), 6, 48))
  exact ⟨⟨i, h1, h3, h4, h2⟩, by decide⟩
theorem zv46 (w : World) : (zeroValue 46).run Try.prog w = .ok (ag [Pt.ar (Ar.zero 4)]) w := by kernel_rfl
theorem mixed : Try.prog.follows .mixedOrders = true := by kernel_rfl

/-! ### loop.example/g01210/laws.toIntS: function 15 -/
def laws_toIntS.l0 (K : Nat) (l0 : (List Int)) : Nat → Int → (List Int) → Option (List Int)
  | 0, _, _ => none
  | k + 1, x12, x13 => if x12 < (l0.length : Int) then (if (0 : Int) ≤ x12 ∧ x12 < (l0.length : Int) then (if (0 : Int) ≤ x12 ∧ x12 < (x13.length : Int) then (laws_toIntS.l0 K l0 k (wrap64 (x12 + 1)) (x13.set (x12 : Int).toNat (l0.getD (x12 : Int).toNat (0 : Int)))) else none) else none) else (some x13)
def laws_toIntS.f (K : Nat) (l0 : (List Int)) : Option (List Int) := if (0 : Int) ≤ (l0.length : Int) ∧ (l0.length : Int) ≤ 1073741824 then ((laws_toIntS.l0 K l0 K 0 (List.replicate (l0.length : Int).toNat (0 : Int))).bind fun x11 => some x11) else none
set_option maxRecDepth 100000 in
set_option maxHeartbeats 4000000 in
theorem laws_toIntS.calls {w0 : World} (K : Nat) (l0 : (List Int)) (u0 : Value) (q0 : SlR cd3 w0 u0 l0) (r : (List Int)) (H : laws_toIntS.f K l0 = some r) : Calls Try.prog 15 [u0].toArray w0 (Post w0 fun w v => Fresh cd3 w0.heap.size w v r) := by
  rw [laws_toIntS.f] at H
  refine s_start Try.func15 rfl Try.ntmps15 rfl ?_
  intro a hF
  have hM := Ms.start w0
  skip
  refine wp_seq ?_
  refine s_region ?_
  refine s_val hF rfl rfl rfl (e_assign hF rfl) ?_; intro a hF
  refine s_nil ?_
  refine then_n ?_
  refine wp_seq ?_
  obtain ⟨c2, H⟩ := ite_some H
  refine s_region ?_
  refine s_val hF rfl rfl rfl (e_move hF rfl) ?_; intro a hF
  refine s_val hF rfl rfl rfl (e_len hF rfl (q0.frm hM.frm).toF Try.underlying25) ?_; intro a hF
  refine s_make (C := cd3) cdok3 hF hM rfl rfl rfl rfl Try.underlying25 c2.1 c2.2 ?_; intro a w v1 hF hM
  refine s_val hF rfl rfl rfl (e_assign hF rfl) ?_; intro a hF
  refine s_nil ?_
  refine then_n ?_
  refine wp_seq ?_
  refine wp_seq ?_
  refine s_region ?_
  refine s_val hF rfl rfl rfl (e_assign hF rfl) ?_; intro a hF
  refine s_nil ?_
  refine then_n ?_
  refine wp_block ?_
  obtain ⟨o17, h18, H⟩ := bind_some H
  refine wp_mono (Q := fun e a w => (e = Exit.exit 0 ∧ ∃ x11 : (List Int), x11 = o17 ∧ Fr 22 a [(3, v1)] ∧ Ms [] w0 w [rowR cd3 v1 x11])) ?_ ?_
  · refine s_loop (fun kq a w => ∃ x12 : Int, ∃ x13 : (List Int), laws_toIntS.l0 K l0 kq x12 x13 = some o17 ∧ Fr 22 a [(0, u0), (3, v1), (4, Value.int .i64 x12)] ∧ Ms [] w0 w [rowR cd3 v1 x13]) K ⟨0, (List.replicate (l0.length : Int).toNat (0 : Int)), h18, hF.sub _ ⟨rfl, rfl, rfl, trivial⟩, hM.pick [0] rfl rfl⟩ ?_ ?_
    · rintro a w ⟨_, _, H, _⟩; exact none_some H
    · rintro k a w ⟨x12, x13, H, hF, hM⟩; rw [laws_toIntS.l0] at H
      refine wp_seq ?_
      refine wp_seq ?_
      refine s_region ?_
      refine s_val hF rfl rfl rfl (e_move hF rfl) ?_; intro a hF
      refine s_val hF rfl rfl rfl (e_move hF rfl) ?_; intro a hF
      refine s_val hF rfl rfl rfl (e_len hF rfl (q0.frm hM.frm).toF Try.underlying25) ?_; intro a hF
      refine s_val hF rfl rfl rfl (e_lss hF rfl rfl) ?_; intro a hF
      refine s_nil ?_
      refine then_n ?_
      rcases ite_cases H with ⟨c14, H⟩ | ⟨c14, H⟩
      ·
        refine s_cond_t hF rfl (decide_eq_true c14) ?_
        refine wp_skip ?_
        refine then_n ?_
        refine wp_seq ?_
        refine wp_block ?_
        obtain ⟨c15, H⟩ := ite_some H
        obtain ⟨c16, H⟩ := ite_some H
        refine s_region ?_
        refine s_val hF rfl rfl rfl (e_move hF rfl) ?_; intro a hF
        refine s_val hF rfl rfl rfl (e_move hF rfl) ?_; intro a hF
        refine s_val hF rfl rfl rfl (e_move hF rfl) ?_; intro a hF
        refine s_val hF rfl rfl rfl (e_move hF rfl) ?_; intro a hF
        refine s_val hF rfl rfl rfl (e_ias cd3 hF rfl rfl (q0.frm hM.frm).toF Try.underlying25 Try.sizeOf3 c15.1 c15.2) ?_; intro a hF
        refine s_val hF rfl rfl rfl (e_lds (m := x12) hF rfl (q0.frm hM.frm) (getD_some (z := (0 : Int)) c15.1 c15.2) rfl rfl Try.isAgg3) ?_; intro a hF
        refine s_val hF rfl rfl rfl (e_ias cd3 hF rfl rfl (hM.sl 0 rfl).toF Try.underlying25 Try.sizeOf3 c16.1 c16.2) ?_; intro a hF
        refine s_sts (i := 0) (l0.getD (x12 : Int).toNat (0 : Int)) hF hM rfl rfl rfl rfl rfl c16.1 c16.2 Try.sizeOf3 ?_; intro a w hF hM
        refine s_nil ?_
        refine blk_n ?_
        refine then_n ?_
        refine s_region ?_
        refine s_val hF rfl rfl rfl (e_move hF rfl) ?_; intro a hF
        refine s_val hF rfl rfl rfl (e_add hF rfl rfl) ?_; intro a hF
        refine s_val hF rfl rfl rfl (e_assign hF rfl) ?_; intro a hF
        refine s_nil ?_
        refine then_n ?_
        exact ⟨(wrap64 (x12 + 1)), (x13.set (x12 : Int).toNat (l0.getD (x12 : Int).toNat (0 : Int))), H, hF.sub _ ⟨rfl, rfl, rfl, trivial⟩, hM.pick [0] rfl rfl⟩
      ·
        refine s_cond_f hF rfl (decide_eq_false c14) ?_
        refine wp_exit ?_
        refine then_x ?_
        refine then_x ?_
        exact ⟨rfl, x13, some_some H, hF.sub _ ⟨rfl, trivial⟩, hM.pick [0] rfl rfl⟩
  · rintro e a w ⟨rfl, x11, rfl, hF, hM⟩
    skip
    refine blk_x ?_
    refine then_n ?_
    refine wp_seq ?_
    refine s_region ?_
    refine s_val hF rfl rfl rfl (e_move hF rfl) ?_; intro a hF
    refine s_val hF rfl rfl rfl (e_assign hF rfl) ?_; intro a hF
    refine s_nil ?_
    refine then_n ?_
    refine wp_ret ?_
    obtain rfl := some_some H
    refine s_ret [v1] hF Try.results15 ⟨rfl, trivial⟩ ?_
    exact ⟨_, rfl, hM.frm, hM.give 0 rfl⟩

/-! ### loop.example/g01210/spec.l1In: function 43 -/
def spec_l1In.f (K : Nat) (a0 : Int) (a1 : Int) (a2 : Int) : Option Bool := if a1 ≤ a0 then (some (decide (a0 ≤ a2))) else (some false)
set_option maxRecDepth 100000 in
set_option maxHeartbeats 4000000 in
theorem spec_l1In.calls {w0 : World} (K : Nat) (a0 : Int) (a1 : Int) (a2 : Int) (r : Bool) (H : spec_l1In.f K a0 a1 a2 = some r) : Calls Try.prog 43 [Value.int .i64 a0, Value.int .i64 a1, Value.int .i64 a2].toArray w0 (Post w0 fun w v => v = Value.bool r) := by
  rw [spec_l1In.f] at H
  refine s_start Try.func43 rfl Try.ntmps43 rfl ?_
  intro a hF
  have hM := Ms.start w0
  skip
  refine wp_seq ?_
  refine s_region ?_
  refine s_val hF rfl rfl rfl (e_assign hF rfl) ?_; intro a hF
  refine s_nil ?_
  refine then_n ?_
  refine wp_seq ?_
  rcases ite_cases H with ⟨c1, H⟩ | ⟨c1, H⟩
  ·
    refine s_region ?_
    refine s_val hF rfl rfl rfl (e_move hF rfl) ?_; intro a hF
    refine s_val hF rfl rfl rfl (e_move hF rfl) ?_; intro a hF
    refine s_val hF rfl rfl rfl (e_geq hF rfl rfl) ?_; intro a hF
    refine s_val hF rfl rfl rfl (e_move hF rfl) ?_; intro a hF
    have hF := hF.topb (decide_eq_true c1)
    refine s_val hF rfl rfl rfl (e_move hF rfl) ?_; intro a hF
    refine s_val hF rfl rfl rfl (e_move hF rfl) ?_; intro a hF
    refine s_val hF rfl rfl rfl (e_leq hF rfl rfl) ?_; intro a hF
    refine s_val hF rfl rfl rfl (e_pick_t hF rfl rfl) ?_; intro a hF
    refine s_val hF rfl rfl rfl (e_assign hF rfl) ?_; intro a hF
    refine s_nil ?_
    refine then_n ?_
    refine wp_ret ?_
    obtain rfl := some_some H
    refine s_ret [Value.bool (decide (a0 ≤ a2))] hF Try.results43 ⟨rfl, trivial⟩ ?_
    exact ⟨_, rfl, hM.frm, rfl⟩
  ·
    refine s_region ?_
    refine s_val hF rfl rfl rfl (e_move hF rfl) ?_; intro a hF
    refine s_val hF rfl rfl rfl (e_move hF rfl) ?_; intro a hF
    refine s_val hF rfl rfl rfl (e_geq hF rfl rfl) ?_; intro a hF
    refine s_val hF rfl rfl rfl (e_move hF rfl) ?_; intro a hF
    have hF := hF.topb (decide_eq_false c1)
    refine s_skip hF rfl rfl rfl ?_; intro a hF
    refine s_skip hF rfl rfl rfl ?_; intro a hF
    refine s_skip hF rfl rfl rfl ?_; intro a hF
    refine s_val hF rfl rfl rfl (e_pick_f hF rfl rfl) ?_; intro a hF
    refine s_val hF rfl rfl rfl (e_assign hF rfl) ?_; intro a hF
    refine s_nil ?_
    refine then_n ?_
    refine wp_ret ?_
    obtain rfl := some_some H
    refine s_ret [Value.bool false] hF Try.results43 ⟨rfl, trivial⟩ ?_
    exact ⟨_, rfl, hM.frm, rfl⟩

/-! ### loop.example/g01210/spec.l10Letters: function 47 -/
def spec_l10Letters.l0 (K : Nat) (l0 : (List Int)) : Nat → Int → (Ar 4) → Option (Sum (Ar 4) Bool)
  | 0, _, _ => none
  | k + 1, x21, x22 => if x21 < (l0.length : Int) then (if (0 : Int) ≤ x21 ∧ x21 < (l0.length : Int) then ((spec_l1In.f K (l0.getD (x21 : Int).toNat (0 : Int)) 0 (wrap64 ((wrap64 ((l0.length : Int).tdiv 6)) - 1))).bind fun t25 => if t25 = true then (if (0 : Int) ≤ (l0.getD (x21 : Int).toNat (0 : Int)) ∧ (l0.getD (x21 : Int).toNat (0 : Int)) < 4 then (spec_l10Letters.l0 K l0 k (wrap64 (x21 + 1)) (x22.set (l0.getD (x21 : Int).toNat (0 : Int)) (wrap64 ((x22.get (l0.getD (x21 : Int).toNat (0 : Int))) + 1)))) else none) else (some (Sum.inr false))) else none) else (some (Sum.inl x22))
def spec_l10Letters.l1 (K : Nat) (l0 : (List Int)) (x20 : (Ar 4)) : Nat → Int → Option (Sum Unit Bool)
  | 0, _ => none
  | k + 1, x38 => if x38 < (wrap64 ((l0.length : Int).tdiv 6)) then (if (0 : Int) ≤ x38 ∧ x38 < 4 then (if (x20.get x38) = 6 then (spec_l10Letters.l1 K l0 x20 k (wrap64 (x38 + 1))) else (some (Sum.inr false))) else none) else (some (Sum.inl ()))
def spec_l10Letters.f (K : Nat) (l0 : (List Int)) : Option Bool := if ((l0.length : Int).tmod 6) = 0 then ((spec_l1In.f K (l0.length : Int) 6 24).bind fun t3 => if t3 = true then ((spec_l10Letters.l0 K l0 K 0 (⟨[0, 0, 0, 0], rfl⟩ : Ar 4)).bind fun o29 => (match o29 with | .inl x20 => (spec_l10Letters.l1 K l0 x20 K 0).bind fun o42 => (match o42 with | .inl () => some true | .inr r44 => some r44) | .inr r31 => some r31)) else (some false)) else (some false)
set_option maxRecDepth 100000 in
set_option maxHeartbeats 4000000 in
theorem spec_l10Letters.calls {w0 : World} (K : Nat) (l0 : (List Int)) (u0 : Value) (q0 : SlR cd3 w0 u0 l0) (r : Bool) (H : spec_l10Letters.f K l0 = some r) : Calls Try.prog 47 [u0].toArray w0 (Post w0 fun w v => v = Value.bool r) := by
  rw [spec_l10Letters.f] at H
  refine s_start Try.func47 rfl Try.ntmps47 rfl ?_
  intro a hF
  have hM := Ms.start w0
  skip
  refine wp_seq ?_
  refine s_region ?_
  refine s_val hF rfl rfl rfl (e_assign hF rfl) ?_; intro a hF
  refine s_nil ?_
  refine then_n ?_
  refine wp_seq ?_
  refine s_region ?_
  refine s_val hF rfl rfl rfl (e_build' (cells := cat [Pt.ar (⟨[0, 0, 0, 0], rfl⟩ : Ar 4)]) hF rfl (by kernel_rfl)) ?_; intro a hF
  refine s_alloc (ps := [Pt.ar (Ar.zero 4)]) hF hM rfl rfl zv46 rfl ?_; intro a w b1 hF hM
  refine s_stw (i := 0) (ps' := [Pt.ar (⟨[0, 0, 0, 0], rfl⟩ : Ar 4)]) hF hM rfl rfl rfl rfl rfl rfl Try.sizeOf46 rfl ?_; intro a w hF hM
  refine s_nil ?_
  refine then_n ?_
  refine wp_seq ?_
  refine wp_seq ?_
  rcases ite_cases H with ⟨c2, H⟩ | ⟨c2, H⟩
  ·
    obtain ⟨t3, h4, H⟩ := bind_some H
    refine s_region ?_
    refine s_val hF rfl rfl rfl (e_move hF rfl) ?_; intro a hF
    refine s_val hF rfl rfl rfl (e_len hF rfl (q0.frm hM.frm).toF Try.underlying25) ?_; intro a hF
    refine s_val hF rfl rfl rfl (e_rem hF rfl rfl (by decide)) ?_; intro a hF
    refine s_val hF rfl rfl rfl (e_neq hF rfl rfl) ?_; intro a hF
    refine s_val hF rfl rfl rfl (e_move hF rfl) ?_; intro a hF
    have hF := hF.topb (congrArg Bool.not (decide_eq_true c2))
    refine s_val hF rfl rfl rfl (e_move hF rfl) ?_; intro a hF
    refine s_val hF rfl rfl rfl (e_len hF rfl (q0.frm hM.frm).toF Try.underlying25) ?_; intro a hF
    refine s_call hF rfl rfl rfl Try.call43 (spec_l1In.calls K (l0.length : Int) 6 24 t3 h4) ?_; intro a w v hF hf hR
    subst hR; have hM := hM.grow hf
    refine s_val hF rfl rfl rfl (e_not hF rfl) ?_; intro a hF
    refine s_val hF rfl rfl rfl (e_pick_f hF rfl rfl) ?_; intro a hF
    refine s_nil ?_
    refine then_n ?_
    rcases ite_cases H with ⟨c5, H⟩ | ⟨c5, H⟩
    ·
      refine s_cond_f hF rfl (congrArg Bool.not c5) ?_
      refine wp_skip ?_
      refine then_n ?_
      refine wp_seq ?_
      refine wp_seq ?_
      refine s_region ?_
      refine s_val hF rfl rfl rfl (e_assign hF rfl) ?_; intro a hF
      refine s_nil ?_
      refine then_n ?_
      refine wp_block ?_
      obtain ⟨o29, h30, H⟩ := bind_some H
      refine wp_mono (Q := fun e a w => (e = Exit.exit 0 ∧ ∃ x20 : (Ar 4), Sum.inl x20 = o29 ∧ Fr 52 a [(0, u0), (3, pt b1 0)] ∧ Ms [] w0 w [boxR b1 [Pt.ar x20] 46]) ∨ (e = Exit.ret ∧ ∃ r31 : Bool, Sum.inr r31 = o29 ∧ Fr 52 a [(2, Value.bool r31)] ∧ Ms [] w0 w [])) ?_ ?_
      · refine s_loop (fun kq a w => ∃ x21 : Int, ∃ x22 : (Ar 4), spec_l10Letters.l0 K l0 kq x21 x22 = some o29 ∧ Fr 52 a [(0, u0), (3, pt b1 0), (4, Value.int .i64 x21)] ∧ Ms [] w0 w [boxR b1 [Pt.ar x22] 46]) K ⟨0, (⟨[0, 0, 0, 0], rfl⟩ : Ar 4), h30, hF.sub _ ⟨rfl, rfl, rfl, trivial⟩, hM.pick [0] rfl rfl⟩ ?_ ?_
        · rintro a w ⟨_, _, H, _⟩; exact none_some H
        · rintro k a w ⟨x21, x22, H, hF, hM⟩; rw [spec_l10Letters.l0] at H
          refine wp_seq ?_
          refine wp_seq ?_
          refine s_region ?_
          refine s_val hF rfl rfl rfl (e_move hF rfl) ?_; intro a hF
          refine s_val hF rfl rfl rfl (e_move hF rfl) ?_; intro a hF
          refine s_val hF rfl rfl rfl (e_len hF rfl (q0.frm hM.frm).toF Try.underlying25) ?_; intro a hF
          refine s_val hF rfl rfl rfl (e_lss hF rfl rfl) ?_; intro a hF
          refine s_nil ?_
          refine then_n ?_
          rcases ite_cases H with ⟨c23, H⟩ | ⟨c23, H⟩
          ·
            refine s_cond_t hF rfl (decide_eq_true c23) ?_
            refine wp_skip ?_
            refine then_n ?_
            refine wp_seq ?_
            refine wp_block ?_
            refine wp_seq ?_
            refine wp_seq ?_
            obtain ⟨c24, H⟩ := ite_some H
            obtain ⟨t25, h26, H⟩ := bind_some H
            refine s_region ?_
            refine s_val hF rfl rfl rfl (e_move hF rfl) ?_; intro a hF
            refine s_val hF rfl rfl rfl (e_move hF rfl) ?_; intro a hF
            refine s_val hF rfl rfl rfl (e_ias cd3 hF rfl rfl (q0.frm hM.frm).toF Try.underlying25 Try.sizeOf3 c24.1 c24.2) ?_; intro a hF
            refine s_val hF rfl rfl rfl (e_lds (m := x21) hF rfl (q0.frm hM.frm) (getD_some (z := (0 : Int)) c24.1 c24.2) rfl rfl Try.isAgg3) ?_; intro a hF
            refine s_val hF rfl rfl rfl (e_move hF rfl) ?_; intro a hF
            refine s_val hF rfl rfl rfl (e_len hF rfl (q0.frm hM.frm).toF Try.underlying25) ?_; intro a hF
            refine s_val hF rfl rfl rfl (e_quo hF rfl rfl (by decide)) ?_; intro a hF
            refine s_val hF rfl rfl rfl (e_sub hF rfl rfl) ?_; intro a hF
            refine s_call hF rfl rfl rfl Try.call43 (spec_l1In.calls K (l0.getD (x21 : Int).toNat (0 : Int)) 0 (wrap64 ((wrap64 ((l0.length : Int).tdiv 6)) - 1)) t25 h26) ?_; intro a w v hF hf hR
            subst hR; have hM := hM.grow hf
            refine s_val hF rfl rfl rfl (e_not hF rfl) ?_; intro a hF
            refine s_nil ?_
            refine then_n ?_
            rcases ite_cases H with ⟨c27, H⟩ | ⟨c27, H⟩
            ·
              refine s_cond_f hF rfl (congrArg Bool.not c27) ?_
              refine wp_skip ?_
              refine then_n ?_
              obtain ⟨c28, H⟩ := ite_some H
              refine s_region ?_
              refine s_val hF rfl rfl rfl (e_move hF rfl) ?_; intro a hF
              refine s_val hF rfl rfl rfl (e_move hF rfl) ?_; intro a hF
              refine s_val hF rfl rfl rfl (e_ias cd3 hF rfl rfl (q0.frm hM.frm).toF Try.underlying25 Try.sizeOf3 c24.1 c24.2) ?_; intro a hF
              refine s_val hF rfl rfl rfl (e_lds (m := x21) hF rfl (q0.frm hM.frm) (getD_some (z := (0 : Int)) c24.1 c24.2) rfl rfl Try.isAgg3) ?_; intro a hF
              refine s_val hF rfl rfl rfl (e_ia hF rfl rfl Try.underlying46 Try.sizeOf3 c28.1 c28.2) ?_; intro a hF
              refine s_val hF rfl rfl rfl (e_ldi (i := 0) (k := 0) hF hM rfl rfl rfl rfl rfl Try.isAgg3 c28.1 c28.2) ?_; intro a hF
              refine s_val hF rfl rfl rfl (e_add hF rfl rfl) ?_; intro a hF
              refine s_val hF rfl rfl rfl (e_ia hF rfl rfl Try.underlying46 Try.sizeOf3 c28.1 c28.2) ?_; intro a hF
              refine s_sti (i := 0) (k := 0) hF hM rfl rfl rfl rfl rfl rfl rfl Try.sizeOf3 c28.1 c28.2 ?_; intro a w hF hM
              refine s_nil ?_
              refine blk_n ?_
              refine then_n ?_
              refine s_region ?_
              refine s_val hF rfl rfl rfl (e_move hF rfl) ?_; intro a hF
              refine s_val hF rfl rfl rfl (e_add hF rfl rfl) ?_; intro a hF
              refine s_val hF rfl rfl rfl (e_assign hF rfl) ?_; intro a hF
              refine s_nil ?_
              refine then_n ?_
              exact ⟨(wrap64 (x21 + 1)), (x22.set (l0.getD (x21 : Int).toNat (0 : Int)) (wrap64 ((x22.get (l0.getD (x21 : Int).toNat (0 : Int))) + 1))), H, hF.sub _ ⟨rfl, rfl, rfl, trivial⟩, hM.pick [0] rfl rfl⟩
            ·
              refine s_cond_t hF rfl (congrArg Bool.not (bf c27)) ?_
              refine wp_seq ?_
              refine s_region ?_
              refine s_val hF rfl rfl rfl (e_assign hF rfl) ?_; intro a hF
              refine s_nil ?_
              refine then_n ?_
              refine wp_ret ?_
              refine then_r ?_
              refine blk_r ?_
              refine then_r ?_
              refine then_r ?_
              exact Or.inr (⟨rfl, false, some_some H, hF.sub _ ⟨rfl, trivial⟩, hM.pick [] rfl rfl⟩)
          ·
            refine s_cond_f hF rfl (decide_eq_false c23) ?_
            refine wp_exit ?_
            refine then_x ?_
            refine then_x ?_
            exact Or.inl (⟨rfl, x22, some_some H, hF.sub _ ⟨rfl, rfl, trivial⟩, hM.pick [0] rfl rfl⟩)
      · rintro e a w (⟨rfl, x20, rfl, hF, hM⟩ | ⟨rfl, r31, rfl, hF, hM⟩)
        ·
          dsimp only at H
          refine blk_x ?_
          refine then_n ?_
          refine wp_seq ?_
          refine wp_seq ?_
          refine s_region ?_
          refine s_val hF rfl rfl rfl (e_assign hF rfl) ?_; intro a hF
          refine s_nil ?_
          refine then_n ?_
          refine wp_block ?_
          obtain ⟨o42, h43, H⟩ := bind_some H
          refine wp_mono (Q := fun e a w => (e = Exit.exit 2 ∧ Sum.inl () = o42 ∧ Fr 52 a [] ∧ Ms [] w0 w []) ∨ (e = Exit.ret ∧ ∃ r44 : Bool, Sum.inr r44 = o42 ∧ Fr 52 a [(2, Value.bool r44)] ∧ Ms [] w0 w [])) ?_ ?_
          · refine s_loop (fun kq a w => ∃ x38 : Int, spec_l10Letters.l1 K l0 x20 kq x38 = some o42 ∧ Fr 52 a [(0, u0), (3, pt b1 0), (5, Value.int .i64 x38)] ∧ Ms [] w0 w [boxR b1 [Pt.ar x20] 46]) K ⟨0, h43, hF.sub _ ⟨rfl, rfl, rfl, trivial⟩, hM.pick [0] rfl rfl⟩ ?_ ?_
            · rintro a w ⟨_, H, _⟩; exact none_some H
            · rintro k a w ⟨x38, H, hF, hM⟩; rw [spec_l10Letters.l1] at H
              refine wp_seq ?_
              refine wp_seq ?_
              refine s_region ?_
              refine s_val hF rfl rfl rfl (e_move hF rfl) ?_; intro a hF
              refine s_val hF rfl rfl rfl (e_move hF rfl) ?_; intro a hF
              refine s_val hF rfl rfl rfl (e_len hF rfl (q0.frm hM.frm).toF Try.underlying25) ?_; intro a hF
              refine s_val hF rfl rfl rfl (e_quo hF rfl rfl (by decide)) ?_; intro a hF
              refine s_val hF rfl rfl rfl (e_lss hF rfl rfl) ?_; intro a hF
              refine s_nil ?_
              refine then_n ?_
              rcases ite_cases H with ⟨c39, H⟩ | ⟨c39, H⟩
              ·
                refine s_cond_t hF rfl (decide_eq_true c39) ?_
                refine wp_skip ?_
                refine then_n ?_
                refine wp_seq ?_
                refine wp_block ?_
                refine wp_seq ?_
                obtain ⟨c40, H⟩ := ite_some H
                refine s_region ?_
                refine s_val hF rfl rfl rfl (e_move hF rfl) ?_; intro a hF
                refine s_val hF rfl rfl rfl (e_ia hF rfl rfl Try.underlying46 Try.sizeOf3 c40.1 c40.2) ?_; intro a hF
                refine s_val hF rfl rfl rfl (e_ldi (i := 0) (k := 0) hF hM rfl rfl rfl rfl rfl Try.isAgg3 c40.1 c40.2) ?_; intro a hF
                refine s_val hF rfl rfl rfl (e_neq hF rfl rfl) ?_; intro a hF
                refine s_nil ?_
                refine then_n ?_
                rcases ite_cases H with ⟨c41, H⟩ | ⟨c41, H⟩
                ·
                  refine s_cond_f hF rfl (congrArg Bool.not (decide_eq_true c41)) ?_
                  refine wp_skip ?_
                  refine blk_n ?_
                  refine then_n ?_
                  refine s_region ?_
                  refine s_val hF rfl rfl rfl (e_move hF rfl) ?_; intro a hF
                  refine s_val hF rfl rfl rfl (e_add hF rfl rfl) ?_; intro a hF
                  refine s_val hF rfl rfl rfl (e_assign hF rfl) ?_; intro a hF
                  refine s_nil ?_
                  refine then_n ?_
                  exact ⟨(wrap64 (x38 + 1)), H, hF.sub _ ⟨rfl, rfl, rfl, trivial⟩, hM.pick [0] rfl rfl⟩
                ·
                  refine s_cond_t hF rfl (congrArg Bool.not (decide_eq_false c41)) ?_
                  refine wp_seq ?_
                  refine s_region ?_
                  refine s_val hF rfl rfl rfl (e_assign hF rfl) ?_; intro a hF
                  refine s_nil ?_
                  refine then_n ?_
                  refine wp_ret ?_
                  refine blk_r ?_
                  refine then_r ?_
                  refine then_r ?_
                  exact Or.inr (⟨rfl, false, some_some H, hF.sub _ ⟨rfl, trivial⟩, hM.pick [] rfl rfl⟩)
              ·
                refine s_cond_f hF rfl (decide_eq_false c39) ?_
                refine wp_exit ?_
                refine then_x ?_
                refine then_x ?_
                exact Or.inl (⟨rfl, some_some H, hF.sub _ trivial, hM.pick [] rfl rfl⟩)
          · rintro e a w (⟨rfl, rfl, hF, hM⟩ | ⟨rfl, r44, rfl, hF, hM⟩)
            ·
              dsimp only at H
              refine blk_x ?_
              refine then_n ?_
              refine wp_seq ?_
              refine s_region ?_
              refine s_val hF rfl rfl rfl (e_assign hF rfl) ?_; intro a hF
              refine s_nil ?_
              refine then_n ?_
              refine wp_ret ?_
              obtain rfl := some_some H
              refine s_ret [Value.bool true] hF Try.results47 ⟨rfl, trivial⟩ ?_
              exact ⟨_, rfl, hM.frm, rfl⟩
            ·
              dsimp only at H
              refine blk_r ?_
              refine then_r ?_
              obtain rfl := some_some H
              refine s_ret [Value.bool r44] hF Try.results47 ⟨rfl, trivial⟩ ?_
              exact ⟨_, rfl, hM.frm, rfl⟩
        ·
          dsimp only at H
          refine blk_r ?_
          refine then_r ?_
          obtain rfl := some_some H
          refine s_ret [Value.bool r31] hF Try.results47 ⟨rfl, trivial⟩ ?_
          exact ⟨_, rfl, hM.frm, rfl⟩
    ·
      refine s_cond_t hF rfl (congrArg Bool.not (bf c5)) ?_
      refine wp_seq ?_
      refine s_region ?_
      refine s_val hF rfl rfl rfl (e_assign hF rfl) ?_; intro a hF
      refine s_nil ?_
      refine then_n ?_
      refine wp_ret ?_
      refine then_r ?_
      obtain rfl := some_some H
      refine s_ret [Value.bool false] hF Try.results47 ⟨rfl, trivial⟩ ?_
      exact ⟨_, rfl, hM.frm, rfl⟩
  ·
    refine s_region ?_
    refine s_val hF rfl rfl rfl (e_move hF rfl) ?_; intro a hF
    refine s_val hF rfl rfl rfl (e_len hF rfl (q0.frm hM.frm).toF Try.underlying25) ?_; intro a hF
    refine s_val hF rfl rfl rfl (e_rem hF rfl rfl (by decide)) ?_; intro a hF
    refine s_val hF rfl rfl rfl (e_neq hF rfl rfl) ?_; intro a hF
    refine s_val hF rfl rfl rfl (e_move hF rfl) ?_; intro a hF
    have hF := hF.topb (congrArg Bool.not (decide_eq_false c2))
    refine s_skip hF rfl rfl rfl ?_; intro a hF
    refine s_skip hF rfl rfl rfl ?_; intro a hF
    refine s_skip hF rfl rfl rfl ?_; intro a hF
    refine s_skip hF rfl rfl rfl ?_; intro a hF
    refine s_val hF rfl rfl rfl (e_pick_t hF rfl rfl) ?_; intro a hF
    refine s_nil ?_
    refine then_n ?_
    refine s_cond_t hF rfl rfl ?_
    refine wp_seq ?_
    refine s_region ?_
    refine s_val hF rfl rfl rfl (e_assign hF rfl) ?_; intro a hF
    refine s_nil ?_
    refine then_n ?_
    refine wp_ret ?_
    refine then_r ?_
    obtain rfl := some_some H
    refine s_ret [Value.bool false] hF Try.results47 ⟨rfl, trivial⟩ ?_
    exact ⟨_, rfl, hM.frm, rfl⟩

/-! ### loop.example/g01210/spec.l10Pool: function 53 -/
def spec_l10Pool.l0 (K : Nat) (l0 : (List Int)) : Nat → Int → (List (Ar 6)) → (Ar 4) → Option (List (Ar 6))
  | 0, _, _, _ => none
  | k + 1, x18, x19, x20 => if x18 < (l0.length : Int) then (if (0 : Int) ≤ x18 ∧ x18 < (l0.length : Int) then (if (0 : Int) ≤ (l0.getD (x18 : Int).toNat (0 : Int)) ∧ (l0.getD (x18 : Int).toNat (0 : Int)) < 4 then (if (0 : Int) ≤ (l0.getD (x18 : Int).toNat (0 : Int)) ∧ (l0.getD (x18 : Int).toNat (0 : Int)) < (x19.length : Int) then (if (0 : Int) ≤ (x20.get (l0.getD (x18 : Int).toNat (0 : Int))) ∧ (x20.get (l0.getD (x18 : Int).toNat (0 : Int))) < 6 then (spec_l10Pool.l0 K l0 k (wrap64 (x18 + 1)) (x19.set ((l0.getD (x18 : Int).toNat (0 : Int)) : Int).toNat ((x19.getD ((l0.getD (x18 : Int).toNat (0 : Int)) : Int).toNat (Ar.zero 6)).set (x20.get (l0.getD (x18 : Int).toNat (0 : Int))) (wrap64 (x18 + 1)))) (x20.set (l0.getD (x18 : Int).toNat (0 : Int)) (wrap64 ((x20.get (l0.getD (x18 : Int).toNat (0 : Int))) + 1)))) else none) else none) else none) else none) else (some x19)
def spec_l10Pool.f (K : Nat) (l0 : (List Int)) : Option (List (Ar 6)) := if (0 : Int) ≤ (wrap64 ((l0.length : Int).tdiv 6)) ∧ (wrap64 ((l0.length : Int).tdiv 6)) ≤ 1073741824 then ((spec_l10Pool.l0 K l0 K 0 (List.replicate (wrap64 ((l0.length : Int).tdiv 6)).toNat (Ar.zero 6)) (⟨[0, 0, 0, 0], rfl⟩ : Ar 4)).bind fun x17 => some x17) else none
set_option maxRecDepth 100000 in
set_option maxHeartbeats 4000000 in
theorem spec_l10Pool.calls {w0 : World} (K : Nat) (l0 : (List Int)) (u0 : Value) (q0 : SlR cd3 w0 u0 l0) (r : (List (Ar 6))) (H : spec_l10Pool.f K l0 = some r) : Calls Try.prog 53 [u0].toArray w0 (Post w0 fun w v => Fresh cd62 w0.heap.size w v r) := by
  rw [spec_l10Pool.f] at H
  refine s_start Try.func53 rfl Try.ntmps53 rfl ?_
  intro a hF
  have hM := Ms.start w0
  skip
  refine wp_seq ?_
  refine s_region ?_
  refine s_val hF rfl rfl rfl (e_assign hF rfl) ?_; intro a hF
  refine s_nil ?_
  refine then_n ?_
  refine wp_seq ?_
  obtain ⟨c2, H⟩ := ite_some H
  refine s_region ?_
  refine s_val hF rfl rfl rfl (e_move hF rfl) ?_; intro a hF
  refine s_val hF rfl rfl rfl (e_len hF rfl (q0.frm hM.frm).toF Try.underlying25) ?_; intro a hF
  refine s_val hF rfl rfl rfl (e_quo hF rfl rfl (by decide)) ?_; intro a hF
  refine s_make (C := cd62) cdok62 hF hM rfl rfl rfl rfl Try.underlying37 c2.1 c2.2 ?_; intro a w v1 hF hM
  refine s_val hF rfl rfl rfl (e_build' (cells := cat [Pt.ar (⟨[0, 0, 0, 0], rfl⟩ : Ar 4)]) hF rfl (by kernel_rfl)) ?_; intro a hF
  refine s_alloc (ps := [Pt.ar (Ar.zero 4)]) hF hM rfl rfl zv46 rfl ?_; intro a w b3 hF hM
  refine s_val hF rfl rfl rfl (e_assign hF rfl) ?_; intro a hF
  refine s_stw (i := 0) (ps' := [Pt.ar (⟨[0, 0, 0, 0], rfl⟩ : Ar 4)]) hF hM rfl rfl rfl rfl rfl rfl Try.sizeOf46 rfl ?_; intro a w hF hM
  refine s_nil ?_
  refine then_n ?_
  refine wp_seq ?_
  refine wp_seq ?_
  refine s_region ?_
  refine s_val hF rfl rfl rfl (e_assign hF rfl) ?_; intro a hF
  refine s_nil ?_
  refine then_n ?_
  refine wp_block ?_
  obtain ⟨o29, h30, H⟩ := bind_some H
  refine wp_mono (Q := fun e a w => (e = Exit.exit 0 ∧ ∃ x17 : (List (Ar 6)), x17 = o29 ∧ Fr 41 a [(3, v1)] ∧ Ms [] w0 w [rowR cd62 v1 x17])) ?_ ?_
  · refine s_loop (fun kq a w => ∃ x18 : Int, ∃ x19 : (List (Ar 6)), ∃ x20 : (Ar 4), spec_l10Pool.l0 K l0 kq x18 x19 x20 = some o29 ∧ Fr 41 a [(0, u0), (3, v1), (4, pt b3 0), (5, Value.int .i64 x18)] ∧ Ms [] w0 w [rowR cd62 v1 x19, boxR b3 [Pt.ar x20] 46]) K ⟨0, (List.replicate (wrap64 ((l0.length : Int).tdiv 6)).toNat (Ar.zero 6)), (⟨[0, 0, 0, 0], rfl⟩ : Ar 4), h30, hF.sub _ ⟨rfl, rfl, rfl, rfl, trivial⟩, hM.pick [1, 0] rfl rfl⟩ ?_ ?_
    · rintro a w ⟨_, _, _, H, _⟩; exact none_some H
    · rintro k a w ⟨x18, x19, x20, H, hF, hM⟩; rw [spec_l10Pool.l0] at H
      refine wp_seq ?_
      refine wp_seq ?_
      refine s_region ?_
      refine s_val hF rfl rfl rfl (e_move hF rfl) ?_; intro a hF
      refine s_val hF rfl rfl rfl (e_move hF rfl) ?_; intro a hF
      refine s_val hF rfl rfl rfl (e_len hF rfl (q0.frm hM.frm).toF Try.underlying25) ?_; intro a hF
      refine s_val hF rfl rfl rfl (e_lss hF rfl rfl) ?_; intro a hF
      refine s_nil ?_
      refine then_n ?_
      rcases ite_cases H with ⟨c21, H⟩ | ⟨c21, H⟩
      ·
        refine s_cond_t hF rfl (decide_eq_true c21) ?_
        refine wp_skip ?_
        refine then_n ?_
        refine wp_seq ?_
        refine wp_block ?_
        refine wp_seq ?_
        obtain ⟨c22, H⟩ := ite_some H
        obtain ⟨c23, H⟩ := ite_some H
        obtain ⟨c24, H⟩ := ite_some H
        obtain ⟨c25, H⟩ := ite_some H
        refine s_held (fun w => Ms [] w0 w [boxR b3 [Pt.ar x20] 46]) #[false, false, false, false, false, false, false, false, false, false, false, false, false, false, false, false] mixed rfl rfl hM ?_; intro w hf hM; clear hf
        refine h_val 0 #[true, false, false, false, false, false, false, false, false, false, false, false, false, false, false, false] rfl (by kernel_rfl) hF rfl rfl rfl (fun w hS => e_move hF rfl) (hM.pick [1] rfl rfl) ?_; intro a hF
        refine h_val 1 #[true, true, false, false, false, false, false, false, false, false, false, false, false, false, false, false] rfl (by kernel_rfl) hF rfl rfl rfl (fun w hS => e_move hF rfl) (hM.pick [1] rfl rfl) ?_; intro a hF
        refine h_val 2 #[true, true, true, false, false, false, false, false, false, false, false, false, false, false, false, false] rfl (by kernel_rfl) hF rfl rfl rfl (fun w hS => e_move hF rfl) (hM.pick [1] rfl rfl) ?_; intro a hF
        have f26 := (q0.frm hM.frm).toF
        refine h_val 3 #[true, true, true, true, false, false, false, false, false, false, false, false, false, false, false, false] rfl (by kernel_rfl) hF rfl rfl rfl (fun w hS => e_ias cd3 hF rfl rfl f26 Try.underlying25 Try.sizeOf3 c22.1 c22.2) (hM.pick [1] rfl rfl) ?_; intro a hF
        refine h_val 4 #[true, true, true, true, true, false, false, false, false, false, false, false, false, false, false, false] rfl (by kernel_rfl) hF rfl rfl rfl (fun w hS => e_lds (m := x18) hF rfl (q0.frm hS.frm) (getD_some (z := (0 : Int)) c22.1 c22.2) rfl rfl Try.isAgg3) (hM.pick [1] rfl rfl) ?_; intro a hF
        refine h_val 5 #[true, true, true, true, true, true, false, false, false, false, false, false, false, false, false, false] rfl (by kernel_rfl) hF rfl rfl rfl (fun w hS => e_move hF rfl) (hM.pick [1] rfl rfl) ?_; intro a hF
        refine h_val 6 #[true, true, true, true, true, true, true, false, false, false, false, false, false, false, false, false] rfl (by kernel_rfl) hF rfl rfl rfl (fun w hS => e_move hF rfl) (hM.pick [1] rfl rfl) ?_; intro a hF
        have f27 := (q0.frm hM.frm).toF
        refine h_val 7 #[true, true, true, true, true, true, true, true, false, false, false, false, false, false, false, false] rfl (by kernel_rfl) hF rfl rfl rfl (fun w hS => e_ias cd3 hF rfl rfl f27 Try.underlying25 Try.sizeOf3 c22.1 c22.2) (hM.pick [1] rfl rfl) ?_; intro a hF
        refine h_val 8 #[true, true, true, true, true, true, true, true, true, false, false, false, false, false, false, false] rfl (by kernel_rfl) hF rfl rfl rfl (fun w hS => e_lds (m := x18) hF rfl (q0.frm hS.frm) (getD_some (z := (0 : Int)) c22.1 c22.2) rfl rfl Try.isAgg3) (hM.pick [1] rfl rfl) ?_; intro a hF
        refine h_val 9 #[true, true, true, true, true, true, true, true, true, true, false, false, false, false, false, false] rfl (by kernel_rfl) hF rfl rfl rfl (fun w hS => e_ia hF rfl rfl Try.underlying46 Try.sizeOf3 c23.1 c23.2) (hM.pick [1] rfl rfl) ?_; intro a hF
        refine h_val 10 #[true, true, true, true, true, true, true, true, true, true, true, false, false, false, false, false] rfl (by kernel_rfl) hF rfl rfl rfl (fun w hS => e_ldi (i := 0) (k := 0) hF hS rfl rfl rfl rfl rfl Try.isAgg3 c23.1 c23.2) (hM.pick [1] rfl rfl) ?_; intro a hF
        refine h_val 11 #[true, true, true, true, true, true, true, true, true, true, true, true, false, false, false, false] rfl (by kernel_rfl) hF rfl rfl rfl (fun w hS => e_move hF rfl) (hM.pick [1] rfl rfl) ?_; intro a hF
        refine h_val 12 #[true, true, true, true, true, true, true, true, true, true, true, true, true, false, false, false] rfl (by kernel_rfl) hF rfl rfl rfl (fun w hS => e_add hF rfl rfl) (hM.pick [1] rfl rfl) ?_; intro a hF
        have f28 := (hM.sl 0 rfl).toF
        refine h_val 13 #[true, true, true, true, true, true, true, true, true, true, true, true, true, true, false, false] rfl (by kernel_rfl) hF rfl rfl rfl (fun w hS => e_ias cd62 hF rfl rfl f28 Try.underlying37 Try.sizeOf62 c24.1 c24.2) (hM.pick [1] rfl rfl) ?_; intro a hF
        refine h_val 14 #[true, true, true, true, true, true, true, true, true, true, true, true, true, true, true, false] rfl (by kernel_rfl) hF rfl rfl rfl (fun w hS => e_ia hF rfl rfl Try.underlying62 Try.sizeOf3 c25.1 c25.2) (hM.pick [1] rfl rfl) ?_; intro a hF
        refine h_one 15 #[true, true, true, true, true, true, true, true, true, true, true, true, true, true, true, true] rfl (by kernel_rfl) ?_
        refine s_stsi (i := 0) (k := 0) (o := 0) (m := (l0.getD (x18 : Int).toNat (0 : Int))) (m2 := (x20.get (l0.getD (x18 : Int).toNat (0 : Int)))) ((x19.getD ((l0.getD (x18 : Int).toNat (0 : Int)) : Int).toNat (Ar.zero 6)).set (x20.get (l0.getD (x18 : Int).toNat (0 : Int))) (wrap64 (x18 + 1))) hF hM rfl rfl rfl rfl (getD_some (z := (Ar.zero 6)) c24.1 c24.2) rfl rfl rfl Try.sizeOf3 c25.1 c25.2 ?_; intro a w hF hM
        refine s_nil ⟨rfl, (hM.pick [1] rfl rfl), ?_⟩
        refine h_done rfl ?_
        refine then_n ?_
        refine s_region ?_
        refine s_val hF rfl rfl rfl (e_move hF rfl) ?_; intro a hF
        refine s_val hF rfl rfl rfl (e_move hF rfl) ?_; intro a hF
        refine s_val hF rfl rfl rfl (e_ias cd3 hF rfl rfl (q0.frm hM.frm).toF Try.underlying25 Try.sizeOf3 c22.1 c22.2) ?_; intro a hF
        refine s_val hF rfl rfl rfl (e_lds (m := x18) hF rfl (q0.frm hM.frm) (getD_some (z := (0 : Int)) c22.1 c22.2) rfl rfl Try.isAgg3) ?_; intro a hF
        refine s_val hF rfl rfl rfl (e_ia hF rfl rfl Try.underlying46 Try.sizeOf3 c23.1 c23.2) ?_; intro a hF
        refine s_val hF rfl rfl rfl (e_ldi (i := 1) (k := 0) hF hM rfl rfl rfl rfl rfl Try.isAgg3 c23.1 c23.2) ?_; intro a hF
        refine s_val hF rfl rfl rfl (e_add hF rfl rfl) ?_; intro a hF
        refine s_val hF rfl rfl rfl (e_ia hF rfl rfl Try.underlying46 Try.sizeOf3 c23.1 c23.2) ?_; intro a hF
        refine s_sti (i := 1) (k := 0) hF hM rfl rfl rfl rfl rfl rfl rfl Try.sizeOf3 c23.1 c23.2 ?_; intro a w hF hM
        refine s_nil ?_
        refine blk_n ?_
        refine then_n ?_
        refine s_region ?_
        refine s_val hF rfl rfl rfl (e_move hF rfl) ?_; intro a hF
        refine s_val hF rfl rfl rfl (e_add hF rfl rfl) ?_; intro a hF
        refine s_val hF rfl rfl rfl (e_assign hF rfl) ?_; intro a hF
        refine s_nil ?_
        refine then_n ?_
        exact ⟨(wrap64 (x18 + 1)), (x19.set ((l0.getD (x18 : Int).toNat (0 : Int)) : Int).toNat ((x19.getD ((l0.getD (x18 : Int).toNat (0 : Int)) : Int).toNat (Ar.zero 6)).set (x20.get (l0.getD (x18 : Int).toNat (0 : Int))) (wrap64 (x18 + 1)))), (x20.set (l0.getD (x18 : Int).toNat (0 : Int)) (wrap64 ((x20.get (l0.getD (x18 : Int).toNat (0 : Int))) + 1))), H, hF.sub _ ⟨rfl, rfl, rfl, rfl, trivial⟩, hM.pick [0, 1] rfl rfl⟩
      ·
        refine s_cond_f hF rfl (decide_eq_false c21) ?_
        refine wp_exit ?_
        refine then_x ?_
        refine then_x ?_
        exact ⟨rfl, x19, some_some H, hF.sub _ ⟨rfl, trivial⟩, hM.pick [0] rfl rfl⟩
  · rintro e a w ⟨rfl, x17, rfl, hF, hM⟩
    skip
    refine blk_x ?_
    refine then_n ?_
    refine wp_seq ?_
    refine s_region ?_
    refine s_val hF rfl rfl rfl (e_move hF rfl) ?_; intro a hF
    refine s_val hF rfl rfl rfl (e_assign hF rfl) ?_; intro a hF
    refine s_nil ?_
    refine then_n ?_
    refine wp_ret ?_
    obtain rfl := some_some H
    refine s_ret [v1] hF Try.results53 ⟨rfl, trivial⟩ ?_
    exact ⟨_, rfl, hM.frm, hM.give 0 rfl⟩

/-! ### loop.example/g01210/spec.FromLetters: function 25 -/
def spec_FromLetters.f (K : Nat) (l0 : (List Int)) : Option ((List (Ar 6)) × Bool) := (spec_l10Letters.f K l0).bind fun t1 => if t1 = true then ((spec_l10Pool.f K l0).bind fun t4 => some (t4, true)) else (some (([] : List (Ar 6)), false))
set_option maxRecDepth 100000 in
set_option maxHeartbeats 4000000 in
theorem spec_FromLetters.calls {w0 : World} (K : Nat) (l0 : (List Int)) (u0 : Value) (q0 : SlR cd3 w0 u0 l0) (r : ((List (Ar 6)) × Bool)) (H : spec_FromLetters.f K l0 = some r) : Calls Try.prog 25 [u0].toArray w0 (Post w0 fun w v => ∃ v0 : Value, v = Value.tuple #[v0, Value.bool r.2] ∧ Fresh cd62 w0.heap.size w v0 r.1) := by
  rw [spec_FromLetters.f] at H
  refine s_start Try.func25 rfl Try.ntmps25 rfl ?_
  intro a hF
  have hM := Ms.start w0
  skip
  refine wp_seq ?_
  refine s_region ?_
  refine s_val hF rfl rfl rfl (e_assign hF rfl) ?_; intro a hF
  refine s_val hF rfl rfl rfl (e_assign hF rfl) ?_; intro a hF
  refine s_nil ?_
  refine then_n ?_
  refine wp_seq ?_
  refine wp_seq ?_
  obtain ⟨t1, h2, H⟩ := bind_some H
  refine s_region ?_
  refine s_val hF rfl rfl rfl (e_move hF rfl) ?_; intro a hF
  refine s_call hF rfl rfl rfl Try.call47 (spec_l10Letters.calls K l0 u0 (q0.frm hM.frm) t1 h2) ?_; intro a w v hF hf hR
  subst hR; have hM := hM.grow hf
  refine s_val hF rfl rfl rfl (e_not hF rfl) ?_; intro a hF
  refine s_nil ?_
  refine then_n ?_
  rcases ite_cases H with ⟨c3, H⟩ | ⟨c3, H⟩
  ·
    refine s_cond_f hF rfl (congrArg Bool.not c3) ?_
    refine wp_skip ?_
    refine then_n ?_
    refine wp_seq ?_
    obtain ⟨t4, h5, H⟩ := bind_some H
    refine s_region ?_
    refine s_val hF rfl rfl rfl (e_move hF rfl) ?_; intro a hF
    refine s_call hF rfl rfl rfl Try.call53 (spec_l10Pool.calls K l0 u0 (q0.frm hM.frm) t4 h5) ?_; intro a w v6 hF hf hR
    have hM := hM.fresh hf hR
    refine s_val hF rfl rfl rfl (e_assign hF rfl) ?_; intro a hF
    refine s_val hF rfl rfl rfl (e_assign hF rfl) ?_; intro a hF
    refine s_nil ?_
    refine then_n ?_
    refine wp_ret ?_
    obtain rfl := some_some H
    refine s_ret [v6, Value.bool true] hF Try.results25 ⟨rfl, rfl, trivial⟩ ?_
    exact ⟨_, rfl, hM.frm, ⟨v6, rfl, hM.give 0 rfl⟩⟩
  ·
    refine s_cond_t hF rfl (congrArg Bool.not (bf c3)) ?_
    refine wp_seq ?_
    refine s_region ?_
    refine s_bsl (C := cd62) ([] : List (Ar 6)) cdok62 hF hM rfl rfl rfl rfl Try.underlying37 rfl ?_; intro a w v7 hF hM
    refine s_val hF rfl rfl rfl (e_assign hF rfl) ?_; intro a hF
    refine s_val hF rfl rfl rfl (e_assign hF rfl) ?_; intro a hF
    refine s_nil ?_
    refine then_n ?_
    refine wp_ret ?_
    refine then_r ?_
    obtain rfl := some_some H
    refine s_ret [v7, Value.bool false] hF Try.results25 ⟨rfl, rfl, trivial⟩ ?_
    exact ⟨_, rfl, hM.frm, ⟨v7, rfl, hM.give 0 rfl⟩⟩

/-! ### loop.example/g01210/impl.within: function 44 -/
def impl_within.f (K : Nat) (a0 : Int) (a1 : Int) (a2 : Int) : Option Bool := if a1 ≤ a0 then (some (decide (a0 ≤ a2))) else (some false)
set_option maxRecDepth 100000 in
set_option maxHeartbeats 4000000 in
theorem impl_within.calls {w0 : World} (K : Nat) (a0 : Int) (a1 : Int) (a2 : Int) (r : Bool) (H : impl_within.f K a0 a1 a2 = some r) : Calls Try.prog 44 [Value.int .i64 a0, Value.int .i64 a1, Value.int .i64 a2].toArray w0 (Post w0 fun w v => v = Value.bool r) := by
  rw [impl_within.f] at H
  refine s_start Try.func44 rfl Try.ntmps44 rfl ?_
  intro a hF
  have hM := Ms.start w0
  skip
  refine wp_seq ?_
  refine s_region ?_
  refine s_val hF rfl rfl rfl (e_assign hF rfl) ?_; intro a hF
  refine s_nil ?_
  refine then_n ?_
  refine wp_seq ?_
  rcases ite_cases H with ⟨c1, H⟩ | ⟨c1, H⟩
  ·
    refine s_region ?_
    refine s_val hF rfl rfl rfl (e_move hF rfl) ?_; intro a hF
    refine s_val hF rfl rfl rfl (e_move hF rfl) ?_; intro a hF
    refine s_val hF rfl rfl rfl (e_leq hF rfl rfl) ?_; intro a hF
    refine s_val hF rfl rfl rfl (e_move hF rfl) ?_; intro a hF
    have hF := hF.topb (decide_eq_true c1)
    refine s_val hF rfl rfl rfl (e_move hF rfl) ?_; intro a hF
    refine s_val hF rfl rfl rfl (e_move hF rfl) ?_; intro a hF
    refine s_val hF rfl rfl rfl (e_leq hF rfl rfl) ?_; intro a hF
    refine s_val hF rfl rfl rfl (e_pick_t hF rfl rfl) ?_; intro a hF
    refine s_val hF rfl rfl rfl (e_assign hF rfl) ?_; intro a hF
    refine s_nil ?_
    refine then_n ?_
    refine wp_ret ?_
    obtain rfl := some_some H
    refine s_ret [Value.bool (decide (a0 ≤ a2))] hF Try.results44 ⟨rfl, trivial⟩ ?_
    exact ⟨_, rfl, hM.frm, rfl⟩
  ·
    refine s_region ?_
    refine s_val hF rfl rfl rfl (e_move hF rfl) ?_; intro a hF
    refine s_val hF rfl rfl rfl (e_move hF rfl) ?_; intro a hF
    refine s_val hF rfl rfl rfl (e_leq hF rfl rfl) ?_; intro a hF
    refine s_val hF rfl rfl rfl (e_move hF rfl) ?_; intro a hF
    have hF := hF.topb (decide_eq_false c1)
    refine s_skip hF rfl rfl rfl ?_; intro a hF
    refine s_skip hF rfl rfl rfl ?_; intro a hF
    refine s_skip hF rfl rfl rfl ?_; intro a hF
    refine s_val hF rfl rfl rfl (e_pick_f hF rfl rfl) ?_; intro a hF
    refine s_val hF rfl rfl rfl (e_assign hF rfl) ?_; intro a hF
    refine s_nil ?_
    refine then_n ?_
    refine wp_ret ?_
    obtain rfl := some_some H
    refine s_ret [Value.bool false] hF Try.results44 ⟨rfl, trivial⟩ ?_
    exact ⟨_, rfl, hM.frm, rfl⟩

/-! ### loop.example/g01210/impl.fromLetters: function 48 -/
def impl_fromLetters.l0 (K : Nat) (l0 : (List Int)) : Nat → Int → (List (Ar 6)) → (List Int) → Option (Sum (List (Ar 6)) ((List (Ar 6)) × Bool))
  | 0, _, _, _ => none
  | k + 1, x30, x31, x32 => if x30 < (l0.length : Int) then (if (0 : Int) ≤ x30 ∧ x30 < (l0.length : Int) then ((impl_within.f K (l0.getD (x30 : Int).toNat (0 : Int)) 0 (wrap64 ((wrap64 ((l0.length : Int).tdiv 6)) - 1))).bind fun t35 => if t35 = true then (if (0 : Int) ≤ (l0.getD (x30 : Int).toNat (0 : Int)) ∧ (l0.getD (x30 : Int).toNat (0 : Int)) < (x32.length : Int) then (if (x32.getD ((l0.getD (x30 : Int).toNat (0 : Int)) : Int).toNat (0 : Int)) = 6 then (some (Sum.inr ([], false))) else (if (0 : Int) ≤ (l0.getD (x30 : Int).toNat (0 : Int)) ∧ (l0.getD (x30 : Int).toNat (0 : Int)) < (x31.length : Int) then (if (0 : Int) ≤ (x32.getD ((l0.getD (x30 : Int).toNat (0 : Int)) : Int).toNat (0 : Int)) ∧ (x32.getD ((l0.getD (x30 : Int).toNat (0 : Int)) : Int).toNat (0 : Int)) < 6 then (impl_fromLetters.l0 K l0 k (wrap64 (x30 + 1)) (x31.set ((l0.getD (x30 : Int).toNat (0 : Int)) : Int).toNat ((x31.getD ((l0.getD (x30 : Int).toNat (0 : Int)) : Int).toNat (Ar.zero 6)).set (x32.getD ((l0.getD (x30 : Int).toNat (0 : Int)) : Int).toNat (0 : Int)) (wrap64 (x30 + 1)))) (x32.set ((l0.getD (x30 : Int).toNat (0 : Int)) : Int).toNat (wrap64 ((x32.getD ((l0.getD (x30 : Int).toNat (0 : Int)) : Int).toNat (0 : Int)) + 1)))) else none) else none)) else none) else (some (Sum.inr ([], false)))) else none) else (some (Sum.inl x31))
def impl_fromLetters.f (K : Nat) (l0 : (List Int)) : Option ((List (Ar 6)) × Bool) := if ((l0.length : Int).tmod 6) = 0 then ((impl_within.f K (wrap64 ((l0.length : Int).tdiv 6)) 1 4).bind fun t2 => if t2 = true then (if (0 : Int) ≤ (wrap64 ((l0.length : Int).tdiv 6)) ∧ (wrap64 ((l0.length : Int).tdiv 6)) ≤ 1073741824 then ((impl_fromLetters.l0 K l0 K 0 (List.replicate (wrap64 ((l0.length : Int).tdiv 6)).toNat (Ar.zero 6)) (List.replicate (wrap64 ((l0.length : Int).tdiv 6)).toNat (0 : Int))).bind fun o44 => (match o44 with | .inl x29 => some (x29, true) | .inr r46 => some (r46.1, r46.2))) else none) else (some ([], false))) else (some ([], false))
set_option maxRecDepth 100000 in
set_option maxHeartbeats 4000000 in
theorem impl_fromLetters.calls {w0 : World} (K : Nat) (l0 : (List Int)) (u0 : Value) (q0 : SlR cd3 w0 u0 l0) (r : ((List (Ar 6)) × Bool)) (H : impl_fromLetters.f K l0 = some r) : Calls Try.prog 48 [u0].toArray w0 (Post w0 fun w v => ∃ v0 : Value, v = Value.tuple #[v0, Value.bool r.2] ∧ Fresh cd62 w0.heap.size w v0 r.1) := by
  rw [impl_fromLetters.f] at H
  refine s_start Try.func48 rfl Try.ntmps48 rfl ?_
  intro a hF
  have hM := Ms.start w0
  skip
  refine wp_seq ?_
  refine s_region ?_
  refine s_val hF rfl rfl rfl (e_assign hF rfl) ?_; intro a hF
  refine s_val hF rfl rfl rfl (e_assign hF rfl) ?_; intro a hF
  refine s_nil ?_
  refine then_n ?_
  refine wp_seq ?_
  refine s_region ?_
  refine s_val hF rfl rfl rfl (e_move hF rfl) ?_; intro a hF
  refine s_val hF rfl rfl rfl (e_len hF rfl (q0.frm hM.frm).toF Try.underlying25) ?_; intro a hF
  refine s_val hF rfl rfl rfl (e_quo hF rfl rfl (by decide)) ?_; intro a hF
  refine s_val hF rfl rfl rfl (e_assign hF rfl) ?_; intro a hF
  refine s_nil ?_
  refine then_n ?_
  refine wp_seq ?_
  refine wp_seq ?_
  rcases ite_cases H with ⟨c1, H⟩ | ⟨c1, H⟩
  ·
    obtain ⟨t2, h3, H⟩ := bind_some H
    refine s_region ?_
    refine s_val hF rfl rfl rfl (e_move hF rfl) ?_; intro a hF
    refine s_val hF rfl rfl rfl (e_len hF rfl (q0.frm hM.frm).toF Try.underlying25) ?_; intro a hF
    refine s_val hF rfl rfl rfl (e_rem hF rfl rfl (by decide)) ?_; intro a hF
    refine s_val hF rfl rfl rfl (e_neq hF rfl rfl) ?_; intro a hF
    refine s_val hF rfl rfl rfl (e_move hF rfl) ?_; intro a hF
    have hF := hF.topb (congrArg Bool.not (decide_eq_true c1))
    refine s_val hF rfl rfl rfl (e_move hF rfl) ?_; intro a hF
    refine s_call hF rfl rfl rfl Try.call44 (impl_within.calls K (wrap64 ((l0.length : Int).tdiv 6)) 1 4 t2 h3) ?_; intro a w v hF hf hR
    subst hR; have hM := hM.grow hf
    refine s_val hF rfl rfl rfl (e_not hF rfl) ?_; intro a hF
    refine s_val hF rfl rfl rfl (e_pick_f hF rfl rfl) ?_; intro a hF
    refine s_nil ?_
    refine then_n ?_
    rcases ite_cases H with ⟨c4, H⟩ | ⟨c4, H⟩
    ·
      refine s_cond_f hF rfl (congrArg Bool.not c4) ?_
      refine wp_skip ?_
      refine then_n ?_
      refine wp_seq ?_
      obtain ⟨c6, H⟩ := ite_some H
      refine wp_mono (Q := fun e a w => e = Exit.normal ∧ ∃ v5 : Value, ∃ v7 : Value, Fr 62 a [(0, u0), (4, Value.int .i64 (wrap64 ((l0.length : Int).tdiv 6))), (5, v5), (6, v7)] ∧ Ms [] w0 w [rowR cd62 v5 (List.replicate (wrap64 ((l0.length : Int).tdiv 6)).toNat (Ar.zero 6)), rowR cd3 v7 (List.replicate (wrap64 ((l0.length : Int).tdiv 6)).toNat (0 : Int))]) ?_ ?_
      · skip
        refine s_held (fun w => Ms [] w0 w []) #[false, false, false, false, false, false] mixed rfl rfl hM ?_; intro w hf hM; clear hf
        refine h_val 0 #[true, false, false, false, false, false] rfl (by kernel_rfl) hF rfl rfl rfl (fun w hS => e_move hF rfl) (hM.pick [] rfl rfl) ?_; intro a hF
        refine h_val 2 #[true, false, true, false, false, false] rfl (by kernel_rfl) hF rfl rfl rfl (fun w hS => e_move hF rfl) (hM.pick [] rfl rfl) ?_; intro a hF
        refine h_two 1 3 #[true, true, true, false, false, false] #[true, false, true, true, false, false] rfl rfl rfl rfl (by kernel_rfl) ?_ ?_
        · skip
          refine s_make (C := cd62) cdok62 hF hM rfl rfl rfl rfl Try.underlying37 c6.1 c6.2 ?_; intro a w v5 hF hM
          refine s_nil ⟨rfl, (hM.pick [] rfl rfl), ?_⟩
          refine h_val 4 #[true, true, true, false, true, false] rfl (by kernel_rfl) hF rfl rfl rfl (fun w hS => e_assign hF rfl) (hM.pick [] rfl rfl) ?_; intro a hF
          refine h_one 3 #[true, true, true, true, true, false] rfl (by kernel_rfl) ?_
          refine s_make (C := cd3) cdok3 hF hM rfl rfl rfl rfl Try.underlying25 c6.1 c6.2 ?_; intro a w v7 hF hM
          refine s_nil ⟨rfl, (hM.pick [] rfl rfl), ?_⟩
          refine h_val 5 #[true, true, true, true, true, true] rfl (by kernel_rfl) hF rfl rfl rfl (fun w hS => e_assign hF rfl) (hM.pick [] rfl rfl) ?_; intro a hF
          exact h_done rfl ⟨rfl, v5, v7, hF.sub _ ⟨rfl, rfl, rfl, rfl, trivial⟩, hM.pick [1, 0] rfl rfl⟩
        · skip
          refine s_make (C := cd3) cdok3 hF hM rfl rfl rfl rfl Try.underlying25 c6.1 c6.2 ?_; intro a w v7 hF hM
          refine s_nil ⟨rfl, (hM.pick [] rfl rfl), ?_⟩
          refine h_one 1 #[true, true, true, true, false, false] rfl (by kernel_rfl) ?_
          refine s_make (C := cd62) cdok62 hF hM rfl rfl rfl rfl Try.underlying37 c6.1 c6.2 ?_; intro a w v5 hF hM
          refine s_nil ⟨rfl, (hM.pick [] rfl rfl), ?_⟩
          refine h_val 4 #[true, true, true, true, true, false] rfl (by kernel_rfl) hF rfl rfl rfl (fun w hS => e_assign hF rfl) (hM.pick [] rfl rfl) ?_; intro a hF
          refine h_val 5 #[true, true, true, true, true, true] rfl (by kernel_rfl) hF rfl rfl rfl (fun w hS => e_assign hF rfl) (hM.pick [] rfl rfl) ?_; intro a hF
          exact h_done rfl ⟨rfl, v5, v7, hF.sub _ ⟨rfl, rfl, rfl, rfl, trivial⟩, hM.pick [0, 1] rfl rfl⟩
      rintro e a w ⟨rfl, v5, v7, hF, hM⟩
      refine then_n ?_
      refine wp_seq ?_
      refine wp_seq ?_
      refine s_region ?_
      refine s_val hF rfl rfl rfl (e_move hF rfl) ?_; intro a hF
      refine s_val hF rfl rfl rfl (e_len hF rfl (q0.frm hM.frm).toF Try.underlying25) ?_; intro a hF
      refine s_val hF rfl rfl rfl (e_move hF rfl) ?_; intro a hF
      refine s_nil ?_
      refine then_n ?_
      refine wp_block ?_
      obtain ⟨o44, h45, H⟩ := bind_some H
      refine wp_mono (Q := fun e a w => (e = Exit.exit 0 ∧ ∃ x29 : (List (Ar 6)), Sum.inl x29 = o44 ∧ Fr 62 a [(5, v5)] ∧ Ms [] w0 w [rowR cd62 v5 x29]) ∨ (e = Exit.ret ∧ ∃ v47 : Value, ∃ r46 : ((List (Ar 6)) × Bool), Sum.inr r46 = o44 ∧ Fr 62 a [(2, v47), (3, Value.bool r46.2)] ∧ Ms [] w0 w [rowR cd62 v47 r46.1])) ?_ ?_
      · refine s_loop (fun kq a w => ∃ x30 : Int, ∃ x31 : (List (Ar 6)), ∃ x32 : (List Int), impl_fromLetters.l0 K l0 kq x30 x31 x32 = some o44 ∧ Fr 62 a [(4, Value.int .i64 (wrap64 ((l0.length : Int).tdiv 6))), (5, v5), (6, v7), (25, u0), (26, Value.int .i64 (l0.length : Int)), (27, Value.int .i64 x30)] ∧ Ms [] w0 w [rowR cd62 v5 x31, rowR cd3 v7 x32]) K ⟨0, (List.replicate (wrap64 ((l0.length : Int).tdiv 6)).toNat (Ar.zero 6)), (List.replicate (wrap64 ((l0.length : Int).tdiv 6)).toNat (0 : Int)), h45, hF.sub _ ⟨rfl, rfl, rfl, rfl, rfl, rfl, trivial⟩, hM.pick [0, 1] rfl rfl⟩ ?_ ?_
        · rintro a w ⟨_, _, _, H, _⟩; exact none_some H
        · rintro k a w ⟨x30, x31, x32, H, hF, hM⟩; rw [impl_fromLetters.l0] at H
          refine wp_seq ?_
          refine s_region ?_
          refine s_val hF rfl rfl rfl (e_lss hF rfl rfl) ?_; intro a hF
          refine s_nil ?_
          refine then_n ?_
          refine wp_seq ?_
          rcases ite_cases H with ⟨c33, H⟩ | ⟨c33, H⟩
          ·
            refine s_cond_t hF rfl (decide_eq_true c33) ?_
            refine wp_skip ?_
            refine then_n ?_
            refine wp_seq ?_
            refine wp_block ?_
            refine wp_seq ?_
            obtain ⟨c34, H⟩ := ite_some H
            refine s_region ?_
            refine s_val hF rfl rfl rfl (e_move hF rfl) ?_; intro a hF
            refine s_val hF rfl rfl rfl (e_ias cd3 hF rfl rfl (q0.frm hM.frm).toF Try.underlying25 Try.sizeOf3 c34.1 c34.2) ?_; intro a hF
            refine s_val hF rfl rfl rfl (e_lds (m := x30) hF rfl (q0.frm hM.frm) (getD_some (z := (0 : Int)) c34.1 c34.2) rfl rfl Try.isAgg3) ?_; intro a hF
            refine s_val hF rfl rfl rfl (e_assign hF rfl) ?_; intro a hF
            refine s_val hF rfl rfl rfl (e_assign hF rfl) ?_; intro a hF
            refine s_nil ?_
            refine then_n ?_
            refine wp_seq ?_
            refine wp_seq ?_
            obtain ⟨t35, h36, H⟩ := bind_some H
            rcases ite_cases H with ⟨c37, H⟩ | ⟨c37, H⟩
            ·
              obtain ⟨c38, H⟩ := ite_some H
              refine s_region ?_
              refine s_val hF rfl rfl rfl (e_move hF rfl) ?_; intro a hF
              refine s_val hF rfl rfl rfl (e_move hF rfl) ?_; intro a hF
              refine s_val hF rfl rfl rfl (e_sub hF rfl rfl) ?_; intro a hF
              refine s_call hF rfl rfl rfl Try.call44 (impl_within.calls K (l0.getD (x30 : Int).toNat (0 : Int)) 0 (wrap64 ((wrap64 ((l0.length : Int).tdiv 6)) - 1)) t35 h36) ?_; intro a w v hF hf hR
              subst hR; have hM := hM.grow hf
              refine s_val hF rfl rfl rfl (e_not hF rfl) ?_; intro a hF
              refine s_val hF rfl rfl rfl (e_move hF rfl) ?_; intro a hF
              have hF := hF.topb (congrArg Bool.not c37)
              refine s_val hF rfl rfl rfl (e_move hF rfl) ?_; intro a hF
              refine s_val hF rfl rfl rfl (e_move hF rfl) ?_; intro a hF
              refine s_val hF rfl rfl rfl (e_ias cd3 hF rfl rfl (hM.sl 1 rfl).toF Try.underlying25 Try.sizeOf3 c38.1 c38.2) ?_; intro a hF
              refine s_val hF rfl rfl rfl (e_lds (m := (l0.getD (x30 : Int).toNat (0 : Int))) hF rfl (hM.sl 1 rfl) (getD_some (z := (0 : Int)) c38.1 c38.2) rfl rfl Try.isAgg3) ?_; intro a hF
              refine s_val hF rfl rfl rfl (e_eql hF rfl rfl) ?_; intro a hF
              refine s_val hF rfl rfl rfl (e_pick_f hF rfl rfl) ?_; intro a hF
              refine s_nil ?_
              refine then_n ?_
              rcases ite_cases H with ⟨c39, H⟩ | ⟨c39, H⟩
              ·
                refine s_cond_t hF rfl (decide_eq_true c39) ?_
                refine wp_seq ?_
                refine s_region ?_
                refine s_val hF rfl rfl rfl (e_assign hF rfl) ?_; intro a hF
                refine s_val hF rfl rfl rfl (e_assign hF rfl) ?_; intro a hF
                refine s_nil ?_
                refine then_n ?_
                refine wp_ret ?_
                refine then_r ?_
                refine blk_r ?_
                refine then_r ?_
                have hM := hM.nilRow cd62
                refine then_r ?_
                exact Or.inr (⟨rfl, (Value.slice none 0 0), ([], false), some_some H, hF.sub _ ⟨rfl, rfl, trivial⟩, hM.pick [0] rfl rfl⟩)
              ·
                refine s_cond_f hF rfl (decide_eq_false c39) ?_
                refine wp_skip ?_
                refine then_n ?_
                refine wp_seq ?_
                obtain ⟨c40, H⟩ := ite_some H
                obtain ⟨c41, H⟩ := ite_some H
                refine s_held (fun w => Ms [] w0 w [rowR cd3 v7 x32]) #[false, false, false, false, false, false, false, false, false, false, false] mixed rfl rfl hM ?_; intro w hf hM; clear hf
                refine h_val 0 #[true, false, false, false, false, false, false, false, false, false, false] rfl (by kernel_rfl) hF rfl rfl rfl (fun w hS => e_move hF rfl) (hM.pick [1] rfl rfl) ?_; intro a hF
                refine h_val 1 #[true, true, false, false, false, false, false, false, false, false, false] rfl (by kernel_rfl) hF rfl rfl rfl (fun w hS => e_move hF rfl) (hM.pick [1] rfl rfl) ?_; intro a hF
                refine h_val 2 #[true, true, true, false, false, false, false, false, false, false, false] rfl (by kernel_rfl) hF rfl rfl rfl (fun w hS => e_move hF rfl) (hM.pick [1] rfl rfl) ?_; intro a hF
                refine h_val 3 #[true, true, true, true, false, false, false, false, false, false, false] rfl (by kernel_rfl) hF rfl rfl rfl (fun w hS => e_move hF rfl) (hM.pick [1] rfl rfl) ?_; intro a hF
                have f42 := (hM.sl 1 rfl).toF
                refine h_val 4 #[true, true, true, true, true, false, false, false, false, false, false] rfl (by kernel_rfl) hF rfl rfl rfl (fun w hS => e_ias cd3 hF rfl rfl f42 Try.underlying25 Try.sizeOf3 c38.1 c38.2) (hM.pick [1] rfl rfl) ?_; intro a hF
                refine h_val 5 #[true, true, true, true, true, true, false, false, false, false, false] rfl (by kernel_rfl) hF rfl rfl rfl (fun w hS => e_lds (m := (l0.getD (x30 : Int).toNat (0 : Int))) hF rfl (hS.sl 0 rfl) (getD_some (z := (0 : Int)) c38.1 c38.2) rfl rfl Try.isAgg3) (hM.pick [1] rfl rfl) ?_; intro a hF
                refine h_val 6 #[true, true, true, true, true, true, true, false, false, false, false] rfl (by kernel_rfl) hF rfl rfl rfl (fun w hS => e_move hF rfl) (hM.pick [1] rfl rfl) ?_; intro a hF
                refine h_val 7 #[true, true, true, true, true, true, true, true, false, false, false] rfl (by kernel_rfl) hF rfl rfl rfl (fun w hS => e_add hF rfl rfl) (hM.pick [1] rfl rfl) ?_; intro a hF
                have f43 := (hM.sl 0 rfl).toF
                refine h_val 8 #[true, true, true, true, true, true, true, true, true, false, false] rfl (by kernel_rfl) hF rfl rfl rfl (fun w hS => e_ias cd62 hF rfl rfl f43 Try.underlying37 Try.sizeOf62 c40.1 c40.2) (hM.pick [1] rfl rfl) ?_; intro a hF
                refine h_val 9 #[true, true, true, true, true, true, true, true, true, true, false] rfl (by kernel_rfl) hF rfl rfl rfl (fun w hS => e_ia hF rfl rfl Try.underlying62 Try.sizeOf3 c41.1 c41.2) (hM.pick [1] rfl rfl) ?_; intro a hF
                refine h_one 10 #[true, true, true, true, true, true, true, true, true, true, true] rfl (by kernel_rfl) ?_
                refine s_stsi (i := 0) (k := 0) (o := 0) (m := (l0.getD (x30 : Int).toNat (0 : Int))) (m2 := (x32.getD ((l0.getD (x30 : Int).toNat (0 : Int)) : Int).toNat (0 : Int))) ((x31.getD ((l0.getD (x30 : Int).toNat (0 : Int)) : Int).toNat (Ar.zero 6)).set (x32.getD ((l0.getD (x30 : Int).toNat (0 : Int)) : Int).toNat (0 : Int)) (wrap64 (x30 + 1))) hF hM rfl rfl rfl rfl (getD_some (z := (Ar.zero 6)) c40.1 c40.2) rfl rfl rfl Try.sizeOf3 c41.1 c41.2 ?_; intro a w hF hM
                refine s_nil ⟨rfl, (hM.pick [1] rfl rfl), ?_⟩
                refine h_done rfl ?_
                refine then_n ?_
                refine s_region ?_
                refine s_val hF rfl rfl rfl (e_move hF rfl) ?_; intro a hF
                refine s_val hF rfl rfl rfl (e_move hF rfl) ?_; intro a hF
                refine s_val hF rfl rfl rfl (e_ias cd3 hF rfl rfl (hM.sl 1 rfl).toF Try.underlying25 Try.sizeOf3 c38.1 c38.2) ?_; intro a hF
                refine s_val hF rfl rfl rfl (e_lds (m := (l0.getD (x30 : Int).toNat (0 : Int))) hF rfl (hM.sl 1 rfl) (getD_some (z := (0 : Int)) c38.1 c38.2) rfl rfl Try.isAgg3) ?_; intro a hF
                refine s_val hF rfl rfl rfl (e_add hF rfl rfl) ?_; intro a hF
                refine s_val hF rfl rfl rfl (e_ias cd3 hF rfl rfl (hM.sl 1 rfl).toF Try.underlying25 Try.sizeOf3 c38.1 c38.2) ?_; intro a hF
                refine s_sts (i := 1) (wrap64 ((x32.getD ((l0.getD (x30 : Int).toNat (0 : Int)) : Int).toNat (0 : Int)) + 1)) hF hM rfl rfl rfl rfl rfl c38.1 c38.2 Try.sizeOf3 ?_; intro a w hF hM
                refine s_nil ?_
                refine blk_n ?_
                refine then_n ?_
                refine s_region ?_
                refine s_val hF rfl rfl rfl (e_add hF rfl rfl) ?_; intro a hF
                refine s_val hF rfl rfl rfl (e_move hF rfl) ?_; intro a hF
                refine s_nil ?_
                refine then_n ?_
                exact ⟨(wrap64 (x30 + 1)), (x31.set ((l0.getD (x30 : Int).toNat (0 : Int)) : Int).toNat ((x31.getD ((l0.getD (x30 : Int).toNat (0 : Int)) : Int).toNat (Ar.zero 6)).set (x32.getD ((l0.getD (x30 : Int).toNat (0 : Int)) : Int).toNat (0 : Int)) (wrap64 (x30 + 1)))), (x32.set ((l0.getD (x30 : Int).toNat (0 : Int)) : Int).toNat (wrap64 ((x32.getD ((l0.getD (x30 : Int).toNat (0 : Int)) : Int).toNat (0 : Int)) + 1))), H, hF.sub _ ⟨rfl, rfl, rfl, rfl, rfl, rfl, trivial⟩, hM.pick [0, 1] rfl rfl⟩
            ·
              refine s_region ?_
              refine s_val hF rfl rfl rfl (e_move hF rfl) ?_; intro a hF
              refine s_val hF rfl rfl rfl (e_move hF rfl) ?_; intro a hF
              refine s_val hF rfl rfl rfl (e_sub hF rfl rfl) ?_; intro a hF
              refine s_call hF rfl rfl rfl Try.call44 (impl_within.calls K (l0.getD (x30 : Int).toNat (0 : Int)) 0 (wrap64 ((wrap64 ((l0.length : Int).tdiv 6)) - 1)) t35 h36) ?_; intro a w v hF hf hR
              subst hR; have hM := hM.grow hf
              refine s_val hF rfl rfl rfl (e_not hF rfl) ?_; intro a hF
              refine s_val hF rfl rfl rfl (e_move hF rfl) ?_; intro a hF
              have hF := hF.topb (congrArg Bool.not (bf c37))
              refine s_skip hF rfl rfl rfl ?_; intro a hF
              refine s_skip hF rfl rfl rfl ?_; intro a hF
              refine s_skip hF rfl rfl rfl ?_; intro a hF
              refine s_skip hF rfl rfl rfl ?_; intro a hF
              refine s_skip hF rfl rfl rfl ?_; intro a hF
              refine s_val hF rfl rfl rfl (e_pick_t hF rfl rfl) ?_; intro a hF
              refine s_nil ?_
              refine then_n ?_
              refine s_cond_t hF rfl rfl ?_
              refine wp_seq ?_
              refine s_region ?_
              refine s_val hF rfl rfl rfl (e_assign hF rfl) ?_; intro a hF
              refine s_val hF rfl rfl rfl (e_assign hF rfl) ?_; intro a hF
              refine s_nil ?_
              refine then_n ?_
              refine wp_ret ?_
              refine then_r ?_
              refine blk_r ?_
              refine then_r ?_
              have hM := hM.nilRow cd62
              refine then_r ?_
              exact Or.inr (⟨rfl, (Value.slice none 0 0), ([], false), some_some H, hF.sub _ ⟨rfl, rfl, trivial⟩, hM.pick [0] rfl rfl⟩)
          ·
            refine s_cond_f hF rfl (decide_eq_false c33) ?_
            refine wp_exit ?_
            refine then_x ?_
            refine then_x ?_
            exact Or.inl (⟨rfl, x31, some_some H, hF.sub _ ⟨rfl, trivial⟩, hM.pick [0] rfl rfl⟩)
      · rintro e a w (⟨rfl, x29, rfl, hF, hM⟩ | ⟨rfl, v47, r46, rfl, hF, hM⟩)
        ·
          dsimp only at H
          refine blk_x ?_
          refine then_n ?_
          refine wp_seq ?_
          refine s_region ?_
          refine s_val hF rfl rfl rfl (e_move hF rfl) ?_; intro a hF
          refine s_val hF rfl rfl rfl (e_assign hF rfl) ?_; intro a hF
          refine s_val hF rfl rfl rfl (e_assign hF rfl) ?_; intro a hF
          refine s_nil ?_
          refine then_n ?_
          refine wp_ret ?_
          obtain rfl := some_some H
          refine s_ret [v5, Value.bool true] hF Try.results48 ⟨rfl, rfl, trivial⟩ ?_
          exact ⟨_, rfl, hM.frm, ⟨v5, rfl, hM.give 0 rfl⟩⟩
        ·
          dsimp only at H
          refine blk_r ?_
          refine then_r ?_
          obtain rfl := some_some H
          refine s_ret [v47, Value.bool r46.2] hF Try.results48 ⟨rfl, rfl, trivial⟩ ?_
          exact ⟨_, rfl, hM.frm, ⟨v47, rfl, hM.give 0 rfl⟩⟩
    ·
      refine s_cond_t hF rfl (congrArg Bool.not (bf c4)) ?_
      refine wp_seq ?_
      refine s_region ?_
      refine s_val hF rfl rfl rfl (e_assign hF rfl) ?_; intro a hF
      refine s_val hF rfl rfl rfl (e_assign hF rfl) ?_; intro a hF
      refine s_nil ?_
      refine then_n ?_
      refine wp_ret ?_
      refine then_r ?_
      obtain rfl := some_some H
      refine s_ret [(Value.slice none 0 0), Value.bool false] hF Try.results48 ⟨rfl, rfl, trivial⟩ ?_
      exact ⟨_, rfl, hM.frm, ⟨(Value.slice none 0 0), rfl, Fresh.nil _ _ _⟩⟩
  ·
    refine s_region ?_
    refine s_val hF rfl rfl rfl (e_move hF rfl) ?_; intro a hF
    refine s_val hF rfl rfl rfl (e_len hF rfl (q0.frm hM.frm).toF Try.underlying25) ?_; intro a hF
    refine s_val hF rfl rfl rfl (e_rem hF rfl rfl (by decide)) ?_; intro a hF
    refine s_val hF rfl rfl rfl (e_neq hF rfl rfl) ?_; intro a hF
    refine s_val hF rfl rfl rfl (e_move hF rfl) ?_; intro a hF
    have hF := hF.topb (congrArg Bool.not (decide_eq_false c1))
    refine s_skip hF rfl rfl rfl ?_; intro a hF
    refine s_skip hF rfl rfl rfl ?_; intro a hF
    refine s_skip hF rfl rfl rfl ?_; intro a hF
    refine s_val hF rfl rfl rfl (e_pick_t hF rfl rfl) ?_; intro a hF
    refine s_nil ?_
    refine then_n ?_
    refine s_cond_t hF rfl rfl ?_
    refine wp_seq ?_
    refine s_region ?_
    refine s_val hF rfl rfl rfl (e_assign hF rfl) ?_; intro a hF
    refine s_val hF rfl rfl rfl (e_assign hF rfl) ?_; intro a hF
    refine s_nil ?_
    refine then_n ?_
    refine wp_ret ?_
    refine then_r ?_
    obtain rfl := some_some H
    refine s_ret [(Value.slice none 0 0), Value.bool false] hF Try.results48 ⟨rfl, rfl, trivial⟩ ?_
    exact ⟨_, rfl, hM.frm, ⟨(Value.slice none 0 0), rfl, Fresh.nil _ _ _⟩⟩

/-! ### loop.example/g01210/impl.FromLetters: function 26 -/
def impl_FromLetters.f (K : Nat) (l0 : (List Int)) : Option ((List (Ar 6)) × Bool) := (impl_fromLetters.f K l0).bind fun t1 => some (t1.1, t1.2)
set_option maxRecDepth 100000 in
set_option maxHeartbeats 4000000 in
theorem impl_FromLetters.calls {w0 : World} (K : Nat) (l0 : (List Int)) (u0 : Value) (q0 : SlR cd3 w0 u0 l0) (r : ((List (Ar 6)) × Bool)) (H : impl_FromLetters.f K l0 = some r) : Calls Try.prog 26 [u0].toArray w0 (Post w0 fun w v => ∃ v0 : Value, v = Value.tuple #[v0, Value.bool r.2] ∧ Fresh cd62 w0.heap.size w v0 r.1) := by
  rw [impl_FromLetters.f] at H
  refine s_start Try.func26 rfl Try.ntmps26 rfl ?_
  intro a hF
  have hM := Ms.start w0
  skip
  refine wp_seq ?_
  refine s_region ?_
  refine s_val hF rfl rfl rfl (e_assign hF rfl) ?_; intro a hF
  refine s_val hF rfl rfl rfl (e_assign hF rfl) ?_; intro a hF
  refine s_nil ?_
  refine then_n ?_
  refine wp_seq ?_
  obtain ⟨t1, h2, H⟩ := bind_some H
  refine s_region ?_
  refine s_val hF rfl rfl rfl (e_move hF rfl) ?_; intro a hF
  refine s_call hF rfl rfl rfl Try.call48 (impl_fromLetters.calls K l0 u0 (q0.frm hM.frm) t1 h2) ?_; intro a w v hF hf hR
  obtain ⟨v3, rfl, hR⟩ := hR; have hM := hM.fresh hf hR
  refine s_val hF rfl rfl rfl (e_extract hF rfl rfl) ?_; intro a hF
  refine s_val hF rfl rfl rfl (e_extract hF rfl rfl) ?_; intro a hF
  refine s_val hF rfl rfl rfl (e_assign hF rfl) ?_; intro a hF
  refine s_val hF rfl rfl rfl (e_assign hF rfl) ?_; intro a hF
  refine s_nil ?_
  refine then_n ?_
  refine wp_ret ?_
  obtain rfl := some_some H
  refine s_ret [v3, Value.bool t1.2] hF Try.results26 ⟨rfl, rfl, trivial⟩ ?_
  exact ⟨_, rfl, hM.frm, ⟨v3, rfl, hM.give 0 rfl⟩⟩

/-! ### loop.example/g01210/laws.eqIntA6: function 54 -/
def laws_eqIntA6.l0 (K : Nat) (a0 : (Ar 6)) (a1 : (Ar 6)) : Nat → Int → Option (Sum Unit Bool)
  | 0, _ => none
  | k + 1, x8 => if x8 < 6 then (if (0 : Int) ≤ x8 ∧ x8 < 6 then (if (a0.get x8) = (a1.get x8) then (laws_eqIntA6.l0 K a0 a1 k (wrap64 (x8 + 1))) else (some (Sum.inr false))) else none) else (some (Sum.inl ()))
def laws_eqIntA6.f (K : Nat) (a0 : (Ar 6)) (a1 : (Ar 6)) : Option Bool := (laws_eqIntA6.l0 K a0 a1 K 0).bind fun o12 => (match o12 with | .inl () => some true | .inr r14 => some r14)
set_option maxRecDepth 100000 in
set_option maxHeartbeats 4000000 in
theorem laws_eqIntA6.calls {w0 : World} (K : Nat) (a0 : (Ar 6)) (a1 : (Ar 6)) (r : Bool) (H : laws_eqIntA6.f K a0 a1 = some r) : Calls Try.prog 54 [ag [Pt.ar a0], ag [Pt.ar a1]].toArray w0 (Post w0 fun w v => v = Value.bool r) := by
  rw [laws_eqIntA6.f] at H
  refine s_start Try.func54 rfl Try.ntmps54 rfl ?_
  intro a hF
  have hM := Ms.start w0
  skip
  refine wp_seq ?_
  refine s_region ?_
  refine s_box (ps := [Pt.ar a0]) hF hM rfl rfl rfl rfl ?_; intro a w b1 hF hM
  refine s_box (ps := [Pt.ar a1]) hF hM rfl rfl rfl rfl ?_; intro a w b2 hF hM
  refine s_val hF rfl rfl rfl (e_assign hF rfl) ?_; intro a hF
  refine s_nil ?_
  refine then_n ?_
  refine wp_seq ?_
  refine wp_seq ?_
  refine s_region ?_
  refine s_val hF rfl rfl rfl (e_assign hF rfl) ?_; intro a hF
  refine s_nil ?_
  refine then_n ?_
  refine wp_block ?_
  obtain ⟨o12, h13, H⟩ := bind_some H
  refine wp_mono (Q := fun e a w => (e = Exit.exit 0 ∧ Sum.inl () = o12 ∧ Fr 17 a [] ∧ Ms [] w0 w []) ∨ (e = Exit.ret ∧ ∃ r14 : Bool, Sum.inr r14 = o12 ∧ Fr 17 a [(4, Value.bool r14)] ∧ Ms [] w0 w [])) ?_ ?_
  · refine s_loop (fun kq a w => ∃ x8 : Int, laws_eqIntA6.l0 K a0 a1 kq x8 = some o12 ∧ Fr 17 a [(2, pt b1 0), (3, pt b2 0), (5, Value.int .i64 x8)] ∧ Ms [] w0 w [boxR b1 [Pt.ar a0] 62, boxR b2 [Pt.ar a1] 62]) K ⟨0, h13, hF.sub _ ⟨rfl, rfl, rfl, trivial⟩, hM.pick [1, 0] rfl rfl⟩ ?_ ?_
    · rintro a w ⟨_, H, _⟩; exact none_some H
    · rintro k a w ⟨x8, H, hF, hM⟩; rw [laws_eqIntA6.l0] at H
      refine wp_seq ?_
      refine wp_seq ?_
      refine s_region ?_
      refine s_val hF rfl rfl rfl (e_move hF rfl) ?_; intro a hF
      refine s_val hF rfl rfl rfl (e_lss hF rfl rfl) ?_; intro a hF
      refine s_nil ?_
      refine then_n ?_
      rcases ite_cases H with ⟨c9, H⟩ | ⟨c9, H⟩
      ·
        refine s_cond_t hF rfl (decide_eq_true c9) ?_
        refine wp_skip ?_
        refine then_n ?_
        refine wp_seq ?_
        refine wp_block ?_
        refine wp_seq ?_
        obtain ⟨c10, H⟩ := ite_some H
        refine s_held (fun w => Ms [] w0 w [boxR b1 [Pt.ar a0] 62, boxR b2 [Pt.ar a1] 62]) #[false, false, false, false, false, false, false] mixed rfl rfl hM ?_; intro w hf hM; clear hf
        refine h_val 0 #[true, false, false, false, false, false, false] rfl (by kernel_rfl) hF rfl rfl rfl (fun w hS => e_move hF rfl) (hM.pick [0, 1] rfl rfl) ?_; intro a hF
        refine h_val 1 #[true, true, false, false, false, false, false] rfl (by kernel_rfl) hF rfl rfl rfl (fun w hS => e_ia hF rfl rfl Try.underlying62 Try.sizeOf3 c10.1 c10.2) (hM.pick [0, 1] rfl rfl) ?_; intro a hF
        refine h_val 2 #[true, true, true, false, false, false, false] rfl (by kernel_rfl) hF rfl rfl rfl (fun w hS => e_ldi (i := 0) (k := 0) hF hS rfl rfl rfl rfl rfl Try.isAgg3 c10.1 c10.2) (hM.pick [0, 1] rfl rfl) ?_; intro a hF
        refine h_val 3 #[true, true, true, true, false, false, false] rfl (by kernel_rfl) hF rfl rfl rfl (fun w hS => e_move hF rfl) (hM.pick [0, 1] rfl rfl) ?_; intro a hF
        refine h_val 4 #[true, true, true, true, true, false, false] rfl (by kernel_rfl) hF rfl rfl rfl (fun w hS => e_ia hF rfl rfl Try.underlying62 Try.sizeOf3 c10.1 c10.2) (hM.pick [0, 1] rfl rfl) ?_; intro a hF
        refine h_val 5 #[true, true, true, true, true, true, false] rfl (by kernel_rfl) hF rfl rfl rfl (fun w hS => e_ldi (i := 1) (k := 0) hF hS rfl rfl rfl rfl rfl Try.isAgg3 c10.1 c10.2) (hM.pick [0, 1] rfl rfl) ?_; intro a hF
        refine h_val 6 #[true, true, true, true, true, true, true] rfl (by kernel_rfl) hF rfl rfl rfl (fun w hS => e_neq hF rfl rfl) (hM.pick [0, 1] rfl rfl) ?_; intro a hF
        refine h_done rfl ?_
        refine then_n ?_
        rcases ite_cases H with ⟨c11, H⟩ | ⟨c11, H⟩
        ·
          refine s_cond_f hF rfl (congrArg Bool.not (decide_eq_true c11)) ?_
          refine wp_skip ?_
          refine blk_n ?_
          refine then_n ?_
          refine s_region ?_
          refine s_val hF rfl rfl rfl (e_move hF rfl) ?_; intro a hF
          refine s_val hF rfl rfl rfl (e_add hF rfl rfl) ?_; intro a hF
          refine s_val hF rfl rfl rfl (e_assign hF rfl) ?_; intro a hF
          refine s_nil ?_
          refine then_n ?_
          exact ⟨(wrap64 (x8 + 1)), H, hF.sub _ ⟨rfl, rfl, rfl, trivial⟩, hM.pick [0, 1] rfl rfl⟩
        ·
          refine s_cond_t hF rfl (congrArg Bool.not (decide_eq_false c11)) ?_
          refine wp_seq ?_
          refine s_region ?_
          refine s_val hF rfl rfl rfl (e_assign hF rfl) ?_; intro a hF
          refine s_nil ?_
          refine then_n ?_
          refine wp_ret ?_
          refine blk_r ?_
          refine then_r ?_
          refine then_r ?_
          exact Or.inr (⟨rfl, false, some_some H, hF.sub _ ⟨rfl, trivial⟩, hM.pick [] rfl rfl⟩)
      ·
        refine s_cond_f hF rfl (decide_eq_false c9) ?_
        refine wp_exit ?_
        refine then_x ?_
        refine then_x ?_
        exact Or.inl (⟨rfl, some_some H, hF.sub _ trivial, hM.pick [] rfl rfl⟩)
  · rintro e a w (⟨rfl, rfl, hF, hM⟩ | ⟨rfl, r14, rfl, hF, hM⟩)
    ·
      dsimp only at H
      refine blk_x ?_
      refine then_n ?_
      refine wp_seq ?_
      refine s_region ?_
      refine s_val hF rfl rfl rfl (e_assign hF rfl) ?_; intro a hF
      refine s_nil ?_
      refine then_n ?_
      refine wp_ret ?_
      obtain rfl := some_some H
      refine s_ret [Value.bool true] hF Try.results54 ⟨rfl, trivial⟩ ?_
      exact ⟨_, rfl, hM.frm, rfl⟩
    ·
      dsimp only at H
      refine blk_r ?_
      refine then_r ?_
      obtain rfl := some_some H
      refine s_ret [Value.bool r14] hF Try.results54 ⟨rfl, trivial⟩ ?_
      exact ⟨_, rfl, hM.frm, rfl⟩

/-! ### loop.example/g01210/laws.eqIntA6S: function 27 -/
def laws_eqIntA6S.l0 (K : Nat) (l0 : (List (Ar 6))) (l1 : (List (Ar 6))) : Nat → Int → Option (Sum Unit Bool)
  | 0, _ => none
  | k + 1, x15 => if x15 < (l0.length : Int) then (if (0 : Int) ≤ x15 ∧ x15 < (l0.length : Int) then (if (0 : Int) ≤ x15 ∧ x15 < (l1.length : Int) then ((laws_eqIntA6.f K (l0.getD (x15 : Int).toNat (Ar.zero 6)) (l1.getD (x15 : Int).toNat (Ar.zero 6))).bind fun t19 => if t19 = true then (laws_eqIntA6S.l0 K l0 l1 k (wrap64 (x15 + 1))) else (some (Sum.inr false))) else none) else none) else (some (Sum.inl ()))
def laws_eqIntA6S.f (K : Nat) (l0 : (List (Ar 6))) (l1 : (List (Ar 6))) : Option Bool := if (l0.length : Int) = (l1.length : Int) then ((laws_eqIntA6S.l0 K l0 l1 K 0).bind fun o24 => (match o24 with | .inl () => some true | .inr r26 => some r26)) else (some false)
set_option maxRecDepth 100000 in
set_option maxHeartbeats 4000000 in
theorem laws_eqIntA6S.calls {w0 : World} (K : Nat) (l0 : (List (Ar 6))) (u0 : Value) (q0 : SlR cd62 w0 u0 l0) (l1 : (List (Ar 6))) (u1 : Value) (q1 : SlR cd62 w0 u1 l1) (r : Bool) (H : laws_eqIntA6S.f K l0 l1 = some r) : Calls Try.prog 27 [u0, u1].toArray w0 (Post w0 fun w v => v = Value.bool r) := by
  rw [laws_eqIntA6S.f] at H
  refine s_start Try.func27 rfl Try.ntmps27 rfl ?_
  intro a hF
  have hM := Ms.start w0
  skip
  refine wp_seq ?_
  refine s_region ?_
  refine s_val hF rfl rfl rfl (e_assign hF rfl) ?_; intro a hF
  refine s_nil ?_
  refine then_n ?_
  refine wp_seq ?_
  refine wp_seq ?_
  refine s_region ?_
  refine s_val hF rfl rfl rfl (e_move hF rfl) ?_; intro a hF
  refine s_val hF rfl rfl rfl (e_len hF rfl (q0.frm hM.frm).toF Try.underlying37) ?_; intro a hF
  refine s_val hF rfl rfl rfl (e_move hF rfl) ?_; intro a hF
  refine s_val hF rfl rfl rfl (e_len hF rfl (q1.frm hM.frm).toF Try.underlying37) ?_; intro a hF
  refine s_val hF rfl rfl rfl (e_neq hF rfl rfl) ?_; intro a hF
  refine s_nil ?_
  refine then_n ?_
  rcases ite_cases H with ⟨c1, H⟩ | ⟨c1, H⟩
  ·
    refine s_cond_f hF rfl (congrArg Bool.not (decide_eq_true c1)) ?_
    refine wp_skip ?_
    refine then_n ?_
    refine wp_seq ?_
    refine wp_seq ?_
    refine s_region ?_
    refine s_val hF rfl rfl rfl (e_assign hF rfl) ?_; intro a hF
    refine s_nil ?_
    refine then_n ?_
    refine wp_block ?_
    obtain ⟨o24, h25, H⟩ := bind_some H
    refine wp_mono (Q := fun e a w => (e = Exit.exit 0 ∧ Sum.inl () = o24 ∧ Fr 27 a [] ∧ Ms [] w0 w []) ∨ (e = Exit.ret ∧ ∃ r26 : Bool, Sum.inr r26 = o24 ∧ Fr 27 a [(4, Value.bool r26)] ∧ Ms [] w0 w [])) ?_ ?_
    · refine s_loop (fun kq a w => ∃ x15 : Int, laws_eqIntA6S.l0 K l0 l1 kq x15 = some o24 ∧ Fr 27 a [(0, u0), (1, u1), (5, Value.int .i64 x15)] ∧ Ms [] w0 w []) K ⟨0, h25, hF.sub _ ⟨rfl, rfl, rfl, trivial⟩, hM.pick [] rfl rfl⟩ ?_ ?_
      · rintro a w ⟨_, H, _⟩; exact none_some H
      · rintro k a w ⟨x15, H, hF, hM⟩; rw [laws_eqIntA6S.l0] at H
        refine wp_seq ?_
        refine wp_seq ?_
        refine s_region ?_
        refine s_val hF rfl rfl rfl (e_move hF rfl) ?_; intro a hF
        refine s_val hF rfl rfl rfl (e_move hF rfl) ?_; intro a hF
        refine s_val hF rfl rfl rfl (e_len hF rfl (q0.frm hM.frm).toF Try.underlying37) ?_; intro a hF
        refine s_val hF rfl rfl rfl (e_lss hF rfl rfl) ?_; intro a hF
        refine s_nil ?_
        refine then_n ?_
        rcases ite_cases H with ⟨c16, H⟩ | ⟨c16, H⟩
        ·
          refine s_cond_t hF rfl (decide_eq_true c16) ?_
          refine wp_skip ?_
          refine then_n ?_
          refine wp_seq ?_
          refine wp_block ?_
          refine wp_seq ?_
          obtain ⟨c17, H⟩ := ite_some H
          obtain ⟨c18, H⟩ := ite_some H
          obtain ⟨t19, h20, H⟩ := bind_some H
          refine s_held (fun w => Ms [] w0 w []) #[false, false, false, false, false, false, false, false, false, false] mixed rfl rfl hM ?_; intro w hf hM; clear hf
          refine h_val 0 #[true, false, false, false, false, false, false, false, false, false] rfl (by kernel_rfl) hF rfl rfl rfl (fun w hS => e_move hF rfl) (hM.pick [] rfl rfl) ?_; intro a hF
          refine h_val 1 #[true, true, false, false, false, false, false, false, false, false] rfl (by kernel_rfl) hF rfl rfl rfl (fun w hS => e_move hF rfl) (hM.pick [] rfl rfl) ?_; intro a hF
          have f21 := (q0.frm hM.frm).toF
          refine h_val 2 #[true, true, true, false, false, false, false, false, false, false] rfl (by kernel_rfl) hF rfl rfl rfl (fun w hS => e_ias cd62 hF rfl rfl f21 Try.underlying37 Try.sizeOf62 c17.1 c17.2) (hM.pick [] rfl rfl) ?_; intro a hF
          refine h_val 3 #[true, true, true, true, false, false, false, false, false, false] rfl (by kernel_rfl) hF rfl rfl rfl (fun w hS => e_ldsa (m := x15) hF rfl (q0.frm hS.frm) (getD_some (z := (Ar.zero 6)) c17.1 c17.2) Try.isAgg62 Try.sizeOf62) (hM.pick [] rfl rfl) ?_; intro a hF
          refine h_val 4 #[true, true, true, true, true, false, false, false, false, false] rfl (by kernel_rfl) hF rfl rfl rfl (fun w hS => e_move hF rfl) (hM.pick [] rfl rfl) ?_; intro a hF
          refine h_val 5 #[true, true, true, true, true, true, false, false, false, false] rfl (by kernel_rfl) hF rfl rfl rfl (fun w hS => e_move hF rfl) (hM.pick [] rfl rfl) ?_; intro a hF
          have f22 := (q1.frm hM.frm).toF
          refine h_val 6 #[true, true, true, true, true, true, true, false, false, false] rfl (by kernel_rfl) hF rfl rfl rfl (fun w hS => e_ias cd62 hF rfl rfl f22 Try.underlying37 Try.sizeOf62 c18.1 c18.2) (hM.pick [] rfl rfl) ?_; intro a hF
          refine h_val 7 #[true, true, true, true, true, true, true, true, false, false] rfl (by kernel_rfl) hF rfl rfl rfl (fun w hS => e_ldsa (m := x15) hF rfl (q1.frm hS.frm) (getD_some (z := (Ar.zero 6)) c18.1 c18.2) Try.isAgg62 Try.sizeOf62) (hM.pick [] rfl rfl) ?_; intro a hF
          refine h_one 8 #[true, true, true, true, true, true, true, true, true, false] rfl (by kernel_rfl) ?_
          refine s_call hF rfl rfl rfl Try.call54 (laws_eqIntA6.calls K (l0.getD (x15 : Int).toNat (Ar.zero 6)) (l1.getD (x15 : Int).toNat (Ar.zero 6)) t19 h20) ?_; intro a w v hF hf hR
          subst hR; have hM := hM.grow hf
          refine s_nil ⟨rfl, (hM.pick [] rfl rfl), ?_⟩
          refine h_val 9 #[true, true, true, true, true, true, true, true, true, true] rfl (by kernel_rfl) hF rfl rfl rfl (fun w hS => e_not hF rfl) (hM.pick [] rfl rfl) ?_; intro a hF
          refine h_done rfl ?_
          refine then_n ?_
          rcases ite_cases H with ⟨c23, H⟩ | ⟨c23, H⟩
          ·
            refine s_cond_f hF rfl (congrArg Bool.not c23) ?_
            refine wp_skip ?_
            refine blk_n ?_
            refine then_n ?_
            refine s_region ?_
            refine s_val hF rfl rfl rfl (e_move hF rfl) ?_; intro a hF
            refine s_val hF rfl rfl rfl (e_add hF rfl rfl) ?_; intro a hF
            refine s_val hF rfl rfl rfl (e_assign hF rfl) ?_; intro a hF
            refine s_nil ?_
            refine then_n ?_
            exact ⟨(wrap64 (x15 + 1)), H, hF.sub _ ⟨rfl, rfl, rfl, trivial⟩, hM.pick [] rfl rfl⟩
          ·
            refine s_cond_t hF rfl (congrArg Bool.not (bf c23)) ?_
            refine wp_seq ?_
            refine s_region ?_
            refine s_val hF rfl rfl rfl (e_assign hF rfl) ?_; intro a hF
            refine s_nil ?_
            refine then_n ?_
            refine wp_ret ?_
            refine blk_r ?_
            refine then_r ?_
            refine then_r ?_
            exact Or.inr (⟨rfl, false, some_some H, hF.sub _ ⟨rfl, trivial⟩, hM.pick [] rfl rfl⟩)
        ·
          refine s_cond_f hF rfl (decide_eq_false c16) ?_
          refine wp_exit ?_
          refine then_x ?_
          refine then_x ?_
          exact Or.inl (⟨rfl, some_some H, hF.sub _ trivial, hM.pick [] rfl rfl⟩)
    · rintro e a w (⟨rfl, rfl, hF, hM⟩ | ⟨rfl, r26, rfl, hF, hM⟩)
      ·
        dsimp only at H
        refine blk_x ?_
        refine then_n ?_
        refine wp_seq ?_
        refine s_region ?_
        refine s_val hF rfl rfl rfl (e_assign hF rfl) ?_; intro a hF
        refine s_nil ?_
        refine then_n ?_
        refine wp_ret ?_
        obtain rfl := some_some H
        refine s_ret [Value.bool true] hF Try.results27 ⟨rfl, trivial⟩ ?_
        exact ⟨_, rfl, hM.frm, rfl⟩
      ·
        dsimp only at H
        refine blk_r ?_
        refine then_r ?_
        obtain rfl := some_some H
        refine s_ret [Value.bool r26] hF Try.results27 ⟨rfl, trivial⟩ ?_
        exact ⟨_, rfl, hM.frm, rfl⟩
  ·
    refine s_cond_t hF rfl (congrArg Bool.not (decide_eq_false c1)) ?_
    refine wp_seq ?_
    refine s_region ?_
    refine s_val hF rfl rfl rfl (e_assign hF rfl) ?_; intro a hF
    refine s_nil ?_
    refine then_n ?_
    refine wp_ret ?_
    refine then_r ?_
    obtain rfl := some_some H
    refine s_ret [Value.bool false] hF Try.results27 ⟨rfl, trivial⟩ ?_
    exact ⟨_, rfl, hM.frm, rfl⟩

/-! ### loop.example/g01210/laws.eqIntS: function 17 -/
def laws_eqIntS.l0 (K : Nat) (l0 : (List Int)) (l1 : (List Int)) : Nat → Int → Option (Sum Unit Bool)
  | 0, _ => none
  | k + 1, x11 => if x11 < (l0.length : Int) then (if (0 : Int) ≤ x11 ∧ x11 < (l0.length : Int) then (if (0 : Int) ≤ x11 ∧ x11 < (l1.length : Int) then (if (l0.getD (x11 : Int).toNat (0 : Int)) = (l1.getD (x11 : Int).toNat (0 : Int)) then (laws_eqIntS.l0 K l0 l1 k (wrap64 (x11 + 1))) else (some (Sum.inr false))) else none) else none) else (some (Sum.inl ()))
def laws_eqIntS.f (K : Nat) (l0 : (List Int)) (l1 : (List Int)) : Option Bool := if (l0.length : Int) = (l1.length : Int) then ((laws_eqIntS.l0 K l0 l1 K 0).bind fun o18 => (match o18 with | .inl () => some true | .inr r20 => some r20)) else (some false)
set_option maxRecDepth 100000 in
set_option maxHeartbeats 4000000 in
theorem laws_eqIntS.calls {w0 : World} (K : Nat) (l0 : (List Int)) (u0 : Value) (q0 : SlR cd3 w0 u0 l0) (l1 : (List Int)) (u1 : Value) (q1 : SlR cd3 w0 u1 l1) (r : Bool) (H : laws_eqIntS.f K l0 l1 = some r) : Calls Try.prog 17 [u0, u1].toArray w0 (Post w0 fun w v => v = Value.bool r) := by
  rw [laws_eqIntS.f] at H
  refine s_start Try.func17 rfl Try.ntmps17 rfl ?_
  intro a hF
  have hM := Ms.start w0
  skip
  refine wp_seq ?_
  refine s_region ?_
  refine s_val hF rfl rfl rfl (e_assign hF rfl) ?_; intro a hF
  refine s_nil ?_
  refine then_n ?_
  refine wp_seq ?_
  refine wp_seq ?_
  refine s_region ?_
  refine s_val hF rfl rfl rfl (e_move hF rfl) ?_; intro a hF
  refine s_val hF rfl rfl rfl (e_len hF rfl (q0.frm hM.frm).toF Try.underlying25) ?_; intro a hF
  refine s_val hF rfl rfl rfl (e_move hF rfl) ?_; intro a hF
  refine s_val hF rfl rfl rfl (e_len hF rfl (q1.frm hM.frm).toF Try.underlying25) ?_; intro a hF
  refine s_val hF rfl rfl rfl (e_neq hF rfl rfl) ?_; intro a hF
  refine s_nil ?_
  refine then_n ?_
  rcases ite_cases H with ⟨c1, H⟩ | ⟨c1, H⟩
  ·
    refine s_cond_f hF rfl (congrArg Bool.not (decide_eq_true c1)) ?_
    refine wp_skip ?_
    refine then_n ?_
    refine wp_seq ?_
    refine wp_seq ?_
    refine s_region ?_
    refine s_val hF rfl rfl rfl (e_assign hF rfl) ?_; intro a hF
    refine s_nil ?_
    refine then_n ?_
    refine wp_block ?_
    obtain ⟨o18, h19, H⟩ := bind_some H
    refine wp_mono (Q := fun e a w => (e = Exit.exit 0 ∧ Sum.inl () = o18 ∧ Fr 26 a [] ∧ Ms [] w0 w []) ∨ (e = Exit.ret ∧ ∃ r20 : Bool, Sum.inr r20 = o18 ∧ Fr 26 a [(4, Value.bool r20)] ∧ Ms [] w0 w [])) ?_ ?_
    · refine s_loop (fun kq a w => ∃ x11 : Int, laws_eqIntS.l0 K l0 l1 kq x11 = some o18 ∧ Fr 26 a [(0, u0), (1, u1), (5, Value.int .i64 x11)] ∧ Ms [] w0 w []) K ⟨0, h19, hF.sub _ ⟨rfl, rfl, rfl, trivial⟩, hM.pick [] rfl rfl⟩ ?_ ?_
      · rintro a w ⟨_, H, _⟩; exact none_some H
      · rintro k a w ⟨x11, H, hF, hM⟩; rw [laws_eqIntS.l0] at H
        refine wp_seq ?_
        refine wp_seq ?_
        refine s_region ?_
        refine s_val hF rfl rfl rfl (e_move hF rfl) ?_; intro a hF
        refine s_val hF rfl rfl rfl (e_move hF rfl) ?_; intro a hF
        refine s_val hF rfl rfl rfl (e_len hF rfl (q0.frm hM.frm).toF Try.underlying25) ?_; intro a hF
        refine s_val hF rfl rfl rfl (e_lss hF rfl rfl) ?_; intro a hF
        refine s_nil ?_
        refine then_n ?_
        rcases ite_cases H with ⟨c12, H⟩ | ⟨c12, H⟩
        ·
          refine s_cond_t hF rfl (decide_eq_true c12) ?_
          refine wp_skip ?_
          refine then_n ?_
          refine wp_seq ?_
          refine wp_block ?_
          refine wp_seq ?_
          obtain ⟨c13, H⟩ := ite_some H
          obtain ⟨c14, H⟩ := ite_some H
          refine s_held (fun w => Ms [] w0 w []) #[false, false, false, false, false, false, false, false, false] mixed rfl rfl hM ?_; intro w hf hM; clear hf
          refine h_val 0 #[true, false, false, false, false, false, false, false, false] rfl (by kernel_rfl) hF rfl rfl rfl (fun w hS => e_move hF rfl) (hM.pick [] rfl rfl) ?_; intro a hF
          refine h_val 1 #[true, true, false, false, false, false, false, false, false] rfl (by kernel_rfl) hF rfl rfl rfl (fun w hS => e_move hF rfl) (hM.pick [] rfl rfl) ?_; intro a hF
          have f15 := (q0.frm hM.frm).toF
          refine h_val 2 #[true, true, true, false, false, false, false, false, false] rfl (by kernel_rfl) hF rfl rfl rfl (fun w hS => e_ias cd3 hF rfl rfl f15 Try.underlying25 Try.sizeOf3 c13.1 c13.2) (hM.pick [] rfl rfl) ?_; intro a hF
          refine h_val 3 #[true, true, true, true, false, false, false, false, false] rfl (by kernel_rfl) hF rfl rfl rfl (fun w hS => e_lds (m := x11) hF rfl (q0.frm hS.frm) (getD_some (z := (0 : Int)) c13.1 c13.2) rfl rfl Try.isAgg3) (hM.pick [] rfl rfl) ?_; intro a hF
          refine h_val 4 #[true, true, true, true, true, false, false, false, false] rfl (by kernel_rfl) hF rfl rfl rfl (fun w hS => e_move hF rfl) (hM.pick [] rfl rfl) ?_; intro a hF
          refine h_val 5 #[true, true, true, true, true, true, false, false, false] rfl (by kernel_rfl) hF rfl rfl rfl (fun w hS => e_move hF rfl) (hM.pick [] rfl rfl) ?_; intro a hF
          have f16 := (q1.frm hM.frm).toF
          refine h_val 6 #[true, true, true, true, true, true, true, false, false] rfl (by kernel_rfl) hF rfl rfl rfl (fun w hS => e_ias cd3 hF rfl rfl f16 Try.underlying25 Try.sizeOf3 c14.1 c14.2) (hM.pick [] rfl rfl) ?_; intro a hF
          refine h_val 7 #[true, true, true, true, true, true, true, true, false] rfl (by kernel_rfl) hF rfl rfl rfl (fun w hS => e_lds (m := x11) hF rfl (q1.frm hS.frm) (getD_some (z := (0 : Int)) c14.1 c14.2) rfl rfl Try.isAgg3) (hM.pick [] rfl rfl) ?_; intro a hF
          refine h_val 8 #[true, true, true, true, true, true, true, true, true] rfl (by kernel_rfl) hF rfl rfl rfl (fun w hS => e_neq hF rfl rfl) (hM.pick [] rfl rfl) ?_; intro a hF
          refine h_done rfl ?_
          refine then_n ?_
          rcases ite_cases H with ⟨c17, H⟩ | ⟨c17, H⟩
          ·
            refine s_cond_f hF rfl (congrArg Bool.not (decide_eq_true c17)) ?_
            refine wp_skip ?_
            refine blk_n ?_
            refine then_n ?_
            refine s_region ?_
            refine s_val hF rfl rfl rfl (e_move hF rfl) ?_; intro a hF
            refine s_val hF rfl rfl rfl (e_add hF rfl rfl) ?_; intro a hF
            refine s_val hF rfl rfl rfl (e_assign hF rfl) ?_; intro a hF
            refine s_nil ?_
            refine then_n ?_
            exact ⟨(wrap64 (x11 + 1)), H, hF.sub _ ⟨rfl, rfl, rfl, trivial⟩, hM.pick [] rfl rfl⟩
          ·
            refine s_cond_t hF rfl (congrArg Bool.not (decide_eq_false c17)) ?_
            refine wp_seq ?_
            refine s_region ?_
            refine s_val hF rfl rfl rfl (e_assign hF rfl) ?_; intro a hF
            refine s_nil ?_
            refine then_n ?_
            refine wp_ret ?_
            refine blk_r ?_
            refine then_r ?_
            refine then_r ?_
            exact Or.inr (⟨rfl, false, some_some H, hF.sub _ ⟨rfl, trivial⟩, hM.pick [] rfl rfl⟩)
        ·
          refine s_cond_f hF rfl (decide_eq_false c12) ?_
          refine wp_exit ?_
          refine then_x ?_
          refine then_x ?_
          exact Or.inl (⟨rfl, some_some H, hF.sub _ trivial, hM.pick [] rfl rfl⟩)
    · rintro e a w (⟨rfl, rfl, hF, hM⟩ | ⟨rfl, r20, rfl, hF, hM⟩)
      ·
        dsimp only at H
        refine blk_x ?_
        refine then_n ?_
        refine wp_seq ?_
        refine s_region ?_
        refine s_val hF rfl rfl rfl (e_assign hF rfl) ?_; intro a hF
        refine s_nil ?_
        refine then_n ?_
        refine wp_ret ?_
        obtain rfl := some_some H
        refine s_ret [Value.bool true] hF Try.results17 ⟨rfl, trivial⟩ ?_
        exact ⟨_, rfl, hM.frm, rfl⟩
      ·
        dsimp only at H
        refine blk_r ?_
        refine then_r ?_
        obtain rfl := some_some H
        refine s_ret [Value.bool r20] hF Try.results17 ⟨rfl, trivial⟩ ?_
        exact ⟨_, rfl, hM.frm, rfl⟩
  ·
    refine s_cond_t hF rfl (congrArg Bool.not (decide_eq_false c1)) ?_
    refine wp_seq ?_
    refine s_region ?_
    refine s_val hF rfl rfl rfl (e_assign hF rfl) ?_; intro a hF
    refine s_nil ?_
    refine then_n ?_
    refine wp_ret ?_
    refine then_r ?_
    obtain rfl := some_some H
    refine s_ret [Value.bool false] hF Try.results17 ⟨rfl, trivial⟩ ?_
    exact ⟨_, rfl, hM.frm, rfl⟩

/-! ### loop.example/g01210/laws.markIntS: function 18 -/
def laws_markIntS.l0 (K : Nat) (l0 : (List Int)) : Nat → Int → Int → (List Int) → Option (Int × (List Int))
  | 0, _, _, _ => none
  | k + 1, x10, x11, x12 => if x11 < (x12.length : Int) then (if (0 : Int) ≤ x11 ∧ x11 < (x12.length : Int) then (laws_markIntS.l0 K l0 k (wrap64 (x10 + 1)) (wrap64 (x11 + 1)) (x12.set (x11 : Int).toNat x10)) else none) else (some (x10, x12))
def laws_markIntS.f (K : Nat) (l0 : (List Int)) (a1 : Int) : Option (Int × (List Int)) := (laws_markIntS.l0 K l0 K a1 0 l0).bind fun (x8, x9) => some (x8, x9)
set_option maxRecDepth 100000 in
set_option maxHeartbeats 4000000 in
theorem laws_markIntS.calls {w0 : World} (K : Nat) (l0 : (List Int)) (u0 : Value) (q0 : (rowR cd3 u0 l0).holds w0) (a1 : Int) (r : (Int × (List Int))) (H : laws_markIntS.f K l0 a1 = some r) : Calls Try.prog 18 [u0, Value.int .i64 a1].toArray w0 (fun e w => ∃ v, e = .returned v ∧ Frm u0.ownBlock.toList w0 w ∧ (v = Value.int .i64 r.1) ∧ (rowR cd3 u0 r.2).holds w) := by
  rw [laws_markIntS.f] at H
  refine s_start Try.func18 rfl Try.ntmps18 rfl ?_
  intro a hF
  have hM := Ms.start1 w0 (rowR cd3 u0 l0) q0 (fun b hb => (World.ownsRow.lt q0 b (by simpa [rowR] using hb)).2)
  skip
  refine wp_seq ?_
  refine s_region ?_
  refine s_val hF rfl rfl rfl (e_assign hF rfl) ?_; intro a hF
  refine s_nil ?_
  refine then_n ?_
  refine wp_seq ?_
  refine wp_seq ?_
  refine s_region ?_
  refine s_val hF rfl rfl rfl (e_assign hF rfl) ?_; intro a hF
  refine s_nil ?_
  refine then_n ?_
  refine wp_block ?_
  obtain ⟨o15, h16, H⟩ := bind_some H
  refine wp_mono (Q := fun e a w => (e = Exit.exit 0 ∧ ∃ x8 : Int, ∃ x9 : (List Int), (x8, x9) = o15 ∧ Fr 19 a [(1, Value.int .i64 x8)] ∧ Ms u0.ownBlock.toList w0 w [rowR cd3 u0 x9])) ?_ ?_
  · refine s_loop (fun kq a w => ∃ x10 : Int, ∃ x11 : Int, ∃ x12 : (List Int), laws_markIntS.l0 K l0 kq x10 x11 x12 = some o15 ∧ Fr 19 a [(0, u0), (1, Value.int .i64 x10), (5, Value.int .i64 x11)] ∧ Ms u0.ownBlock.toList w0 w [rowR cd3 u0 x12]) K ⟨a1, 0, l0, h16, hF.sub _ ⟨rfl, rfl, rfl, trivial⟩, hM.pick [0] rfl rfl⟩ ?_ ?_
    · rintro a w ⟨_, _, _, H, _⟩; exact none_some H
    · rintro k a w ⟨x10, x11, x12, H, hF, hM⟩; rw [laws_markIntS.l0] at H
      refine wp_seq ?_
      refine wp_seq ?_
      refine s_region ?_
      refine s_val hF rfl rfl rfl (e_move hF rfl) ?_; intro a hF
      refine s_val hF rfl rfl rfl (e_move hF rfl) ?_; intro a hF
      refine s_val hF rfl rfl rfl (e_len hF rfl (hM.sl 0 rfl).toF Try.underlying25) ?_; intro a hF
      refine s_val hF rfl rfl rfl (e_lss hF rfl rfl) ?_; intro a hF
      refine s_nil ?_
      refine then_n ?_
      rcases ite_cases H with ⟨c13, H⟩ | ⟨c13, H⟩
      ·
        refine s_cond_t hF rfl (decide_eq_true c13) ?_
        refine wp_skip ?_
        refine then_n ?_
        refine wp_seq ?_
        refine wp_block ?_
        refine wp_seq ?_
        obtain ⟨c14, H⟩ := ite_some H
        refine s_region ?_
        refine s_val hF rfl rfl rfl (e_move hF rfl) ?_; intro a hF
        refine s_val hF rfl rfl rfl (e_move hF rfl) ?_; intro a hF
        refine s_val hF rfl rfl rfl (e_move hF rfl) ?_; intro a hF
        refine s_val hF rfl rfl rfl (e_ias cd3 hF rfl rfl (hM.sl 0 rfl).toF Try.underlying25 Try.sizeOf3 c14.1 c14.2) ?_; intro a hF
        refine s_sts (i := 0) x10 hF hM rfl rfl rfl rfl rfl c14.1 c14.2 Try.sizeOf3 ?_; intro a w hF hM
        refine s_nil ?_
        refine then_n ?_
        refine s_region ?_
        refine s_val hF rfl rfl rfl (e_move hF rfl) ?_; intro a hF
        refine s_val hF rfl rfl rfl (e_add hF rfl rfl) ?_; intro a hF
        refine s_val hF rfl rfl rfl (e_assign hF rfl) ?_; intro a hF
        refine s_nil ?_
        refine blk_n ?_
        refine then_n ?_
        refine s_region ?_
        refine s_val hF rfl rfl rfl (e_move hF rfl) ?_; intro a hF
        refine s_val hF rfl rfl rfl (e_add hF rfl rfl) ?_; intro a hF
        refine s_val hF rfl rfl rfl (e_assign hF rfl) ?_; intro a hF
        refine s_nil ?_
        refine then_n ?_
        exact ⟨(wrap64 (x10 + 1)), (wrap64 (x11 + 1)), (x12.set (x11 : Int).toNat x10), H, hF.sub _ ⟨rfl, rfl, rfl, trivial⟩, hM.pick [0] rfl rfl⟩
      ·
        refine s_cond_f hF rfl (decide_eq_false c13) ?_
        refine wp_exit ?_
        refine then_x ?_
        refine then_x ?_
        exact ⟨rfl, x10, x12, some_some H, hF.sub _ ⟨rfl, trivial⟩, hM.pick [0] rfl rfl⟩
  · rintro e a w ⟨rfl, x8, x9, rfl, hF, hM⟩
    skip
    refine blk_x ?_
    refine then_n ?_
    refine wp_seq ?_
    refine s_region ?_
    refine s_val hF rfl rfl rfl (e_move hF rfl) ?_; intro a hF
    refine s_val hF rfl rfl rfl (e_assign hF rfl) ?_; intro a hF
    refine s_nil ?_
    refine then_n ?_
    refine wp_ret ?_
    obtain rfl := some_some H
    refine s_ret [Value.int .i64 x8] hF Try.results18 ⟨rfl, trivial⟩ ?_
    exact ⟨_, rfl, hM.frm, ⟨rfl, hM.get 0 rfl⟩⟩

/-! ### loop.example/g01210/laws.markIntA6S: function 28 -/
def laws_markIntA6S.l3 (K : Nat) (x43 : Int) : Nat → Int → Int → (List (Ar 6)) → Option (Int × (List (Ar 6)))
  | 0, _, _, _ => none
  | k + 1, x55, x56, x57 => if x56 < 6 then (if (0 : Int) ≤ x43 ∧ x43 < (x57.length : Int) then (if (0 : Int) ≤ x56 ∧ x56 < 6 then (laws_markIntA6S.l3 K x43 k (wrap64 (x55 + 1)) (wrap64 (x56 + 1)) (x57.set (x43 : Int).toNat ((x57.getD (x43 : Int).toNat (Ar.zero 6)).set x56 x55))) else none) else none) else (some (x55, x57))
def laws_markIntA6S.l2 (K : Nat) : Nat → Int → Int → (List (Ar 6)) → Option (Int × (List (Ar 6)))
  | 0, _, _, _ => none
  | k + 1, x42, x43, x44 => if x43 < (x44.length : Int) then ((laws_markIntA6S.l3 K x43 K x42 0 x44).bind fun (x53, x54) => laws_markIntA6S.l2 K k x53 (wrap64 (x43 + 1)) x54) else (some (x42, x44))
def laws_markIntA6S.f (K : Nat) (l0 : (List (Ar 6))) (a1 : Int) : Option (Int × (List (Ar 6))) := (laws_markIntA6S.l2 K K a1 0 l0).bind fun (x40, x41) => some (x40, x41)
set_option maxRecDepth 100000 in
set_option maxHeartbeats 4000000 in
theorem laws_markIntA6S.calls {w0 : World} (K : Nat) (l0 : (List (Ar 6))) (u0 : Value) (q0 : (rowR cd62 u0 l0).holds w0) (a1 : Int) (r : (Int × (List (Ar 6)))) (H : laws_markIntA6S.f K l0 a1 = some r) : Calls Try.prog 28 [u0, Value.int .i64 a1].toArray w0 (fun e w => ∃ v, e = .returned v ∧ Frm u0.ownBlock.toList w0 w ∧ (v = Value.int .i64 r.1) ∧ (rowR cd62 u0 r.2).holds w) := by
  rw [laws_markIntA6S.f] at H
  refine s_start Try.func28 rfl Try.ntmps28 rfl ?_
  intro a hF
  have hM := Ms.start1 w0 (rowR cd62 u0 l0) q0 (fun b hb => (World.ownsRow.lt q0 b (by simpa [rowR] using hb)).2)
  skip
  refine wp_seq ?_
  refine s_region ?_
  refine s_val hF rfl rfl rfl (e_assign hF rfl) ?_; intro a hF
  refine s_nil ?_
  refine then_n ?_
  refine wp_seq ?_
  refine wp_seq ?_
  refine s_region ?_
  refine s_val hF rfl rfl rfl (e_assign hF rfl) ?_; intro a hF
  refine s_nil ?_
  refine then_n ?_
  refine wp_block ?_
  obtain ⟨o63, h64, H⟩ := bind_some H
  refine wp_mono (Q := fun e a w => (e = Exit.exit 0 ∧ ∃ x40 : Int, ∃ x41 : (List (Ar 6)), (x40, x41) = o63 ∧ Fr 26 a [(1, Value.int .i64 x40)] ∧ Ms u0.ownBlock.toList w0 w [rowR cd62 u0 x41])) ?_ ?_
  · refine s_loop (fun kq a w => ∃ x42 : Int, ∃ x43 : Int, ∃ x44 : (List (Ar 6)), laws_markIntA6S.l2 K kq x42 x43 x44 = some o63 ∧ Fr 26 a [(0, u0), (1, Value.int .i64 x42), (5, Value.int .i64 x43)] ∧ Ms u0.ownBlock.toList w0 w [rowR cd62 u0 x44]) K ⟨a1, 0, l0, h64, hF.sub _ ⟨rfl, rfl, rfl, trivial⟩, hM.pick [0] rfl rfl⟩ ?_ ?_
    · rintro a w ⟨_, _, _, H, _⟩; exact none_some H
    · rintro k a w ⟨x42, x43, x44, H, hF, hM⟩; rw [laws_markIntA6S.l2] at H
      refine wp_seq ?_
      refine wp_seq ?_
      refine s_region ?_
      refine s_val hF rfl rfl rfl (e_move hF rfl) ?_; intro a hF
      refine s_val hF rfl rfl rfl (e_move hF rfl) ?_; intro a hF
      refine s_val hF rfl rfl rfl (e_len hF rfl (hM.sl 0 rfl).toF Try.underlying37) ?_; intro a hF
      refine s_val hF rfl rfl rfl (e_lss hF rfl rfl) ?_; intro a hF
      refine s_nil ?_
      refine then_n ?_
      rcases ite_cases H with ⟨c45, H⟩ | ⟨c45, H⟩
      ·
        refine s_cond_t hF rfl (decide_eq_true c45) ?_
        refine wp_skip ?_
        refine then_n ?_
        refine wp_seq ?_
        refine wp_block ?_
        refine wp_seq ?_
        refine s_region ?_
        refine s_val hF rfl rfl rfl (e_assign hF rfl) ?_; intro a hF
        refine s_nil ?_
        refine then_n ?_
        refine wp_block ?_
        obtain ⟨o61, h62, H⟩ := bind_some H
        refine wp_mono (Q := fun e a w => (e = Exit.exit 2 ∧ ∃ x53 : Int, ∃ x54 : (List (Ar 6)), (x53, x54) = o61 ∧ Fr 26 a [(0, u0), (1, Value.int .i64 x53), (5, Value.int .i64 x43)] ∧ Ms u0.ownBlock.toList w0 w [rowR cd62 u0 x54])) ?_ ?_
        · refine s_loop (fun kq a w => ∃ x55 : Int, ∃ x56 : Int, ∃ x57 : (List (Ar 6)), laws_markIntA6S.l3 K x43 kq x55 x56 x57 = some o61 ∧ Fr 26 a [(0, u0), (1, Value.int .i64 x55), (5, Value.int .i64 x43), (6, Value.int .i64 x56)] ∧ Ms u0.ownBlock.toList w0 w [rowR cd62 u0 x57]) K ⟨x42, 0, x44, h62, hF.sub _ ⟨rfl, rfl, rfl, rfl, trivial⟩, hM.pick [0] rfl rfl⟩ ?_ ?_
          · rintro a w ⟨_, _, _, H, _⟩; exact none_some H
          · rintro k a w ⟨x55, x56, x57, H, hF, hM⟩; rw [laws_markIntA6S.l3] at H
            refine wp_seq ?_
            refine wp_seq ?_
            refine s_region ?_
            refine s_val hF rfl rfl rfl (e_move hF rfl) ?_; intro a hF
            refine s_val hF rfl rfl rfl (e_lss hF rfl rfl) ?_; intro a hF
            refine s_nil ?_
            refine then_n ?_
            rcases ite_cases H with ⟨c58, H⟩ | ⟨c58, H⟩
            ·
              refine s_cond_t hF rfl (decide_eq_true c58) ?_
              refine wp_skip ?_
              refine then_n ?_
              refine wp_seq ?_
              refine wp_block ?_
              refine wp_seq ?_
              obtain ⟨c59, H⟩ := ite_some H
              obtain ⟨c60, H⟩ := ite_some H
              refine s_region ?_
              refine s_val hF rfl rfl rfl (e_move hF rfl) ?_; intro a hF
              refine s_val hF rfl rfl rfl (e_move hF rfl) ?_; intro a hF
              refine s_val hF rfl rfl rfl (e_move hF rfl) ?_; intro a hF
              refine s_val hF rfl rfl rfl (e_move hF rfl) ?_; intro a hF
              refine s_val hF rfl rfl rfl (e_ias cd62 hF rfl rfl (hM.sl 0 rfl).toF Try.underlying37 Try.sizeOf62 c59.1 c59.2) ?_; intro a hF
              refine s_val hF rfl rfl rfl (e_ia hF rfl rfl Try.underlying62 Try.sizeOf3 c60.1 c60.2) ?_; intro a hF
              refine s_stsi (i := 0) (k := 0) (o := 0) (m := x43) (m2 := x56) ((x57.getD (x43 : Int).toNat (Ar.zero 6)).set x56 x55) hF hM rfl rfl rfl rfl (getD_some (z := (Ar.zero 6)) c59.1 c59.2) rfl rfl rfl Try.sizeOf3 c60.1 c60.2 ?_; intro a w hF hM
              refine s_nil ?_
              refine then_n ?_
              refine s_region ?_
              refine s_val hF rfl rfl rfl (e_move hF rfl) ?_; intro a hF
              refine s_val hF rfl rfl rfl (e_add hF rfl rfl) ?_; intro a hF
              refine s_val hF rfl rfl rfl (e_assign hF rfl) ?_; intro a hF
              refine s_nil ?_
              refine blk_n ?_
              refine then_n ?_
              refine s_region ?_
              refine s_val hF rfl rfl rfl (e_move hF rfl) ?_; intro a hF
              refine s_val hF rfl rfl rfl (e_add hF rfl rfl) ?_; intro a hF
              refine s_val hF rfl rfl rfl (e_assign hF rfl) ?_; intro a hF
              refine s_nil ?_
              refine then_n ?_
              exact ⟨(wrap64 (x55 + 1)), (wrap64 (x56 + 1)), (x57.set (x43 : Int).toNat ((x57.getD (x43 : Int).toNat (Ar.zero 6)).set x56 x55)), H, hF.sub _ ⟨rfl, rfl, rfl, rfl, trivial⟩, hM.pick [0] rfl rfl⟩
            ·
              refine s_cond_f hF rfl (decide_eq_false c58) ?_
              refine wp_exit ?_
              refine then_x ?_
              refine then_x ?_
              exact ⟨rfl, x55, x57, some_some H, hF.sub _ ⟨rfl, rfl, rfl, trivial⟩, hM.pick [0] rfl rfl⟩
        · rintro e a w ⟨rfl, x53, x54, rfl, hF, hM⟩
          skip
          refine blk_x ?_
          refine blk_n ?_
          refine then_n ?_
          refine s_region ?_
          refine s_val hF rfl rfl rfl (e_move hF rfl) ?_; intro a hF
          refine s_val hF rfl rfl rfl (e_add hF rfl rfl) ?_; intro a hF
          refine s_val hF rfl rfl rfl (e_assign hF rfl) ?_; intro a hF
          refine s_nil ?_
          refine then_n ?_
          exact ⟨x53, (wrap64 (x43 + 1)), x54, H, hF.sub _ ⟨rfl, rfl, rfl, trivial⟩, hM.pick [0] rfl rfl⟩
      ·
        refine s_cond_f hF rfl (decide_eq_false c45) ?_
        refine wp_exit ?_
        refine then_x ?_
        refine then_x ?_
        exact ⟨rfl, x42, x44, some_some H, hF.sub _ ⟨rfl, trivial⟩, hM.pick [0] rfl rfl⟩
  · rintro e a w ⟨rfl, x40, x41, rfl, hF, hM⟩
    skip
    refine blk_x ?_
    refine then_n ?_
    refine wp_seq ?_
    refine s_region ?_
    refine s_val hF rfl rfl rfl (e_move hF rfl) ?_; intro a hF
    refine s_val hF rfl rfl rfl (e_assign hF rfl) ?_; intro a hF
    refine s_nil ?_
    refine then_n ?_
    refine wp_ret ?_
    obtain rfl := some_some H
    refine s_ret [Value.int .i64 x40] hF Try.results28 ⟨rfl, trivial⟩ ?_
    exact ⟨_, rfl, hM.frm, ⟨rfl, hM.get 0 rfl⟩⟩

/-! ### loop.example/g01210/laws.heldIntA6S: function 29 -/
def laws_heldIntA6S.l3 (K : Nat) (l0 : (List (Ar 6))) (x43 : Int) : Nat → Int → Int → Option (Sum Int Int)
  | 0, _, _ => none
  | k + 1, x54, x55 => if x55 < 6 then (if (0 : Int) ≤ x43 ∧ x43 < (l0.length : Int) then (if (0 : Int) ≤ x55 ∧ x55 < 6 then (if ((l0.getD (x43 : Int).toNat (Ar.zero 6)).get x55) = x54 then (laws_heldIntA6S.l3 K l0 x43 k (wrap64 (x54 + 1)) (wrap64 (x55 + 1))) else (some (Sum.inr (-1)))) else none) else none) else (some (Sum.inl x54))
def laws_heldIntA6S.l2 (K : Nat) (l0 : (List (Ar 6))) : Nat → Int → Int → Option (Sum Int Int)
  | 0, _, _ => none
  | k + 1, x42, x43 => if x43 < (l0.length : Int) then ((laws_heldIntA6S.l3 K l0 x43 K x42 0).bind fun o60 => (match o60 with | .inl x53 => laws_heldIntA6S.l2 K l0 k x53 (wrap64 (x43 + 1)) | .inr r62 => some (Sum.inr r62))) else (some (Sum.inl x42))
def laws_heldIntA6S.f (K : Nat) (l0 : (List (Ar 6))) (a1 : Int) : Option Int := (laws_heldIntA6S.l2 K l0 K a1 0).bind fun o63 => (match o63 with | .inl x41 => some x41 | .inr r65 => some r65)
set_option maxRecDepth 100000 in
set_option maxHeartbeats 4000000 in
theorem laws_heldIntA6S.calls {w0 : World} (K : Nat) (l0 : (List (Ar 6))) (u0 : Value) (q0 : SlR cd62 w0 u0 l0) (a1 : Int) (r : Int) (H : laws_heldIntA6S.f K l0 a1 = some r) : Calls Try.prog 29 [u0, Value.int .i64 a1].toArray w0 (Post w0 fun w v => v = Value.int .i64 r) := by
  rw [laws_heldIntA6S.f] at H
  refine s_start Try.func29 rfl Try.ntmps29 rfl ?_
  intro a hF
  have hM := Ms.start w0
  skip
  refine wp_seq ?_
  refine s_region ?_
  refine s_val hF rfl rfl rfl (e_assign hF rfl) ?_; intro a hF
  refine s_nil ?_
  refine then_n ?_
  refine wp_seq ?_
  refine wp_seq ?_
  refine s_region ?_
  refine s_val hF rfl rfl rfl (e_assign hF rfl) ?_; intro a hF
  refine s_nil ?_
  refine then_n ?_
  refine wp_block ?_
  obtain ⟨o63, h64, H⟩ := bind_some H
  refine wp_mono (Q := fun e a w => (e = Exit.exit 0 ∧ ∃ x41 : Int, Sum.inl x41 = o63 ∧ Fr 28 a [(1, Value.int .i64 x41)] ∧ Ms [] w0 w []) ∨ (e = Exit.ret ∧ ∃ r65 : Int, Sum.inr r65 = o63 ∧ Fr 28 a [(4, Value.int .i64 r65)] ∧ Ms [] w0 w [])) ?_ ?_
  · refine s_loop (fun kq a w => ∃ x42 : Int, ∃ x43 : Int, laws_heldIntA6S.l2 K l0 kq x42 x43 = some o63 ∧ Fr 28 a [(0, u0), (1, Value.int .i64 x42), (5, Value.int .i64 x43)] ∧ Ms [] w0 w []) K ⟨a1, 0, h64, hF.sub _ ⟨rfl, rfl, rfl, trivial⟩, hM.pick [] rfl rfl⟩ ?_ ?_
    · rintro a w ⟨_, _, H, _⟩; exact none_some H
    · rintro k a w ⟨x42, x43, H, hF, hM⟩; rw [laws_heldIntA6S.l2] at H
      refine wp_seq ?_
      refine wp_seq ?_
      refine s_region ?_
      refine s_val hF rfl rfl rfl (e_move hF rfl) ?_; intro a hF
      refine s_val hF rfl rfl rfl (e_move hF rfl) ?_; intro a hF
      refine s_val hF rfl rfl rfl (e_len hF rfl (q0.frm hM.frm).toF Try.underlying37) ?_; intro a hF
      refine s_val hF rfl rfl rfl (e_lss hF rfl rfl) ?_; intro a hF
      refine s_nil ?_
      refine then_n ?_
      rcases ite_cases H with ⟨c44, H⟩ | ⟨c44, H⟩
      ·
        refine s_cond_t hF rfl (decide_eq_true c44) ?_
        refine wp_skip ?_
        refine then_n ?_
        refine wp_seq ?_
        refine wp_block ?_
        refine wp_seq ?_
        refine s_region ?_
        refine s_val hF rfl rfl rfl (e_assign hF rfl) ?_; intro a hF
        refine s_nil ?_
        refine then_n ?_
        refine wp_block ?_
        obtain ⟨o60, h61, H⟩ := bind_some H
        refine wp_mono (Q := fun e a w => (e = Exit.exit 2 ∧ ∃ x53 : Int, Sum.inl x53 = o60 ∧ Fr 28 a [(0, u0), (1, Value.int .i64 x53), (5, Value.int .i64 x43)] ∧ Ms [] w0 w []) ∨ (e = Exit.ret ∧ ∃ r62 : Int, Sum.inr r62 = o60 ∧ Fr 28 a [(4, Value.int .i64 r62)] ∧ Ms [] w0 w [])) ?_ ?_
        · refine s_loop (fun kq a w => ∃ x54 : Int, ∃ x55 : Int, laws_heldIntA6S.l3 K l0 x43 kq x54 x55 = some o60 ∧ Fr 28 a [(0, u0), (1, Value.int .i64 x54), (5, Value.int .i64 x43), (6, Value.int .i64 x55)] ∧ Ms [] w0 w []) K ⟨x42, 0, h61, hF.sub _ ⟨rfl, rfl, rfl, rfl, trivial⟩, hM.pick [] rfl rfl⟩ ?_ ?_
          · rintro a w ⟨_, _, H, _⟩; exact none_some H
          · rintro k a w ⟨x54, x55, H, hF, hM⟩; rw [laws_heldIntA6S.l3] at H
            refine wp_seq ?_
            refine wp_seq ?_
            refine s_region ?_
            refine s_val hF rfl rfl rfl (e_move hF rfl) ?_; intro a hF
            refine s_val hF rfl rfl rfl (e_lss hF rfl rfl) ?_; intro a hF
            refine s_nil ?_
            refine then_n ?_
            rcases ite_cases H with ⟨c56, H⟩ | ⟨c56, H⟩
            ·
              refine s_cond_t hF rfl (decide_eq_true c56) ?_
              refine wp_skip ?_
              refine then_n ?_
              refine wp_seq ?_
              refine wp_block ?_
              refine wp_seq ?_
              refine wp_seq ?_
              obtain ⟨c57, H⟩ := ite_some H
              obtain ⟨c58, H⟩ := ite_some H
              refine s_region ?_
              refine s_val hF rfl rfl rfl (e_move hF rfl) ?_; intro a hF
              refine s_val hF rfl rfl rfl (e_move hF rfl) ?_; intro a hF
              refine s_val hF rfl rfl rfl (e_move hF rfl) ?_; intro a hF
              refine s_val hF rfl rfl rfl (e_ias cd62 hF rfl rfl (q0.frm hM.frm).toF Try.underlying37 Try.sizeOf62 c57.1 c57.2) ?_; intro a hF
              refine s_val hF rfl rfl rfl (e_ia hF rfl rfl Try.underlying62 Try.sizeOf3 c58.1 c58.2) ?_; intro a hF
              refine s_val hF rfl rfl rfl (e_ldsi (m := x43) (p := x55) (o := 0) (k := 0) hF rfl (q0.frm hM.frm) (getD_some (z := (Ar.zero 6)) c57.1 c57.2) rfl rfl Try.isAgg3 c58.1 c58.2) ?_; intro a hF
              refine s_val hF rfl rfl rfl (e_move hF rfl) ?_; intro a hF
              refine s_val hF rfl rfl rfl (e_neq hF rfl rfl) ?_; intro a hF
              refine s_nil ?_
              refine then_n ?_
              rcases ite_cases H with ⟨c59, H⟩ | ⟨c59, H⟩
              ·
                refine s_cond_f hF rfl (congrArg Bool.not (decide_eq_true c59)) ?_
                refine wp_skip ?_
                refine then_n ?_
                refine s_region ?_
                refine s_val hF rfl rfl rfl (e_move hF rfl) ?_; intro a hF
                refine s_val hF rfl rfl rfl (e_add hF rfl rfl) ?_; intro a hF
                refine s_val hF rfl rfl rfl (e_assign hF rfl) ?_; intro a hF
                refine s_nil ?_
                refine blk_n ?_
                refine then_n ?_
                refine s_region ?_
                refine s_val hF rfl rfl rfl (e_move hF rfl) ?_; intro a hF
                refine s_val hF rfl rfl rfl (e_add hF rfl rfl) ?_; intro a hF
                refine s_val hF rfl rfl rfl (e_assign hF rfl) ?_; intro a hF
                refine s_nil ?_
                refine then_n ?_
                exact ⟨(wrap64 (x54 + 1)), (wrap64 (x55 + 1)), H, hF.sub _ ⟨rfl, rfl, rfl, rfl, trivial⟩, hM.pick [] rfl rfl⟩
              ·
                refine s_cond_t hF rfl (congrArg Bool.not (decide_eq_false c59)) ?_
                refine wp_seq ?_
                refine s_region ?_
                refine s_val hF rfl rfl rfl (e_assign hF rfl) ?_; intro a hF
                refine s_nil ?_
                refine then_n ?_
                refine wp_ret ?_
                refine then_r ?_
                refine blk_r ?_
                refine then_r ?_
                refine then_r ?_
                exact Or.inr (⟨rfl, (-1), some_some H, hF.sub _ ⟨rfl, trivial⟩, hM.pick [] rfl rfl⟩)
            ·
              refine s_cond_f hF rfl (decide_eq_false c56) ?_
              refine wp_exit ?_
              refine then_x ?_
              refine then_x ?_
              exact Or.inl (⟨rfl, x54, some_some H, hF.sub _ ⟨rfl, rfl, rfl, trivial⟩, hM.pick [] rfl rfl⟩)
        · rintro e a w (⟨rfl, x53, rfl, hF, hM⟩ | ⟨rfl, r62, rfl, hF, hM⟩)
          ·
            dsimp only at H
            refine blk_x ?_
            refine blk_n ?_
            refine then_n ?_
            refine s_region ?_
            refine s_val hF rfl rfl rfl (e_move hF rfl) ?_; intro a hF
            refine s_val hF rfl rfl rfl (e_add hF rfl rfl) ?_; intro a hF
            refine s_val hF rfl rfl rfl (e_assign hF rfl) ?_; intro a hF
            refine s_nil ?_
            refine then_n ?_
            exact ⟨x53, (wrap64 (x43 + 1)), H, hF.sub _ ⟨rfl, rfl, rfl, trivial⟩, hM.pick [] rfl rfl⟩
          ·
            dsimp only at H
            refine blk_r ?_
            refine blk_r ?_
            refine then_r ?_
            refine then_r ?_
            exact Or.inr (⟨rfl, r62, some_some H, hF.sub _ ⟨rfl, trivial⟩, hM.pick [] rfl rfl⟩)
      ·
        refine s_cond_f hF rfl (decide_eq_false c44) ?_
        refine wp_exit ?_
        refine then_x ?_
        refine then_x ?_
        exact Or.inl (⟨rfl, x42, some_some H, hF.sub _ ⟨rfl, trivial⟩, hM.pick [] rfl rfl⟩)
  · rintro e a w (⟨rfl, x41, rfl, hF, hM⟩ | ⟨rfl, r65, rfl, hF, hM⟩)
    ·
      dsimp only at H
      refine blk_x ?_
      refine then_n ?_
      refine wp_seq ?_
      refine s_region ?_
      refine s_val hF rfl rfl rfl (e_move hF rfl) ?_; intro a hF
      refine s_val hF rfl rfl rfl (e_assign hF rfl) ?_; intro a hF
      refine s_nil ?_
      refine then_n ?_
      refine wp_ret ?_
      obtain rfl := some_some H
      refine s_ret [Value.int .i64 x41] hF Try.results29 ⟨rfl, trivial⟩ ?_
      exact ⟨_, rfl, hM.frm, rfl⟩
    ·
      dsimp only at H
      refine blk_r ?_
      refine then_r ?_
      obtain rfl := some_some H
      refine s_ret [Value.int .i64 r65] hF Try.results29 ⟨rfl, trivial⟩ ?_
      exact ⟨_, rfl, hM.frm, rfl⟩

/-! ### loop.example/g01210/laws.FnExactFromLetters: function 6 -/
def laws_FnExactFromLetters.f (K : Nat) (l0 : (List Int)) : Option Bool := if 1048576 < (l0.length : Int) then (some true) else ((laws_toIntS.f K l0).bind fun t2 => (spec_FromLetters.f K t2).bind fun t5 => (laws_toIntS.f K l0).bind fun t8 => (impl_FromLetters.f K t8).bind fun t11 => (laws_eqIntA6S.f K t11.1 t5.1).bind fun t14 => if t14 = true then (if (t11.2 == t5.2) = true then ((laws_toIntS.f K l0).bind fun t18 => (laws_eqIntS.f K t8 t18).bind fun t21 => if t21 = true then ((laws_markIntS.f K t8 1).bind fun t24 => if t24.1 < 0 then (some false) else ((laws_eqIntA6S.f K t11.1 t5.1).bind fun t27 => if t27 = true then ((laws_markIntA6S.f K t11.1 1).bind fun t30 => (laws_heldIntA6S.f K t30.2 1).bind fun t32 => if t32 < 0 then (some false) else (if t32 = t30.1 then ((laws_toIntS.f K l0).bind fun t36 => (impl_FromLetters.f K t36).bind fun t39 => (laws_eqIntA6S.f K t39.1 t5.1).bind fun t42 => if t42 = true then (if (t39.2 == t5.2) = true then ((laws_heldIntA6S.f K t30.2 1).bind fun t46 => if t46 < 0 then (some false) else (if t46 = t30.1 then (some true) else (some false))) else (some false)) else (some false)) else (some false))) else (some false))) else (some false)) else (some false)) else (some false))
set_option maxRecDepth 100000 in
set_option maxHeartbeats 4000000 in
theorem laws_FnExactFromLetters.calls {w0 : World} (K : Nat) (l0 : (List Int)) (u0 : Value) (q0 : SlR cd3 w0 u0 l0) (r : Bool) (H : laws_FnExactFromLetters.f K l0 = some r) : Calls Try.prog 6 [u0].toArray w0 (Post w0 fun w v => v = Value.bool r) := by
  rw [laws_FnExactFromLetters.f] at H
  refine s_start Try.func6 rfl Try.ntmps6 rfl ?_
  intro a hF
  have hM := Ms.start w0
  skip
  refine wp_seq ?_
  refine s_region ?_
  refine s_val hF rfl rfl rfl (e_assign hF rfl) ?_; intro a hF
  refine s_nil ?_
  refine then_n ?_
  refine wp_seq ?_
  refine wp_seq ?_
  refine s_region ?_
  refine s_val hF rfl rfl rfl (e_move hF rfl) ?_; intro a hF
  refine s_val hF rfl rfl rfl (e_len hF rfl (q0.frm hM.frm).toF Try.underlying25) ?_; intro a hF
  refine s_val hF rfl rfl rfl (e_gtr hF rfl rfl) ?_; intro a hF
  refine s_nil ?_
  refine then_n ?_
  rcases ite_cases H with ⟨c1, H⟩ | ⟨c1, H⟩
  ·
    refine s_cond_t hF rfl (decide_eq_true c1) ?_
    refine wp_seq ?_
    refine s_region ?_
    refine s_val hF rfl rfl rfl (e_assign hF rfl) ?_; intro a hF
    refine s_nil ?_
    refine then_n ?_
    refine wp_ret ?_
    refine then_r ?_
    obtain rfl := some_some H
    refine s_ret [Value.bool true] hF Try.results6 ⟨rfl, trivial⟩ ?_
    exact ⟨_, rfl, hM.frm, rfl⟩
  ·
    refine s_cond_f hF rfl (decide_eq_false c1) ?_
    refine wp_skip ?_
    refine then_n ?_
    refine wp_seq ?_
    obtain ⟨t2, h3, H⟩ := bind_some H
    obtain ⟨t5, h6, H⟩ := bind_some H
    refine s_region ?_
    refine s_val hF rfl rfl rfl (e_move hF rfl) ?_; intro a hF
    refine s_call hF rfl rfl rfl Try.call15 (laws_toIntS.calls K l0 u0 (q0.frm hM.frm) t2 h3) ?_; intro a w v4 hF hf hR
    have hM := hM.fresh hf hR
    refine s_call hF rfl rfl rfl Try.call25 (spec_FromLetters.calls K t2 v4 (hM.sl 0 rfl) t5 h6) ?_; intro a w v hF hf hR
    obtain ⟨v7, rfl, hR⟩ := hR; have hM := hM.fresh hf hR
    refine s_val hF rfl rfl rfl (e_move hF rfl) ?_; intro a hF
    refine s_val hF rfl rfl rfl (e_extract hF rfl rfl) ?_; intro a hF
    refine s_val hF rfl rfl rfl (e_extract hF rfl rfl) ?_; intro a hF
    refine s_val hF rfl rfl rfl (e_assign hF rfl) ?_; intro a hF
    refine s_val hF rfl rfl rfl (e_assign hF rfl) ?_; intro a hF
    refine s_nil ?_
    refine then_n ?_
    refine wp_seq ?_
    obtain ⟨t8, h9, H⟩ := bind_some H
    refine s_region ?_
    refine s_val hF rfl rfl rfl (e_move hF rfl) ?_; intro a hF
    refine s_call hF rfl rfl rfl Try.call15 (laws_toIntS.calls K l0 u0 (q0.frm hM.frm) t8 h9) ?_; intro a w v10 hF hf hR
    have hM := hM.fresh hf hR
    refine s_val hF rfl rfl rfl (e_assign hF rfl) ?_; intro a hF
    refine s_nil ?_
    refine then_n ?_
    refine wp_seq ?_
    obtain ⟨t11, h12, H⟩ := bind_some H
    refine s_region ?_
    refine s_val hF rfl rfl rfl (e_move hF rfl) ?_; intro a hF
    refine s_call hF rfl rfl rfl Try.call26 (impl_FromLetters.calls K t8 v10 (hM.sl 0 rfl) t11 h12) ?_; intro a w v hF hf hR
    obtain ⟨v13, rfl, hR⟩ := hR; have hM := hM.fresh hf hR
    refine s_val hF rfl rfl rfl (e_move hF rfl) ?_; intro a hF
    refine s_val hF rfl rfl rfl (e_extract hF rfl rfl) ?_; intro a hF
    refine s_val hF rfl rfl rfl (e_extract hF rfl rfl) ?_; intro a hF
    refine s_val hF rfl rfl rfl (e_assign hF rfl) ?_; intro a hF
    refine s_val hF rfl rfl rfl (e_assign hF rfl) ?_; intro a hF
    refine s_nil ?_
    refine then_n ?_
    refine wp_seq ?_
    refine wp_seq ?_
    obtain ⟨t14, h15, H⟩ := bind_some H
    rcases ite_cases H with ⟨c16, H⟩ | ⟨c16, H⟩
    ·
      refine s_region ?_
      refine s_val hF rfl rfl rfl (e_move hF rfl) ?_; intro a hF
      refine s_val hF rfl rfl rfl (e_move hF rfl) ?_; intro a hF
      refine s_call hF rfl rfl rfl Try.call27 (laws_eqIntA6S.calls K t11.1 v13 (hM.sl 0 rfl) t5.1 v7 (hM.sl 2 rfl) t14 h15) ?_; intro a w v hF hf hR
      subst hR; have hM := hM.grow hf
      refine s_val hF rfl rfl rfl (e_not hF rfl) ?_; intro a hF
      refine s_val hF rfl rfl rfl (e_move hF rfl) ?_; intro a hF
      have hF := hF.topb (congrArg Bool.not c16)
      refine s_val hF rfl rfl rfl (e_move hF rfl) ?_; intro a hF
      refine s_val hF rfl rfl rfl (e_move hF rfl) ?_; intro a hF
      refine s_val hF rfl rfl rfl (e_bneq hF rfl rfl Try.underlying4) ?_; intro a hF
      refine s_val hF rfl rfl rfl (e_pick_f hF rfl rfl) ?_; intro a hF
      refine s_nil ?_
      refine then_n ?_
      rcases ite_cases H with ⟨c17, H⟩ | ⟨c17, H⟩
      ·
        refine s_cond_f hF rfl (congrArg Bool.not c17) ?_
        refine wp_skip ?_
        refine then_n ?_
        refine wp_seq ?_
        refine wp_seq ?_
        obtain ⟨t18, h19, H⟩ := bind_some H
        obtain ⟨t21, h22, H⟩ := bind_some H
        refine s_region ?_
        refine s_val hF rfl rfl rfl (e_move hF rfl) ?_; intro a hF
        refine s_val hF rfl rfl rfl (e_move hF rfl) ?_; intro a hF
        refine s_call hF rfl rfl rfl Try.call15 (laws_toIntS.calls K l0 u0 (q0.frm hM.frm) t18 h19) ?_; intro a w v20 hF hf hR
        have hM := hM.fresh hf hR
        refine s_call hF rfl rfl rfl Try.call17 (laws_eqIntS.calls K t8 v10 (hM.sl 2 rfl) t18 v20 (hM.sl 0 rfl) t21 h22) ?_; intro a w v hF hf hR
        subst hR; have hM := hM.grow hf
        refine s_val hF rfl rfl rfl (e_not hF rfl) ?_; intro a hF
        refine s_nil ?_
        refine then_n ?_
        rcases ite_cases H with ⟨c23, H⟩ | ⟨c23, H⟩
        ·
          refine s_cond_f hF rfl (congrArg Bool.not c23) ?_
          refine wp_skip ?_
          refine then_n ?_
          refine wp_seq ?_
          refine s_region ?_
          refine s_val hF rfl rfl rfl (e_assign hF rfl) ?_; intro a hF
          refine s_nil ?_
          refine then_n ?_
          refine wp_seq ?_
          obtain ⟨t24, h25, H⟩ := bind_some H
          refine s_region ?_
          refine s_val hF rfl rfl rfl (e_move hF rfl) ?_; intro a hF
          refine s_val hF rfl rfl rfl (e_move hF rfl) ?_; intro a hF
          refine s_callx hF rfl rfl rfl Try.call18 (laws_markIntS.calls K t8 v10 (hM.get 2 rfl) 1 t24 h25) ?_; intro a w v hF ⟨hf, hR⟩
          obtain ⟨hR, hO⟩ := hR; subst hR; have hM := hM.turn (i := 2) (R' := rowR cd3 v10 t24.2) rfl hf hO (fun _ hb => .inl hb)
          refine s_val hF rfl rfl rfl (e_assign hF rfl) ?_; intro a hF
          refine s_nil ?_
          refine then_n ?_
          refine wp_seq ?_
          refine wp_seq ?_
          rcases ite_cases H with ⟨c26, H⟩ | ⟨c26, H⟩
          ·
            refine s_region ?_
            refine s_val hF rfl rfl rfl (e_move hF rfl) ?_; intro a hF
            refine s_val hF rfl rfl rfl (e_lss hF rfl rfl) ?_; intro a hF
            refine s_val hF rfl rfl rfl (e_move hF rfl) ?_; intro a hF
            have hF := hF.topb (decide_eq_true c26)
            refine s_skip hF rfl rfl rfl ?_; intro a hF
            refine s_skip hF rfl rfl rfl ?_; intro a hF
            refine s_skip hF rfl rfl rfl ?_; intro a hF
            refine s_skip hF rfl rfl rfl ?_; intro a hF
            refine s_val hF rfl rfl rfl (e_pick_t hF rfl rfl) ?_; intro a hF
            refine s_val hF rfl rfl rfl (e_move hF rfl) ?_; intro a hF
            refine s_skip hF rfl rfl rfl ?_; intro a hF
            refine s_skip hF rfl rfl rfl ?_; intro a hF
            refine s_skip hF rfl rfl rfl ?_; intro a hF
            refine s_val hF rfl rfl rfl (e_pick_t hF rfl rfl) ?_; intro a hF
            refine s_nil ?_
            refine then_n ?_
            refine s_cond_t hF rfl rfl ?_
            refine wp_seq ?_
            refine s_region ?_
            refine s_val hF rfl rfl rfl (e_assign hF rfl) ?_; intro a hF
            refine s_nil ?_
            refine then_n ?_
            refine wp_ret ?_
            refine then_r ?_
            obtain rfl := some_some H
            refine s_ret [Value.bool false] hF Try.results6 ⟨rfl, trivial⟩ ?_
            exact ⟨_, rfl, hM.frm, rfl⟩
          ·
            obtain ⟨t27, h28, H⟩ := bind_some H
            rcases ite_cases H with ⟨c29, H⟩ | ⟨c29, H⟩
            ·
              refine s_region ?_
              refine s_val hF rfl rfl rfl (e_move hF rfl) ?_; intro a hF
              refine s_val hF rfl rfl rfl (e_lss hF rfl rfl) ?_; intro a hF
              refine s_val hF rfl rfl rfl (e_move hF rfl) ?_; intro a hF
              have hF := hF.topb (decide_eq_false c26)
              refine s_val hF rfl rfl rfl (e_move hF rfl) ?_; intro a hF
              refine s_val hF rfl rfl rfl (e_move hF rfl) ?_; intro a hF
              refine s_call hF rfl rfl rfl Try.call27 (laws_eqIntA6S.calls K t11.1 v13 (hM.sl 1 rfl) t5.1 v7 (hM.sl 3 rfl) t27 h28) ?_; intro a w v hF hf hR
              subst hR; have hM := hM.grow hf
              refine s_val hF rfl rfl rfl (e_not hF rfl) ?_; intro a hF
              refine s_val hF rfl rfl rfl (e_pick_f hF rfl rfl) ?_; intro a hF
              refine s_val hF rfl rfl rfl (e_move hF rfl) ?_; intro a hF
              have hF := hF.topb (congrArg Bool.not c29)
              refine s_val hF rfl rfl rfl (e_move hF rfl) ?_; intro a hF
              refine s_val hF rfl rfl rfl (e_move hF rfl) ?_; intro a hF
              refine s_val hF rfl rfl rfl (e_bneq hF rfl rfl Try.underlying4) ?_; intro a hF
              refine s_val hF rfl rfl rfl (e_pick_f hF rfl rfl) ?_; intro a hF
              refine s_nil ?_
              refine then_n ?_
              refine s_cond_f hF rfl (congrArg Bool.not c17) ?_
              refine wp_skip ?_
              refine then_n ?_
              refine wp_seq ?_
              refine s_region ?_
              refine s_val hF rfl rfl rfl (e_assign hF rfl) ?_; intro a hF
              refine s_nil ?_
              refine then_n ?_
              refine wp_seq ?_
              obtain ⟨t30, h31, H⟩ := bind_some H
              refine s_region ?_
              refine s_val hF rfl rfl rfl (e_move hF rfl) ?_; intro a hF
              refine s_val hF rfl rfl rfl (e_move hF rfl) ?_; intro a hF
              refine s_callx hF rfl rfl rfl Try.call28 (laws_markIntA6S.calls K t11.1 v13 (hM.get 1 rfl) 1 t30 h31) ?_; intro a w v hF ⟨hf, hR⟩
              obtain ⟨hR, hO⟩ := hR; subst hR; have hM := hM.turn (i := 1) (R' := rowR cd62 v13 t30.2) rfl hf hO (fun _ hb => .inl hb)
              refine s_val hF rfl rfl rfl (e_assign hF rfl) ?_; intro a hF
              refine s_nil ?_
              refine then_n ?_
              refine wp_seq ?_
              refine s_region ?_
              refine s_val hF rfl rfl rfl (e_assign hF rfl) ?_; intro a hF
              refine s_nil ?_
              refine then_n ?_
              refine wp_seq ?_
              obtain ⟨t32, h33, H⟩ := bind_some H
              refine s_region ?_
              refine s_val hF rfl rfl rfl (e_move hF rfl) ?_; intro a hF
              refine s_val hF rfl rfl rfl (e_move hF rfl) ?_; intro a hF
              refine s_call hF rfl rfl rfl Try.call29 (laws_heldIntA6S.calls K t30.2 v13 (hM.sl 1 rfl) 1 t32 h33) ?_; intro a w v hF hf hR
              subst hR; have hM := hM.grow hf
              refine s_val hF rfl rfl rfl (e_assign hF rfl) ?_; intro a hF
              refine s_nil ?_
              refine then_n ?_
              refine wp_seq ?_
              refine wp_seq ?_
              refine s_region ?_
              refine s_val hF rfl rfl rfl (e_move hF rfl) ?_; intro a hF
              refine s_val hF rfl rfl rfl (e_lss hF rfl rfl) ?_; intro a hF
              refine s_nil ?_
              refine then_n ?_
              rcases ite_cases H with ⟨c34, H⟩ | ⟨c34, H⟩
              ·
                refine s_cond_t hF rfl (decide_eq_true c34) ?_
                refine wp_seq ?_
                refine s_region ?_
                refine s_val hF rfl rfl rfl (e_assign hF rfl) ?_; intro a hF
                refine s_nil ?_
                refine then_n ?_
                refine wp_ret ?_
                refine then_r ?_
                obtain rfl := some_some H
                refine s_ret [Value.bool false] hF Try.results6 ⟨rfl, trivial⟩ ?_
                exact ⟨_, rfl, hM.frm, rfl⟩
              ·
                refine s_cond_f hF rfl (decide_eq_false c34) ?_
                refine wp_skip ?_
                refine then_n ?_
                refine wp_seq ?_
                refine wp_seq ?_
                refine s_region ?_
                refine s_val hF rfl rfl rfl (e_move hF rfl) ?_; intro a hF
                refine s_val hF rfl rfl rfl (e_move hF rfl) ?_; intro a hF
                refine s_val hF rfl rfl rfl (e_neq hF rfl rfl) ?_; intro a hF
                refine s_nil ?_
                refine then_n ?_
                rcases ite_cases H with ⟨c35, H⟩ | ⟨c35, H⟩
                ·
                  refine s_cond_f hF rfl (congrArg Bool.not (decide_eq_true c35)) ?_
                  refine wp_skip ?_
                  refine then_n ?_
                  refine wp_seq ?_
                  obtain ⟨t36, h37, H⟩ := bind_some H
                  obtain ⟨t39, h40, H⟩ := bind_some H
                  refine s_region ?_
                  refine s_val hF rfl rfl rfl (e_move hF rfl) ?_; intro a hF
                  refine s_call hF rfl rfl rfl Try.call15 (laws_toIntS.calls K l0 u0 (q0.frm hM.frm) t36 h37) ?_; intro a w v38 hF hf hR
                  have hM := hM.fresh hf hR
                  refine s_call hF rfl rfl rfl Try.call26 (impl_FromLetters.calls K t36 v38 (hM.sl 0 rfl) t39 h40) ?_; intro a w v hF hf hR
                  obtain ⟨v41, rfl, hR⟩ := hR; have hM := hM.fresh hf hR
                  refine s_val hF rfl rfl rfl (e_move hF rfl) ?_; intro a hF
                  refine s_val hF rfl rfl rfl (e_extract hF rfl rfl) ?_; intro a hF
                  refine s_val hF rfl rfl rfl (e_extract hF rfl rfl) ?_; intro a hF
                  refine s_val hF rfl rfl rfl (e_assign hF rfl) ?_; intro a hF
                  refine s_val hF rfl rfl rfl (e_assign hF rfl) ?_; intro a hF
                  refine s_nil ?_
                  refine then_n ?_
                  refine wp_seq ?_
                  refine wp_seq ?_
                  obtain ⟨t42, h43, H⟩ := bind_some H
                  rcases ite_cases H with ⟨c44, H⟩ | ⟨c44, H⟩
                  ·
                    refine s_region ?_
                    refine s_val hF rfl rfl rfl (e_move hF rfl) ?_; intro a hF
                    refine s_val hF rfl rfl rfl (e_move hF rfl) ?_; intro a hF
                    refine s_call hF rfl rfl rfl Try.call27 (laws_eqIntA6S.calls K t39.1 v41 (hM.sl 0 rfl) t5.1 v7 (hM.sl 5 rfl) t42 h43) ?_; intro a w v hF hf hR
                    subst hR; have hM := hM.grow hf
                    refine s_val hF rfl rfl rfl (e_not hF rfl) ?_; intro a hF
                    refine s_val hF rfl rfl rfl (e_move hF rfl) ?_; intro a hF
                    have hF := hF.topb (congrArg Bool.not c44)
                    refine s_val hF rfl rfl rfl (e_move hF rfl) ?_; intro a hF
                    refine s_val hF rfl rfl rfl (e_move hF rfl) ?_; intro a hF
                    refine s_val hF rfl rfl rfl (e_bneq hF rfl rfl Try.underlying4) ?_; intro a hF
                    refine s_val hF rfl rfl rfl (e_pick_f hF rfl rfl) ?_; intro a hF
                    refine s_nil ?_
                    refine then_n ?_
                    rcases ite_cases H with ⟨c45, H⟩ | ⟨c45, H⟩
                    ·
                      refine s_cond_f hF rfl (congrArg Bool.not c45) ?_
                      refine wp_skip ?_
                      refine then_n ?_
                      refine wp_seq ?_
                      refine s_region ?_
                      refine s_val hF rfl rfl rfl (e_assign hF rfl) ?_; intro a hF
                      refine s_nil ?_
                      refine then_n ?_
                      refine wp_seq ?_
                      obtain ⟨t46, h47, H⟩ := bind_some H
                      refine s_region ?_
                      refine s_val hF rfl rfl rfl (e_move hF rfl) ?_; intro a hF
                      refine s_val hF rfl rfl rfl (e_move hF rfl) ?_; intro a hF
                      refine s_call hF rfl rfl rfl Try.call29 (laws_heldIntA6S.calls K t30.2 v13 (hM.sl 3 rfl) 1 t46 h47) ?_; intro a w v hF hf hR
                      subst hR; have hM := hM.grow hf
                      refine s_val hF rfl rfl rfl (e_assign hF rfl) ?_; intro a hF
                      refine s_nil ?_
                      refine then_n ?_
                      refine wp_seq ?_
                      refine wp_seq ?_
                      refine s_region ?_
                      refine s_val hF rfl rfl rfl (e_move hF rfl) ?_; intro a hF
                      refine s_val hF rfl rfl rfl (e_lss hF rfl rfl) ?_; intro a hF
                      refine s_nil ?_
                      refine then_n ?_
                      rcases ite_cases H with ⟨c48, H⟩ | ⟨c48, H⟩
                      ·
                        refine s_cond_t hF rfl (decide_eq_true c48) ?_
                        refine wp_seq ?_
                        refine s_region ?_
                        refine s_val hF rfl rfl rfl (e_assign hF rfl) ?_; intro a hF
                        refine s_nil ?_
                        refine then_n ?_
                        refine wp_ret ?_
                        refine then_r ?_
                        obtain rfl := some_some H
                        refine s_ret [Value.bool false] hF Try.results6 ⟨rfl, trivial⟩ ?_
                        exact ⟨_, rfl, hM.frm, rfl⟩
                      ·
                        refine s_cond_f hF rfl (decide_eq_false c48) ?_
                        refine wp_skip ?_
                        refine then_n ?_
                        refine wp_seq ?_
                        refine wp_seq ?_
                        refine s_region ?_
                        refine s_val hF rfl rfl rfl (e_move hF rfl) ?_; intro a hF
                        refine s_val hF rfl rfl rfl (e_move hF rfl) ?_; intro a hF
                        refine s_val hF rfl rfl rfl (e_neq hF rfl rfl) ?_; intro a hF
                        refine s_nil ?_
                        refine then_n ?_
                        rcases ite_cases H with ⟨c49, H⟩ | ⟨c49, H⟩
                        ·
                          refine s_cond_f hF rfl (congrArg Bool.not (decide_eq_true c49)) ?_
                          refine wp_skip ?_
                          refine then_n ?_
                          refine wp_seq ?_
                          refine s_region ?_
                          refine s_val hF rfl rfl rfl (e_assign hF rfl) ?_; intro a hF
                          refine s_nil ?_
                          refine then_n ?_
                          refine wp_ret ?_
                          obtain rfl := some_some H
                          refine s_ret [Value.bool true] hF Try.results6 ⟨rfl, trivial⟩ ?_
                          exact ⟨_, rfl, hM.frm, rfl⟩
                        ·
                          refine s_cond_t hF rfl (congrArg Bool.not (decide_eq_false c49)) ?_
                          refine wp_seq ?_
                          refine s_region ?_
                          refine s_val hF rfl rfl rfl (e_assign hF rfl) ?_; intro a hF
                          refine s_nil ?_
                          refine then_n ?_
                          refine wp_ret ?_
                          refine then_r ?_
                          obtain rfl := some_some H
                          refine s_ret [Value.bool false] hF Try.results6 ⟨rfl, trivial⟩ ?_
                          exact ⟨_, rfl, hM.frm, rfl⟩
                    ·
                      refine s_cond_t hF rfl (congrArg Bool.not (bf c45)) ?_
                      refine wp_seq ?_
                      refine s_region ?_
                      refine s_val hF rfl rfl rfl (e_assign hF rfl) ?_; intro a hF
                      refine s_nil ?_
                      refine then_n ?_
                      refine wp_ret ?_
                      refine then_r ?_
                      obtain rfl := some_some H
                      refine s_ret [Value.bool false] hF Try.results6 ⟨rfl, trivial⟩ ?_
                      exact ⟨_, rfl, hM.frm, rfl⟩
                  ·
                    refine s_region ?_
                    refine s_val hF rfl rfl rfl (e_move hF rfl) ?_; intro a hF
                    refine s_val hF rfl rfl rfl (e_move hF rfl) ?_; intro a hF
                    refine s_call hF rfl rfl rfl Try.call27 (laws_eqIntA6S.calls K t39.1 v41 (hM.sl 0 rfl) t5.1 v7 (hM.sl 5 rfl) t42 h43) ?_; intro a w v hF hf hR
                    subst hR; have hM := hM.grow hf
                    refine s_val hF rfl rfl rfl (e_not hF rfl) ?_; intro a hF
                    refine s_val hF rfl rfl rfl (e_move hF rfl) ?_; intro a hF
                    have hF := hF.topb (congrArg Bool.not (bf c44))
                    refine s_skip hF rfl rfl rfl ?_; intro a hF
                    refine s_skip hF rfl rfl rfl ?_; intro a hF
                    refine s_skip hF rfl rfl rfl ?_; intro a hF
                    refine s_val hF rfl rfl rfl (e_pick_t hF rfl rfl) ?_; intro a hF
                    refine s_nil ?_
                    refine then_n ?_
                    refine s_cond_t hF rfl rfl ?_
                    refine wp_seq ?_
                    refine s_region ?_
                    refine s_val hF rfl rfl rfl (e_assign hF rfl) ?_; intro a hF
                    refine s_nil ?_
                    refine then_n ?_
                    refine wp_ret ?_
                    refine then_r ?_
                    obtain rfl := some_some H
                    refine s_ret [Value.bool false] hF Try.results6 ⟨rfl, trivial⟩ ?_
                    exact ⟨_, rfl, hM.frm, rfl⟩
                ·
                  refine s_cond_t hF rfl (congrArg Bool.not (decide_eq_false c35)) ?_
                  refine wp_seq ?_
                  refine s_region ?_
                  refine s_val hF rfl rfl rfl (e_assign hF rfl) ?_; intro a hF
                  refine s_nil ?_
                  refine then_n ?_
                  refine wp_ret ?_
                  refine then_r ?_
                  obtain rfl := some_some H
                  refine s_ret [Value.bool false] hF Try.results6 ⟨rfl, trivial⟩ ?_
                  exact ⟨_, rfl, hM.frm, rfl⟩
            ·
              refine s_region ?_
              refine s_val hF rfl rfl rfl (e_move hF rfl) ?_; intro a hF
              refine s_val hF rfl rfl rfl (e_lss hF rfl rfl) ?_; intro a hF
              refine s_val hF rfl rfl rfl (e_move hF rfl) ?_; intro a hF
              have hF := hF.topb (decide_eq_false c26)
              refine s_val hF rfl rfl rfl (e_move hF rfl) ?_; intro a hF
              refine s_val hF rfl rfl rfl (e_move hF rfl) ?_; intro a hF
              refine s_call hF rfl rfl rfl Try.call27 (laws_eqIntA6S.calls K t11.1 v13 (hM.sl 1 rfl) t5.1 v7 (hM.sl 3 rfl) t27 h28) ?_; intro a w v hF hf hR
              subst hR; have hM := hM.grow hf
              refine s_val hF rfl rfl rfl (e_not hF rfl) ?_; intro a hF
              refine s_val hF rfl rfl rfl (e_pick_f hF rfl rfl) ?_; intro a hF
              refine s_val hF rfl rfl rfl (e_move hF rfl) ?_; intro a hF
              have hF := hF.topb (congrArg Bool.not (bf c29))
              refine s_skip hF rfl rfl rfl ?_; intro a hF
              refine s_skip hF rfl rfl rfl ?_; intro a hF
              refine s_skip hF rfl rfl rfl ?_; intro a hF
              refine s_val hF rfl rfl rfl (e_pick_t hF rfl rfl) ?_; intro a hF
              refine s_nil ?_
              refine then_n ?_
              refine s_cond_t hF rfl rfl ?_
              refine wp_seq ?_
              refine s_region ?_
              refine s_val hF rfl rfl rfl (e_assign hF rfl) ?_; intro a hF
              refine s_nil ?_
              refine then_n ?_
              refine wp_ret ?_
              refine then_r ?_
              obtain rfl := some_some H
              refine s_ret [Value.bool false] hF Try.results6 ⟨rfl, trivial⟩ ?_
              exact ⟨_, rfl, hM.frm, rfl⟩
        ·
          refine s_cond_t hF rfl (congrArg Bool.not (bf c23)) ?_
          refine wp_seq ?_
          refine s_region ?_
          refine s_val hF rfl rfl rfl (e_assign hF rfl) ?_; intro a hF
          refine s_nil ?_
          refine then_n ?_
          refine wp_ret ?_
          refine then_r ?_
          obtain rfl := some_some H
          refine s_ret [Value.bool false] hF Try.results6 ⟨rfl, trivial⟩ ?_
          exact ⟨_, rfl, hM.frm, rfl⟩
      ·
        refine s_cond_t hF rfl (congrArg Bool.not (bf c17)) ?_
        refine wp_seq ?_
        refine s_region ?_
        refine s_val hF rfl rfl rfl (e_assign hF rfl) ?_; intro a hF
        refine s_nil ?_
        refine then_n ?_
        refine wp_ret ?_
        refine then_r ?_
        obtain rfl := some_some H
        refine s_ret [Value.bool false] hF Try.results6 ⟨rfl, trivial⟩ ?_
        exact ⟨_, rfl, hM.frm, rfl⟩
    ·
      refine s_region ?_
      refine s_val hF rfl rfl rfl (e_move hF rfl) ?_; intro a hF
      refine s_val hF rfl rfl rfl (e_move hF rfl) ?_; intro a hF
      refine s_call hF rfl rfl rfl Try.call27 (laws_eqIntA6S.calls K t11.1 v13 (hM.sl 0 rfl) t5.1 v7 (hM.sl 2 rfl) t14 h15) ?_; intro a w v hF hf hR
      subst hR; have hM := hM.grow hf
      refine s_val hF rfl rfl rfl (e_not hF rfl) ?_; intro a hF
      refine s_val hF rfl rfl rfl (e_move hF rfl) ?_; intro a hF
      have hF := hF.topb (congrArg Bool.not (bf c16))
      refine s_skip hF rfl rfl rfl ?_; intro a hF
      refine s_skip hF rfl rfl rfl ?_; intro a hF
      refine s_skip hF rfl rfl rfl ?_; intro a hF
      refine s_val hF rfl rfl rfl (e_pick_t hF rfl rfl) ?_; intro a hF
      refine s_nil ?_
      refine then_n ?_
      refine s_cond_t hF rfl rfl ?_
      refine wp_seq ?_
      refine s_region ?_
      refine s_val hF rfl rfl rfl (e_assign hF rfl) ?_; intro a hF
      refine s_nil ?_
      refine then_n ?_
      refine wp_ret ?_
      refine then_r ?_
      obtain rfl := some_some H
      refine s_ret [Value.bool false] hF Try.results6 ⟨rfl, trivial⟩ ?_
      exact ⟨_, rfl, hM.frm, rfl⟩

end Go.Proofs.Ytfiabgkolhpbkaa.WFromLetters

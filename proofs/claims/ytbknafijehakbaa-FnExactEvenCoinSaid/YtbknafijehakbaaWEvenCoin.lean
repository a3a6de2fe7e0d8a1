/- The walk through the code that the statement reaches: what each function computes. Conditions: none but those in each line. -/
import Derived.Test.YtbknafijehakbaaProg
import Derived.Test.YtbknafijehakbaaK
namespace Go.Proofs.Ytbknafijehakbaa.WEvenCoin
open Go.K Go.RowKit
set_option linter.unusedVariables false
set_option linter.unusedSimpArgs false

def cd3 : Cd Int := ⟨3, 1, 8, fun x => [Pt.int x], fun x => Value.int .i64 x, (0 : Int), fun _ => rfl, fun _ => rfl, by decide⟩
theorem cdok3 : CdOk Try.prog cd3 := by
  obtain ⟨i, h1, h2, h3, h4⟩ := info_parts (by kernel_rfl : (Try.prog.info? 3).map (fun i => (i.zero, i.size, i.bytes)) = some (some (cd3.v cd3.z), 1, 8))
  exact ⟨⟨i, h1, h3, h4, h2⟩, by decide⟩
theorem mixed : Try.prog.follows .mixedOrders = true := by kernel_rfl

/-! ### loop.example/g01210/laws.toIntS: function 26 -/
def laws_toIntS.l0 (K : Nat) (l0 : (List Int)) : Nat → Int → (List Int) → Option (List Int)
  | 0, _, _ => none
  | k + 1, x12, x13 => if x12 < (l0.length : Int) then (if (0 : Int) ≤ x12 ∧ x12 < (l0.length : Int) then (if (0 : Int) ≤ x12 ∧ x12 < (x13.length : Int) then (laws_toIntS.l0 K l0 k (wrap64 (x12 + 1)) (x13.set (x12 : Int).toNat (l0.getD (x12 : Int).toNat (0 : Int)))) else none) else none) else (some x13)
def laws_toIntS.f (K : Nat) (l0 : (List Int)) : Option (List Int) := if (0 : Int) ≤ (l0.length : Int) ∧ (l0.length : Int) ≤ 1073741824 then ((laws_toIntS.l0 K l0 K 0 (List.replicate (l0.length : Int).toNat (0 : Int))).bind fun x11 => some x11) else none
set_option maxRecDepth 100000 in
set_option maxHeartbeats 4000000 in
theorem laws_toIntS.calls {w0 : World} (K : Nat) (l0 : (List Int)) (u0 : Value) (q0 : SlR cd3 w0 u0 l0) (r : (List Int)) (H : laws_toIntS.f K l0 = some r) : Calls Try.prog 26 [u0].toArray w0 (Post w0 fun w v => Fresh cd3 w0.heap.size w v r) := by
  rw [laws_toIntS.f] at H
  refine s_start Try.func26 rfl Try.ntmps26 rfl ?_
  intro a hF
  have hM := Ms.start w0
  skip
  refine wp_seq ?_
  refine s_region ?_
  refine s_val hF rfl rfl rfl (e_assign hF rfl) ?_; intro a hF
  refine s_nil ?_
  refine then_n ?_
  refine wp_seq ?_
  obtain ⟨c2, H⟩ := ite_some H
  refine s_region ?_
  refine s_val hF rfl rfl rfl (e_move hF rfl) ?_; intro a hF
  refine s_val hF rfl rfl rfl (e_len hF rfl (q0.frm hM.frm).toF Try.underlying32) ?_; intro a hF
  refine s_make (C := cd3) cdok3 hF hM rfl rfl rfl rfl Try.underlying32 c2.1 c2.2 ?_; intro a w v1 hF hM
  refine s_val hF rfl rfl rfl (e_assign hF rfl) ?_; intro a hF
  refine s_nil ?_
  refine then_n ?_
  refine wp_seq ?_
  refine wp_seq ?_
  refine s_region ?_
  refine s_val hF rfl rfl rfl (e_assign hF rfl) ?_; intro a hF
  refine s_nil ?_
  refine then_n ?_
  refine wp_block ?_
  obtain ⟨o17, h18, H⟩ := bind_some H
  refine wp_mono (Q := fun e a w => (e = Exit.exit 0 ∧ ∃ x11 : (List Int), x11 = o17 ∧ Fr 22 a [(3, v1)] ∧ Ms [] w0 w [rowR cd3 v1 x11])) ?_ ?_
  · refine s_loop (fun kq a w => ∃ x12 : Int, ∃ x13 : (List Int), laws_toIntS.l0 K l0 kq x12 x13 = some o17 ∧ Fr 22 a [(0, u0), (3, v1), (4, Value.int .i64 x12)] ∧ Ms [] w0 w [rowR cd3 v1 x13]) K ⟨0, (List.replicate (l0.length : Int).toNat (0 : Int)), h18, hF.sub _ ⟨rfl, rfl, rfl, trivial⟩, hM.pick [0] rfl rfl⟩ ?_ ?_
    · rintro a w ⟨_, _, H, _⟩; exact none_some H
    · rintro k a w ⟨x12, x13, H, hF, hM⟩; rw [laws_toIntS.l0] at H
      refine wp_seq ?_
      refine wp_seq ?_
      refine s_region ?_
      refine s_val hF rfl rfl rfl (e_move hF rfl) ?_; intro a hF
      refine s_val hF rfl rfl rfl (e_move hF rfl) ?_; intro a hF
      refine s_val hF rfl rfl rfl (e_len hF rfl (q0.frm hM.frm).toF Try.underlying32) ?_; intro a hF
      refine s_val hF rfl rfl rfl (e_lss hF rfl rfl) ?_; intro a hF
      refine s_nil ?_
      refine then_n ?_
      rcases ite_cases H with ⟨c14, H⟩ | ⟨c14, H⟩
      ·
        refine s_cond_t hF rfl (decide_eq_true c14) ?_
        refine wp_skip ?_
        refine then_n ?_
        refine wp_seq ?_
        refine wp_block ?_
        obtain ⟨c15, H⟩ := ite_some H
        obtain ⟨c16, H⟩ := ite_some H
        refine s_region ?_
        refine s_val hF rfl rfl rfl (e_move hF rfl) ?_; intro a hF
        refine s_val hF rfl rfl rfl (e_move hF rfl) ?_; intro a hF
        refine s_val hF rfl rfl rfl (e_move hF rfl) ?_; intro a hF
        refine s_val hF rfl rfl rfl (e_move hF rfl) ?_; intro a hF
        refine s_val hF rfl rfl rfl (e_ias cd3 hF rfl rfl (q0.frm hM.frm).toF Try.underlying32 Try.sizeOf3 c15.1 c15.2) ?_; intro a hF
        refine s_val hF rfl rfl rfl (e_lds (m := x12) hF rfl (q0.frm hM.frm) (getD_some (z := (0 : Int)) c15.1 c15.2) rfl rfl Try.isAgg3) ?_; intro a hF
        refine s_val hF rfl rfl rfl (e_ias cd3 hF rfl rfl (hM.sl 0 rfl).toF Try.underlying32 Try.sizeOf3 c16.1 c16.2) ?_; intro a hF
        refine s_sts (i := 0) (l0.getD (x12 : Int).toNat (0 : Int)) hF hM rfl rfl rfl rfl rfl c16.1 c16.2 Try.sizeOf3 ?_; intro a w hF hM
        refine s_nil ?_
        refine blk_n ?_
        refine then_n ?_
        refine s_region ?_
        refine s_val hF rfl rfl rfl (e_move hF rfl) ?_; intro a hF
        refine s_val hF rfl rfl rfl (e_add hF rfl rfl) ?_; intro a hF
        refine s_val hF rfl rfl rfl (e_assign hF rfl) ?_; intro a hF
        refine s_nil ?_
        refine then_n ?_
        exact ⟨(wrap64 (x12 + 1)), (x13.set (x12 : Int).toNat (l0.getD (x12 : Int).toNat (0 : Int))), H, hF.sub _ ⟨rfl, rfl, rfl, trivial⟩, hM.pick [0] rfl rfl⟩
      ·
        refine s_cond_f hF rfl (decide_eq_false c14) ?_
        refine wp_exit ?_
        refine then_x ?_
        refine then_x ?_
        exact ⟨rfl, x13, some_some H, hF.sub _ ⟨rfl, trivial⟩, hM.pick [0] rfl rfl⟩
  · rintro e a w ⟨rfl, x11, rfl, hF, hM⟩
    skip
    refine blk_x ?_
    refine then_n ?_
    refine wp_seq ?_
    refine s_region ?_
    refine s_val hF rfl rfl rfl (e_move hF rfl) ?_; intro a hF
    refine s_val hF rfl rfl rfl (e_assign hF rfl) ?_; intro a hF
    refine s_nil ?_
    refine then_n ?_
    refine wp_ret ?_
    obtain rfl := some_some H
    refine s_ret [v1] hF Try.results26 ⟨rfl, trivial⟩ ?_
    exact ⟨_, rfl, hM.frm, hM.give 0 rfl⟩

/-! ### loop.example/g01210/spec.l1In: function 51 -/
def spec_l1In.f (K : Nat) (a0 : Int) (a1 : Int) (a2 : Int) : Option Bool := if a1 ≤ a0 then (some (decide (a0 ≤ a2))) else (some false)
set_option maxRecDepth 100000 in
set_option maxHeartbeats 4000000 in
theorem spec_l1In.calls {w0 : World} (K : Nat) (a0 : Int) (a1 : Int) (a2 : Int) (r : Bool) (H : spec_l1In.f K a0 a1 a2 = some r) : Calls Try.prog 51 [Value.int .i64 a0, Value.int .i64 a1, Value.int .i64 a2].toArray w0 (Post w0 fun w v => v = Value.bool r) := by
  rw [spec_l1In.f] at H
  refine s_start Try.func51 rfl Try.ntmps51 rfl ?_
  intro a hF
  have hM := Ms.start w0
  skip
  refine wp_seq ?_
  refine s_region ?_
  refine s_val hF rfl rfl rfl (e_assign hF rfl) ?_; intro a hF
  refine s_nil ?_
  refine then_n ?_
  refine wp_seq ?_
  rcases ite_cases H with ⟨c1, H⟩ | ⟨c1, H⟩
  ·
    refine s_region ?_
    refine s_val hF rfl rfl rfl (e_move hF rfl) ?_; intro a hF
    refine s_val hF rfl rfl rfl (e_move hF rfl) ?_; intro a hF
    refine s_val hF rfl rfl rfl (e_geq hF rfl rfl) ?_; intro a hF
    refine s_val hF rfl rfl rfl (e_move hF rfl) ?_; intro a hF
    have hF := hF.topb (decide_eq_true c1)
    refine s_val hF rfl rfl rfl (e_move hF rfl) ?_; intro a hF
    refine s_val hF rfl rfl rfl (e_move hF rfl) ?_; intro a hF
    refine s_val hF rfl rfl rfl (e_leq hF rfl rfl) ?_; intro a hF
    refine s_val hF rfl rfl rfl (e_pick_t hF rfl rfl) ?_; intro a hF
    refine s_val hF rfl rfl rfl (e_assign hF rfl) ?_; intro a hF
    refine s_nil ?_
    refine then_n ?_
    refine wp_ret ?_
    obtain rfl := some_some H
    refine s_ret [Value.bool (decide (a0 ≤ a2))] hF Try.results51 ⟨rfl, trivial⟩ ?_
    exact ⟨_, rfl, hM.frm, rfl⟩
  ·
    refine s_region ?_
    refine s_val hF rfl rfl rfl (e_move hF rfl) ?_; intro a hF
    refine s_val hF rfl rfl rfl (e_move hF rfl) ?_; intro a hF
    refine s_val hF rfl rfl rfl (e_geq hF rfl rfl) ?_; intro a hF
    refine s_val hF rfl rfl rfl (e_move hF rfl) ?_; intro a hF
    have hF := hF.topb (decide_eq_false c1)
    refine s_skip hF rfl rfl rfl ?_; intro a hF
    refine s_skip hF rfl rfl rfl ?_; intro a hF
    refine s_skip hF rfl rfl rfl ?_; intro a hF
    refine s_val hF rfl rfl rfl (e_pick_f hF rfl rfl) ?_; intro a hF
    refine s_val hF rfl rfl rfl (e_assign hF rfl) ?_; intro a hF
    refine s_nil ?_
    refine then_n ?_
    refine wp_ret ?_
    obtain rfl := some_some H
    refine s_ret [Value.bool false] hF Try.results51 ⟨rfl, trivial⟩ ?_
    exact ⟨_, rfl, hM.frm, rfl⟩

/-! ### loop.example/g01210/spec.l9Throws: function 61 -/
def spec_l9Throws.l0 (K : Nat) (l0 : (List Int)) (a1 : Int) : Nat → Int → Option (Sum Unit Bool)
  | 0, _ => none
  | k + 1, x14 => if x14 < (l0.length : Int) then (if x14 ≤ a1 then (if (0 : Int) ≤ x14 ∧ x14 < (l0.length : Int) then ((spec_l1In.f K (l0.getD (x14 : Int).toNat (0 : Int)) 0 5).bind fun t18 => if t18 = true then (spec_l9Throws.l0 K l0 a1 k (wrap64 (x14 + 1))) else (some (Sum.inr false))) else none) else (some (Sum.inl ()))) else (some (Sum.inl ()))
def spec_l9Throws.f (K : Nat) (l0 : (List Int)) (a1 : Int) : Option Bool := (spec_l9Throws.l0 K l0 a1 K 0).bind fun o21 => (match o21 with | .inl () => some (decide ((l0.length : Int) ≤ a1)) | .inr r23 => some r23)
set_option maxRecDepth 100000 in
set_option maxHeartbeats 4000000 in
theorem spec_l9Throws.calls {w0 : World} (K : Nat) (l0 : (List Int)) (u0 : Value) (q0 : SlR cd3 w0 u0 l0) (a1 : Int) (r : Bool) (H : spec_l9Throws.f K l0 a1 = some r) : Calls Try.prog 61 [u0, Value.int .i64 a1].toArray w0 (Post w0 fun w v => v = Value.bool r) := by
  rw [spec_l9Throws.f] at H
  refine s_start Try.func61 rfl Try.ntmps61 rfl ?_
  intro a hF
  have hM := Ms.start w0
  skip
  refine wp_seq ?_
  refine s_region ?_
  refine s_val hF rfl rfl rfl (e_assign hF rfl) ?_; intro a hF
  refine s_nil ?_
  refine then_n ?_
  refine wp_seq ?_
  refine wp_seq ?_
  refine s_region ?_
  refine s_val hF rfl rfl rfl (e_assign hF rfl) ?_; intro a hF
  refine s_nil ?_
  refine then_n ?_
  refine wp_block ?_
  obtain ⟨o21, h22, H⟩ := bind_some H
  refine wp_mono (Q := fun e a w => (e = Exit.exit 0 ∧ Sum.inl () = o21 ∧ Fr 27 a [(0, u0), (1, Value.int .i64 a1)] ∧ Ms [] w0 w []) ∨ (e = Exit.ret ∧ ∃ r23 : Bool, Sum.inr r23 = o21 ∧ Fr 27 a [(4, Value.bool r23)] ∧ Ms [] w0 w [])) ?_ ?_
  · refine s_loop (fun kq a w => ∃ x14 : Int, spec_l9Throws.l0 K l0 a1 kq x14 = some o21 ∧ Fr 27 a [(0, u0), (1, Value.int .i64 a1), (5, Value.int .i64 x14)] ∧ Ms [] w0 w []) K ⟨0, h22, hF.sub _ ⟨rfl, rfl, rfl, trivial⟩, hM.pick [] rfl rfl⟩ ?_ ?_
    · rintro a w ⟨_, H, _⟩; exact none_some H
    · rintro k a w ⟨x14, H, hF, hM⟩; rw [spec_l9Throws.l0] at H
      refine wp_seq ?_
      refine wp_seq ?_
      rcases ite_cases H with ⟨c15, H⟩ | ⟨c15, H⟩
      ·
        refine s_region ?_
        refine s_val hF rfl rfl rfl (e_move hF rfl) ?_; intro a hF
        refine s_val hF rfl rfl rfl (e_move hF rfl) ?_; intro a hF
        refine s_val hF rfl rfl rfl (e_len hF rfl (q0.frm hM.frm).toF Try.underlying32) ?_; intro a hF
        refine s_val hF rfl rfl rfl (e_lss hF rfl rfl) ?_; intro a hF
        refine s_val hF rfl rfl rfl (e_move hF rfl) ?_; intro a hF
        have hF := hF.topb (decide_eq_true c15)
        refine s_val hF rfl rfl rfl (e_move hF rfl) ?_; intro a hF
        refine s_val hF rfl rfl rfl (e_move hF rfl) ?_; intro a hF
        refine s_val hF rfl rfl rfl (e_leq hF rfl rfl) ?_; intro a hF
        refine s_val hF rfl rfl rfl (e_pick_t hF rfl rfl) ?_; intro a hF
        refine s_nil ?_
        refine then_n ?_
        rcases ite_cases H with ⟨c16, H⟩ | ⟨c16, H⟩
        ·
          refine s_cond_t hF rfl (decide_eq_true c16) ?_
          refine wp_skip ?_
          refine then_n ?_
          refine wp_seq ?_
          refine wp_block ?_
          refine wp_seq ?_
          obtain ⟨c17, H⟩ := ite_some H
          obtain ⟨t18, h19, H⟩ := bind_some H
          refine s_region ?_
          refine s_val hF rfl rfl rfl (e_move hF rfl) ?_; intro a hF
          refine s_val hF rfl rfl rfl (e_move hF rfl) ?_; intro a hF
          refine s_val hF rfl rfl rfl (e_ias cd3 hF rfl rfl (q0.frm hM.frm).toF Try.underlying32 Try.sizeOf3 c17.1 c17.2) ?_; intro a hF
          refine s_val hF rfl rfl rfl (e_lds (m := x14) hF rfl (q0.frm hM.frm) (getD_some (z := (0 : Int)) c17.1 c17.2) rfl rfl Try.isAgg3) ?_; intro a hF
          refine s_call hF rfl rfl rfl Try.call51 (spec_l1In.calls K (l0.getD (x14 : Int).toNat (0 : Int)) 0 5 t18 h19) ?_; intro a w v hF hf hR
          subst hR; have hM := hM.grow hf
          refine s_val hF rfl rfl rfl (e_not hF rfl) ?_; intro a hF
          refine s_nil ?_
          refine then_n ?_
          rcases ite_cases H with ⟨c20, H⟩ | ⟨c20, H⟩
          ·
            refine s_cond_f hF rfl (congrArg Bool.not c20) ?_
            refine wp_skip ?_
            refine blk_n ?_
            refine then_n ?_
            refine s_region ?_
            refine s_val hF rfl rfl rfl (e_move hF rfl) ?_; intro a hF
            refine s_val hF rfl rfl rfl (e_add hF rfl rfl) ?_; intro a hF
            refine s_val hF rfl rfl rfl (e_assign hF rfl) ?_; intro a hF
            refine s_nil ?_
            refine then_n ?_
            exact ⟨(wrap64 (x14 + 1)), H, hF.sub _ ⟨rfl, rfl, rfl, trivial⟩, hM.pick [] rfl rfl⟩
          ·
            refine s_cond_t hF rfl (congrArg Bool.not (bf c20)) ?_
            refine wp_seq ?_
            refine s_region ?_
            refine s_val hF rfl rfl rfl (e_assign hF rfl) ?_; intro a hF
            refine s_nil ?_
            refine then_n ?_
            refine wp_ret ?_
            refine blk_r ?_
            refine then_r ?_
            refine then_r ?_
            exact Or.inr (⟨rfl, false, some_some H, hF.sub _ ⟨rfl, trivial⟩, hM.pick [] rfl rfl⟩)
        ·
          refine s_cond_f hF rfl (decide_eq_false c16) ?_
          refine wp_exit ?_
          refine then_x ?_
          refine then_x ?_
          exact Or.inl (⟨rfl, some_some H, hF.sub _ ⟨rfl, rfl, trivial⟩, hM.pick [] rfl rfl⟩)
      ·
        refine s_region ?_
        refine s_val hF rfl rfl rfl (e_move hF rfl) ?_; intro a hF
        refine s_val hF rfl rfl rfl (e_move hF rfl) ?_; intro a hF
        refine s_val hF rfl rfl rfl (e_len hF rfl (q0.frm hM.frm).toF Try.underlying32) ?_; intro a hF
        refine s_val hF rfl rfl rfl (e_lss hF rfl rfl) ?_; intro a hF
        refine s_val hF rfl rfl rfl (e_move hF rfl) ?_; intro a hF
        have hF := hF.topb (decide_eq_false c15)
        refine s_skip hF rfl rfl rfl ?_; intro a hF
        refine s_skip hF rfl rfl rfl ?_; intro a hF
        refine s_skip hF rfl rfl rfl ?_; intro a hF
        refine s_val hF rfl rfl rfl (e_pick_f hF rfl rfl) ?_; intro a hF
        refine s_nil ?_
        refine then_n ?_
        refine s_cond_f hF rfl rfl ?_
        refine wp_exit ?_
        refine then_x ?_
        refine then_x ?_
        exact Or.inl (⟨rfl, some_some H, hF.sub _ ⟨rfl, rfl, trivial⟩, hM.pick [] rfl rfl⟩)
  · rintro e a w (⟨rfl, rfl, hF, hM⟩ | ⟨rfl, r23, rfl, hF, hM⟩)
    ·
      dsimp only at H
      refine blk_x ?_
      refine then_n ?_
      refine wp_seq ?_
      refine s_region ?_
      refine s_val hF rfl rfl rfl (e_move hF rfl) ?_; intro a hF
      refine s_val hF rfl rfl rfl (e_len hF rfl (q0.frm hM.frm).toF Try.underlying32) ?_; intro a hF
      refine s_val hF rfl rfl rfl (e_move hF rfl) ?_; intro a hF
      refine s_val hF rfl rfl rfl (e_leq hF rfl rfl) ?_; intro a hF
      refine s_val hF rfl rfl rfl (e_assign hF rfl) ?_; intro a hF
      refine s_nil ?_
      refine then_n ?_
      refine wp_ret ?_
      obtain rfl := some_some H
      refine s_ret [Value.bool (decide ((l0.length : Int) ≤ a1))] hF Try.results61 ⟨rfl, trivial⟩ ?_
      exact ⟨_, rfl, hM.frm, rfl⟩
    ·
      dsimp only at H
      refine blk_r ?_
      refine then_r ?_
      obtain rfl := some_some H
      refine s_ret [Value.bool r23] hF Try.results61 ⟨rfl, trivial⟩ ?_
      exact ⟨_, rfl, hM.frm, rfl⟩

/-! ### loop.example/g01210/spec.EvenCoin: function 37 -/
def spec_EvenCoin.l0 (K : Nat) (l0 : (List Int)) (a1 : Int) : Nat → Int → Int → (List Int) → Option (Int × (List Int))
  | 0, _, _, _ => none
  | k + 1, x39, x40, x42 => if (wrap64 (x40 + 2)) ≤ (l0.length : Int) then (if (0 : Int) ≤ x40 ∧ x40 < (l0.length : Int) then (if (0 : Int) ≤ (wrap64 (x40 + 1)) ∧ (wrap64 (x40 + 1)) < (l0.length : Int) then (if (l0.getD (x40 : Int).toNat (0 : Int)) < a1 then (if (l0.getD ((wrap64 (x40 + 1)) : Int).toNat (0 : Int)) < a1 then (spec_EvenCoin.l0 K l0 a1 k (wrap64 (x39 + 1)) (wrap64 (x40 + 2)) x42) else (if x42.length + [1].length ≤ 1073741824 then (spec_EvenCoin.l0 K l0 a1 k x39 (wrap64 (x40 + 2)) (x42 ++ [1])) else none)) else (if (l0.getD ((wrap64 (x40 + 1)) : Int).toNat (0 : Int)) < a1 then (if x42.length + [0].length ≤ 1073741824 then (spec_EvenCoin.l0 K l0 a1 k x39 (wrap64 (x40 + 2)) (x42 ++ [0])) else none) else (spec_EvenCoin.l0 K l0 a1 k (wrap64 (x39 + 1)) (wrap64 (x40 + 2)) x42))) else none) else none) else (some (x39, x42))
def spec_EvenCoin.f (K : Nat) (l0 : (List Int)) (a1 : Int) : Option ((List Int) × Int × Bool) := (spec_l9Throws.f K l0 40).bind fun t2 => if t2 = true then ((spec_l1In.f K a1 0 6).bind fun t5 => if t5 = true then ((spec_EvenCoin.l0 K l0 a1 K 0 0 ([] : List Int)).bind fun (x36, x38) => some (x38, x36, true)) else (some (([] : List Int), 0, false))) else (some (([] : List Int), 0, false))
set_option maxRecDepth 100000 in
set_option maxHeartbeats 4000000 in
theorem spec_EvenCoin.calls {w0 : World} (K : Nat) (l0 : (List Int)) (u0 : Value) (q0 : SlR cd3 w0 u0 l0) (a1 : Int) (r : ((List Int) × Int × Bool)) (H : spec_EvenCoin.f K l0 a1 = some r) : Calls Try.prog 37 [u0, Value.int .i64 a1].toArray w0 (Post w0 fun w v => ∃ v0 : Value, v = Value.tuple #[v0, Value.int .i64 r.2.1, Value.bool r.2.2] ∧ Fresh cd3 w0.heap.size w v0 r.1) := by
  rw [spec_EvenCoin.f] at H
  refine s_start Try.func37 rfl Try.ntmps37 rfl ?_
  intro a hF
  have hM := Ms.start w0
  skip
  refine wp_seq ?_
  refine s_region ?_
  refine s_val hF rfl rfl rfl (e_assign hF rfl) ?_; intro a hF
  refine s_val hF rfl rfl rfl (e_assign hF rfl) ?_; intro a hF
  refine s_val hF rfl rfl rfl (e_assign hF rfl) ?_; intro a hF
  refine s_nil ?_
  refine then_n ?_
  refine wp_seq ?_
  refine s_region ?_
  refine s_bsl (C := cd3) ([] : List Int) cdok3 hF hM rfl rfl rfl rfl Try.underlying32 rfl ?_; intro a w v1 hF hM
  refine s_val hF rfl rfl rfl (e_assign hF rfl) ?_; intro a hF
  refine s_val hF rfl rfl rfl (e_assign hF rfl) ?_; intro a hF
  refine s_nil ?_
  refine then_n ?_
  refine wp_seq ?_
  refine wp_seq ?_
  obtain ⟨t2, h3, H⟩ := bind_some H
  rcases ite_cases H with ⟨c4, H⟩ | ⟨c4, H⟩
  ·
    obtain ⟨t5, h6, H⟩ := bind_some H
    refine s_region ?_
    refine s_val hF rfl rfl rfl (e_move hF rfl) ?_; intro a hF
    refine s_call hF rfl rfl rfl Try.call61 (spec_l9Throws.calls K l0 u0 (q0.frm hM.frm) 40 t2 h3) ?_; intro a w v hF hf hR
    subst hR; have hM := hM.grow hf
    refine s_val hF rfl rfl rfl (e_not hF rfl) ?_; intro a hF
    refine s_val hF rfl rfl rfl (e_move hF rfl) ?_; intro a hF
    have hF := hF.topb (congrArg Bool.not c4)
    refine s_val hF rfl rfl rfl (e_move hF rfl) ?_; intro a hF
    refine s_call hF rfl rfl rfl Try.call51 (spec_l1In.calls K a1 0 6 t5 h6) ?_; intro a w v hF hf hR
    subst hR; have hM := hM.grow hf
    refine s_val hF rfl rfl rfl (e_not hF rfl) ?_; intro a hF
    refine s_val hF rfl rfl rfl (e_pick_f hF rfl rfl) ?_; intro a hF
    refine s_nil ?_
    refine then_n ?_
    rcases ite_cases H with ⟨c7, H⟩ | ⟨c7, H⟩
    ·
      refine s_cond_f hF rfl (congrArg Bool.not c7) ?_
      refine wp_skip ?_
      refine then_n ?_
      refine wp_seq ?_
      refine wp_seq ?_
      refine s_region ?_
      refine s_val hF rfl rfl rfl (e_assign hF rfl) ?_; intro a hF
      refine s_nil ?_
      refine then_n ?_
      refine wp_block ?_
      obtain ⟨o57, h58, H⟩ := bind_some H
      refine wp_mono (Q := fun e a w => (e = Exit.exit 0 ∧ ∃ v37 : Value, ∃ x36 : Int, ∃ x38 : (List Int), (x36, x38) = o57 ∧ Fr 64 a [(7, v37), (8, Value.int .i64 x36)] ∧ Ms [] w0 w [rowR cd3 v37 x38])) ?_ ?_
      · refine s_loop (fun kq a w => ∃ v41 : Value, ∃ x39 : Int, ∃ x40 : Int, ∃ x42 : (List Int), spec_EvenCoin.l0 K l0 a1 kq x39 x40 x42 = some o57 ∧ Fr 64 a [(0, u0), (1, Value.int .i64 a1), (7, v41), (8, Value.int .i64 x39), (9, Value.int .i64 x40)] ∧ Ms [] w0 w [rowR cd3 v41 x42]) K ⟨v1, 0, 0, ([] : List Int), h58, hF.sub _ ⟨rfl, rfl, rfl, rfl, rfl, trivial⟩, hM.pick [0] rfl rfl⟩ ?_ ?_
        · rintro a w ⟨_, _, _, _, H, _⟩; exact none_some H
        · rintro k a w ⟨v41, x39, x40, x42, H, hF, hM⟩; rw [spec_EvenCoin.l0] at H
          refine wp_seq ?_
          refine wp_seq ?_
          refine s_region ?_
          refine s_val hF rfl rfl rfl (e_move hF rfl) ?_; intro a hF
          refine s_val hF rfl rfl rfl (e_add hF rfl rfl) ?_; intro a hF
          refine s_val hF rfl rfl rfl (e_move hF rfl) ?_; intro a hF
          refine s_val hF rfl rfl rfl (e_len hF rfl (q0.frm hM.frm).toF Try.underlying32) ?_; intro a hF
          refine s_val hF rfl rfl rfl (e_leq hF rfl rfl) ?_; intro a hF
          refine s_nil ?_
          refine then_n ?_
          rcases ite_cases H with ⟨c43, H⟩ | ⟨c43, H⟩
          ·
            refine s_cond_t hF rfl (decide_eq_true c43) ?_
            refine wp_skip ?_
            refine then_n ?_
            refine wp_seq ?_
            refine wp_block ?_
            refine wp_seq ?_
            obtain ⟨c44, H⟩ := ite_some H
            obtain ⟨c45, H⟩ := ite_some H
            refine s_held (fun w => Ms [] w0 w [rowR cd3 v41 x42]) #[false, false, false, false, false, false, false, false, false, false, false, false, false, false, false] mixed rfl rfl hM ?_; intro w hf hM; clear hf
            refine h_val 0 #[true, false, false, false, false, false, false, false, false, false, false, false, false, false, false] rfl (by kernel_rfl) hF rfl rfl rfl (fun w hS => e_move hF rfl) (hM.pick [0] rfl rfl) ?_; intro a hF
            refine h_val 1 #[true, true, false, false, false, false, false, false, false, false, false, false, false, false, false] rfl (by kernel_rfl) hF rfl rfl rfl (fun w hS => e_move hF rfl) (hM.pick [0] rfl rfl) ?_; intro a hF
            have f46 := (q0.frm hM.frm).toF
            refine h_val 2 #[true, true, true, false, false, false, false, false, false, false, false, false, false, false, false] rfl (by kernel_rfl) hF rfl rfl rfl (fun w hS => e_ias cd3 hF rfl rfl f46 Try.underlying32 Try.sizeOf3 c44.1 c44.2) (hM.pick [0] rfl rfl) ?_; intro a hF
            refine h_val 3 #[true, true, true, true, false, false, false, false, false, false, false, false, false, false, false] rfl (by kernel_rfl) hF rfl rfl rfl (fun w hS => e_lds (m := x40) hF rfl (q0.frm hS.frm) (getD_some (z := (0 : Int)) c44.1 c44.2) rfl rfl Try.isAgg3) (hM.pick [0] rfl rfl) ?_; intro a hF
            refine h_val 4 #[true, true, true, true, true, false, false, false, false, false, false, false, false, false, false] rfl (by kernel_rfl) hF rfl rfl rfl (fun w hS => e_move hF rfl) (hM.pick [0] rfl rfl) ?_; intro a hF
            refine h_val 5 #[true, true, true, true, true, true, false, false, false, false, false, false, false, false, false] rfl (by kernel_rfl) hF rfl rfl rfl (fun w hS => e_lss hF rfl rfl) (hM.pick [0] rfl rfl) ?_; intro a hF
            refine h_val 6 #[true, true, true, true, true, true, true, false, false, false, false, false, false, false, false] rfl (by kernel_rfl) hF rfl rfl rfl (fun w hS => e_move hF rfl) (hM.pick [0] rfl rfl) ?_; intro a hF
            refine h_val 7 #[true, true, true, true, true, true, true, true, false, false, false, false, false, false, false] rfl (by kernel_rfl) hF rfl rfl rfl (fun w hS => e_move hF rfl) (hM.pick [0] rfl rfl) ?_; intro a hF
            refine h_val 8 #[true, true, true, true, true, true, true, true, true, false, false, false, false, false, false] rfl (by kernel_rfl) hF rfl rfl rfl (fun w hS => e_add hF rfl rfl) (hM.pick [0] rfl rfl) ?_; intro a hF
            have f47 := (q0.frm hM.frm).toF
            refine h_val 9 #[true, true, true, true, true, true, true, true, true, true, false, false, false, false, false] rfl (by kernel_rfl) hF rfl rfl rfl (fun w hS => e_ias cd3 hF rfl rfl f47 Try.underlying32 Try.sizeOf3 c45.1 c45.2) (hM.pick [0] rfl rfl) ?_; intro a hF
            refine h_val 10 #[true, true, true, true, true, true, true, true, true, true, true, false, false, false, false] rfl (by kernel_rfl) hF rfl rfl rfl (fun w hS => e_lds (m := (wrap64 (x40 + 1))) hF rfl (q0.frm hS.frm) (getD_some (z := (0 : Int)) c45.1 c45.2) rfl rfl Try.isAgg3) (hM.pick [0] rfl rfl) ?_; intro a hF
            refine h_val 11 #[true, true, true, true, true, true, true, true, true, true, true, true, false, false, false] rfl (by kernel_rfl) hF rfl rfl rfl (fun w hS => e_move hF rfl) (hM.pick [0] rfl rfl) ?_; intro a hF
            refine h_val 12 #[true, true, true, true, true, true, true, true, true, true, true, true, true, false, false] rfl (by kernel_rfl) hF rfl rfl rfl (fun w hS => e_lss hF rfl rfl) (hM.pick [0] rfl rfl) ?_; intro a hF
            refine h_val 13 #[true, true, true, true, true, true, true, true, true, true, true, true, true, true, false] rfl (by kernel_rfl) hF rfl rfl rfl (fun w hS => e_assign hF rfl) (hM.pick [0] rfl rfl) ?_; intro a hF
            refine h_val 14 #[true, true, true, true, true, true, true, true, true, true, true, true, true, true, true] rfl (by kernel_rfl) hF rfl rfl rfl (fun w hS => e_assign hF rfl) (hM.pick [0] rfl rfl) ?_; intro a hF
            refine h_done rfl ?_
            refine then_n ?_
            refine wp_block ?_
            refine wp_seq ?_
            rcases ite_cases H with ⟨c48, H⟩ | ⟨c48, H⟩
            ·
              refine s_region ?_
              refine s_val hF rfl rfl rfl (e_move hF rfl) ?_; intro a hF
              refine s_val hF rfl rfl rfl (e_move hF rfl) ?_; intro a hF
              have hF := hF.topb (decide_eq_true c48)
              refine s_val hF rfl rfl rfl (e_move hF rfl) ?_; intro a hF
              refine s_val hF rfl rfl rfl (e_not hF rfl) ?_; intro a hF
              refine s_val hF rfl rfl rfl (e_pick_t hF rfl rfl) ?_; intro a hF
              refine s_val hF rfl rfl rfl (e_assign hF rfl) ?_; intro a hF
              refine s_nil ?_
              refine then_n ?_
              rcases ite_cases H with ⟨c49, H⟩ | ⟨c49, H⟩
              ·
                refine s_cond_f hF rfl (congrArg Bool.not (decide_eq_true c49)) ?_
                refine wp_seq ?_
                refine s_region ?_
                refine s_val hF rfl rfl rfl (e_move hF rfl) ?_; intro a hF
                refine s_val hF rfl rfl rfl (e_move hF rfl) ?_; intro a hF
                have hF := hF.topb (decide_eq_true c49)
                refine s_val hF rfl rfl rfl (e_move hF rfl) ?_; intro a hF
                refine s_val hF rfl rfl rfl (e_not hF rfl) ?_; intro a hF
                refine s_val hF rfl rfl rfl (e_pick_t hF rfl rfl) ?_; intro a hF
                refine s_val hF rfl rfl rfl (e_assign hF rfl) ?_; intro a hF
                refine s_nil ?_
                refine then_n ?_
                refine s_cond_f hF rfl (congrArg Bool.not (decide_eq_true c48)) ?_
                refine s_region ?_
                refine s_val hF rfl rfl rfl (e_move hF rfl) ?_; intro a hF
                refine s_val hF rfl rfl rfl (e_add hF rfl rfl) ?_; intro a hF
                refine s_val hF rfl rfl rfl (e_assign hF rfl) ?_; intro a hF
                refine s_nil ?_
                refine blk_n ?_
                refine blk_n ?_
                refine then_n ?_
                refine s_region ?_
                refine s_val hF rfl rfl rfl (e_move hF rfl) ?_; intro a hF
                refine s_val hF rfl rfl rfl (e_add hF rfl rfl) ?_; intro a hF
                refine s_val hF rfl rfl rfl (e_assign hF rfl) ?_; intro a hF
                refine s_nil ?_
                refine then_n ?_
                exact ⟨v41, (wrap64 (x39 + 1)), (wrap64 (x40 + 2)), x42, H, hF.sub _ ⟨rfl, rfl, rfl, rfl, rfl, trivial⟩, hM.pick [0] rfl rfl⟩
              ·
                refine s_cond_t hF rfl (congrArg Bool.not (decide_eq_false c49)) ?_
                obtain ⟨c52, H⟩ := ite_some H
                refine s_region ?_
                refine s_val hF rfl rfl rfl (e_move hF rfl) ?_; intro a hF
                refine s_bsl (C := cd3) [1] cdok3 hF hM rfl rfl rfl rfl Try.underlying32 rfl ?_; intro a w v50 hF hM
                refine s_append (i := 1) cdok3 hF hM rfl rfl rfl rfl rfl (hM.sl 0 rfl) Try.underlying32 c52 ?_; intro a w v51 hF hM
                refine s_val hF rfl rfl rfl (e_assign hF rfl) ?_; intro a hF
                refine s_nil ?_
                refine blk_n ?_
                refine blk_n ?_
                refine then_n ?_
                refine s_region ?_
                refine s_val hF rfl rfl rfl (e_move hF rfl) ?_; intro a hF
                refine s_val hF rfl rfl rfl (e_add hF rfl rfl) ?_; intro a hF
                refine s_val hF rfl rfl rfl (e_assign hF rfl) ?_; intro a hF
                refine s_nil ?_
                refine then_n ?_
                exact ⟨v51, x39, (wrap64 (x40 + 2)), (x42 ++ [1]), H, hF.sub _ ⟨rfl, rfl, rfl, rfl, rfl, trivial⟩, hM.pick [1] rfl rfl⟩
            ·
              refine s_region ?_
              refine s_val hF rfl rfl rfl (e_move hF rfl) ?_; intro a hF
              refine s_val hF rfl rfl rfl (e_move hF rfl) ?_; intro a hF
              have hF := hF.topb (decide_eq_false c48)
              refine s_skip hF rfl rfl rfl ?_; intro a hF
              refine s_skip hF rfl rfl rfl ?_; intro a hF
              refine s_val hF rfl rfl rfl (e_pick_f hF rfl rfl) ?_; intro a hF
              refine s_val hF rfl rfl rfl (e_assign hF rfl) ?_; intro a hF
              refine s_nil ?_
              refine then_n ?_
              refine s_cond_f hF rfl rfl ?_
              refine wp_seq ?_
              rcases ite_cases H with ⟨c53, H⟩ | ⟨c53, H⟩
              ·
                refine s_region ?_
                refine s_val hF rfl rfl rfl (e_move hF rfl) ?_; intro a hF
                refine s_val hF rfl rfl rfl (e_move hF rfl) ?_; intro a hF
                have hF := hF.topb (decide_eq_true c53)
                refine s_val hF rfl rfl rfl (e_move hF rfl) ?_; intro a hF
                refine s_val hF rfl rfl rfl (e_not hF rfl) ?_; intro a hF
                refine s_val hF rfl rfl rfl (e_pick_t hF rfl rfl) ?_; intro a hF
                refine s_val hF rfl rfl rfl (e_assign hF rfl) ?_; intro a hF
                refine s_nil ?_
                refine then_n ?_
                refine s_cond_t hF rfl (congrArg Bool.not (decide_eq_false c48)) ?_
                obtain ⟨c56, H⟩ := ite_some H
                refine s_region ?_
                refine s_val hF rfl rfl rfl (e_move hF rfl) ?_; intro a hF
                refine s_bsl (C := cd3) [0] cdok3 hF hM rfl rfl rfl rfl Try.underlying32 rfl ?_; intro a w v54 hF hM
                refine s_append (i := 1) cdok3 hF hM rfl rfl rfl rfl rfl (hM.sl 0 rfl) Try.underlying32 c56 ?_; intro a w v55 hF hM
                refine s_val hF rfl rfl rfl (e_assign hF rfl) ?_; intro a hF
                refine s_nil ?_
                refine blk_n ?_
                refine blk_n ?_
                refine then_n ?_
                refine s_region ?_
                refine s_val hF rfl rfl rfl (e_move hF rfl) ?_; intro a hF
                refine s_val hF rfl rfl rfl (e_add hF rfl rfl) ?_; intro a hF
                refine s_val hF rfl rfl rfl (e_assign hF rfl) ?_; intro a hF
                refine s_nil ?_
                refine then_n ?_
                exact ⟨v55, x39, (wrap64 (x40 + 2)), (x42 ++ [0]), H, hF.sub _ ⟨rfl, rfl, rfl, rfl, rfl, trivial⟩, hM.pick [1] rfl rfl⟩
              ·
                refine s_region ?_
                refine s_val hF rfl rfl rfl (e_move hF rfl) ?_; intro a hF
                refine s_val hF rfl rfl rfl (e_move hF rfl) ?_; intro a hF
                have hF := hF.topb (decide_eq_false c53)
                refine s_skip hF rfl rfl rfl ?_; intro a hF
                refine s_skip hF rfl rfl rfl ?_; intro a hF
                refine s_val hF rfl rfl rfl (e_pick_f hF rfl rfl) ?_; intro a hF
                refine s_val hF rfl rfl rfl (e_assign hF rfl) ?_; intro a hF
                refine s_nil ?_
                refine then_n ?_
                refine s_cond_f hF rfl rfl ?_
                refine s_region ?_
                refine s_val hF rfl rfl rfl (e_move hF rfl) ?_; intro a hF
                refine s_val hF rfl rfl rfl (e_add hF rfl rfl) ?_; intro a hF
                refine s_val hF rfl rfl rfl (e_assign hF rfl) ?_; intro a hF
                refine s_nil ?_
                refine blk_n ?_
                refine blk_n ?_
                refine then_n ?_
                refine s_region ?_
                refine s_val hF rfl rfl rfl (e_move hF rfl) ?_; intro a hF
                refine s_val hF rfl rfl rfl (e_add hF rfl rfl) ?_; intro a hF
                refine s_val hF rfl rfl rfl (e_assign hF rfl) ?_; intro a hF
                refine s_nil ?_
                refine then_n ?_
                exact ⟨v41, (wrap64 (x39 + 1)), (wrap64 (x40 + 2)), x42, H, hF.sub _ ⟨rfl, rfl, rfl, rfl, rfl, trivial⟩, hM.pick [0] rfl rfl⟩
          ·
            refine s_cond_f hF rfl (decide_eq_false c43) ?_
            refine wp_exit ?_
            refine then_x ?_
            refine then_x ?_
            exact ⟨rfl, v41, x39, x42, some_some H, hF.sub _ ⟨rfl, rfl, trivial⟩, hM.pick [0] rfl rfl⟩
      · rintro e a w ⟨rfl, v37, x36, x38, rfl, hF, hM⟩
        skip
        refine blk_x ?_
        refine then_n ?_
        refine wp_seq ?_
        refine s_region ?_
        refine s_val hF rfl rfl rfl (e_move hF rfl) ?_; intro a hF
        refine s_val hF rfl rfl rfl (e_move hF rfl) ?_; intro a hF
        refine s_val hF rfl rfl rfl (e_assign hF rfl) ?_; intro a hF
        refine s_val hF rfl rfl rfl (e_assign hF rfl) ?_; intro a hF
        refine s_val hF rfl rfl rfl (e_assign hF rfl) ?_; intro a hF
        refine s_nil ?_
        refine then_n ?_
        refine wp_ret ?_
        obtain rfl := some_some H
        refine s_ret [v37, Value.int .i64 x36, Value.bool true] hF Try.results37 ⟨rfl, rfl, rfl, trivial⟩ ?_
        exact ⟨_, rfl, hM.frm, ⟨v37, rfl, hM.give 0 rfl⟩⟩
    ·
      refine s_cond_t hF rfl (congrArg Bool.not (bf c7)) ?_
      refine wp_seq ?_
      refine s_region ?_
      refine s_val hF rfl rfl rfl (e_move hF rfl) ?_; intro a hF
      refine s_val hF rfl rfl rfl (e_assign hF rfl) ?_; intro a hF
      refine s_val hF rfl rfl rfl (e_assign hF rfl) ?_; intro a hF
      refine s_val hF rfl rfl rfl (e_assign hF rfl) ?_; intro a hF
      refine s_nil ?_
      refine then_n ?_
      refine wp_ret ?_
      refine then_r ?_
      obtain rfl := some_some H
      refine s_ret [v1, Value.int .i64 0, Value.bool false] hF Try.results37 ⟨rfl, rfl, rfl, trivial⟩ ?_
      exact ⟨_, rfl, hM.frm, ⟨v1, rfl, hM.give 0 rfl⟩⟩
  ·
    refine s_region ?_
    refine s_val hF rfl rfl rfl (e_move hF rfl) ?_; intro a hF
    refine s_call hF rfl rfl rfl Try.call61 (spec_l9Throws.calls K l0 u0 (q0.frm hM.frm) 40 t2 h3) ?_; intro a w v hF hf hR
    subst hR; have hM := hM.grow hf
    refine s_val hF rfl rfl rfl (e_not hF rfl) ?_; intro a hF
    refine s_val hF rfl rfl rfl (e_move hF rfl) ?_; intro a hF
    have hF := hF.topb (congrArg Bool.not (bf c4))
    refine s_skip hF rfl rfl rfl ?_; intro a hF
    refine s_skip hF rfl rfl rfl ?_; intro a hF
    refine s_skip hF rfl rfl rfl ?_; intro a hF
    refine s_val hF rfl rfl rfl (e_pick_t hF rfl rfl) ?_; intro a hF
    refine s_nil ?_
    refine then_n ?_
    refine s_cond_t hF rfl rfl ?_
    refine wp_seq ?_
    refine s_region ?_
    refine s_val hF rfl rfl rfl (e_move hF rfl) ?_; intro a hF
    refine s_val hF rfl rfl rfl (e_assign hF rfl) ?_; intro a hF
    refine s_val hF rfl rfl rfl (e_assign hF rfl) ?_; intro a hF
    refine s_val hF rfl rfl rfl (e_assign hF rfl) ?_; intro a hF
    refine s_nil ?_
    refine then_n ?_
    refine wp_ret ?_
    refine then_r ?_
    obtain rfl := some_some H
    refine s_ret [v1, Value.int .i64 0, Value.bool false] hF Try.results37 ⟨rfl, rfl, rfl, trivial⟩ ?_
    exact ⟨_, rfl, hM.frm, ⟨v1, rfl, hM.give 0 rfl⟩⟩

/-! ### loop.example/g01210/impl.isList: function 65 -/
def impl_isList.f (K : Nat) (l0 : (List Int)) : Option Bool := some (decide ((l0.length : Int) ≤ 40))
set_option maxRecDepth 100000 in
set_option maxHeartbeats 4000000 in
theorem impl_isList.calls {w0 : World} (K : Nat) (l0 : (List Int)) (u0 : Value) (q0 : SlR cd3 w0 u0 l0) (r : Bool) (H : impl_isList.f K l0 = some r) : Calls Try.prog 65 [u0].toArray w0 (Post w0 fun w v => v = Value.bool r) := by
  rw [impl_isList.f] at H
  refine s_start Try.func65 rfl Try.ntmps65 rfl ?_
  intro a hF
  have hM := Ms.start w0
  skip
  refine wp_seq ?_
  refine s_region ?_
  refine s_val hF rfl rfl rfl (e_assign hF rfl) ?_; intro a hF
  refine s_nil ?_
  refine then_n ?_
  refine wp_seq ?_
  refine s_region ?_
  refine s_val hF rfl rfl rfl (e_move hF rfl) ?_; intro a hF
  refine s_val hF rfl rfl rfl (e_len hF rfl (q0.frm hM.frm).toF Try.underlying32) ?_; intro a hF
  refine s_val hF rfl rfl rfl (e_leq hF rfl rfl) ?_; intro a hF
  refine s_val hF rfl rfl rfl (e_assign hF rfl) ?_; intro a hF
  refine s_nil ?_
  refine then_n ?_
  refine wp_ret ?_
  obtain rfl := some_some H
  refine s_ret [Value.bool (decide ((l0.length : Int) ≤ 40))] hF Try.results65 ⟨rfl, trivial⟩ ?_
  exact ⟨_, rfl, hM.frm, rfl⟩

/-! ### loop.example/g01210/impl.within: function 53 -/
def impl_within.f (K : Nat) (a0 : Int) (a1 : Int) (a2 : Int) : Option Bool := if a1 ≤ a0 then (some (decide (a0 ≤ a2))) else (some false)
set_option maxRecDepth 100000 in
set_option maxHeartbeats 4000000 in
theorem impl_within.calls {w0 : World} (K : Nat) (a0 : Int) (a1 : Int) (a2 : Int) (r : Bool) (H : impl_within.f K a0 a1 a2 = some r) : Calls Try.prog 53 [Value.int .i64 a0, Value.int .i64 a1, Value.int .i64 a2].toArray w0 (Post w0 fun w v => v = Value.bool r) := by
  rw [impl_within.f] at H
  refine s_start Try.func53 rfl Try.ntmps53 rfl ?_
  intro a hF
  have hM := Ms.start w0
  skip
  refine wp_seq ?_
  refine s_region ?_
  refine s_val hF rfl rfl rfl (e_assign hF rfl) ?_; intro a hF
  refine s_nil ?_
  refine then_n ?_
  refine wp_seq ?_
  rcases ite_cases H with ⟨c1, H⟩ | ⟨c1, H⟩
  ·
    refine s_region ?_
    refine s_val hF rfl rfl rfl (e_move hF rfl) ?_; intro a hF
    refine s_val hF rfl rfl rfl (e_move hF rfl) ?_; intro a hF
    refine s_val hF rfl rfl rfl (e_leq hF rfl rfl) ?_; intro a hF
    refine s_val hF rfl rfl rfl (e_move hF rfl) ?_; intro a hF
    have hF := hF.topb (decide_eq_true c1)
    refine s_val hF rfl rfl rfl (e_move hF rfl) ?_; intro a hF
    refine s_val hF rfl rfl rfl (e_move hF rfl) ?_; intro a hF
    refine s_val hF rfl rfl rfl (e_leq hF rfl rfl) ?_; intro a hF
    refine s_val hF rfl rfl rfl (e_pick_t hF rfl rfl) ?_; intro a hF
    refine s_val hF rfl rfl rfl (e_assign hF rfl) ?_; intro a hF
    refine s_nil ?_
    refine then_n ?_
    refine wp_ret ?_
    obtain rfl := some_some H
    refine s_ret [Value.bool (decide (a0 ≤ a2))] hF Try.results53 ⟨rfl, trivial⟩ ?_
    exact ⟨_, rfl, hM.frm, rfl⟩
  ·
    refine s_region ?_
    refine s_val hF rfl rfl rfl (e_move hF rfl) ?_; intro a hF
    refine s_val hF rfl rfl rfl (e_move hF rfl) ?_; intro a hF
    refine s_val hF rfl rfl rfl (e_leq hF rfl rfl) ?_; intro a hF
    refine s_val hF rfl rfl rfl (e_move hF rfl) ?_; intro a hF
    have hF := hF.topb (decide_eq_false c1)
    refine s_skip hF rfl rfl rfl ?_; intro a hF
    refine s_skip hF rfl rfl rfl ?_; intro a hF
    refine s_skip hF rfl rfl rfl ?_; intro a hF
    refine s_val hF rfl rfl rfl (e_pick_f hF rfl rfl) ?_; intro a hF
    refine s_val hF rfl rfl rfl (e_assign hF rfl) ?_; intro a hF
    refine s_nil ?_
    refine then_n ?_
    refine wp_ret ?_
    obtain rfl := some_some H
    refine s_ret [Value.bool false] hF Try.results53 ⟨rfl, trivial⟩ ?_
    exact ⟨_, rfl, hM.frm, rfl⟩

/-! ### loop.example/g01210/impl.isSide: function 72 -/
def impl_isSide.f (K : Nat) (a0 : Int) : Option Bool := (impl_within.f K a0 0 5).bind fun t1 => some t1
set_option maxRecDepth 100000 in
set_option maxHeartbeats 4000000 in
theorem impl_isSide.calls {w0 : World} (K : Nat) (a0 : Int) (r : Bool) (H : impl_isSide.f K a0 = some r) : Calls Try.prog 72 [Value.int .i64 a0].toArray w0 (Post w0 fun w v => v = Value.bool r) := by
  rw [impl_isSide.f] at H
  refine s_start Try.func72 rfl Try.ntmps72 rfl ?_
  intro a hF
  have hM := Ms.start w0
  skip
  refine wp_seq ?_
  refine s_region ?_
  refine s_val hF rfl rfl rfl (e_assign hF rfl) ?_; intro a hF
  refine s_nil ?_
  refine then_n ?_
  refine wp_seq ?_
  obtain ⟨t1, h2, H⟩ := bind_some H
  refine s_region ?_
  refine s_val hF rfl rfl rfl (e_move hF rfl) ?_; intro a hF
  refine s_call hF rfl rfl rfl Try.call53 (impl_within.calls K a0 0 5 t1 h2) ?_; intro a w v hF hf hR
  subst hR; have hM := hM.grow hf
  refine s_val hF rfl rfl rfl (e_assign hF rfl) ?_; intro a hF
  refine s_nil ?_
  refine then_n ?_
  refine wp_ret ?_
  obtain rfl := some_some H
  refine s_ret [Value.bool t1] hF Try.results72 ⟨rfl, trivial⟩ ?_
  exact ⟨_, rfl, hM.frm, rfl⟩

/-! ### loop.example/g01210/impl.areAll[int]$1: function 84 -/
def impl_areAll_int_1__isSide.f (K : Nat) (a0 : Int) : Option Bool := (impl_isSide.f K a0).bind fun t3 => some (!t3)
set_option maxRecDepth 100000 in
set_option maxHeartbeats 4000000 in
theorem impl_areAll_int_1__isSide.calls {w0 : World} (K : Nat) (a0 : Int) (b1 : Nat) (q2 : (boxR b1 [Pt.val (Value.func (.func 72) #[] #[]) rfl] 24).holds w0) (r : Bool) (H : impl_areAll_int_1__isSide.f K a0 = some r) : Calls Try.prog 84 [Value.int .i64 a0, pt b1 0].toArray w0 (Post w0 fun w v => v = Value.bool r) := by
  rw [impl_areAll_int_1__isSide.f] at H
  refine s_start Try.func84 rfl Try.ntmps84 rfl ?_
  intro a hF
  have hM := Ms.start w0
  skip
  refine wp_seq ?_
  refine s_region ?_
  refine s_val hF rfl rfl rfl (e_assign hF rfl) ?_; intro a hF
  refine s_nil ?_
  refine then_n ?_
  refine wp_seq ?_
  obtain ⟨t3, h4, H⟩ := bind_some H
  refine s_region ?_
  refine s_val hF rfl rfl rfl (e_ldb (k := 0) hF (box_frm q2 hM.frm) rfl rfl rfl Try.isAgg24 rfl) ?_; intro a hF
  refine s_val hF rfl rfl rfl (e_move hF rfl) ?_; intro a hF
  refine s_callv hF rfl rfl rfl rfl (callsV_of Try.call72 (impl_isSide.calls K a0 t3 h4)) ?_; intro a w v hF ⟨hf, hR⟩
  subst hR; have hM := hM.grow hf
  refine s_val hF rfl rfl rfl (e_not hF rfl) ?_; intro a hF
  refine s_val hF rfl rfl rfl (e_assign hF rfl) ?_; intro a hF
  refine s_nil ?_
  refine then_n ?_
  refine wp_ret ?_
  obtain rfl := some_some H
  refine s_ret [Value.bool (!t3)] hF Try.results84 ⟨rfl, trivial⟩ ?_
  exact ⟨_, rfl, hM.frm, rfl⟩

/-! ### slices.IndexFunc[[]int,int]: function 91 -/
def slices_IndexFunc_int_int__areAll_int_1_isSide.l0 (K : Nat) (l0 : (List Int)) : Nat → Int → Option (Sum Unit Int)
  | 0, _ => none
  | k + 1, x14 => if x14 < (l0.length : Int) then (if (0 : Int) ≤ x14 ∧ x14 < (l0.length : Int) then ((impl_areAll_int_1__isSide.f K (l0.getD (x14 : Int).toNat (0 : Int))).bind fun t17 => if t17 = true then (some (Sum.inr x14)) else (slices_IndexFunc_int_int__areAll_int_1_isSide.l0 K l0 k (wrap64 (x14 + 1)))) else none) else (some (Sum.inl ()))
def slices_IndexFunc_int_int__areAll_int_1_isSide.f (K : Nat) (l0 : (List Int)) : Option Int := (slices_IndexFunc_int_int__areAll_int_1_isSide.l0 K l0 K 0).bind fun o20 => (match o20 with | .inl () => some (-1) | .inr r22 => some r22)
set_option maxRecDepth 100000 in
set_option maxHeartbeats 4000000 in
theorem slices_IndexFunc_int_int__areAll_int_1_isSide.calls {w0 : World} (K : Nat) (l0 : (List Int)) (u0 : Value) (q0 : SlR cd3 w0 u0 l0) (b1 : Nat) (q2 : (boxR b1 [Pt.val (Value.func (.func 72) #[] #[]) rfl] 24).holds w0) (r : Int) (H : slices_IndexFunc_int_int__areAll_int_1_isSide.f K l0 = some r) : Calls Try.prog 91 [u0, Value.func (.func 84) #[] #[pt b1 0]].toArray w0 (Post w0 fun w v => v = Value.int .i64 r) := by
  rw [slices_IndexFunc_int_int__areAll_int_1_isSide.f] at H
  refine s_start Try.func91 rfl Try.ntmps91 rfl ?_
  intro a hF
  have hM := Ms.start w0
  skip
  refine wp_seq ?_
  refine s_region ?_
  refine s_val hF rfl rfl rfl (e_assign hF rfl) ?_; intro a hF
  refine s_nil ?_
  refine then_n ?_
  refine wp_seq ?_
  refine wp_seq ?_
  refine s_region ?_
  refine s_val hF rfl rfl rfl (e_move hF rfl) ?_; intro a hF
  refine s_val hF rfl rfl rfl (e_len hF rfl (q0.frm hM.frm).toF Try.underlying32) ?_; intro a hF
  refine s_val hF rfl rfl rfl (e_move hF rfl) ?_; intro a hF
  refine s_nil ?_
  refine then_n ?_
  refine wp_block ?_
  obtain ⟨o20, h21, H⟩ := bind_some H
  refine wp_mono (Q := fun e a w => (e = Exit.exit 0 ∧ Sum.inl () = o20 ∧ Fr 19 a [] ∧ Ms [] w0 w []) ∨ (e = Exit.ret ∧ ∃ r22 : Int, Sum.inr r22 = o20 ∧ Fr 19 a [(4, Value.int .i64 r22)] ∧ Ms [] w0 w [])) ?_ ?_
  · refine s_loop (fun kq a w => ∃ x14 : Int, slices_IndexFunc_int_int__areAll_int_1_isSide.l0 K l0 kq x14 = some o20 ∧ Fr 19 a [(0, u0), (1, Value.func (.func 84) #[] #[pt b1 0]), (7, Value.int .i64 (l0.length : Int)), (8, Value.int .i64 x14)] ∧ Ms [] w0 w []) K ⟨0, h21, hF.sub _ ⟨rfl, rfl, rfl, rfl, trivial⟩, hM.pick [] rfl rfl⟩ ?_ ?_
    · rintro a w ⟨_, H, _⟩; exact none_some H
    · rintro k a w ⟨x14, H, hF, hM⟩; rw [slices_IndexFunc_int_int__areAll_int_1_isSide.l0] at H
      refine wp_seq ?_
      refine s_region ?_
      refine s_val hF rfl rfl rfl (e_lss hF rfl rfl) ?_; intro a hF
      refine s_nil ?_
      refine then_n ?_
      refine wp_seq ?_
      rcases ite_cases H with ⟨c15, H⟩ | ⟨c15, H⟩
      ·
        refine s_cond_t hF rfl (decide_eq_true c15) ?_
        refine wp_skip ?_
        refine then_n ?_
        refine wp_seq ?_
        refine wp_block ?_
        refine wp_seq ?_
        refine s_region ?_
        refine s_val hF rfl rfl rfl (e_move hF rfl) ?_; intro a hF
        refine s_val hF rfl rfl rfl (e_assign hF rfl) ?_; intro a hF
        refine s_nil ?_
        refine then_n ?_
        refine wp_seq ?_
        obtain ⟨c16, H⟩ := ite_some H
        obtain ⟨t17, h18, H⟩ := bind_some H
        refine s_region ?_
        refine s_val hF rfl rfl rfl (e_move hF rfl) ?_; intro a hF
        refine s_val hF rfl rfl rfl (e_move hF rfl) ?_; intro a hF
        refine s_val hF rfl rfl rfl (e_move hF rfl) ?_; intro a hF
        refine s_val hF rfl rfl rfl (e_ias cd3 hF rfl rfl (q0.frm hM.frm).toF Try.underlying32 Try.sizeOf3 c16.1 c16.2) ?_; intro a hF
        refine s_val hF rfl rfl rfl (e_lds (m := x14) hF rfl (q0.frm hM.frm) (getD_some (z := (0 : Int)) c16.1 c16.2) rfl rfl Try.isAgg3) ?_; intro a hF
        refine s_callv hF rfl rfl rfl rfl (callsV_of Try.call84 (impl_areAll_int_1__isSide.calls K (l0.getD (x14 : Int).toNat (0 : Int)) b1 (box_frm q2 hM.frm) t17 h18)) ?_; intro a w v hF ⟨hf, hR⟩
        subst hR; have hM := hM.grow hf
        refine s_nil ?_
        refine then_n ?_
        rcases ite_cases H with ⟨c19, H⟩ | ⟨c19, H⟩
        ·
          refine s_cond_t hF rfl c19 ?_
          refine wp_seq ?_
          refine s_region ?_
          refine s_val hF rfl rfl rfl (e_move hF rfl) ?_; intro a hF
          refine s_val hF rfl rfl rfl (e_assign hF rfl) ?_; intro a hF
          refine s_nil ?_
          refine then_n ?_
          refine wp_ret ?_
          refine blk_r ?_
          refine then_r ?_
          refine then_r ?_
          exact Or.inr (⟨rfl, x14, some_some H, hF.sub _ ⟨rfl, trivial⟩, hM.pick [] rfl rfl⟩)
        ·
          refine s_cond_f hF rfl (bf c19) ?_
          refine wp_skip ?_
          refine blk_n ?_
          refine then_n ?_
          refine s_region ?_
          refine s_val hF rfl rfl rfl (e_add hF rfl rfl) ?_; intro a hF
          refine s_val hF rfl rfl rfl (e_move hF rfl) ?_; intro a hF
          refine s_nil ?_
          refine then_n ?_
          exact ⟨(wrap64 (x14 + 1)), H, hF.sub _ ⟨rfl, rfl, rfl, rfl, trivial⟩, hM.pick [] rfl rfl⟩
      ·
        refine s_cond_f hF rfl (decide_eq_false c15) ?_
        refine wp_exit ?_
        refine then_x ?_
        refine then_x ?_
        exact Or.inl (⟨rfl, some_some H, hF.sub _ trivial, hM.pick [] rfl rfl⟩)
  · rintro e a w (⟨rfl, rfl, hF, hM⟩ | ⟨rfl, r22, rfl, hF, hM⟩)
    ·
      dsimp only at H
      refine blk_x ?_
      refine then_n ?_
      refine wp_seq ?_
      refine s_region ?_
      refine s_val hF rfl rfl rfl (e_assign hF rfl) ?_; intro a hF
      refine s_nil ?_
      refine then_n ?_
      refine wp_ret ?_
      obtain rfl := some_some H
      refine s_ret [Value.int .i64 (-1)] hF Try.results91 ⟨rfl, trivial⟩ ?_
      exact ⟨_, rfl, hM.frm, rfl⟩
    ·
      dsimp only at H
      refine blk_r ?_
      refine then_r ?_
      obtain rfl := some_some H
      refine s_ret [Value.int .i64 r22] hF Try.results91 ⟨rfl, trivial⟩ ?_
      exact ⟨_, rfl, hM.frm, rfl⟩

/-! ### slices.ContainsFunc[[]int,int]: function 83 -/
def slices_ContainsFunc_int_int__areAll_int_1_isSide.f (K : Nat) (l0 : (List Int)) : Option Bool := (slices_IndexFunc_int_int__areAll_int_1_isSide.f K l0).bind fun t3 => some (decide (0 ≤ t3))
set_option maxRecDepth 100000 in
set_option maxHeartbeats 4000000 in
theorem slices_ContainsFunc_int_int__areAll_int_1_isSide.calls {w0 : World} (K : Nat) (l0 : (List Int)) (u0 : Value) (q0 : SlR cd3 w0 u0 l0) (b1 : Nat) (q2 : (boxR b1 [Pt.val (Value.func (.func 72) #[] #[]) rfl] 24).holds w0) (r : Bool) (H : slices_ContainsFunc_int_int__areAll_int_1_isSide.f K l0 = some r) : Calls Try.prog 83 [u0, Value.func (.func 84) #[] #[pt b1 0]].toArray w0 (Post w0 fun w v => v = Value.bool r) := by
  rw [slices_ContainsFunc_int_int__areAll_int_1_isSide.f] at H
  refine s_start Try.func83 rfl Try.ntmps83 rfl ?_
  intro a hF
  have hM := Ms.start w0
  skip
  refine wp_seq ?_
  refine s_region ?_
  refine s_val hF rfl rfl rfl (e_assign hF rfl) ?_; intro a hF
  refine s_nil ?_
  refine then_n ?_
  refine wp_seq ?_
  obtain ⟨t3, h4, H⟩ := bind_some H
  refine s_region ?_
  refine s_val hF rfl rfl rfl (e_move hF rfl) ?_; intro a hF
  refine s_val hF rfl rfl rfl (e_move hF rfl) ?_; intro a hF
  refine s_call hF rfl rfl rfl Try.call91 (slices_IndexFunc_int_int__areAll_int_1_isSide.calls K l0 u0 (q0.frm hM.frm) b1 (box_frm q2 hM.frm) t3 h4) ?_; intro a w v hF hf hR
  subst hR; have hM := hM.grow hf
  refine s_val hF rfl rfl rfl (e_geq hF rfl rfl) ?_; intro a hF
  refine s_val hF rfl rfl rfl (e_assign hF rfl) ?_; intro a hF
  refine s_nil ?_
  refine then_n ?_
  refine wp_ret ?_
  obtain rfl := some_some H
  refine s_ret [Value.bool (decide (0 ≤ t3))] hF Try.results83 ⟨rfl, trivial⟩ ?_
  exact ⟨_, rfl, hM.frm, rfl⟩

/-! ### loop.example/g01210/impl.areAll[int]: function 69 -/
def impl_areAll_int__isSide.f (K : Nat) (l0 : (List Int)) : Option Bool := (slices_ContainsFunc_int_int__areAll_int_1_isSide.f K l0).bind fun t2 => some (!t2)
set_option maxRecDepth 100000 in
set_option maxHeartbeats 4000000 in
theorem impl_areAll_int__isSide.calls {w0 : World} (K : Nat) (l0 : (List Int)) (u0 : Value) (q0 : SlR cd3 w0 u0 l0) (r : Bool) (H : impl_areAll_int__isSide.f K l0 = some r) : Calls Try.prog 69 [u0, Value.func (.func 72) #[] #[]].toArray w0 (Post w0 fun w v => v = Value.bool r) := by
  rw [impl_areAll_int__isSide.f] at H
  refine s_start Try.func69 rfl Try.ntmps69 rfl ?_
  intro a hF
  have hM := Ms.start w0
  skip
  refine wp_seq ?_
  refine s_region ?_
  refine s_box (ps := [Pt.val (Value.func (.func 72) #[] #[]) rfl]) hF hM rfl rfl rfl rfl ?_; intro a w b1 hF hM
  refine s_val hF rfl rfl rfl (e_assign hF rfl) ?_; intro a hF
  refine s_nil ?_
  refine then_n ?_
  refine wp_seq ?_
  obtain ⟨t2, h3, H⟩ := bind_some H
  refine s_region ?_
  refine s_val hF rfl rfl rfl (e_move hF rfl) ?_; intro a hF
  refine s_val hF rfl rfl rfl (e_mkfunc (hF.evs' rfl)) ?_; intro a hF
  refine s_call hF rfl rfl rfl Try.call83 (slices_ContainsFunc_int_int__areAll_int_1_isSide.calls K l0 u0 (q0.frm hM.frm) b1 (hM.get 0 rfl) t2 h3) ?_; intro a w v hF hf hR
  subst hR; have hM := hM.grow hf
  refine s_val hF rfl rfl rfl (e_not hF rfl) ?_; intro a hF
  refine s_val hF rfl rfl rfl (e_assign hF rfl) ?_; intro a hF
  refine s_nil ?_
  refine then_n ?_
  refine wp_ret ?_
  obtain rfl := some_some H
  refine s_ret [Value.bool (!t2)] hF Try.results69 ⟨rfl, trivial⟩ ?_
  exact ⟨_, rfl, hM.frm, rfl⟩

/-! ### loop.example/g01210/impl.areThrows: function 63 -/
def impl_areThrows.f (K : Nat) (l0 : (List Int)) : Option Bool := (impl_areAll_int__isSide.f K l0).bind fun t1 => some t1
set_option maxRecDepth 100000 in
set_option maxHeartbeats 4000000 in
theorem impl_areThrows.calls {w0 : World} (K : Nat) (l0 : (List Int)) (u0 : Value) (q0 : SlR cd3 w0 u0 l0) (r : Bool) (H : impl_areThrows.f K l0 = some r) : Calls Try.prog 63 [u0].toArray w0 (Post w0 fun w v => v = Value.bool r) := by
  rw [impl_areThrows.f] at H
  refine s_start Try.func63 rfl Try.ntmps63 rfl ?_
  intro a hF
  have hM := Ms.start w0
  skip
  refine wp_seq ?_
  refine s_region ?_
  refine s_val hF rfl rfl rfl (e_assign hF rfl) ?_; intro a hF
  refine s_nil ?_
  refine then_n ?_
  refine wp_seq ?_
  obtain ⟨t1, h2, H⟩ := bind_some H
  refine s_region ?_
  refine s_val hF rfl rfl rfl (e_move hF rfl) ?_; intro a hF
  refine s_call hF rfl rfl rfl Try.call69 (impl_areAll_int__isSide.calls K l0 u0 (q0.frm hM.frm) t1 h2) ?_; intro a w v hF hf hR
  subst hR; have hM := hM.grow hf
  refine s_val hF rfl rfl rfl (e_assign hF rfl) ?_; intro a hF
  refine s_nil ?_
  refine then_n ?_
  refine wp_ret ?_
  obtain rfl := some_some H
  refine s_ret [Value.bool t1] hF Try.results63 ⟨rfl, trivial⟩ ?_
  exact ⟨_, rfl, hM.frm, rfl⟩

/-! ### loop.example/g01210/impl.truth: function 67 -/
def impl_truth.f (K : Nat) (a0 : Bool) : Option Int := if a0 = true then (some 1) else (some 0)
set_option maxRecDepth 100000 in
set_option maxHeartbeats 4000000 in
theorem impl_truth.calls {w0 : World} (K : Nat) (a0 : Bool) (r : Int) (H : impl_truth.f K a0 = some r) : Calls Try.prog 67 [Value.bool a0].toArray w0 (Post w0 fun w v => v = Value.int .i64 r) := by
  rw [impl_truth.f] at H
  refine s_start Try.func67 rfl Try.ntmps67 rfl ?_
  intro a hF
  have hM := Ms.start w0
  skip
  refine wp_seq ?_
  refine s_region ?_
  refine s_val hF rfl rfl rfl (e_assign hF rfl) ?_; intro a hF
  refine s_nil ?_
  refine then_n ?_
  refine wp_seq ?_
  refine wp_seq ?_
  refine s_region ?_
  refine s_val hF rfl rfl rfl (e_move hF rfl) ?_; intro a hF
  refine s_nil ?_
  refine then_n ?_
  rcases ite_cases H with ⟨c1, H⟩ | ⟨c1, H⟩
  ·
    refine s_cond_t hF rfl c1 ?_
    refine wp_seq ?_
    refine s_region ?_
    refine s_val hF rfl rfl rfl (e_assign hF rfl) ?_; intro a hF
    refine s_nil ?_
    refine then_n ?_
    refine wp_ret ?_
    refine then_r ?_
    obtain rfl := some_some H
    refine s_ret [Value.int .i64 1] hF Try.results67 ⟨rfl, trivial⟩ ?_
    exact ⟨_, rfl, hM.frm, rfl⟩
  ·
    refine s_cond_f hF rfl (bf c1) ?_
    refine wp_skip ?_
    refine then_n ?_
    refine wp_seq ?_
    refine s_region ?_
    refine s_val hF rfl rfl rfl (e_assign hF rfl) ?_; intro a hF
    refine s_nil ?_
    refine then_n ?_
    refine wp_ret ?_
    obtain rfl := some_some H
    refine s_ret [Value.int .i64 0] hF Try.results67 ⟨rfl, trivial⟩ ?_
    exact ⟨_, rfl, hM.frm, rfl⟩

/-! ### loop.example/g01210/impl.EvenCoin: function 38 -/
def impl_EvenCoin.l0 (K : Nat) (l0 : (List Int)) (a1 : Int) : Nat → Int → Int → (List Int) → Option (Int × (List Int))
  | 0, _, _, _ => none
  | k + 1, x46, x47, x49 => if (wrap64 (x47 + 1)) < (l0.length : Int) then (if (0 : Int) ≤ x47 ∧ x47 < (l0.length : Int) then (if (0 : Int) ≤ (wrap64 (x47 + 1)) ∧ (wrap64 (x47 + 1)) < (l0.length : Int) then (if ((decide ((l0.getD (x47 : Int).toNat (0 : Int)) < a1)) == (decide ((l0.getD ((wrap64 (x47 + 1)) : Int).toNat (0 : Int)) < a1))) = true then (impl_EvenCoin.l0 K l0 a1 k (wrap64 (x46 + 1)) (wrap64 (x47 + 2)) x49) else ((impl_truth.f K (decide ((l0.getD (x47 : Int).toNat (0 : Int)) < a1))).bind fun t56 => if x49.length + [t56].length ≤ 1073741824 then (impl_EvenCoin.l0 K l0 a1 k x46 (wrap64 (x47 + 2)) (x49 ++ [t56])) else none)) else none) else none) else (some (x46, x49))
def impl_EvenCoin.f (K : Nat) (l0 : (List Int)) (a1 : Int) : Option ((List Int) × Int × Bool) := (impl_isList.f K l0).bind fun t1 => if t1 = true then ((impl_areThrows.f K l0).bind fun t4 => if t4 = true then ((impl_within.f K a1 0 6).bind fun t7 => if t7 = true then ((impl_EvenCoin.l0 K l0 a1 K 0 0 ([] : List Int)).bind fun (x43, x45) => some (x45, x43, true)) else (some ([], 0, false))) else (some ([], 0, false))) else (some ([], 0, false))
set_option maxRecDepth 100000 in
set_option maxHeartbeats 4000000 in
theorem impl_EvenCoin.calls {w0 : World} (K : Nat) (l0 : (List Int)) (u0 : Value) (q0 : SlR cd3 w0 u0 l0) (a1 : Int) (r : ((List Int) × Int × Bool)) (H : impl_EvenCoin.f K l0 a1 = some r) : Calls Try.prog 38 [u0, Value.int .i64 a1].toArray w0 (Post w0 fun w v => ∃ v0 : Value, v = Value.tuple #[v0, Value.int .i64 r.2.1, Value.bool r.2.2] ∧ Fresh cd3 w0.heap.size w v0 r.1) := by
  rw [impl_EvenCoin.f] at H
  refine s_start Try.func38 rfl Try.ntmps38 rfl ?_
  intro a hF
  have hM := Ms.start w0
  skip
  refine wp_seq ?_
  refine s_region ?_
  refine s_val hF rfl rfl rfl (e_assign hF rfl) ?_; intro a hF
  refine s_val hF rfl rfl rfl (e_assign hF rfl) ?_; intro a hF
  refine s_val hF rfl rfl rfl (e_assign hF rfl) ?_; intro a hF
  refine s_nil ?_
  refine then_n ?_
  refine wp_seq ?_
  refine wp_seq ?_
  obtain ⟨t1, h2, H⟩ := bind_some H
  rcases ite_cases H with ⟨c3, H⟩ | ⟨c3, H⟩
  ·
    obtain ⟨t4, h5, H⟩ := bind_some H
    rcases ite_cases H with ⟨c6, H⟩ | ⟨c6, H⟩
    ·
      obtain ⟨t7, h8, H⟩ := bind_some H
      refine s_region ?_
      refine s_val hF rfl rfl rfl (e_move hF rfl) ?_; intro a hF
      refine s_call hF rfl rfl rfl Try.call65 (impl_isList.calls K l0 u0 (q0.frm hM.frm) t1 h2) ?_; intro a w v hF hf hR
      subst hR; have hM := hM.grow hf
      refine s_val hF rfl rfl rfl (e_not hF rfl) ?_; intro a hF
      refine s_val hF rfl rfl rfl (e_move hF rfl) ?_; intro a hF
      have hF := hF.topb (congrArg Bool.not c3)
      refine s_val hF rfl rfl rfl (e_move hF rfl) ?_; intro a hF
      refine s_call hF rfl rfl rfl Try.call63 (impl_areThrows.calls K l0 u0 (q0.frm hM.frm) t4 h5) ?_; intro a w v hF hf hR
      subst hR; have hM := hM.grow hf
      refine s_val hF rfl rfl rfl (e_not hF rfl) ?_; intro a hF
      refine s_val hF rfl rfl rfl (e_pick_f hF rfl rfl) ?_; intro a hF
      refine s_val hF rfl rfl rfl (e_move hF rfl) ?_; intro a hF
      have hF := hF.topb (congrArg Bool.not c6)
      refine s_val hF rfl rfl rfl (e_move hF rfl) ?_; intro a hF
      refine s_call hF rfl rfl rfl Try.call53 (impl_within.calls K a1 0 6 t7 h8) ?_; intro a w v hF hf hR
      subst hR; have hM := hM.grow hf
      refine s_val hF rfl rfl rfl (e_not hF rfl) ?_; intro a hF
      refine s_val hF rfl rfl rfl (e_pick_f hF rfl rfl) ?_; intro a hF
      refine s_nil ?_
      refine then_n ?_
      rcases ite_cases H with ⟨c9, H⟩ | ⟨c9, H⟩
      ·
        refine s_cond_f hF rfl (congrArg Bool.not c9) ?_
        refine wp_skip ?_
        refine then_n ?_
        refine wp_seq ?_
        refine s_region ?_
        refine s_val hF rfl rfl rfl (e_assign hF rfl) ?_; intro a hF
        refine s_nil ?_
        refine then_n ?_
        refine wp_seq ?_
        refine s_region ?_
        refine s_val hF rfl rfl rfl (e_assign hF rfl) ?_; intro a hF
        refine s_nil ?_
        refine then_n ?_
        refine wp_seq ?_
        refine wp_seq ?_
        refine s_region ?_
        refine s_val hF rfl rfl rfl (e_assign hF rfl) ?_; intro a hF
        refine s_nil ?_
        refine then_n ?_
        refine wp_block ?_
        have hM := hM.nilRow cd3
        obtain ⟨o61, h62, H⟩ := bind_some H
        refine wp_mono (Q := fun e a w => (e = Exit.exit 0 ∧ ∃ v44 : Value, ∃ x43 : Int, ∃ x45 : (List Int), (x43, x45) = o61 ∧ Fr 57 a [(7, v44), (8, Value.int .i64 x43)] ∧ Ms [] w0 w [rowR cd3 v44 x45])) ?_ ?_
        · refine s_loop (fun kq a w => ∃ v48 : Value, ∃ x46 : Int, ∃ x47 : Int, ∃ x49 : (List Int), impl_EvenCoin.l0 K l0 a1 kq x46 x47 x49 = some o61 ∧ Fr 57 a [(0, u0), (1, Value.int .i64 a1), (7, v48), (8, Value.int .i64 x46), (9, Value.int .i64 x47)] ∧ Ms [] w0 w [rowR cd3 v48 x49]) K ⟨(Value.slice none 0 0), 0, 0, ([] : List Int), h62, hF.sub _ ⟨rfl, rfl, rfl, rfl, rfl, trivial⟩, hM.pick [0] rfl rfl⟩ ?_ ?_
          · rintro a w ⟨_, _, _, _, H, _⟩; exact none_some H
          · rintro k a w ⟨v48, x46, x47, x49, H, hF, hM⟩; rw [impl_EvenCoin.l0] at H
            refine wp_seq ?_
            refine wp_seq ?_
            refine s_region ?_
            refine s_val hF rfl rfl rfl (e_move hF rfl) ?_; intro a hF
            refine s_val hF rfl rfl rfl (e_add hF rfl rfl) ?_; intro a hF
            refine s_val hF rfl rfl rfl (e_move hF rfl) ?_; intro a hF
            refine s_val hF rfl rfl rfl (e_len hF rfl (q0.frm hM.frm).toF Try.underlying32) ?_; intro a hF
            refine s_val hF rfl rfl rfl (e_lss hF rfl rfl) ?_; intro a hF
            refine s_nil ?_
            refine then_n ?_
            rcases ite_cases H with ⟨c50, H⟩ | ⟨c50, H⟩
            ·
              refine s_cond_t hF rfl (decide_eq_true c50) ?_
              refine wp_skip ?_
              refine then_n ?_
              refine wp_seq ?_
              refine wp_block ?_
              refine wp_seq ?_
              obtain ⟨c51, H⟩ := ite_some H
              obtain ⟨c52, H⟩ := ite_some H
              refine s_held (fun w => Ms [] w0 w [rowR cd3 v48 x49]) #[false, false, false, false, false, false, false, false, false, false, false, false, false, false, false] mixed rfl rfl hM ?_; intro w hf hM; clear hf
              refine h_val 0 #[true, false, false, false, false, false, false, false, false, false, false, false, false, false, false] rfl (by kernel_rfl) hF rfl rfl rfl (fun w hS => e_move hF rfl) (hM.pick [0] rfl rfl) ?_; intro a hF
              refine h_val 1 #[true, true, false, false, false, false, false, false, false, false, false, false, false, false, false] rfl (by kernel_rfl) hF rfl rfl rfl (fun w hS => e_move hF rfl) (hM.pick [0] rfl rfl) ?_; intro a hF
              have f53 := (q0.frm hM.frm).toF
              refine h_val 2 #[true, true, true, false, false, false, false, false, false, false, false, false, false, false, false] rfl (by kernel_rfl) hF rfl rfl rfl (fun w hS => e_ias cd3 hF rfl rfl f53 Try.underlying32 Try.sizeOf3 c51.1 c51.2) (hM.pick [0] rfl rfl) ?_; intro a hF
              refine h_val 3 #[true, true, true, true, false, false, false, false, false, false, false, false, false, false, false] rfl (by kernel_rfl) hF rfl rfl rfl (fun w hS => e_lds (m := x47) hF rfl (q0.frm hS.frm) (getD_some (z := (0 : Int)) c51.1 c51.2) rfl rfl Try.isAgg3) (hM.pick [0] rfl rfl) ?_; intro a hF
              refine h_val 4 #[true, true, true, true, true, false, false, false, false, false, false, false, false, false, false] rfl (by kernel_rfl) hF rfl rfl rfl (fun w hS => e_move hF rfl) (hM.pick [0] rfl rfl) ?_; intro a hF
              refine h_val 5 #[true, true, true, true, true, true, false, false, false, false, false, false, false, false, false] rfl (by kernel_rfl) hF rfl rfl rfl (fun w hS => e_lss hF rfl rfl) (hM.pick [0] rfl rfl) ?_; intro a hF
              refine h_val 6 #[true, true, true, true, true, true, true, false, false, false, false, false, false, false, false] rfl (by kernel_rfl) hF rfl rfl rfl (fun w hS => e_move hF rfl) (hM.pick [0] rfl rfl) ?_; intro a hF
              refine h_val 7 #[true, true, true, true, true, true, true, true, false, false, false, false, false, false, false] rfl (by kernel_rfl) hF rfl rfl rfl (fun w hS => e_move hF rfl) (hM.pick [0] rfl rfl) ?_; intro a hF
              refine h_val 8 #[true, true, true, true, true, true, true, true, true, false, false, false, false, false, false] rfl (by kernel_rfl) hF rfl rfl rfl (fun w hS => e_add hF rfl rfl) (hM.pick [0] rfl rfl) ?_; intro a hF
              have f54 := (q0.frm hM.frm).toF
              refine h_val 9 #[true, true, true, true, true, true, true, true, true, true, false, false, false, false, false] rfl (by kernel_rfl) hF rfl rfl rfl (fun w hS => e_ias cd3 hF rfl rfl f54 Try.underlying32 Try.sizeOf3 c52.1 c52.2) (hM.pick [0] rfl rfl) ?_; intro a hF
              refine h_val 10 #[true, true, true, true, true, true, true, true, true, true, true, false, false, false, false] rfl (by kernel_rfl) hF rfl rfl rfl (fun w hS => e_lds (m := (wrap64 (x47 + 1))) hF rfl (q0.frm hS.frm) (getD_some (z := (0 : Int)) c52.1 c52.2) rfl rfl Try.isAgg3) (hM.pick [0] rfl rfl) ?_; intro a hF
              refine h_val 11 #[true, true, true, true, true, true, true, true, true, true, true, true, false, false, false] rfl (by kernel_rfl) hF rfl rfl rfl (fun w hS => e_move hF rfl) (hM.pick [0] rfl rfl) ?_; intro a hF
              refine h_val 12 #[true, true, true, true, true, true, true, true, true, true, true, true, true, false, false] rfl (by kernel_rfl) hF rfl rfl rfl (fun w hS => e_lss hF rfl rfl) (hM.pick [0] rfl rfl) ?_; intro a hF
              refine h_val 13 #[true, true, true, true, true, true, true, true, true, true, true, true, true, true, false] rfl (by kernel_rfl) hF rfl rfl rfl (fun w hS => e_assign hF rfl) (hM.pick [0] rfl rfl) ?_; intro a hF
              refine h_val 14 #[true, true, true, true, true, true, true, true, true, true, true, true, true, true, true] rfl (by kernel_rfl) hF rfl rfl rfl (fun w hS => e_assign hF rfl) (hM.pick [0] rfl rfl) ?_; intro a hF
              refine h_done rfl ?_
              refine then_n ?_
              refine wp_seq ?_
              refine s_region ?_
              refine s_val hF rfl rfl rfl (e_move hF rfl) ?_; intro a hF
              refine s_val hF rfl rfl rfl (e_move hF rfl) ?_; intro a hF
              refine s_val hF rfl rfl rfl (e_beql hF rfl rfl Try.underlying4) ?_; intro a hF
              refine s_nil ?_
              refine then_n ?_
              rcases ite_cases H with ⟨c55, H⟩ | ⟨c55, H⟩
              ·
                refine s_cond_t hF rfl c55 ?_
                refine s_region ?_
                refine s_val hF rfl rfl rfl (e_move hF rfl) ?_; intro a hF
                refine s_val hF rfl rfl rfl (e_add hF rfl rfl) ?_; intro a hF
                refine s_val hF rfl rfl rfl (e_assign hF rfl) ?_; intro a hF
                refine s_nil ?_
                refine blk_n ?_
                refine then_n ?_
                refine s_region ?_
                refine s_val hF rfl rfl rfl (e_move hF rfl) ?_; intro a hF
                refine s_val hF rfl rfl rfl (e_add hF rfl rfl) ?_; intro a hF
                refine s_val hF rfl rfl rfl (e_assign hF rfl) ?_; intro a hF
                refine s_nil ?_
                refine then_n ?_
                exact ⟨v48, (wrap64 (x46 + 1)), (wrap64 (x47 + 2)), x49, H, hF.sub _ ⟨rfl, rfl, rfl, rfl, rfl, trivial⟩, hM.pick [0] rfl rfl⟩
              ·
                refine s_cond_f hF rfl (bf c55) ?_
                obtain ⟨t56, h57, H⟩ := bind_some H
                obtain ⟨c60, H⟩ := ite_some H
                refine s_region ?_
                refine s_val hF rfl rfl rfl (e_move hF rfl) ?_; intro a hF
                refine s_val hF rfl rfl rfl (e_move hF rfl) ?_; intro a hF
                refine s_call hF rfl rfl rfl Try.call67 (impl_truth.calls K (decide ((l0.getD (x47 : Int).toNat (0 : Int)) < a1)) t56 h57) ?_; intro a w v hF hf hR
                subst hR; have hM := hM.grow hf
                refine s_bsl (C := cd3) [t56] cdok3 hF hM rfl rfl rfl rfl Try.underlying32 rfl ?_; intro a w v58 hF hM
                refine s_append (i := 1) cdok3 hF hM rfl rfl rfl rfl rfl (hM.sl 0 rfl) Try.underlying32 c60 ?_; intro a w v59 hF hM
                refine s_val hF rfl rfl rfl (e_assign hF rfl) ?_; intro a hF
                refine s_nil ?_
                refine blk_n ?_
                refine then_n ?_
                refine s_region ?_
                refine s_val hF rfl rfl rfl (e_move hF rfl) ?_; intro a hF
                refine s_val hF rfl rfl rfl (e_add hF rfl rfl) ?_; intro a hF
                refine s_val hF rfl rfl rfl (e_assign hF rfl) ?_; intro a hF
                refine s_nil ?_
                refine then_n ?_
                exact ⟨v59, x46, (wrap64 (x47 + 2)), (x49 ++ [t56]), H, hF.sub _ ⟨rfl, rfl, rfl, rfl, rfl, trivial⟩, hM.pick [1] rfl rfl⟩
            ·
              refine s_cond_f hF rfl (decide_eq_false c50) ?_
              refine wp_exit ?_
              refine then_x ?_
              refine then_x ?_
              exact ⟨rfl, v48, x46, x49, some_some H, hF.sub _ ⟨rfl, rfl, trivial⟩, hM.pick [0] rfl rfl⟩
        · rintro e a w ⟨rfl, v44, x43, x45, rfl, hF, hM⟩
          skip
          refine blk_x ?_
          refine then_n ?_
          refine wp_seq ?_
          refine s_region ?_
          refine s_val hF rfl rfl rfl (e_move hF rfl) ?_; intro a hF
          refine s_val hF rfl rfl rfl (e_move hF rfl) ?_; intro a hF
          refine s_val hF rfl rfl rfl (e_assign hF rfl) ?_; intro a hF
          refine s_val hF rfl rfl rfl (e_assign hF rfl) ?_; intro a hF
          refine s_val hF rfl rfl rfl (e_assign hF rfl) ?_; intro a hF
          refine s_nil ?_
          refine then_n ?_
          refine wp_ret ?_
          obtain rfl := some_some H
          refine s_ret [v44, Value.int .i64 x43, Value.bool true] hF Try.results38 ⟨rfl, rfl, rfl, trivial⟩ ?_
          exact ⟨_, rfl, hM.frm, ⟨v44, rfl, hM.give 0 rfl⟩⟩
      ·
        refine s_cond_t hF rfl (congrArg Bool.not (bf c9)) ?_
        refine wp_seq ?_
        refine s_region ?_
        refine s_val hF rfl rfl rfl (e_assign hF rfl) ?_; intro a hF
        refine s_val hF rfl rfl rfl (e_assign hF rfl) ?_; intro a hF
        refine s_val hF rfl rfl rfl (e_assign hF rfl) ?_; intro a hF
        refine s_nil ?_
        refine then_n ?_
        refine wp_ret ?_
        refine then_r ?_
        obtain rfl := some_some H
        refine s_ret [(Value.slice none 0 0), Value.int .i64 0, Value.bool false] hF Try.results38 ⟨rfl, rfl, rfl, trivial⟩ ?_
        exact ⟨_, rfl, hM.frm, ⟨(Value.slice none 0 0), rfl, Fresh.nil _ _ _⟩⟩
    ·
      refine s_region ?_
      refine s_val hF rfl rfl rfl (e_move hF rfl) ?_; intro a hF
      refine s_call hF rfl rfl rfl Try.call65 (impl_isList.calls K l0 u0 (q0.frm hM.frm) t1 h2) ?_; intro a w v hF hf hR
      subst hR; have hM := hM.grow hf
      refine s_val hF rfl rfl rfl (e_not hF rfl) ?_; intro a hF
      refine s_val hF rfl rfl rfl (e_move hF rfl) ?_; intro a hF
      have hF := hF.topb (congrArg Bool.not c3)
      refine s_val hF rfl rfl rfl (e_move hF rfl) ?_; intro a hF
      refine s_call hF rfl rfl rfl Try.call63 (impl_areThrows.calls K l0 u0 (q0.frm hM.frm) t4 h5) ?_; intro a w v hF hf hR
      subst hR; have hM := hM.grow hf
      refine s_val hF rfl rfl rfl (e_not hF rfl) ?_; intro a hF
      refine s_val hF rfl rfl rfl (e_pick_f hF rfl rfl) ?_; intro a hF
      refine s_val hF rfl rfl rfl (e_move hF rfl) ?_; intro a hF
      have hF := hF.topb (congrArg Bool.not (bf c6))
      refine s_skip hF rfl rfl rfl ?_; intro a hF
      refine s_skip hF rfl rfl rfl ?_; intro a hF
      refine s_skip hF rfl rfl rfl ?_; intro a hF
      refine s_val hF rfl rfl rfl (e_pick_t hF rfl rfl) ?_; intro a hF
      refine s_nil ?_
      refine then_n ?_
      refine s_cond_t hF rfl rfl ?_
      refine wp_seq ?_
      refine s_region ?_
      refine s_val hF rfl rfl rfl (e_assign hF rfl) ?_; intro a hF
      refine s_val hF rfl rfl rfl (e_assign hF rfl) ?_; intro a hF
      refine s_val hF rfl rfl rfl (e_assign hF rfl) ?_; intro a hF
      refine s_nil ?_
      refine then_n ?_
      refine wp_ret ?_
      refine then_r ?_
      obtain rfl := some_some H
      refine s_ret [(Value.slice none 0 0), Value.int .i64 0, Value.bool false] hF Try.results38 ⟨rfl, rfl, rfl, trivial⟩ ?_
      exact ⟨_, rfl, hM.frm, ⟨(Value.slice none 0 0), rfl, Fresh.nil _ _ _⟩⟩
  ·
    refine s_region ?_
    refine s_val hF rfl rfl rfl (e_move hF rfl) ?_; intro a hF
    refine s_call hF rfl rfl rfl Try.call65 (impl_isList.calls K l0 u0 (q0.frm hM.frm) t1 h2) ?_; intro a w v hF hf hR
    subst hR; have hM := hM.grow hf
    refine s_val hF rfl rfl rfl (e_not hF rfl) ?_; intro a hF
    refine s_val hF rfl rfl rfl (e_move hF rfl) ?_; intro a hF
    have hF := hF.topb (congrArg Bool.not (bf c3))
    refine s_skip hF rfl rfl rfl ?_; intro a hF
    refine s_skip hF rfl rfl rfl ?_; intro a hF
    refine s_skip hF rfl rfl rfl ?_; intro a hF
    refine s_val hF rfl rfl rfl (e_pick_t hF rfl rfl) ?_; intro a hF
    refine s_val hF rfl rfl rfl (e_move hF rfl) ?_; intro a hF
    refine s_skip hF rfl rfl rfl ?_; intro a hF
    refine s_skip hF rfl rfl rfl ?_; intro a hF
    refine s_skip hF rfl rfl rfl ?_; intro a hF
    refine s_val hF rfl rfl rfl (e_pick_t hF rfl rfl) ?_; intro a hF
    refine s_nil ?_
    refine then_n ?_
    refine s_cond_t hF rfl rfl ?_
    refine wp_seq ?_
    refine s_region ?_
    refine s_val hF rfl rfl rfl (e_assign hF rfl) ?_; intro a hF
    refine s_val hF rfl rfl rfl (e_assign hF rfl) ?_; intro a hF
    refine s_val hF rfl rfl rfl (e_assign hF rfl) ?_; intro a hF
    refine s_nil ?_
    refine then_n ?_
    refine wp_ret ?_
    refine then_r ?_
    obtain rfl := some_some H
    refine s_ret [(Value.slice none 0 0), Value.int .i64 0, Value.bool false] hF Try.results38 ⟨rfl, rfl, rfl, trivial⟩ ?_
    exact ⟨_, rfl, hM.frm, ⟨(Value.slice none 0 0), rfl, Fresh.nil _ _ _⟩⟩

/-! ### loop.example/g01210/laws.eqIntS: function 28 -/
def laws_eqIntS.l0 (K : Nat) (l0 : (List Int)) (l1 : (List Int)) : Nat → Int → Option (Sum Unit Bool)
  | 0, _ => none
  | k + 1, x11 => if x11 < (l0.length : Int) then (if (0 : Int) ≤ x11 ∧ x11 < (l0.length : Int) then (if (0 : Int) ≤ x11 ∧ x11 < (l1.length : Int) then (if (l0.getD (x11 : Int).toNat (0 : Int)) = (l1.getD (x11 : Int).toNat (0 : Int)) then (laws_eqIntS.l0 K l0 l1 k (wrap64 (x11 + 1))) else (some (Sum.inr false))) else none) else none) else (some (Sum.inl ()))
def laws_eqIntS.f (K : Nat) (l0 : (List Int)) (l1 : (List Int)) : Option Bool := if (l0.length : Int) = (l1.length : Int) then ((laws_eqIntS.l0 K l0 l1 K 0).bind fun o18 => (match o18 with | .inl () => some true | .inr r20 => some r20)) else (some false)
set_option maxRecDepth 100000 in
set_option maxHeartbeats 4000000 in
theorem laws_eqIntS.calls {w0 : World} (K : Nat) (l0 : (List Int)) (u0 : Value) (q0 : SlR cd3 w0 u0 l0) (l1 : (List Int)) (u1 : Value) (q1 : SlR cd3 w0 u1 l1) (r : Bool) (H : laws_eqIntS.f K l0 l1 = some r) : Calls Try.prog 28 [u0, u1].toArray w0 (Post w0 fun w v => v = Value.bool r) := by
  rw [laws_eqIntS.f] at H
  refine s_start Try.func28 rfl Try.ntmps28 rfl ?_
  intro a hF
  have hM := Ms.start w0
  skip
  refine wp_seq ?_
  refine s_region ?_
  refine s_val hF rfl rfl rfl (e_assign hF rfl) ?_; intro a hF
  refine s_nil ?_
  refine then_n ?_
  refine wp_seq ?_
  refine wp_seq ?_
  refine s_region ?_
  refine s_val hF rfl rfl rfl (e_move hF rfl) ?_; intro a hF
  refine s_val hF rfl rfl rfl (e_len hF rfl (q0.frm hM.frm).toF Try.underlying32) ?_; intro a hF
  refine s_val hF rfl rfl rfl (e_move hF rfl) ?_; intro a hF
  refine s_val hF rfl rfl rfl (e_len hF rfl (q1.frm hM.frm).toF Try.underlying32) ?_; intro a hF
  refine s_val hF rfl rfl rfl (e_neq hF rfl rfl) ?_; intro a hF
  refine s_nil ?_
  refine then_n ?_
  rcases ite_cases H with ⟨c1, H⟩ | ⟨c1, H⟩
  ·
    refine s_cond_f hF rfl (congrArg Bool.not (decide_eq_true c1)) ?_
    refine wp_skip ?_
    refine then_n ?_
    refine wp_seq ?_
    refine wp_seq ?_
    refine s_region ?_
    refine s_val hF rfl rfl rfl (e_assign hF rfl) ?_; intro a hF
    refine s_nil ?_
    refine then_n ?_
    refine wp_block ?_
    obtain ⟨o18, h19, H⟩ := bind_some H
    refine wp_mono (Q := fun e a w => (e = Exit.exit 0 ∧ Sum.inl () = o18 ∧ Fr 26 a [] ∧ Ms [] w0 w []) ∨ (e = Exit.ret ∧ ∃ r20 : Bool, Sum.inr r20 = o18 ∧ Fr 26 a [(4, Value.bool r20)] ∧ Ms [] w0 w [])) ?_ ?_
    · refine s_loop (fun kq a w => ∃ x11 : Int, laws_eqIntS.l0 K l0 l1 kq x11 = some o18 ∧ Fr 26 a [(0, u0), (1, u1), (5, Value.int .i64 x11)] ∧ Ms [] w0 w []) K ⟨0, h19, hF.sub _ ⟨rfl, rfl, rfl, trivial⟩, hM.pick [] rfl rfl⟩ ?_ ?_
      · rintro a w ⟨_, H, _⟩; exact none_some H
      · rintro k a w ⟨x11, H, hF, hM⟩; rw [laws_eqIntS.l0] at H
        refine wp_seq ?_
        refine wp_seq ?_
        refine s_region ?_
        refine s_val hF rfl rfl rfl (e_move hF rfl) ?_; intro a hF
        refine s_val hF rfl rfl rfl (e_move hF rfl) ?_; intro a hF
        refine s_val hF rfl rfl rfl (e_len hF rfl (q0.frm hM.frm).toF Try.underlying32) ?_; intro a hF
        refine s_val hF rfl rfl rfl (e_lss hF rfl rfl) ?_; intro a hF
        refine s_nil ?_
        refine then_n ?_
        rcases ite_cases H with ⟨c12, H⟩ | ⟨c12, H⟩
        ·
          refine s_cond_t hF rfl (decide_eq_true c12) ?_
          refine wp_skip ?_
          refine then_n ?_
          refine wp_seq ?_
          refine wp_block ?_
          refine wp_seq ?_
          obtain ⟨c13, H⟩ := ite_some H
          obtain ⟨c14, H⟩ := ite_some H
          refine s_held (fun w => Ms [] w0 w []) #[false, false, false, false, false, false, false, false, false] mixed rfl rfl hM ?_; intro w hf hM; clear hf
          refine h_val 0 #[true, false, false, false, false, false, false, false, false] rfl (by kernel_rfl) hF rfl rfl rfl (fun w hS => e_move hF rfl) (hM.pick [] rfl rfl) ?_; intro a hF
          refine h_val 1 #[true, true, false, false, false, false, false, false, false] rfl (by kernel_rfl) hF rfl rfl rfl (fun w hS => e_move hF rfl) (hM.pick [] rfl rfl) ?_; intro a hF
          have f15 := (q0.frm hM.frm).toF
          refine h_val 2 #[true, true, true, false, false, false, false, false, false] rfl (by kernel_rfl) hF rfl rfl rfl (fun w hS => e_ias cd3 hF rfl rfl f15 Try.underlying32 Try.sizeOf3 c13.1 c13.2) (hM.pick [] rfl rfl) ?_; intro a hF
          refine h_val 3 #[true, true, true, true, false, false, false, false, false] rfl (by kernel_rfl) hF rfl rfl rfl (fun w hS => e_lds (m := x11) hF rfl (q0.frm hS.frm) (getD_some (z := (0 : Int)) c13.1 c13.2) rfl rfl Try.isAgg3) (hM.pick [] rfl rfl) ?_; intro a hF
          refine h_val 4 #[true, true, true, true, true, false, false, false, false] rfl (by kernel_rfl) hF rfl rfl rfl (fun w hS => e_move hF rfl) (hM.pick [] rfl rfl) ?_; intro a hF
          refine h_val 5 #[true, true, true, true, true, true, false, false, false] rfl (by kernel_rfl) hF rfl rfl rfl (fun w hS => e_move hF rfl) (hM.pick [] rfl rfl) ?_; intro a hF
          have f16 := (q1.frm hM.frm).toF
          refine h_val 6 #[true, true, true, true, true, true, true, false, false] rfl (by kernel_rfl) hF rfl rfl rfl (fun w hS => e_ias cd3 hF rfl rfl f16 Try.underlying32 Try.sizeOf3 c14.1 c14.2) (hM.pick [] rfl rfl) ?_; intro a hF
          refine h_val 7 #[true, true, true, true, true, true, true, true, false] rfl (by kernel_rfl) hF rfl rfl rfl (fun w hS => e_lds (m := x11) hF rfl (q1.frm hS.frm) (getD_some (z := (0 : Int)) c14.1 c14.2) rfl rfl Try.isAgg3) (hM.pick [] rfl rfl) ?_; intro a hF
          refine h_val 8 #[true, true, true, true, true, true, true, true, true] rfl (by kernel_rfl) hF rfl rfl rfl (fun w hS => e_neq hF rfl rfl) (hM.pick [] rfl rfl) ?_; intro a hF
          refine h_done rfl ?_
          refine then_n ?_
          rcases ite_cases H with ⟨c17, H⟩ | ⟨c17, H⟩
          ·
            refine s_cond_f hF rfl (congrArg Bool.not (decide_eq_true c17)) ?_
            refine wp_skip ?_
            refine blk_n ?_
            refine then_n ?_
            refine s_region ?_
            refine s_val hF rfl rfl rfl (e_move hF rfl) ?_; intro a hF
            refine s_val hF rfl rfl rfl (e_add hF rfl rfl) ?_; intro a hF
            refine s_val hF rfl rfl rfl (e_assign hF rfl) ?_; intro a hF
            refine s_nil ?_
            refine then_n ?_
            exact ⟨(wrap64 (x11 + 1)), H, hF.sub _ ⟨rfl, rfl, rfl, trivial⟩, hM.pick [] rfl rfl⟩
          ·
            refine s_cond_t hF rfl (congrArg Bool.not (decide_eq_false c17)) ?_
            refine wp_seq ?_
            refine s_region ?_
            refine s_val hF rfl rfl rfl (e_assign hF rfl) ?_; intro a hF
            refine s_nil ?_
            refine then_n ?_
            refine wp_ret ?_
            refine blk_r ?_
            refine then_r ?_
            refine then_r ?_
            exact Or.inr (⟨rfl, false, some_some H, hF.sub _ ⟨rfl, trivial⟩, hM.pick [] rfl rfl⟩)
        ·
          refine s_cond_f hF rfl (decide_eq_false c12) ?_
          refine wp_exit ?_
          refine then_x ?_
          refine then_x ?_
          exact Or.inl (⟨rfl, some_some H, hF.sub _ trivial, hM.pick [] rfl rfl⟩)
    · rintro e a w (⟨rfl, rfl, hF, hM⟩ | ⟨rfl, r20, rfl, hF, hM⟩)
      ·
        dsimp only at H
        refine blk_x ?_
        refine then_n ?_
        refine wp_seq ?_
        refine s_region ?_
        refine s_val hF rfl rfl rfl (e_assign hF rfl) ?_; intro a hF
        refine s_nil ?_
        refine then_n ?_
        refine wp_ret ?_
        obtain rfl := some_some H
        refine s_ret [Value.bool true] hF Try.results28 ⟨rfl, trivial⟩ ?_
        exact ⟨_, rfl, hM.frm, rfl⟩
      ·
        dsimp only at H
        refine blk_r ?_
        refine then_r ?_
        obtain rfl := some_some H
        refine s_ret [Value.bool r20] hF Try.results28 ⟨rfl, trivial⟩ ?_
        exact ⟨_, rfl, hM.frm, rfl⟩
  ·
    refine s_cond_t hF rfl (congrArg Bool.not (decide_eq_false c1)) ?_
    refine wp_seq ?_
    refine s_region ?_
    refine s_val hF rfl rfl rfl (e_assign hF rfl) ?_; intro a hF
    refine s_nil ?_
    refine then_n ?_
    refine wp_ret ?_
    refine then_r ?_
    obtain rfl := some_some H
    refine s_ret [Value.bool false] hF Try.results28 ⟨rfl, trivial⟩ ?_
    exact ⟨_, rfl, hM.frm, rfl⟩

/-! ### loop.example/g01210/laws.markIntS: function 31 -/
def laws_markIntS.l0 (K : Nat) (l0 : (List Int)) : Nat → Int → Int → (List Int) → Option (Int × (List Int))
  | 0, _, _, _ => none
  | k + 1, x10, x11, x12 => if x11 < (x12.length : Int) then (if (0 : Int) ≤ x11 ∧ x11 < (x12.length : Int) then (laws_markIntS.l0 K l0 k (wrap64 (x10 + 1)) (wrap64 (x11 + 1)) (x12.set (x11 : Int).toNat x10)) else none) else (some (x10, x12))
def laws_markIntS.f (K : Nat) (l0 : (List Int)) (a1 : Int) : Option (Int × (List Int)) := (laws_markIntS.l0 K l0 K a1 0 l0).bind fun (x8, x9) => some (x8, x9)
set_option maxRecDepth 100000 in
set_option maxHeartbeats 4000000 in
theorem laws_markIntS.calls {w0 : World} (K : Nat) (l0 : (List Int)) (u0 : Value) (q0 : (rowR cd3 u0 l0).holds w0) (a1 : Int) (r : (Int × (List Int))) (H : laws_markIntS.f K l0 a1 = some r) : Calls Try.prog 31 [u0, Value.int .i64 a1].toArray w0 (fun e w => ∃ v, e = .returned v ∧ Frm u0.ownBlock.toList w0 w ∧ (v = Value.int .i64 r.1) ∧ (rowR cd3 u0 r.2).holds w) := by
  rw [laws_markIntS.f] at H
  refine s_start Try.func31 rfl Try.ntmps31 rfl ?_
  intro a hF
  have hM := Ms.start1 w0 (rowR cd3 u0 l0) q0 (fun b hb => (World.ownsRow.lt q0 b (by simpa [rowR] using hb)).2)
  skip
  refine wp_seq ?_
  refine s_region ?_
  refine s_val hF rfl rfl rfl (e_assign hF rfl) ?_; intro a hF
  refine s_nil ?_
  refine then_n ?_
  refine wp_seq ?_
  refine wp_seq ?_
  refine s_region ?_
  refine s_val hF rfl rfl rfl (e_assign hF rfl) ?_; intro a hF
  refine s_nil ?_
  refine then_n ?_
  refine wp_block ?_
  obtain ⟨o15, h16, H⟩ := bind_some H
  refine wp_mono (Q := fun e a w => (e = Exit.exit 0 ∧ ∃ x8 : Int, ∃ x9 : (List Int), (x8, x9) = o15 ∧ Fr 19 a [(1, Value.int .i64 x8)] ∧ Ms u0.ownBlock.toList w0 w [rowR cd3 u0 x9])) ?_ ?_
  · refine s_loop (fun kq a w => ∃ x10 : Int, ∃ x11 : Int, ∃ x12 : (List Int), laws_markIntS.l0 K l0 kq x10 x11 x12 = some o15 ∧ Fr 19 a [(0, u0), (1, Value.int .i64 x10), (5, Value.int .i64 x11)] ∧ Ms u0.ownBlock.toList w0 w [rowR cd3 u0 x12]) K ⟨a1, 0, l0, h16, hF.sub _ ⟨rfl, rfl, rfl, trivial⟩, hM.pick [0] rfl rfl⟩ ?_ ?_
    · rintro a w ⟨_, _, _, H, _⟩; exact none_some H
    · rintro k a w ⟨x10, x11, x12, H, hF, hM⟩; rw [laws_markIntS.l0] at H
      refine wp_seq ?_
      refine wp_seq ?_
      refine s_region ?_
      refine s_val hF rfl rfl rfl (e_move hF rfl) ?_; intro a hF
      refine s_val hF rfl rfl rfl (e_move hF rfl) ?_; intro a hF
      refine s_val hF rfl rfl rfl (e_len hF rfl (hM.sl 0 rfl).toF Try.underlying32) ?_; intro a hF
      refine s_val hF rfl rfl rfl (e_lss hF rfl rfl) ?_; intro a hF
      refine s_nil ?_
      refine then_n ?_
      rcases ite_cases H with ⟨c13, H⟩ | ⟨c13, H⟩
      ·
        refine s_cond_t hF rfl (decide_eq_true c13) ?_
        refine wp_skip ?_
        refine then_n ?_
        refine wp_seq ?_
        refine wp_block ?_
        refine wp_seq ?_
        obtain ⟨c14, H⟩ := ite_some H
        refine s_region ?_
        refine s_val hF rfl rfl rfl (e_move hF rfl) ?_; intro a hF
        refine s_val hF rfl rfl rfl (e_move hF rfl) ?_; intro a hF
        refine s_val hF rfl rfl rfl (e_move hF rfl) ?_; intro a hF
        refine s_val hF rfl rfl rfl (e_ias cd3 hF rfl rfl (hM.sl 0 rfl).toF Try.underlying32 Try.sizeOf3 c14.1 c14.2) ?_; intro a hF
        refine s_sts (i := 0) x10 hF hM rfl rfl rfl rfl rfl c14.1 c14.2 Try.sizeOf3 ?_; intro a w hF hM
        refine s_nil ?_
        refine then_n ?_
        refine s_region ?_
        refine s_val hF rfl rfl rfl (e_move hF rfl) ?_; intro a hF
        refine s_val hF rfl rfl rfl (e_add hF rfl rfl) ?_; intro a hF
        refine s_val hF rfl rfl rfl (e_assign hF rfl) ?_; intro a hF
        refine s_nil ?_
        refine blk_n ?_
        refine then_n ?_
        refine s_region ?_
        refine s_val hF rfl rfl rfl (e_move hF rfl) ?_; intro a hF
        refine s_val hF rfl rfl rfl (e_add hF rfl rfl) ?_; intro a hF
        refine s_val hF rfl rfl rfl (e_assign hF rfl) ?_; intro a hF
        refine s_nil ?_
        refine then_n ?_
        exact ⟨(wrap64 (x10 + 1)), (wrap64 (x11 + 1)), (x12.set (x11 : Int).toNat x10), H, hF.sub _ ⟨rfl, rfl, rfl, trivial⟩, hM.pick [0] rfl rfl⟩
      ·
        refine s_cond_f hF rfl (decide_eq_false c13) ?_
        refine wp_exit ?_
        refine then_x ?_
        refine then_x ?_
        exact ⟨rfl, x10, x12, some_some H, hF.sub _ ⟨rfl, trivial⟩, hM.pick [0] rfl rfl⟩
  · rintro e a w ⟨rfl, x8, x9, rfl, hF, hM⟩
    skip
    refine blk_x ?_
    refine then_n ?_
    refine wp_seq ?_
    refine s_region ?_
    refine s_val hF rfl rfl rfl (e_move hF rfl) ?_; intro a hF
    refine s_val hF rfl rfl rfl (e_assign hF rfl) ?_; intro a hF
    refine s_nil ?_
    refine then_n ?_
    refine wp_ret ?_
    obtain rfl := some_some H
    refine s_ret [Value.int .i64 x8] hF Try.results31 ⟨rfl, trivial⟩ ?_
    exact ⟨_, rfl, hM.frm, ⟨rfl, hM.get 0 rfl⟩⟩

/-! ### loop.example/g01210/laws.heldIntS: function 32 -/
def laws_heldIntS.l0 (K : Nat) (l0 : (List Int)) : Nat → Int → Int → Option (Sum Int Int)
  | 0, _, _ => none
  | k + 1, x10, x11 => if x11 < (l0.length : Int) then (if (0 : Int) ≤ x11 ∧ x11 < (l0.length : Int) then (if (l0.getD (x11 : Int).toNat (0 : Int)) = x10 then (laws_heldIntS.l0 K l0 k (wrap64 (x10 + 1)) (wrap64 (x11 + 1))) else (some (Sum.inr (-1)))) else none) else (some (Sum.inl x10))
def laws_heldIntS.f (K : Nat) (l0 : (List Int)) (a1 : Int) : Option Int := (laws_heldIntS.l0 K l0 K a1 0).bind fun o15 => (match o15 with | .inl x9 => some x9 | .inr r17 => some r17)
set_option maxRecDepth 100000 in
set_option maxHeartbeats 4000000 in
theorem laws_heldIntS.calls {w0 : World} (K : Nat) (l0 : (List Int)) (u0 : Value) (q0 : SlR cd3 w0 u0 l0) (a1 : Int) (r : Int) (H : laws_heldIntS.f K l0 a1 = some r) : Calls Try.prog 32 [u0, Value.int .i64 a1].toArray w0 (Post w0 fun w v => v = Value.int .i64 r) := by
  rw [laws_heldIntS.f] at H
  refine s_start Try.func32 rfl Try.ntmps32 rfl ?_
  intro a hF
  have hM := Ms.start w0
  skip
  refine wp_seq ?_
  refine s_region ?_
  refine s_val hF rfl rfl rfl (e_assign hF rfl) ?_; intro a hF
  refine s_nil ?_
  refine then_n ?_
  refine wp_seq ?_
  refine wp_seq ?_
  refine s_region ?_
  refine s_val hF rfl rfl rfl (e_assign hF rfl) ?_; intro a hF
  refine s_nil ?_
  refine then_n ?_
  refine wp_block ?_
  obtain ⟨o15, h16, H⟩ := bind_some H
  refine wp_mono (Q := fun e a w => (e = Exit.exit 0 ∧ ∃ x9 : Int, Sum.inl x9 = o15 ∧ Fr 21 a [(1, Value.int .i64 x9)] ∧ Ms [] w0 w []) ∨ (e = Exit.ret ∧ ∃ r17 : Int, Sum.inr r17 = o15 ∧ Fr 21 a [(4, Value.int .i64 r17)] ∧ Ms [] w0 w [])) ?_ ?_
  · refine s_loop (fun kq a w => ∃ x10 : Int, ∃ x11 : Int, laws_heldIntS.l0 K l0 kq x10 x11 = some o15 ∧ Fr 21 a [(0, u0), (1, Value.int .i64 x10), (5, Value.int .i64 x11)] ∧ Ms [] w0 w []) K ⟨a1, 0, h16, hF.sub _ ⟨rfl, rfl, rfl, trivial⟩, hM.pick [] rfl rfl⟩ ?_ ?_
    · rintro a w ⟨_, _, H, _⟩; exact none_some H
    · rintro k a w ⟨x10, x11, H, hF, hM⟩; rw [laws_heldIntS.l0] at H
      refine wp_seq ?_
      refine wp_seq ?_
      refine s_region ?_
      refine s_val hF rfl rfl rfl (e_move hF rfl) ?_; intro a hF
      refine s_val hF rfl rfl rfl (e_move hF rfl) ?_; intro a hF
      refine s_val hF rfl rfl rfl (e_len hF rfl (q0.frm hM.frm).toF Try.underlying32) ?_; intro a hF
      refine s_val hF rfl rfl rfl (e_lss hF rfl rfl) ?_; intro a hF
      refine s_nil ?_
      refine then_n ?_
      rcases ite_cases H with ⟨c12, H⟩ | ⟨c12, H⟩
      ·
        refine s_cond_t hF rfl (decide_eq_true c12) ?_
        refine wp_skip ?_
        refine then_n ?_
        refine wp_seq ?_
        refine wp_block ?_
        refine wp_seq ?_
        refine wp_seq ?_
        obtain ⟨c13, H⟩ := ite_some H
        refine s_region ?_
        refine s_val hF rfl rfl rfl (e_move hF rfl) ?_; intro a hF
        refine s_val hF rfl rfl rfl (e_move hF rfl) ?_; intro a hF
        refine s_val hF rfl rfl rfl (e_ias cd3 hF rfl rfl (q0.frm hM.frm).toF Try.underlying32 Try.sizeOf3 c13.1 c13.2) ?_; intro a hF
        refine s_val hF rfl rfl rfl (e_lds (m := x11) hF rfl (q0.frm hM.frm) (getD_some (z := (0 : Int)) c13.1 c13.2) rfl rfl Try.isAgg3) ?_; intro a hF
        refine s_val hF rfl rfl rfl (e_move hF rfl) ?_; intro a hF
        refine s_val hF rfl rfl rfl (e_neq hF rfl rfl) ?_; intro a hF
        refine s_nil ?_
        refine then_n ?_
        rcases ite_cases H with ⟨c14, H⟩ | ⟨c14, H⟩
        ·
          refine s_cond_f hF rfl (congrArg Bool.not (decide_eq_true c14)) ?_
          refine wp_skip ?_
          refine then_n ?_
          refine s_region ?_
          refine s_val hF rfl rfl rfl (e_move hF rfl) ?_; intro a hF
          refine s_val hF rfl rfl rfl (e_add hF rfl rfl) ?_; intro a hF
          refine s_val hF rfl rfl rfl (e_assign hF rfl) ?_; intro a hF
          refine s_nil ?_
          refine blk_n ?_
          refine then_n ?_
          refine s_region ?_
          refine s_val hF rfl rfl rfl (e_move hF rfl) ?_; intro a hF
          refine s_val hF rfl rfl rfl (e_add hF rfl rfl) ?_; intro a hF
          refine s_val hF rfl rfl rfl (e_assign hF rfl) ?_; intro a hF
          refine s_nil ?_
          refine then_n ?_
          exact ⟨(wrap64 (x10 + 1)), (wrap64 (x11 + 1)), H, hF.sub _ ⟨rfl, rfl, rfl, trivial⟩, hM.pick [] rfl rfl⟩
        ·
          refine s_cond_t hF rfl (congrArg Bool.not (decide_eq_false c14)) ?_
          refine wp_seq ?_
          refine s_region ?_
          refine s_val hF rfl rfl rfl (e_assign hF rfl) ?_; intro a hF
          refine s_nil ?_
          refine then_n ?_
          refine wp_ret ?_
          refine then_r ?_
          refine blk_r ?_
          refine then_r ?_
          refine then_r ?_
          exact Or.inr (⟨rfl, (-1), some_some H, hF.sub _ ⟨rfl, trivial⟩, hM.pick [] rfl rfl⟩)
      ·
        refine s_cond_f hF rfl (decide_eq_false c12) ?_
        refine wp_exit ?_
        refine then_x ?_
        refine then_x ?_
        exact Or.inl (⟨rfl, x10, some_some H, hF.sub _ ⟨rfl, trivial⟩, hM.pick [] rfl rfl⟩)
  · rintro e a w (⟨rfl, x9, rfl, hF, hM⟩ | ⟨rfl, r17, rfl, hF, hM⟩)
    ·
      dsimp only at H
      refine blk_x ?_
      refine then_n ?_
      refine wp_seq ?_
      refine s_region ?_
      refine s_val hF rfl rfl rfl (e_move hF rfl) ?_; intro a hF
      refine s_val hF rfl rfl rfl (e_assign hF rfl) ?_; intro a hF
      refine s_nil ?_
      refine then_n ?_
      refine wp_ret ?_
      obtain rfl := some_some H
      refine s_ret [Value.int .i64 x9] hF Try.results32 ⟨rfl, trivial⟩ ?_
      exact ⟨_, rfl, hM.frm, rfl⟩
    ·
      dsimp only at H
      refine blk_r ?_
      refine then_r ?_
      obtain rfl := some_some H
      refine s_ret [Value.int .i64 r17] hF Try.results32 ⟨rfl, trivial⟩ ?_
      exact ⟨_, rfl, hM.frm, rfl⟩

/-! ### loop.example/g01210/laws.FnExactEvenCoin: function 11 -/
def laws_FnExactEvenCoin.f (K : Nat) (l0 : (List Int)) (a1 : Int) : Option Bool := if 1048576 < (l0.length : Int) then (some true) else ((laws_toIntS.f K l0).bind fun t2 => (spec_EvenCoin.f K t2 a1).bind fun t5 => (laws_toIntS.f K l0).bind fun t8 => (impl_EvenCoin.f K t8 a1).bind fun t11 => (laws_eqIntS.f K t11.1 t5.1).bind fun t14 => if t14 = true then (if t11.2.1 = t5.2.1 then (if (t11.2.2 == t5.2.2) = true then ((laws_toIntS.f K l0).bind fun t19 => (laws_eqIntS.f K t8 t19).bind fun t22 => if t22 = true then ((laws_markIntS.f K t8 1).bind fun t25 => if t25.1 < 0 then (some false) else ((laws_eqIntS.f K t11.1 t5.1).bind fun t28 => if t28 = true then ((laws_markIntS.f K t11.1 1).bind fun t31 => (laws_heldIntS.f K t31.2 1).bind fun t33 => if t33 < 0 then (some false) else (if t33 = t31.1 then ((laws_toIntS.f K l0).bind fun t37 => (impl_EvenCoin.f K t37 a1).bind fun t40 => (laws_eqIntS.f K t40.1 t5.1).bind fun t43 => if t43 = true then (if t40.2.1 = t5.2.1 then (if (t40.2.2 == t5.2.2) = true then ((laws_heldIntS.f K t31.2 1).bind fun t48 => if t48 < 0 then (some false) else (if t48 = t31.1 then (some true) else (some false))) else (some false)) else (some false)) else (some false)) else (some false))) else (some false))) else (some false)) else (some false)) else (some false)) else (some false))
set_option maxRecDepth 100000 in
set_option maxHeartbeats 4000000 in
theorem laws_FnExactEvenCoin.calls {w0 : World} (K : Nat) (l0 : (List Int)) (u0 : Value) (q0 : SlR cd3 w0 u0 l0) (a1 : Int) (r : Bool) (H : laws_FnExactEvenCoin.f K l0 a1 = some r) : Calls Try.prog 11 [u0, Value.int .i64 a1].toArray w0 (Post w0 fun w v => v = Value.bool r) := by
  rw [laws_FnExactEvenCoin.f] at H
  refine s_start Try.func11 rfl Try.ntmps11 rfl ?_
  intro a hF
  have hM := Ms.start w0
  skip
  refine wp_seq ?_
  refine s_region ?_
  refine s_val hF rfl rfl rfl (e_assign hF rfl) ?_; intro a hF
  refine s_nil ?_
  refine then_n ?_
  refine wp_seq ?_
  refine wp_seq ?_
  refine s_region ?_
  refine s_val hF rfl rfl rfl (e_move hF rfl) ?_; intro a hF
  refine s_val hF rfl rfl rfl (e_len hF rfl (q0.frm hM.frm).toF Try.underlying32) ?_; intro a hF
  refine s_val hF rfl rfl rfl (e_gtr hF rfl rfl) ?_; intro a hF
  refine s_nil ?_
  refine then_n ?_
  rcases ite_cases H with ⟨c1, H⟩ | ⟨c1, H⟩
  ·
    refine s_cond_t hF rfl (decide_eq_true c1) ?_
    refine wp_seq ?_
    refine s_region ?_
    refine s_val hF rfl rfl rfl (e_assign hF rfl) ?_; intro a hF
    refine s_nil ?_
    refine then_n ?_
    refine wp_ret ?_
    refine then_r ?_
    obtain rfl := some_some H
    refine s_ret [Value.bool true] hF Try.results11 ⟨rfl, trivial⟩ ?_
    exact ⟨_, rfl, hM.frm, rfl⟩
  ·
    refine s_cond_f hF rfl (decide_eq_false c1) ?_
    refine wp_skip ?_
    refine then_n ?_
    refine wp_seq ?_
    obtain ⟨t2, h3, H⟩ := bind_some H
    obtain ⟨t5, h6, H⟩ := bind_some H
    refine s_region ?_
    refine s_val hF rfl rfl rfl (e_move hF rfl) ?_; intro a hF
    refine s_call hF rfl rfl rfl Try.call26 (laws_toIntS.calls K l0 u0 (q0.frm hM.frm) t2 h3) ?_; intro a w v4 hF hf hR
    have hM := hM.fresh hf hR
    refine s_val hF rfl rfl rfl (e_move hF rfl) ?_; intro a hF
    refine s_call hF rfl rfl rfl Try.call37 (spec_EvenCoin.calls K t2 v4 (hM.sl 0 rfl) a1 t5 h6) ?_; intro a w v hF hf hR
    obtain ⟨v7, rfl, hR⟩ := hR; have hM := hM.fresh hf hR
    refine s_val hF rfl rfl rfl (e_move hF rfl) ?_; intro a hF
    refine s_val hF rfl rfl rfl (e_extract hF rfl rfl) ?_; intro a hF
    refine s_val hF rfl rfl rfl (e_extract hF rfl rfl) ?_; intro a hF
    refine s_val hF rfl rfl rfl (e_extract hF rfl rfl) ?_; intro a hF
    refine s_val hF rfl rfl rfl (e_assign hF rfl) ?_; intro a hF
    refine s_val hF rfl rfl rfl (e_assign hF rfl) ?_; intro a hF
    refine s_val hF rfl rfl rfl (e_assign hF rfl) ?_; intro a hF
    refine s_nil ?_
    refine then_n ?_
    refine wp_seq ?_
    obtain ⟨t8, h9, H⟩ := bind_some H
    refine s_region ?_
    refine s_val hF rfl rfl rfl (e_move hF rfl) ?_; intro a hF
    refine s_call hF rfl rfl rfl Try.call26 (laws_toIntS.calls K l0 u0 (q0.frm hM.frm) t8 h9) ?_; intro a w v10 hF hf hR
    have hM := hM.fresh hf hR
    refine s_val hF rfl rfl rfl (e_assign hF rfl) ?_; intro a hF
    refine s_nil ?_
    refine then_n ?_
    refine wp_seq ?_
    obtain ⟨t11, h12, H⟩ := bind_some H
    refine s_region ?_
    refine s_val hF rfl rfl rfl (e_move hF rfl) ?_; intro a hF
    refine s_val hF rfl rfl rfl (e_move hF rfl) ?_; intro a hF
    refine s_call hF rfl rfl rfl Try.call38 (impl_EvenCoin.calls K t8 v10 (hM.sl 0 rfl) a1 t11 h12) ?_; intro a w v hF hf hR
    obtain ⟨v13, rfl, hR⟩ := hR; have hM := hM.fresh hf hR
    refine s_val hF rfl rfl rfl (e_move hF rfl) ?_; intro a hF
    refine s_val hF rfl rfl rfl (e_extract hF rfl rfl) ?_; intro a hF
    refine s_val hF rfl rfl rfl (e_extract hF rfl rfl) ?_; intro a hF
    refine s_val hF rfl rfl rfl (e_extract hF rfl rfl) ?_; intro a hF
    refine s_val hF rfl rfl rfl (e_assign hF rfl) ?_; intro a hF
    refine s_val hF rfl rfl rfl (e_assign hF rfl) ?_; intro a hF
    refine s_val hF rfl rfl rfl (e_assign hF rfl) ?_; intro a hF
    refine s_nil ?_
    refine then_n ?_
    refine wp_seq ?_
    refine wp_seq ?_
    obtain ⟨t14, h15, H⟩ := bind_some H
    rcases ite_cases H with ⟨c16, H⟩ | ⟨c16, H⟩
    ·
      rcases ite_cases H with ⟨c17, H⟩ | ⟨c17, H⟩
      ·
        refine s_region ?_
        refine s_val hF rfl rfl rfl (e_move hF rfl) ?_; intro a hF
        refine s_val hF rfl rfl rfl (e_move hF rfl) ?_; intro a hF
        refine s_call hF rfl rfl rfl Try.call28 (laws_eqIntS.calls K t11.1 v13 (hM.sl 0 rfl) t5.1 v7 (hM.sl 2 rfl) t14 h15) ?_; intro a w v hF hf hR
        subst hR; have hM := hM.grow hf
        refine s_val hF rfl rfl rfl (e_not hF rfl) ?_; intro a hF
        refine s_val hF rfl rfl rfl (e_move hF rfl) ?_; intro a hF
        have hF := hF.topb (congrArg Bool.not c16)
        refine s_val hF rfl rfl rfl (e_move hF rfl) ?_; intro a hF
        refine s_val hF rfl rfl rfl (e_move hF rfl) ?_; intro a hF
        refine s_val hF rfl rfl rfl (e_neq hF rfl rfl) ?_; intro a hF
        refine s_val hF rfl rfl rfl (e_pick_f hF rfl rfl) ?_; intro a hF
        refine s_val hF rfl rfl rfl (e_move hF rfl) ?_; intro a hF
        have hF := hF.topb (congrArg Bool.not (decide_eq_true c17))
        refine s_val hF rfl rfl rfl (e_move hF rfl) ?_; intro a hF
        refine s_val hF rfl rfl rfl (e_move hF rfl) ?_; intro a hF
        refine s_val hF rfl rfl rfl (e_bneq hF rfl rfl Try.underlying4) ?_; intro a hF
        refine s_val hF rfl rfl rfl (e_pick_f hF rfl rfl) ?_; intro a hF
        refine s_nil ?_
        refine then_n ?_
        rcases ite_cases H with ⟨c18, H⟩ | ⟨c18, H⟩
        ·
          refine s_cond_f hF rfl (congrArg Bool.not c18) ?_
          refine wp_skip ?_
          refine then_n ?_
          refine wp_seq ?_
          refine wp_seq ?_
          obtain ⟨t19, h20, H⟩ := bind_some H
          obtain ⟨t22, h23, H⟩ := bind_some H
          refine s_region ?_
          refine s_val hF rfl rfl rfl (e_move hF rfl) ?_; intro a hF
          refine s_val hF rfl rfl rfl (e_move hF rfl) ?_; intro a hF
          refine s_call hF rfl rfl rfl Try.call26 (laws_toIntS.calls K l0 u0 (q0.frm hM.frm) t19 h20) ?_; intro a w v21 hF hf hR
          have hM := hM.fresh hf hR
          refine s_call hF rfl rfl rfl Try.call28 (laws_eqIntS.calls K t8 v10 (hM.sl 2 rfl) t19 v21 (hM.sl 0 rfl) t22 h23) ?_; intro a w v hF hf hR
          subst hR; have hM := hM.grow hf
          refine s_val hF rfl rfl rfl (e_not hF rfl) ?_; intro a hF
          refine s_nil ?_
          refine then_n ?_
          rcases ite_cases H with ⟨c24, H⟩ | ⟨c24, H⟩
          ·
            refine s_cond_f hF rfl (congrArg Bool.not c24) ?_
            refine wp_skip ?_
            refine then_n ?_
            refine wp_seq ?_
            refine s_region ?_
            refine s_val hF rfl rfl rfl (e_assign hF rfl) ?_; intro a hF
            refine s_nil ?_
            refine then_n ?_
            refine wp_seq ?_
            obtain ⟨t25, h26, H⟩ := bind_some H
            refine s_region ?_
            refine s_val hF rfl rfl rfl (e_move hF rfl) ?_; intro a hF
            refine s_val hF rfl rfl rfl (e_move hF rfl) ?_; intro a hF
            refine s_callx hF rfl rfl rfl Try.call31 (laws_markIntS.calls K t8 v10 (hM.get 2 rfl) 1 t25 h26) ?_; intro a w v hF ⟨hf, hR⟩
            obtain ⟨hR, hO⟩ := hR; subst hR; have hM := hM.turn (i := 2) (R' := rowR cd3 v10 t25.2) rfl hf hO (fun _ hb => .inl hb)
            refine s_val hF rfl rfl rfl (e_assign hF rfl) ?_; intro a hF
            refine s_nil ?_
            refine then_n ?_
            refine wp_seq ?_
            refine wp_seq ?_
            rcases ite_cases H with ⟨c27, H⟩ | ⟨c27, H⟩
            ·
              refine s_region ?_
              refine s_val hF rfl rfl rfl (e_move hF rfl) ?_; intro a hF
              refine s_val hF rfl rfl rfl (e_lss hF rfl rfl) ?_; intro a hF
              refine s_val hF rfl rfl rfl (e_move hF rfl) ?_; intro a hF
              have hF := hF.topb (decide_eq_true c27)
              refine s_skip hF rfl rfl rfl ?_; intro a hF
              refine s_skip hF rfl rfl rfl ?_; intro a hF
              refine s_skip hF rfl rfl rfl ?_; intro a hF
              refine s_skip hF rfl rfl rfl ?_; intro a hF
              refine s_val hF rfl rfl rfl (e_pick_t hF rfl rfl) ?_; intro a hF
              refine s_val hF rfl rfl rfl (e_move hF rfl) ?_; intro a hF
              refine s_skip hF rfl rfl rfl ?_; intro a hF
              refine s_skip hF rfl rfl rfl ?_; intro a hF
              refine s_skip hF rfl rfl rfl ?_; intro a hF
              refine s_val hF rfl rfl rfl (e_pick_t hF rfl rfl) ?_; intro a hF
              refine s_val hF rfl rfl rfl (e_move hF rfl) ?_; intro a hF
              refine s_skip hF rfl rfl rfl ?_; intro a hF
              refine s_skip hF rfl rfl rfl ?_; intro a hF
              refine s_skip hF rfl rfl rfl ?_; intro a hF
              refine s_val hF rfl rfl rfl (e_pick_t hF rfl rfl) ?_; intro a hF
              refine s_nil ?_
              refine then_n ?_
              refine s_cond_t hF rfl rfl ?_
              refine wp_seq ?_
              refine s_region ?_
              refine s_val hF rfl rfl rfl (e_assign hF rfl) ?_; intro a hF
              refine s_nil ?_
              refine then_n ?_
              refine wp_ret ?_
              refine then_r ?_
              obtain rfl := some_some H
              refine s_ret [Value.bool false] hF Try.results11 ⟨rfl, trivial⟩ ?_
              exact ⟨_, rfl, hM.frm, rfl⟩
            ·
              obtain ⟨t28, h29, H⟩ := bind_some H
              rcases ite_cases H with ⟨c30, H⟩ | ⟨c30, H⟩
              ·
                refine s_region ?_
                refine s_val hF rfl rfl rfl (e_move hF rfl) ?_; intro a hF
                refine s_val hF rfl rfl rfl (e_lss hF rfl rfl) ?_; intro a hF
                refine s_val hF rfl rfl rfl (e_move hF rfl) ?_; intro a hF
                have hF := hF.topb (decide_eq_false c27)
                refine s_val hF rfl rfl rfl (e_move hF rfl) ?_; intro a hF
                refine s_val hF rfl rfl rfl (e_move hF rfl) ?_; intro a hF
                refine s_call hF rfl rfl rfl Try.call28 (laws_eqIntS.calls K t11.1 v13 (hM.sl 1 rfl) t5.1 v7 (hM.sl 3 rfl) t28 h29) ?_; intro a w v hF hf hR
                subst hR; have hM := hM.grow hf
                refine s_val hF rfl rfl rfl (e_not hF rfl) ?_; intro a hF
                refine s_val hF rfl rfl rfl (e_pick_f hF rfl rfl) ?_; intro a hF
                refine s_val hF rfl rfl rfl (e_move hF rfl) ?_; intro a hF
                have hF := hF.topb (congrArg Bool.not c30)
                refine s_val hF rfl rfl rfl (e_move hF rfl) ?_; intro a hF
                refine s_val hF rfl rfl rfl (e_move hF rfl) ?_; intro a hF
                refine s_val hF rfl rfl rfl (e_neq hF rfl rfl) ?_; intro a hF
                refine s_val hF rfl rfl rfl (e_pick_f hF rfl rfl) ?_; intro a hF
                refine s_val hF rfl rfl rfl (e_move hF rfl) ?_; intro a hF
                have hF := hF.topb (congrArg Bool.not (decide_eq_true c17))
                refine s_val hF rfl rfl rfl (e_move hF rfl) ?_; intro a hF
                refine s_val hF rfl rfl rfl (e_move hF rfl) ?_; intro a hF
                refine s_val hF rfl rfl rfl (e_bneq hF rfl rfl Try.underlying4) ?_; intro a hF
                refine s_val hF rfl rfl rfl (e_pick_f hF rfl rfl) ?_; intro a hF
                refine s_nil ?_
                refine then_n ?_
                refine s_cond_f hF rfl (congrArg Bool.not c18) ?_
                refine wp_skip ?_
                refine then_n ?_
                refine wp_seq ?_
                refine s_region ?_
                refine s_val hF rfl rfl rfl (e_assign hF rfl) ?_; intro a hF
                refine s_nil ?_
                refine then_n ?_
                refine wp_seq ?_
                obtain ⟨t31, h32, H⟩ := bind_some H
                refine s_region ?_
                refine s_val hF rfl rfl rfl (e_move hF rfl) ?_; intro a hF
                refine s_val hF rfl rfl rfl (e_move hF rfl) ?_; intro a hF
                refine s_callx hF rfl rfl rfl Try.call31 (laws_markIntS.calls K t11.1 v13 (hM.get 1 rfl) 1 t31 h32) ?_; intro a w v hF ⟨hf, hR⟩
                obtain ⟨hR, hO⟩ := hR; subst hR; have hM := hM.turn (i := 1) (R' := rowR cd3 v13 t31.2) rfl hf hO (fun _ hb => .inl hb)
                refine s_val hF rfl rfl rfl (e_assign hF rfl) ?_; intro a hF
                refine s_nil ?_
                refine then_n ?_
                refine wp_seq ?_
                refine s_region ?_
                refine s_val hF rfl rfl rfl (e_assign hF rfl) ?_; intro a hF
                refine s_nil ?_
                refine then_n ?_
                refine wp_seq ?_
                obtain ⟨t33, h34, H⟩ := bind_some H
                refine s_region ?_
                refine s_val hF rfl rfl rfl (e_move hF rfl) ?_; intro a hF
                refine s_val hF rfl rfl rfl (e_move hF rfl) ?_; intro a hF
                refine s_call hF rfl rfl rfl Try.call32 (laws_heldIntS.calls K t31.2 v13 (hM.sl 1 rfl) 1 t33 h34) ?_; intro a w v hF hf hR
                subst hR; have hM := hM.grow hf
                refine s_val hF rfl rfl rfl (e_assign hF rfl) ?_; intro a hF
                refine s_nil ?_
                refine then_n ?_
                refine wp_seq ?_
                refine wp_seq ?_
                refine s_region ?_
                refine s_val hF rfl rfl rfl (e_move hF rfl) ?_; intro a hF
                refine s_val hF rfl rfl rfl (e_lss hF rfl rfl) ?_; intro a hF
                refine s_nil ?_
                refine then_n ?_
                rcases ite_cases H with ⟨c35, H⟩ | ⟨c35, H⟩
                ·
                  refine s_cond_t hF rfl (decide_eq_true c35) ?_
                  refine wp_seq ?_
                  refine s_region ?_
                  refine s_val hF rfl rfl rfl (e_assign hF rfl) ?_; intro a hF
                  refine s_nil ?_
                  refine then_n ?_
                  refine wp_ret ?_
                  refine then_r ?_
                  obtain rfl := some_some H
                  refine s_ret [Value.bool false] hF Try.results11 ⟨rfl, trivial⟩ ?_
                  exact ⟨_, rfl, hM.frm, rfl⟩
                ·
                  refine s_cond_f hF rfl (decide_eq_false c35) ?_
                  refine wp_skip ?_
                  refine then_n ?_
                  refine wp_seq ?_
                  refine wp_seq ?_
                  refine s_region ?_
                  refine s_val hF rfl rfl rfl (e_move hF rfl) ?_; intro a hF
                  refine s_val hF rfl rfl rfl (e_move hF rfl) ?_; intro a hF
                  refine s_val hF rfl rfl rfl (e_neq hF rfl rfl) ?_; intro a hF
                  refine s_nil ?_
                  refine then_n ?_
                  rcases ite_cases H with ⟨c36, H⟩ | ⟨c36, H⟩
                  ·
                    refine s_cond_f hF rfl (congrArg Bool.not (decide_eq_true c36)) ?_
                    refine wp_skip ?_
                    refine then_n ?_
                    refine wp_seq ?_
                    obtain ⟨t37, h38, H⟩ := bind_some H
                    obtain ⟨t40, h41, H⟩ := bind_some H
                    refine s_region ?_
                    refine s_val hF rfl rfl rfl (e_move hF rfl) ?_; intro a hF
                    refine s_call hF rfl rfl rfl Try.call26 (laws_toIntS.calls K l0 u0 (q0.frm hM.frm) t37 h38) ?_; intro a w v39 hF hf hR
                    have hM := hM.fresh hf hR
                    refine s_val hF rfl rfl rfl (e_move hF rfl) ?_; intro a hF
                    refine s_call hF rfl rfl rfl Try.call38 (impl_EvenCoin.calls K t37 v39 (hM.sl 0 rfl) a1 t40 h41) ?_; intro a w v hF hf hR
                    obtain ⟨v42, rfl, hR⟩ := hR; have hM := hM.fresh hf hR
                    refine s_val hF rfl rfl rfl (e_move hF rfl) ?_; intro a hF
                    refine s_val hF rfl rfl rfl (e_extract hF rfl rfl) ?_; intro a hF
                    refine s_val hF rfl rfl rfl (e_extract hF rfl rfl) ?_; intro a hF
                    refine s_val hF rfl rfl rfl (e_extract hF rfl rfl) ?_; intro a hF
                    refine s_val hF rfl rfl rfl (e_assign hF rfl) ?_; intro a hF
                    refine s_val hF rfl rfl rfl (e_assign hF rfl) ?_; intro a hF
                    refine s_val hF rfl rfl rfl (e_assign hF rfl) ?_; intro a hF
                    refine s_nil ?_
                    refine then_n ?_
                    refine wp_seq ?_
                    refine wp_seq ?_
                    obtain ⟨t43, h44, H⟩ := bind_some H
                    rcases ite_cases H with ⟨c45, H⟩ | ⟨c45, H⟩
                    ·
                      rcases ite_cases H with ⟨c46, H⟩ | ⟨c46, H⟩
                      ·
                        refine s_region ?_
                        refine s_val hF rfl rfl rfl (e_move hF rfl) ?_; intro a hF
                        refine s_val hF rfl rfl rfl (e_move hF rfl) ?_; intro a hF
                        refine s_call hF rfl rfl rfl Try.call28 (laws_eqIntS.calls K t40.1 v42 (hM.sl 0 rfl) t5.1 v7 (hM.sl 5 rfl) t43 h44) ?_; intro a w v hF hf hR
                        subst hR; have hM := hM.grow hf
                        refine s_val hF rfl rfl rfl (e_not hF rfl) ?_; intro a hF
                        refine s_val hF rfl rfl rfl (e_move hF rfl) ?_; intro a hF
                        have hF := hF.topb (congrArg Bool.not c45)
                        refine s_val hF rfl rfl rfl (e_move hF rfl) ?_; intro a hF
                        refine s_val hF rfl rfl rfl (e_move hF rfl) ?_; intro a hF
                        refine s_val hF rfl rfl rfl (e_neq hF rfl rfl) ?_; intro a hF
                        refine s_val hF rfl rfl rfl (e_pick_f hF rfl rfl) ?_; intro a hF
                        refine s_val hF rfl rfl rfl (e_move hF rfl) ?_; intro a hF
                        have hF := hF.topb (congrArg Bool.not (decide_eq_true c46))
                        refine s_val hF rfl rfl rfl (e_move hF rfl) ?_; intro a hF
                        refine s_val hF rfl rfl rfl (e_move hF rfl) ?_; intro a hF
                        refine s_val hF rfl rfl rfl (e_bneq hF rfl rfl Try.underlying4) ?_; intro a hF
                        refine s_val hF rfl rfl rfl (e_pick_f hF rfl rfl) ?_; intro a hF
                        refine s_nil ?_
                        refine then_n ?_
                        rcases ite_cases H with ⟨c47, H⟩ | ⟨c47, H⟩
                        ·
                          refine s_cond_f hF rfl (congrArg Bool.not c47) ?_
                          refine wp_skip ?_
                          refine then_n ?_
                          refine wp_seq ?_
                          refine s_region ?_
                          refine s_val hF rfl rfl rfl (e_assign hF rfl) ?_; intro a hF
                          refine s_nil ?_
                          refine then_n ?_
                          refine wp_seq ?_
                          obtain ⟨t48, h49, H⟩ := bind_some H
                          refine s_region ?_
                          refine s_val hF rfl rfl rfl (e_move hF rfl) ?_; intro a hF
                          refine s_val hF rfl rfl rfl (e_move hF rfl) ?_; intro a hF
                          refine s_call hF rfl rfl rfl Try.call32 (laws_heldIntS.calls K t31.2 v13 (hM.sl 3 rfl) 1 t48 h49) ?_; intro a w v hF hf hR
                          subst hR; have hM := hM.grow hf
                          refine s_val hF rfl rfl rfl (e_assign hF rfl) ?_; intro a hF
                          refine s_nil ?_
                          refine then_n ?_
                          refine wp_seq ?_
                          refine wp_seq ?_
                          refine s_region ?_
                          refine s_val hF rfl rfl rfl (e_move hF rfl) ?_; intro a hF
                          refine s_val hF rfl rfl rfl (e_lss hF rfl rfl) ?_; intro a hF
                          refine s_nil ?_
                          refine then_n ?_
                          rcases ite_cases H with ⟨c50, H⟩ | ⟨c50, H⟩
                          ·
                            refine s_cond_t hF rfl (decide_eq_true c50) ?_
                            refine wp_seq ?_
                            refine s_region ?_
                            refine s_val hF rfl rfl rfl (e_assign hF rfl) ?_; intro a hF
                            refine s_nil ?_
                            refine then_n ?_
                            refine wp_ret ?_
                            refine then_r ?_
                            obtain rfl := some_some H
                            refine s_ret [Value.bool false] hF Try.results11 ⟨rfl, trivial⟩ ?_
                            exact ⟨_, rfl, hM.frm, rfl⟩
                          ·
                            refine s_cond_f hF rfl (decide_eq_false c50) ?_
                            refine wp_skip ?_
                            refine then_n ?_
                            refine wp_seq ?_
                            refine wp_seq ?_
                            refine s_region ?_
                            refine s_val hF rfl rfl rfl (e_move hF rfl) ?_; intro a hF
                            refine s_val hF rfl rfl rfl (e_move hF rfl) ?_; intro a hF
                            refine s_val hF rfl rfl rfl (e_neq hF rfl rfl) ?_; intro a hF
                            refine s_nil ?_
                            refine then_n ?_
                            rcases ite_cases H with ⟨c51, H⟩ | ⟨c51, H⟩
                            ·
                              refine s_cond_f hF rfl (congrArg Bool.not (decide_eq_true c51)) ?_
                              refine wp_skip ?_
                              refine then_n ?_
                              refine wp_seq ?_
                              refine s_region ?_
                              refine s_val hF rfl rfl rfl (e_assign hF rfl) ?_; intro a hF
                              refine s_nil ?_
                              refine then_n ?_
                              refine wp_ret ?_
                              obtain rfl := some_some H
                              refine s_ret [Value.bool true] hF Try.results11 ⟨rfl, trivial⟩ ?_
                              exact ⟨_, rfl, hM.frm, rfl⟩
                            ·
                              refine s_cond_t hF rfl (congrArg Bool.not (decide_eq_false c51)) ?_
                              refine wp_seq ?_
                              refine s_region ?_
                              refine s_val hF rfl rfl rfl (e_assign hF rfl) ?_; intro a hF
                              refine s_nil ?_
                              refine then_n ?_
                              refine wp_ret ?_
                              refine then_r ?_
                              obtain rfl := some_some H
                              refine s_ret [Value.bool false] hF Try.results11 ⟨rfl, trivial⟩ ?_
                              exact ⟨_, rfl, hM.frm, rfl⟩
                        ·
                          refine s_cond_t hF rfl (congrArg Bool.not (bf c47)) ?_
                          refine wp_seq ?_
                          refine s_region ?_
                          refine s_val hF rfl rfl rfl (e_assign hF rfl) ?_; intro a hF
                          refine s_nil ?_
                          refine then_n ?_
                          refine wp_ret ?_
                          refine then_r ?_
                          obtain rfl := some_some H
                          refine s_ret [Value.bool false] hF Try.results11 ⟨rfl, trivial⟩ ?_
                          exact ⟨_, rfl, hM.frm, rfl⟩
                      ·
                        refine s_region ?_
                        refine s_val hF rfl rfl rfl (e_move hF rfl) ?_; intro a hF
                        refine s_val hF rfl rfl rfl (e_move hF rfl) ?_; intro a hF
                        refine s_call hF rfl rfl rfl Try.call28 (laws_eqIntS.calls K t40.1 v42 (hM.sl 0 rfl) t5.1 v7 (hM.sl 5 rfl) t43 h44) ?_; intro a w v hF hf hR
                        subst hR; have hM := hM.grow hf
                        refine s_val hF rfl rfl rfl (e_not hF rfl) ?_; intro a hF
                        refine s_val hF rfl rfl rfl (e_move hF rfl) ?_; intro a hF
                        have hF := hF.topb (congrArg Bool.not c45)
                        refine s_val hF rfl rfl rfl (e_move hF rfl) ?_; intro a hF
                        refine s_val hF rfl rfl rfl (e_move hF rfl) ?_; intro a hF
                        refine s_val hF rfl rfl rfl (e_neq hF rfl rfl) ?_; intro a hF
                        refine s_val hF rfl rfl rfl (e_pick_f hF rfl rfl) ?_; intro a hF
                        refine s_val hF rfl rfl rfl (e_move hF rfl) ?_; intro a hF
                        have hF := hF.topb (congrArg Bool.not (decide_eq_false c46))
                        refine s_skip hF rfl rfl rfl ?_; intro a hF
                        refine s_skip hF rfl rfl rfl ?_; intro a hF
                        refine s_skip hF rfl rfl rfl ?_; intro a hF
                        refine s_val hF rfl rfl rfl (e_pick_t hF rfl rfl) ?_; intro a hF
                        refine s_nil ?_
                        refine then_n ?_
                        refine s_cond_t hF rfl rfl ?_
                        refine wp_seq ?_
                        refine s_region ?_
                        refine s_val hF rfl rfl rfl (e_assign hF rfl) ?_; intro a hF
                        refine s_nil ?_
                        refine then_n ?_
                        refine wp_ret ?_
                        refine then_r ?_
                        obtain rfl := some_some H
                        refine s_ret [Value.bool false] hF Try.results11 ⟨rfl, trivial⟩ ?_
                        exact ⟨_, rfl, hM.frm, rfl⟩
                    ·
                      refine s_region ?_
                      refine s_val hF rfl rfl rfl (e_move hF rfl) ?_; intro a hF
                      refine s_val hF rfl rfl rfl (e_move hF rfl) ?_; intro a hF
                      refine s_call hF rfl rfl rfl Try.call28 (laws_eqIntS.calls K t40.1 v42 (hM.sl 0 rfl) t5.1 v7 (hM.sl 5 rfl) t43 h44) ?_; intro a w v hF hf hR
                      subst hR; have hM := hM.grow hf
                      refine s_val hF rfl rfl rfl (e_not hF rfl) ?_; intro a hF
                      refine s_val hF rfl rfl rfl (e_move hF rfl) ?_; intro a hF
                      have hF := hF.topb (congrArg Bool.not (bf c45))
                      refine s_skip hF rfl rfl rfl ?_; intro a hF
                      refine s_skip hF rfl rfl rfl ?_; intro a hF
                      refine s_skip hF rfl rfl rfl ?_; intro a hF
                      refine s_val hF rfl rfl rfl (e_pick_t hF rfl rfl) ?_; intro a hF
                      refine s_val hF rfl rfl rfl (e_move hF rfl) ?_; intro a hF
                      refine s_skip hF rfl rfl rfl ?_; intro a hF
                      refine s_skip hF rfl rfl rfl ?_; intro a hF
                      refine s_skip hF rfl rfl rfl ?_; intro a hF
                      refine s_val hF rfl rfl rfl (e_pick_t hF rfl rfl) ?_; intro a hF
                      refine s_nil ?_
                      refine then_n ?_
                      refine s_cond_t hF rfl rfl ?_
                      refine wp_seq ?_
                      refine s_region ?_
                      refine s_val hF rfl rfl rfl (e_assign hF rfl) ?_; intro a hF
                      refine s_nil ?_
                      refine then_n ?_
                      refine wp_ret ?_
                      refine then_r ?_
                      obtain rfl := some_some H
                      refine s_ret [Value.bool false] hF Try.results11 ⟨rfl, trivial⟩ ?_
                      exact ⟨_, rfl, hM.frm, rfl⟩
                  ·
                    refine s_cond_t hF rfl (congrArg Bool.not (decide_eq_false c36)) ?_
                    refine wp_seq ?_
                    refine s_region ?_
                    refine s_val hF rfl rfl rfl (e_assign hF rfl) ?_; intro a hF
                    refine s_nil ?_
                    refine then_n ?_
                    refine wp_ret ?_
                    refine then_r ?_
                    obtain rfl := some_some H
                    refine s_ret [Value.bool false] hF Try.results11 ⟨rfl, trivial⟩ ?_
                    exact ⟨_, rfl, hM.frm, rfl⟩
              ·
                refine s_region ?_
                refine s_val hF rfl rfl rfl (e_move hF rfl) ?_; intro a hF
                refine s_val hF rfl rfl rfl (e_lss hF rfl rfl) ?_; intro a hF
                refine s_val hF rfl rfl rfl (e_move hF rfl) ?_; intro a hF
                have hF := hF.topb (decide_eq_false c27)
                refine s_val hF rfl rfl rfl (e_move hF rfl) ?_; intro a hF
                refine s_val hF rfl rfl rfl (e_move hF rfl) ?_; intro a hF
                refine s_call hF rfl rfl rfl Try.call28 (laws_eqIntS.calls K t11.1 v13 (hM.sl 1 rfl) t5.1 v7 (hM.sl 3 rfl) t28 h29) ?_; intro a w v hF hf hR
                subst hR; have hM := hM.grow hf
                refine s_val hF rfl rfl rfl (e_not hF rfl) ?_; intro a hF
                refine s_val hF rfl rfl rfl (e_pick_f hF rfl rfl) ?_; intro a hF
                refine s_val hF rfl rfl rfl (e_move hF rfl) ?_; intro a hF
                have hF := hF.topb (congrArg Bool.not (bf c30))
                refine s_skip hF rfl rfl rfl ?_; intro a hF
                refine s_skip hF rfl rfl rfl ?_; intro a hF
                refine s_skip hF rfl rfl rfl ?_; intro a hF
                refine s_val hF rfl rfl rfl (e_pick_t hF rfl rfl) ?_; intro a hF
                refine s_val hF rfl rfl rfl (e_move hF rfl) ?_; intro a hF
                refine s_skip hF rfl rfl rfl ?_; intro a hF
                refine s_skip hF rfl rfl rfl ?_; intro a hF
                refine s_skip hF rfl rfl rfl ?_; intro a hF
                refine s_val hF rfl rfl rfl (e_pick_t hF rfl rfl) ?_; intro a hF
                refine s_nil ?_
                refine then_n ?_
                refine s_cond_t hF rfl rfl ?_
                refine wp_seq ?_
                refine s_region ?_
                refine s_val hF rfl rfl rfl (e_assign hF rfl) ?_; intro a hF
                refine s_nil ?_
                refine then_n ?_
                refine wp_ret ?_
                refine then_r ?_
                obtain rfl := some_some H
                refine s_ret [Value.bool false] hF Try.results11 ⟨rfl, trivial⟩ ?_
                exact ⟨_, rfl, hM.frm, rfl⟩
          ·
            refine s_cond_t hF rfl (congrArg Bool.not (bf c24)) ?_
            refine wp_seq ?_
            refine s_region ?_
            refine s_val hF rfl rfl rfl (e_assign hF rfl) ?_; intro a hF
            refine s_nil ?_
            refine then_n ?_
            refine wp_ret ?_
            refine then_r ?_
            obtain rfl := some_some H
            refine s_ret [Value.bool false] hF Try.results11 ⟨rfl, trivial⟩ ?_
            exact ⟨_, rfl, hM.frm, rfl⟩
        ·
          refine s_cond_t hF rfl (congrArg Bool.not (bf c18)) ?_
          refine wp_seq ?_
          refine s_region ?_
          refine s_val hF rfl rfl rfl (e_assign hF rfl) ?_; intro a hF
          refine s_nil ?_
          refine then_n ?_
          refine wp_ret ?_
          refine then_r ?_
          obtain rfl := some_some H
          refine s_ret [Value.bool false] hF Try.results11 ⟨rfl, trivial⟩ ?_
          exact ⟨_, rfl, hM.frm, rfl⟩
      ·
        refine s_region ?_
        refine s_val hF rfl rfl rfl (e_move hF rfl) ?_; intro a hF
        refine s_val hF rfl rfl rfl (e_move hF rfl) ?_; intro a hF
        refine s_call hF rfl rfl rfl Try.call28 (laws_eqIntS.calls K t11.1 v13 (hM.sl 0 rfl) t5.1 v7 (hM.sl 2 rfl) t14 h15) ?_; intro a w v hF hf hR
        subst hR; have hM := hM.grow hf
        refine s_val hF rfl rfl rfl (e_not hF rfl) ?_; intro a hF
        refine s_val hF rfl rfl rfl (e_move hF rfl) ?_; intro a hF
        have hF := hF.topb (congrArg Bool.not c16)
        refine s_val hF rfl rfl rfl (e_move hF rfl) ?_; intro a hF
        refine s_val hF rfl rfl rfl (e_move hF rfl) ?_; intro a hF
        refine s_val hF rfl rfl rfl (e_neq hF rfl rfl) ?_; intro a hF
        refine s_val hF rfl rfl rfl (e_pick_f hF rfl rfl) ?_; intro a hF
        refine s_val hF rfl rfl rfl (e_move hF rfl) ?_; intro a hF
        have hF := hF.topb (congrArg Bool.not (decide_eq_false c17))
        refine s_skip hF rfl rfl rfl ?_; intro a hF
        refine s_skip hF rfl rfl rfl ?_; intro a hF
        refine s_skip hF rfl rfl rfl ?_; intro a hF
        refine s_val hF rfl rfl rfl (e_pick_t hF rfl rfl) ?_; intro a hF
        refine s_nil ?_
        refine then_n ?_
        refine s_cond_t hF rfl rfl ?_
        refine wp_seq ?_
        refine s_region ?_
        refine s_val hF rfl rfl rfl (e_assign hF rfl) ?_; intro a hF
        refine s_nil ?_
        refine then_n ?_
        refine wp_ret ?_
        refine then_r ?_
        obtain rfl := some_some H
        refine s_ret [Value.bool false] hF Try.results11 ⟨rfl, trivial⟩ ?_
        exact ⟨_, rfl, hM.frm, rfl⟩
    ·
      refine s_region ?_
      refine s_val hF rfl rfl rfl (e_move hF rfl) ?_; intro a hF
      refine s_val hF rfl rfl rfl (e_move hF rfl) ?_; intro a hF
      refine s_call hF rfl rfl rfl Try.call28 (laws_eqIntS.calls K t11.1 v13 (hM.sl 0 rfl) t5.1 v7 (hM.sl 2 rfl) t14 h15) ?_; intro a w v hF hf hR
      subst hR; have hM := hM.grow hf
      refine s_val hF rfl rfl rfl (e_not hF rfl) ?_; intro a hF
      refine s_val hF rfl rfl rfl (e_move hF rfl) ?_; intro a hF
      have hF := hF.topb (congrArg Bool.not (bf c16))
      refine s_skip hF rfl rfl rfl ?_; intro a hF
      refine s_skip hF rfl rfl rfl ?_; intro a hF
      refine s_skip hF rfl rfl rfl ?_; intro a hF
      refine s_val hF rfl rfl rfl (e_pick_t hF rfl rfl) ?_; intro a hF
      refine s_val hF rfl rfl rfl (e_move hF rfl) ?_; intro a hF
      refine s_skip hF rfl rfl rfl ?_; intro a hF
      refine s_skip hF rfl rfl rfl ?_; intro a hF
      refine s_skip hF rfl rfl rfl ?_; intro a hF
      refine s_val hF rfl rfl rfl (e_pick_t hF rfl rfl) ?_; intro a hF
      refine s_nil ?_
      refine then_n ?_
      refine s_cond_t hF rfl rfl ?_
      refine wp_seq ?_
      refine s_region ?_
      refine s_val hF rfl rfl rfl (e_assign hF rfl) ?_; intro a hF
      refine s_nil ?_
      refine then_n ?_
      refine wp_ret ?_
      refine then_r ?_
      obtain rfl := some_some H
      refine s_ret [Value.bool false] hF Try.results11 ⟨rfl, trivial⟩ ?_
      exact ⟨_, rfl, hM.frm, rfl⟩

end Go.Proofs.Ytbknafijehakbaa.WEvenCoin

/- The walk through the code that the statement reaches: what each function computes. Conditions: none but those in each line. -/
import Derived.Test.YtlcogkfjjlclmaaWShapesLikea
namespace Go.Proofs.Ytlcogkfjjlclmaa.WShapesLike
open Go.K Go.RowKit
set_option linter.unusedVariables false
set_option linter.unusedSimpArgs false

/-! ### loop.example/g01210/spec.l5Put: function 43 -/
def spec_l5Put.l0 (K : Nat) (l0 : (List ((Ar 6) × (Ar 6)))) (a1 : ((Ar 6) × (Ar 6))) : Nat → Int → Option Int
  | 0, _ => none
  | k + 1, x14 => if x14 < (l0.length : Int) then (if (0 : Int) ≤ x14 ∧ x14 < (l0.length : Int) then ((spec_l5Less.f K (l0.getD (x14 : Int).toNat ((Ar.zero 6), (Ar.zero 6))) a1).bind fun t17 => if t17 = true then (spec_l5Put.l0 K l0 a1 k (wrap64 (x14 + 1))) else (some x14)) else none) else (some x14)
def spec_l5Put.f (K : Nat) (l0 : (List ((Ar 6) × (Ar 6)))) (a1 : ((Ar 6) × (Ar 6))) : Option (List ((Ar 6) × (Ar 6))) := (spec_l5Put.l0 K l0 a1 K 0).bind fun x13 => if x13 < (l0.length : Int) then (if (0 : Int) ≤ x13 ∧ x13 < (l0.length : Int) then (if (l0.getD (x13 : Int).toNat ((Ar.zero 6), (Ar.zero 6))) = a1 then (some l0) else (if (0 : Int) ≤ 0 ∧ (0 : Int) ≤ x13 ∧ x13 ≤ (l0.length : Int) then (if ([] : List ((Ar 6) × (Ar 6))).length + ((l0.take (x13 : Int).toNat).drop 0).length ≤ 1073741824 then (if (([] : List ((Ar 6) × (Ar 6))) ++ ((l0.take (x13 : Int).toNat).drop 0)).length + [a1].length ≤ 1073741824 then (if (0 : Int) ≤ x13 ∧ x13 ≤ (l0.length : Int) ∧ (l0.length : Int) ≤ (l0.length : Int) then (if ((([] : List ((Ar 6) × (Ar 6))) ++ ((l0.take (x13 : Int).toNat).drop 0)) ++ [a1]).length + ((l0.take l0.length).drop (x13 : Int).toNat).length ≤ 1073741824 then (some (((([] : List ((Ar 6) × (Ar 6))) ++ ((l0.take (x13 : Int).toNat).drop 0)) ++ [a1]) ++ ((l0.take l0.length).drop (x13 : Int).toNat))) else none) else none) else none) else none) else none)) else none) else (if (0 : Int) ≤ 0 ∧ (0 : Int) ≤ x13 ∧ x13 ≤ (l0.length : Int) then (if ([] : List ((Ar 6) × (Ar 6))).length + ((l0.take (x13 : Int).toNat).drop 0).length ≤ 1073741824 then (if (([] : List ((Ar 6) × (Ar 6))) ++ ((l0.take (x13 : Int).toNat).drop 0)).length + [a1].length ≤ 1073741824 then (if (0 : Int) ≤ x13 ∧ x13 ≤ (l0.length : Int) ∧ (l0.length : Int) ≤ (l0.length : Int) then (if ((([] : List ((Ar 6) × (Ar 6))) ++ ((l0.take (x13 : Int).toNat).drop 0)) ++ [a1]).length + ((l0.take l0.length).drop (x13 : Int).toNat).length ≤ 1073741824 then (some (((([] : List ((Ar 6) × (Ar 6))) ++ ((l0.take (x13 : Int).toNat).drop 0)) ++ [a1]) ++ ((l0.take l0.length).drop (x13 : Int).toNat))) else none) else none) else none) else none) else none)
set_option maxRecDepth 100000 in
set_option maxHeartbeats 4000000 in
theorem spec_l5Put.calls {w0 : World} {X : List Nat} (K : Nat) (l0 : (List ((Ar 6) × (Ar 6)))) (u0 : Value) (a1 : ((Ar 6) × (Ar 6))) (qM : Ms X w0 w0 [rowR cd50 u0 l0]) (r : (List ((Ar 6) × (Ar 6)))) (H : spec_l5Put.f K l0 a1 = some r) : Calls Try.prog 43 [u0, ag [Pt.ar a1.1, Pt.ar a1.2]].toArray w0 (fun e w => ∃ v, e = .returned v ∧ ∃ v55 : Value, Ms X w0 w [rowR cd50 v55 r] ∧ v55 = v) := by
  rw [spec_l5Put.f] at H
  refine s_start Try.func43 rfl Try.ntmps43 rfl ?_
  intro a hF
  have hM := qM
  refine wp_seq ?_
  refine s_region ?_
  refine s_box (ps := [Pt.ar a1.1, Pt.ar a1.2]) hF hM rfl rfl rfl rfl ?_; intro a w b1 hF hM
  refine s_val hF rfl rfl rfl (e_assign hF rfl) ?_; intro a hF
  refine s_nil ?_
  refine then_n ?_
  refine wp_seq ?_
  refine s_region ?_
  refine s_val hF rfl rfl rfl (e_assign hF rfl) ?_; intro a hF
  refine s_nil ?_
  refine then_n ?_
  refine wp_seq ?_
  refine wp_block ?_
  obtain ⟨o23, h24, H⟩ := bind_some H
  refine wp_mono (Q := fun e a w => (e = Exit.exit 0 ∧ ∃ x13 : Int, x13 = o23 ∧ Fr 45 a [(0, u0), (3, pt b1 0), (5, Value.int .i64 x13)] ∧ Ms X w0 w [rowR cd50 u0 l0, boxR b1 [Pt.ar a1.1, Pt.ar a1.2] 50])) ?_ ?_
  · refine s_loop (fun kq a w => ∃ x14 : Int, spec_l5Put.l0 K l0 a1 kq x14 = some o23 ∧ Fr 45 a [(0, u0), (3, pt b1 0), (5, Value.int .i64 x14)] ∧ Ms X w0 w [rowR cd50 u0 l0, boxR b1 [Pt.ar a1.1, Pt.ar a1.2] 50]) K ⟨0, h24, hF.sub _ ⟨rfl, rfl, rfl, trivial⟩, hM.pick [1, 0] rfl rfl⟩ ?_ ?_
    · rintro a w ⟨_, H, _⟩; exact none_some H
    · rintro k a w ⟨x14, H, hF, hM⟩; rw [spec_l5Put.l0] at H
      refine wp_seq ?_
      refine wp_seq ?_
      rcases ite_cases H with ⟨c15, H⟩ | ⟨c15, H⟩
      ·
        obtain ⟨c16, H⟩ := ite_some H
        obtain ⟨t17, h18, H⟩ := bind_some H
        refine s_held (fun w => Ms X w0 w [rowR cd50 u0 l0, boxR b1 [Pt.ar a1.1, Pt.ar a1.2] 50]) #[false, false, false, false, false, false, false, false, false, false, false, false] mixed rfl rfl hM ?_; intro w hf hM; clear hf
        refine h_val 0 #[true, false, false, false, false, false, false, false, false, false, false, false] rfl (by kernel_rfl) hF rfl rfl rfl (fun w hS => e_move hF rfl) (hM.pick [0, 1] rfl rfl) ?_; intro a hF
        refine h_val 1 #[true, true, false, false, false, false, false, false, false, false, false, false] rfl (by kernel_rfl) hF rfl rfl rfl (fun w hS => e_move hF rfl) (hM.pick [0, 1] rfl rfl) ?_; intro a hF
        have f19 := (hM.sl 0 rfl).toF
        refine h_val 2 #[true, true, true, false, false, false, false, false, false, false, false, false] rfl (by kernel_rfl) hF rfl rfl rfl (fun w hS => e_len hF rfl f19 Try.underlying37) (hM.pick [0, 1] rfl rfl) ?_; intro a hF
        refine h_val 3 #[true, true, true, true, false, false, false, false, false, false, false, false] rfl (by kernel_rfl) hF rfl rfl rfl (fun w hS => e_lss hF rfl rfl) (hM.pick [0, 1] rfl rfl) ?_; intro a hF
        refine h_val 4 #[true, true, true, true, true, false, false, false, false, false, false, false] rfl (by kernel_rfl) hF rfl rfl rfl (fun w hS => e_move hF rfl) (hM.pick [0, 1] rfl rfl) ?_; intro a hF
        have hF := hF.topb (decide_eq_true c15)
        refine h_val 5 #[true, true, true, true, true, true, false, false, false, false, false, false] rfl (by kernel_rfl) hF rfl rfl rfl (fun w hS => e_move hF rfl) (hM.pick [0, 1] rfl rfl) ?_; intro a hF
        refine h_val 6 #[true, true, true, true, true, true, true, false, false, false, false, false] rfl (by kernel_rfl) hF rfl rfl rfl (fun w hS => e_move hF rfl) (hM.pick [0, 1] rfl rfl) ?_; intro a hF
        have f20 := (hM.sl 0 rfl).toF
        refine h_val 7 #[true, true, true, true, true, true, true, true, false, false, false, false] rfl (by kernel_rfl) hF rfl rfl rfl (fun w hS => e_ias cd50 hF rfl rfl f20 Try.underlying37 Try.sizeOf50 c16.1 c16.2) (hM.pick [0, 1] rfl rfl) ?_; intro a hF
        refine h_val 8 #[true, true, true, true, true, true, true, true, true, false, false, false] rfl (by kernel_rfl) hF rfl rfl rfl (fun w hS => e_ldsa (m := x14) hF rfl (hS.sl 0 rfl) (getD_some (z := ((Ar.zero 6), (Ar.zero 6))) c16.1 c16.2) Try.isAgg50 Try.sizeOf50) (hM.pick [0, 1] rfl rfl) ?_; intro a hF
        refine h_val 9 #[true, true, true, true, true, true, true, true, true, true, false, false] rfl (by kernel_rfl) hF rfl rfl rfl (fun w hS => e_lda (i := 1) 0 2 hF hS rfl rfl rfl rfl Try.isAgg50 Try.sizeOf50 rfl) (hM.pick [0, 1] rfl rfl) ?_; intro a hF
        refine h_one 10 #[true, true, true, true, true, true, true, true, true, true, true, false] rfl (by kernel_rfl) ?_
        refine s_call hF rfl rfl rfl Try.call60 (spec_l5Less.calls K (l0.getD (x14 : Int).toNat ((Ar.zero 6), (Ar.zero 6))) a1 t17 h18) ?_; intro a w v hF hf hR
        subst hR; have hM := hM.grow hf
        refine s_nil ⟨rfl, (hM.pick [0, 1] rfl rfl), ?_⟩
        refine h_val 11 #[true, true, true, true, true, true, true, true, true, true, true, true] rfl (by kernel_rfl) hF rfl rfl rfl (fun w hS => e_pick_t hF rfl rfl) (hM.pick [0, 1] rfl rfl) ?_; intro a hF
        refine h_done rfl ?_
        refine then_n ?_
        rcases ite_cases H with ⟨c21, H⟩ | ⟨c21, H⟩
        ·
          refine s_cond_t hF rfl c21 ?_
          refine wp_skip ?_
          refine then_n ?_
          refine wp_block ?_
          refine s_region ?_
          refine s_val hF rfl rfl rfl (e_move hF rfl) ?_; intro a hF
          refine s_val hF rfl rfl rfl (e_add hF rfl rfl) ?_; intro a hF
          refine s_val hF rfl rfl rfl (e_assign hF rfl) ?_; intro a hF
          refine s_nil ?_
          refine blk_n ?_
          refine then_n ?_
          exact ⟨(wrap64 (x14 + 1)), H, hF.sub _ ⟨rfl, rfl, rfl, trivial⟩, hM.pick [0, 1] rfl rfl⟩
        ·
          refine s_cond_f hF rfl (bf c21) ?_
          refine wp_exit ?_
          refine then_x ?_
          refine then_x ?_
          exact ⟨rfl, x14, some_some H, hF.sub _ ⟨rfl, rfl, rfl, trivial⟩, hM.pick [0, 1] rfl rfl⟩
      ·
        refine s_held (fun w => Ms X w0 w [rowR cd50 u0 l0, boxR b1 [Pt.ar a1.1, Pt.ar a1.2] 50]) #[false, false, false, false, false, false, false, false, false, false, false, false] mixed rfl rfl hM ?_; intro w hf hM; clear hf
        refine h_val 0 #[true, false, false, false, false, false, false, false, false, false, false, false] rfl (by kernel_rfl) hF rfl rfl rfl (fun w hS => e_move hF rfl) (hM.pick [0, 1] rfl rfl) ?_; intro a hF
        refine h_val 1 #[true, true, false, false, false, false, false, false, false, false, false, false] rfl (by kernel_rfl) hF rfl rfl rfl (fun w hS => e_move hF rfl) (hM.pick [0, 1] rfl rfl) ?_; intro a hF
        have f22 := (hM.sl 0 rfl).toF
        refine h_val 2 #[true, true, true, false, false, false, false, false, false, false, false, false] rfl (by kernel_rfl) hF rfl rfl rfl (fun w hS => e_len hF rfl f22 Try.underlying37) (hM.pick [0, 1] rfl rfl) ?_; intro a hF
        refine h_val 3 #[true, true, true, true, false, false, false, false, false, false, false, false] rfl (by kernel_rfl) hF rfl rfl rfl (fun w hS => e_lss hF rfl rfl) (hM.pick [0, 1] rfl rfl) ?_; intro a hF
        refine h_val 4 #[true, true, true, true, true, false, false, false, false, false, false, false] rfl (by kernel_rfl) hF rfl rfl rfl (fun w hS => e_move hF rfl) (hM.pick [0, 1] rfl rfl) ?_; intro a hF
        have hF := hF.topb (decide_eq_false c15)
        refine h_skip 5 #[true, true, true, true, true, true, false, false, false, false, false, false] rfl (by kernel_rfl) hF rfl rfl rfl (hM.pick [0, 1] rfl rfl) ?_; intro a hF
        refine h_skip 6 #[true, true, true, true, true, true, true, false, false, false, false, false] rfl (by kernel_rfl) hF rfl rfl rfl (hM.pick [0, 1] rfl rfl) ?_; intro a hF
        refine h_skip 7 #[true, true, true, true, true, true, true, true, false, false, false, false] rfl (by kernel_rfl) hF rfl rfl rfl (hM.pick [0, 1] rfl rfl) ?_; intro a hF
        refine h_skip 8 #[true, true, true, true, true, true, true, true, true, false, false, false] rfl (by kernel_rfl) hF rfl rfl rfl (hM.pick [0, 1] rfl rfl) ?_; intro a hF
        refine h_skip 9 #[true, true, true, true, true, true, true, true, true, true, false, false] rfl (by kernel_rfl) hF rfl rfl rfl (hM.pick [0, 1] rfl rfl) ?_; intro a hF
        refine h_skip 10 #[true, true, true, true, true, true, true, true, true, true, true, false] rfl (by kernel_rfl) hF rfl rfl rfl (hM.pick [0, 1] rfl rfl) ?_; intro a hF
        refine h_val 11 #[true, true, true, true, true, true, true, true, true, true, true, true] rfl (by kernel_rfl) hF rfl rfl rfl (fun w hS => e_pick_f hF rfl rfl) (hM.pick [0, 1] rfl rfl) ?_; intro a hF
        refine h_done rfl ?_
        refine then_n ?_
        refine s_cond_f hF rfl rfl ?_
        refine wp_exit ?_
        refine then_x ?_
        refine then_x ?_
        exact ⟨rfl, x14, some_some H, hF.sub _ ⟨rfl, rfl, rfl, trivial⟩, hM.pick [0, 1] rfl rfl⟩
  · rintro e a w ⟨rfl, x13, rfl, hF, hM⟩
    skip
    refine blk_x ?_
    refine then_n ?_
    refine wp_seq ?_
    refine wp_seq ?_
    rcases ite_cases H with ⟨c25, H⟩ | ⟨c25, H⟩
    ·
      obtain ⟨c26, H⟩ := ite_some H
      refine s_held (fun w => Ms X w0 w [rowR cd50 u0 l0, boxR b1 [Pt.ar a1.1, Pt.ar a1.2] 50]) #[false, false, false, false, false, false, false, false, false, false, false, false] mixed rfl rfl hM ?_; intro w hf hM; clear hf
      refine h_val 0 #[true, false, false, false, false, false, false, false, false, false, false, false] rfl (by kernel_rfl) hF rfl rfl rfl (fun w hS => e_move hF rfl) (hM.pick [0, 1] rfl rfl) ?_; intro a hF
      refine h_val 1 #[true, true, false, false, false, false, false, false, false, false, false, false] rfl (by kernel_rfl) hF rfl rfl rfl (fun w hS => e_move hF rfl) (hM.pick [0, 1] rfl rfl) ?_; intro a hF
      have f27 := (hM.sl 0 rfl).toF
      refine h_val 2 #[true, true, true, false, false, false, false, false, false, false, false, false] rfl (by kernel_rfl) hF rfl rfl rfl (fun w hS => e_len hF rfl f27 Try.underlying37) (hM.pick [0, 1] rfl rfl) ?_; intro a hF
      refine h_val 3 #[true, true, true, true, false, false, false, false, false, false, false, false] rfl (by kernel_rfl) hF rfl rfl rfl (fun w hS => e_lss hF rfl rfl) (hM.pick [0, 1] rfl rfl) ?_; intro a hF
      refine h_val 4 #[true, true, true, true, true, false, false, false, false, false, false, false] rfl (by kernel_rfl) hF rfl rfl rfl (fun w hS => e_move hF rfl) (hM.pick [0, 1] rfl rfl) ?_; intro a hF
      have hF := hF.topb (decide_eq_true c25)
      refine h_val 5 #[true, true, true, true, true, true, false, false, false, false, false, false] rfl (by kernel_rfl) hF rfl rfl rfl (fun w hS => e_move hF rfl) (hM.pick [0, 1] rfl rfl) ?_; intro a hF
      refine h_val 6 #[true, true, true, true, true, true, true, false, false, false, false, false] rfl (by kernel_rfl) hF rfl rfl rfl (fun w hS => e_move hF rfl) (hM.pick [0, 1] rfl rfl) ?_; intro a hF
      have f28 := (hM.sl 0 rfl).toF
      refine h_val 7 #[true, true, true, true, true, true, true, true, false, false, false, false] rfl (by kernel_rfl) hF rfl rfl rfl (fun w hS => e_ias cd50 hF rfl rfl f28 Try.underlying37 Try.sizeOf50 c26.1 c26.2) (hM.pick [0, 1] rfl rfl) ?_; intro a hF
      refine h_val 8 #[true, true, true, true, true, true, true, true, true, false, false, false] rfl (by kernel_rfl) hF rfl rfl rfl (fun w hS => e_ldsa (m := x13) hF rfl (hS.sl 0 rfl) (getD_some (z := ((Ar.zero 6), (Ar.zero 6))) c26.1 c26.2) Try.isAgg50 Try.sizeOf50) (hM.pick [0, 1] rfl rfl) ?_; intro a hF
      refine h_val 9 #[true, true, true, true, true, true, true, true, true, true, false, false] rfl (by kernel_rfl) hF rfl rfl rfl (fun w hS => e_lda (i := 1) 0 2 hF hS rfl rfl rfl rfl Try.isAgg50 Try.sizeOf50 rfl) (hM.pick [0, 1] rfl rfl) ?_; intro a hF
      refine h_val 10 #[true, true, true, true, true, true, true, true, true, true, true, false] rfl (by kernel_rfl) hF rfl rfl rfl (fun w hS => e_aggeq _ (run_eq2 (l0.getD (x13 : Int).toNat ((Ar.zero 6), (Ar.zero 6))) a1 Try.underlying50 Try.stoodInHeld50 (by decide) (by decide) rfl rfl rfl Try.underlying31 Try.underlying3 Try.sizeOf3 Try.isAgg3 Try.sizeOf31 Try.isAgg31) Try.eqGuardType50 hF rfl rfl) (hM.pick [0, 1] rfl rfl) ?_; intro a hF
      refine h_val 11 #[true, true, true, true, true, true, true, true, true, true, true, true] rfl (by kernel_rfl) hF rfl rfl rfl (fun w hS => e_pick_t hF rfl rfl) (hM.pick [0, 1] rfl rfl) ?_; intro a hF
      refine h_done rfl ?_
      refine then_n ?_
      rcases ite_cases H with ⟨c29, H⟩ | ⟨c29, H⟩
      ·
        refine s_cond_t hF rfl (decide_eq_true c29) ?_
        refine wp_seq ?_
        refine s_region ?_
        refine s_val hF rfl rfl rfl (e_move hF rfl) ?_; intro a hF
        refine s_val hF rfl rfl rfl (e_assign hF rfl) ?_; intro a hF
        refine s_nil ?_
        refine then_n ?_
        refine wp_ret ?_
        refine then_r ?_
        obtain rfl := some_some H
        refine s_ret [u0] hF Try.results43 ⟨rfl, trivial⟩ ?_
        exact ⟨_, rfl, u0, hM.pick [0] rfl rfl, rfl⟩
      ·
        refine s_cond_f hF rfl (decide_eq_false c29) ?_
        refine wp_skip ?_
        refine then_n ?_
        refine wp_seq ?_
        obtain ⟨c31, H⟩ := ite_some H
        obtain ⟨c33, H⟩ := ite_some H
        obtain ⟨c36, H⟩ := ite_some H
        obtain ⟨c37, H⟩ := ite_some H
        obtain ⟨c39, H⟩ := ite_some H
        refine wp_mono (Q := fun e a w => e = Exit.normal ∧ ∃ v38 : Value, ∃ v34 : Value, Fr 45 a [(4, v38)] ∧ Ms X w0 w [rowR cd50 v38 (((([] : List ((Ar 6) × (Ar 6))) ++ ((l0.take (x13 : Int).toNat).drop 0)) ++ [a1]) ++ ((l0.take l0.length).drop (x13 : Int).toNat)), rowR cd50 v34 [a1], rowR cd50 u0 l0, boxR b1 [Pt.ar a1.1, Pt.ar a1.2] 50]) ?_ ?_
        · skip
          refine s_held (fun w => Ms X w0 w [rowR cd50 u0 l0, boxR b1 [Pt.ar a1.1, Pt.ar a1.2] 50]) #[false, false, false, false, false, false, false, false, false, false, false, false, false] mixed rfl rfl hM ?_; intro w hf hM; clear hf
          refine h_val 1 #[false, true, false, false, false, false, false, false, false, false, false, false, false] rfl (by kernel_rfl) hF rfl rfl rfl (fun w hS => e_move hF rfl) (hM.pick [0, 1] rfl rfl) ?_; intro a hF
          refine h_val 2 #[false, true, true, false, false, false, false, false, false, false, false, false, false] rfl (by kernel_rfl) hF rfl rfl rfl (fun w hS => e_move hF rfl) (hM.pick [0, 1] rfl rfl) ?_; intro a hF
          have f40 := (hM.sl 0 rfl).toF
          refine h_val 3 #[false, true, true, true, false, false, false, false, false, false, false, false, false] rfl (by kernel_rfl) hF rfl rfl rfl (fun w hS => e_sl_h hF rfl rfl f40 Try.underlying37 Try.sizeOf50 c31) (hM.pick [0, 1] rfl rfl) ?_; intro a hF
          refine h_val 5 #[false, true, true, true, false, true, false, false, false, false, false, false, false] rfl (by kernel_rfl) hF rfl rfl rfl (fun w hS => e_lda (i := 1) 0 2 hF hS rfl rfl rfl rfl Try.isAgg50 Try.sizeOf50 rfl) (hM.pick [0, 1] rfl rfl) ?_; intro a hF
          refine h_val 8 #[false, true, true, true, false, true, false, false, true, false, false, false, false] rfl (by kernel_rfl) hF rfl rfl rfl (fun w hS => e_move hF rfl) (hM.pick [0, 1] rfl rfl) ?_; intro a hF
          refine h_val 9 #[false, true, true, true, false, true, false, false, true, true, false, false, false] rfl (by kernel_rfl) hF rfl rfl rfl (fun w hS => e_move hF rfl) (hM.pick [0, 1] rfl rfl) ?_; intro a hF
          have f41 := (hM.sl 0 rfl).toF
          refine h_val 10 #[false, true, true, true, false, true, false, false, true, true, true, false, false] rfl (by kernel_rfl) hF rfl rfl rfl (fun w hS => e_sl_l hF rfl rfl f41 Try.underlying37 Try.sizeOf50 c37) (hM.pick [0, 1] rfl rfl) ?_; intro a hF
          refine h_two 0 6 #[true, true, true, true, false, true, false, false, true, true, true, false, false] #[false, true, true, true, false, true, true, false, true, true, true, false, false] rfl rfl rfl rfl (by kernel_rfl) ?_ ?_
          · skip
            refine s_bsl (C := cd50) ([] : List ((Ar 6) × (Ar 6))) cdok50 hF hM rfl rfl rfl rfl Try.underlying37 rfl ?_; intro a w v30 hF hM
            refine s_nil ⟨rfl, (hM.pick [1, 2] rfl rfl), ?_⟩
            refine h_two 4 6 #[true, true, true, true, true, true, false, false, true, true, true, false, false] #[true, true, true, true, false, true, true, false, true, true, true, false, false] rfl rfl rfl rfl (by kernel_rfl) ?_ ?_
            · skip
              refine s_append (i := 0) cdok50 hF hM rfl rfl rfl rfl rfl ((hM.sl 1 rfl).sub 0 (x13 : Int).toNat (sl_0_i' c31).1 (sl_0_i' c31).2) Try.underlying37 c33 ?_; intro a w v32 hF hM
              refine s_nil ⟨rfl, (hM.pick [1, 2] rfl rfl), ?_⟩
              refine h_one 6 #[true, true, true, true, true, true, true, false, true, true, true, false, false] rfl (by kernel_rfl) ?_
              refine s_bsl (C := cd50) [a1] cdok50 hF hM rfl rfl rfl rfl Try.underlying37 rfl ?_; intro a w v34 hF hM
              refine s_nil ⟨rfl, (hM.pick [2, 3] rfl rfl), ?_⟩
              refine h_one 7 #[true, true, true, true, true, true, true, true, true, true, true, false, false] rfl (by kernel_rfl) ?_
              refine s_append (i := 1) cdok50 hF hM rfl rfl rfl rfl rfl (hM.sl 0 rfl) Try.underlying37 c36 ?_; intro a w v35 hF hM
              refine s_nil ⟨rfl, (hM.pick [2, 3] rfl rfl), ?_⟩
              refine h_one 11 #[true, true, true, true, true, true, true, true, true, true, true, true, false] rfl (by kernel_rfl) ?_
              refine s_append (i := 1) cdok50 hF hM rfl rfl rfl rfl rfl ((hM.sl 2 rfl).sub (x13 : Int).toNat l0.length (sl_lo_n' c37).1 (sl_lo_n' c37).2) Try.underlying37 c39 ?_; intro a w v38 hF hM
              refine s_nil ⟨rfl, (hM.pick [2, 3] rfl rfl), ?_⟩
              refine h_val 12 #[true, true, true, true, true, true, true, true, true, true, true, true, true] rfl (by kernel_rfl) hF rfl rfl rfl (fun w hS => e_assign hF rfl) (hM.pick [2, 3] rfl rfl) ?_; intro a hF
              exact h_done rfl ⟨rfl, v38, v34, hF.sub _ ⟨rfl, trivial⟩, hM.pick [1, 0, 2, 3] rfl rfl⟩
            · skip
              refine s_bsl (C := cd50) [a1] cdok50 hF hM rfl rfl rfl rfl Try.underlying37 rfl ?_; intro a w v34 hF hM
              refine s_nil ⟨rfl, (hM.pick [2, 3] rfl rfl), ?_⟩
              refine h_one 4 #[true, true, true, true, true, true, true, false, true, true, true, false, false] rfl (by kernel_rfl) ?_
              refine s_append (i := 1) cdok50 hF hM rfl rfl rfl rfl rfl ((hM.sl 2 rfl).sub 0 (x13 : Int).toNat (sl_0_i' c31).1 (sl_0_i' c31).2) Try.underlying37 c33 ?_; intro a w v32 hF hM
              refine s_nil ⟨rfl, (hM.pick [2, 3] rfl rfl), ?_⟩
              refine h_one 7 #[true, true, true, true, true, true, true, true, true, true, true, false, false] rfl (by kernel_rfl) ?_
              refine s_append (i := 1) cdok50 hF hM rfl rfl rfl rfl rfl (hM.sl 0 rfl) Try.underlying37 c36 ?_; intro a w v35 hF hM
              refine s_nil ⟨rfl, (hM.pick [2, 3] rfl rfl), ?_⟩
              refine h_one 11 #[true, true, true, true, true, true, true, true, true, true, true, true, false] rfl (by kernel_rfl) ?_
              refine s_append (i := 1) cdok50 hF hM rfl rfl rfl rfl rfl ((hM.sl 2 rfl).sub (x13 : Int).toNat l0.length (sl_lo_n' c37).1 (sl_lo_n' c37).2) Try.underlying37 c39 ?_; intro a w v38 hF hM
              refine s_nil ⟨rfl, (hM.pick [2, 3] rfl rfl), ?_⟩
              refine h_val 12 #[true, true, true, true, true, true, true, true, true, true, true, true, true] rfl (by kernel_rfl) hF rfl rfl rfl (fun w hS => e_assign hF rfl) (hM.pick [2, 3] rfl rfl) ?_; intro a hF
              exact h_done rfl ⟨rfl, v38, v34, hF.sub _ ⟨rfl, trivial⟩, hM.pick [1, 0, 2, 3] rfl rfl⟩
          · skip
            refine s_bsl (C := cd50) [a1] cdok50 hF hM rfl rfl rfl rfl Try.underlying37 rfl ?_; intro a w v34 hF hM
            refine s_nil ⟨rfl, (hM.pick [1, 2] rfl rfl), ?_⟩
            refine h_one 0 #[true, true, true, true, false, true, true, false, true, true, true, false, false] rfl (by kernel_rfl) ?_
            refine s_bsl (C := cd50) ([] : List ((Ar 6) × (Ar 6))) cdok50 hF hM rfl rfl rfl rfl Try.underlying37 rfl ?_; intro a w v30 hF hM
            refine s_nil ⟨rfl, (hM.pick [2, 3] rfl rfl), ?_⟩
            refine h_one 4 #[true, true, true, true, true, true, true, false, true, true, true, false, false] rfl (by kernel_rfl) ?_
            refine s_append (i := 0) cdok50 hF hM rfl rfl rfl rfl rfl ((hM.sl 2 rfl).sub 0 (x13 : Int).toNat (sl_0_i' c31).1 (sl_0_i' c31).2) Try.underlying37 c33 ?_; intro a w v32 hF hM
            refine s_nil ⟨rfl, (hM.pick [2, 3] rfl rfl), ?_⟩
            refine h_one 7 #[true, true, true, true, true, true, true, true, true, true, true, false, false] rfl (by kernel_rfl) ?_
            refine s_append (i := 0) cdok50 hF hM rfl rfl rfl rfl rfl (hM.sl 1 rfl) Try.underlying37 c36 ?_; intro a w v35 hF hM
            refine s_nil ⟨rfl, (hM.pick [2, 3] rfl rfl), ?_⟩
            refine h_one 11 #[true, true, true, true, true, true, true, true, true, true, true, true, false] rfl (by kernel_rfl) ?_
            refine s_append (i := 0) cdok50 hF hM rfl rfl rfl rfl rfl ((hM.sl 2 rfl).sub (x13 : Int).toNat l0.length (sl_lo_n' c37).1 (sl_lo_n' c37).2) Try.underlying37 c39 ?_; intro a w v38 hF hM
            refine s_nil ⟨rfl, (hM.pick [2, 3] rfl rfl), ?_⟩
            refine h_val 12 #[true, true, true, true, true, true, true, true, true, true, true, true, true] rfl (by kernel_rfl) hF rfl rfl rfl (fun w hS => e_assign hF rfl) (hM.pick [2, 3] rfl rfl) ?_; intro a hF
            exact h_done rfl ⟨rfl, v38, v34, hF.sub _ ⟨rfl, trivial⟩, hM.pick [0, 1, 2, 3] rfl rfl⟩
        rintro e a w ⟨rfl, v38, v34, hF, hM⟩
        refine then_n ?_
        refine wp_ret ?_
        obtain rfl := some_some H
        refine s_ret [v38] hF Try.results43 ⟨rfl, trivial⟩ ?_
        exact ⟨_, rfl, v38, hM.pick [0] rfl rfl, rfl⟩
    ·
      refine s_held (fun w => Ms X w0 w [rowR cd50 u0 l0, boxR b1 [Pt.ar a1.1, Pt.ar a1.2] 50]) #[false, false, false, false, false, false, false, false, false, false, false, false] mixed rfl rfl hM ?_; intro w hf hM; clear hf
      refine h_val 0 #[true, false, false, false, false, false, false, false, false, false, false, false] rfl (by kernel_rfl) hF rfl rfl rfl (fun w hS => e_move hF rfl) (hM.pick [0, 1] rfl rfl) ?_; intro a hF
      refine h_val 1 #[true, true, false, false, false, false, false, false, false, false, false, false] rfl (by kernel_rfl) hF rfl rfl rfl (fun w hS => e_move hF rfl) (hM.pick [0, 1] rfl rfl) ?_; intro a hF
      have f42 := (hM.sl 0 rfl).toF
      refine h_val 2 #[true, true, true, false, false, false, false, false, false, false, false, false] rfl (by kernel_rfl) hF rfl rfl rfl (fun w hS => e_len hF rfl f42 Try.underlying37) (hM.pick [0, 1] rfl rfl) ?_; intro a hF
      refine h_val 3 #[true, true, true, true, false, false, false, false, false, false, false, false] rfl (by kernel_rfl) hF rfl rfl rfl (fun w hS => e_lss hF rfl rfl) (hM.pick [0, 1] rfl rfl) ?_; intro a hF
      refine h_val 4 #[true, true, true, true, true, false, false, false, false, false, false, false] rfl (by kernel_rfl) hF rfl rfl rfl (fun w hS => e_move hF rfl) (hM.pick [0, 1] rfl rfl) ?_; intro a hF
      have hF := hF.topb (decide_eq_false c25)
      refine h_skip 5 #[true, true, true, true, true, true, false, false, false, false, false, false] rfl (by kernel_rfl) hF rfl rfl rfl (hM.pick [0, 1] rfl rfl) ?_; intro a hF
      refine h_skip 6 #[true, true, true, true, true, true, true, false, false, false, false, false] rfl (by kernel_rfl) hF rfl rfl rfl (hM.pick [0, 1] rfl rfl) ?_; intro a hF
      refine h_skip 7 #[true, true, true, true, true, true, true, true, false, false, false, false] rfl (by kernel_rfl) hF rfl rfl rfl (hM.pick [0, 1] rfl rfl) ?_; intro a hF
      refine h_skip 8 #[true, true, true, true, true, true, true, true, true, false, false, false] rfl (by kernel_rfl) hF rfl rfl rfl (hM.pick [0, 1] rfl rfl) ?_; intro a hF
      refine h_skip 9 #[true, true, true, true, true, true, true, true, true, true, false, false] rfl (by kernel_rfl) hF rfl rfl rfl (hM.pick [0, 1] rfl rfl) ?_; intro a hF
      refine h_skip 10 #[true, true, true, true, true, true, true, true, true, true, true, false] rfl (by kernel_rfl) hF rfl rfl rfl (hM.pick [0, 1] rfl rfl) ?_; intro a hF
      refine h_val 11 #[true, true, true, true, true, true, true, true, true, true, true, true] rfl (by kernel_rfl) hF rfl rfl rfl (fun w hS => e_pick_f hF rfl rfl) (hM.pick [0, 1] rfl rfl) ?_; intro a hF
      refine h_done rfl ?_
      refine then_n ?_
      refine s_cond_f hF rfl rfl ?_
      refine wp_skip ?_
      refine then_n ?_
      refine wp_seq ?_
      obtain ⟨c44, H⟩ := ite_some H
      obtain ⟨c46, H⟩ := ite_some H
      obtain ⟨c49, H⟩ := ite_some H
      obtain ⟨c50, H⟩ := ite_some H
      obtain ⟨c52, H⟩ := ite_some H
      refine wp_mono (Q := fun e a w => e = Exit.normal ∧ ∃ v51 : Value, ∃ v47 : Value, Fr 45 a [(4, v51)] ∧ Ms X w0 w [rowR cd50 v51 (((([] : List ((Ar 6) × (Ar 6))) ++ ((l0.take (x13 : Int).toNat).drop 0)) ++ [a1]) ++ ((l0.take l0.length).drop (x13 : Int).toNat)), rowR cd50 v47 [a1], rowR cd50 u0 l0, boxR b1 [Pt.ar a1.1, Pt.ar a1.2] 50]) ?_ ?_
      · skip
        refine s_held (fun w => Ms X w0 w [rowR cd50 u0 l0, boxR b1 [Pt.ar a1.1, Pt.ar a1.2] 50]) #[false, false, false, false, false, false, false, false, false, false, false, false, false] mixed rfl rfl hM ?_; intro w hf hM; clear hf
        refine h_val 1 #[false, true, false, false, false, false, false, false, false, false, false, false, false] rfl (by kernel_rfl) hF rfl rfl rfl (fun w hS => e_move hF rfl) (hM.pick [0, 1] rfl rfl) ?_; intro a hF
        refine h_val 2 #[false, true, true, false, false, false, false, false, false, false, false, false, false] rfl (by kernel_rfl) hF rfl rfl rfl (fun w hS => e_move hF rfl) (hM.pick [0, 1] rfl rfl) ?_; intro a hF
        have f53 := (hM.sl 0 rfl).toF
        refine h_val 3 #[false, true, true, true, false, false, false, false, false, false, false, false, false] rfl (by kernel_rfl) hF rfl rfl rfl (fun w hS => e_sl_h hF rfl rfl f53 Try.underlying37 Try.sizeOf50 c44) (hM.pick [0, 1] rfl rfl) ?_; intro a hF
        refine h_val 5 #[false, true, true, true, false, true, false, false, false, false, false, false, false] rfl (by kernel_rfl) hF rfl rfl rfl (fun w hS => e_lda (i := 1) 0 2 hF hS rfl rfl rfl rfl Try.isAgg50 Try.sizeOf50 rfl) (hM.pick [0, 1] rfl rfl) ?_; intro a hF
        refine h_val 8 #[false, true, true, true, false, true, false, false, true, false, false, false, false] rfl (by kernel_rfl) hF rfl rfl rfl (fun w hS => e_move hF rfl) (hM.pick [0, 1] rfl rfl) ?_; intro a hF
        refine h_val 9 #[false, true, true, true, false, true, false, false, true, true, false, false, false] rfl (by kernel_rfl) hF rfl rfl rfl (fun w hS => e_move hF rfl) (hM.pick [0, 1] rfl rfl) ?_; intro a hF
        have f54 := (hM.sl 0 rfl).toF
        refine h_val 10 #[false, true, true, true, false, true, false, false, true, true, true, false, false] rfl (by kernel_rfl) hF rfl rfl rfl (fun w hS => e_sl_l hF rfl rfl f54 Try.underlying37 Try.sizeOf50 c50) (hM.pick [0, 1] rfl rfl) ?_; intro a hF
        refine h_two 0 6 #[true, true, true, true, false, true, false, false, true, true, true, false, false] #[false, true, true, true, false, true, true, false, true, true, true, false, false] rfl rfl rfl rfl (by kernel_rfl) ?_ ?_
        · skip
          refine s_bsl (C := cd50) ([] : List ((Ar 6) × (Ar 6))) cdok50 hF hM rfl rfl rfl rfl Try.underlying37 rfl ?_; intro a w v43 hF hM
          refine s_nil ⟨rfl, (hM.pick [1, 2] rfl rfl), ?_⟩
          refine h_two 4 6 #[true, true, true, true, true, true, false, false, true, true, true, false, false] #[true, true, true, true, false, true, true, false, true, true, true, false, false] rfl rfl rfl rfl (by kernel_rfl) ?_ ?_
          · skip
            refine s_append (i := 0) cdok50 hF hM rfl rfl rfl rfl rfl ((hM.sl 1 rfl).sub 0 (x13 : Int).toNat (sl_0_i' c44).1 (sl_0_i' c44).2) Try.underlying37 c46 ?_; intro a w v45 hF hM
            refine s_nil ⟨rfl, (hM.pick [1, 2] rfl rfl), ?_⟩
            refine h_one 6 #[true, true, true, true, true, true, true, false, true, true, true, false, false] rfl (by kernel_rfl) ?_
            refine s_bsl (C := cd50) [a1] cdok50 hF hM rfl rfl rfl rfl Try.underlying37 rfl ?_; intro a w v47 hF hM
            refine s_nil ⟨rfl, (hM.pick [2, 3] rfl rfl), ?_⟩
            refine h_one 7 #[true, true, true, true, true, true, true, true, true, true, true, false, false] rfl (by kernel_rfl) ?_
            refine s_append (i := 1) cdok50 hF hM rfl rfl rfl rfl rfl (hM.sl 0 rfl) Try.underlying37 c49 ?_; intro a w v48 hF hM
            refine s_nil ⟨rfl, (hM.pick [2, 3] rfl rfl), ?_⟩
            refine h_one 11 #[true, true, true, true, true, true, true, true, true, true, true, true, false] rfl (by kernel_rfl) ?_
            refine s_append (i := 1) cdok50 hF hM rfl rfl rfl rfl rfl ((hM.sl 2 rfl).sub (x13 : Int).toNat l0.length (sl_lo_n' c50).1 (sl_lo_n' c50).2) Try.underlying37 c52 ?_; intro a w v51 hF hM
            refine s_nil ⟨rfl, (hM.pick [2, 3] rfl rfl), ?_⟩
            refine h_val 12 #[true, true, true, true, true, true, true, true, true, true, true, true, true] rfl (by kernel_rfl) hF rfl rfl rfl (fun w hS => e_assign hF rfl) (hM.pick [2, 3] rfl rfl) ?_; intro a hF
            exact h_done rfl ⟨rfl, v51, v47, hF.sub _ ⟨rfl, trivial⟩, hM.pick [1, 0, 2, 3] rfl rfl⟩
          · skip
            refine s_bsl (C := cd50) [a1] cdok50 hF hM rfl rfl rfl rfl Try.underlying37 rfl ?_; intro a w v47 hF hM
            refine s_nil ⟨rfl, (hM.pick [2, 3] rfl rfl), ?_⟩
            refine h_one 4 #[true, true, true, true, true, true, true, false, true, true, true, false, false] rfl (by kernel_rfl) ?_
            refine s_append (i := 1) cdok50 hF hM rfl rfl rfl rfl rfl ((hM.sl 2 rfl).sub 0 (x13 : Int).toNat (sl_0_i' c44).1 (sl_0_i' c44).2) Try.underlying37 c46 ?_; intro a w v45 hF hM
            refine s_nil ⟨rfl, (hM.pick [2, 3] rfl rfl), ?_⟩
            refine h_one 7 #[true, true, true, true, true, true, true, true, true, true, true, false, false] rfl (by kernel_rfl) ?_
            refine s_append (i := 1) cdok50 hF hM rfl rfl rfl rfl rfl (hM.sl 0 rfl) Try.underlying37 c49 ?_; intro a w v48 hF hM
            refine s_nil ⟨rfl, (hM.pick [2, 3] rfl rfl), ?_⟩
            refine h_one 11 #[true, true, true, true, true, true, true, true, true, true, true, true, false] rfl (by kernel_rfl) ?_
            refine s_append (i := 1) cdok50 hF hM rfl rfl rfl rfl rfl ((hM.sl 2 rfl).sub (x13 : Int).toNat l0.length (sl_lo_n' c50).1 (sl_lo_n' c50).2) Try.underlying37 c52 ?_; intro a w v51 hF hM
            refine s_nil ⟨rfl, (hM.pick [2, 3] rfl rfl), ?_⟩
            refine h_val 12 #[true, true, true, true, true, true, true, true, true, true, true, true, true] rfl (by kernel_rfl) hF rfl rfl rfl (fun w hS => e_assign hF rfl) (hM.pick [2, 3] rfl rfl) ?_; intro a hF
            exact h_done rfl ⟨rfl, v51, v47, hF.sub _ ⟨rfl, trivial⟩, hM.pick [1, 0, 2, 3] rfl rfl⟩
        · skip
          refine s_bsl (C := cd50) [a1] cdok50 hF hM rfl rfl rfl rfl Try.underlying37 rfl ?_; intro a w v47 hF hM
          refine s_nil ⟨rfl, (hM.pick [1, 2] rfl rfl), ?_⟩
          refine h_one 0 #[true, true, true, true, false, true, true, false, true, true, true, false, false] rfl (by kernel_rfl) ?_
          refine s_bsl (C := cd50) ([] : List ((Ar 6) × (Ar 6))) cdok50 hF hM rfl rfl rfl rfl Try.underlying37 rfl ?_; intro a w v43 hF hM
          refine s_nil ⟨rfl, (hM.pick [2, 3] rfl rfl), ?_⟩
          refine h_one 4 #[true, true, true, true, true, true, true, false, true, true, true, false, false] rfl (by kernel_rfl) ?_
          refine s_append (i := 0) cdok50 hF hM rfl rfl rfl rfl rfl ((hM.sl 2 rfl).sub 0 (x13 : Int).toNat (sl_0_i' c44).1 (sl_0_i' c44).2) Try.underlying37 c46 ?_; intro a w v45 hF hM
          refine s_nil ⟨rfl, (hM.pick [2, 3] rfl rfl), ?_⟩
          refine h_one 7 #[true, true, true, true, true, true, true, true, true, true, true, false, false] rfl (by kernel_rfl) ?_
          refine s_append (i := 0) cdok50 hF hM rfl rfl rfl rfl rfl (hM.sl 1 rfl) Try.underlying37 c49 ?_; intro a w v48 hF hM
          refine s_nil ⟨rfl, (hM.pick [2, 3] rfl rfl), ?_⟩
          refine h_one 11 #[true, true, true, true, true, true, true, true, true, true, true, true, false] rfl (by kernel_rfl) ?_
          refine s_append (i := 0) cdok50 hF hM rfl rfl rfl rfl rfl ((hM.sl 2 rfl).sub (x13 : Int).toNat l0.length (sl_lo_n' c50).1 (sl_lo_n' c50).2) Try.underlying37 c52 ?_; intro a w v51 hF hM
          refine s_nil ⟨rfl, (hM.pick [2, 3] rfl rfl), ?_⟩
          refine h_val 12 #[true, true, true, true, true, true, true, true, true, true, true, true, true] rfl (by kernel_rfl) hF rfl rfl rfl (fun w hS => e_assign hF rfl) (hM.pick [2, 3] rfl rfl) ?_; intro a hF
          exact h_done rfl ⟨rfl, v51, v47, hF.sub _ ⟨rfl, trivial⟩, hM.pick [0, 1, 2, 3] rfl rfl⟩
      rintro e a w ⟨rfl, v51, v47, hF, hM⟩
      refine then_n ?_
      refine wp_ret ?_
      obtain rfl := some_some H
      refine s_ret [v51] hF Try.results43 ⟨rfl, trivial⟩ ?_
      exact ⟨_, rfl, v51, hM.pick [0] rfl rfl, rfl⟩

/-! ### loop.example/g01210/spec.l5Like: function 38 -/
def spec_l5Like.l3 (K : Nat) (t87 : (List ((Ar 6) × (Ar 6)))) : Nat → Int → (List ((Ar 6) × (Ar 6))) → Option (List ((Ar 6) × (Ar 6)))
  | 0, _, _ => none
  | k + 1, x105, x107 => if x105 < (t87.length : Int) then (if (0 : Int) ≤ x105 ∧ x105 < (t87.length : Int) then ((spec_l5Put.f K x107 (t87.getD (x105 : Int).toNat ((Ar.zero 6), (Ar.zero 6)))).bind fun t110 => spec_l5Like.l3 K t87 k (wrap64 (x105 + 1)) t110) else none) else (some x107)
def spec_l5Like.l2 (K : Nat) (l0 : (List (Ar 6))) (t2 : (Ar 121)) : Nat → Int → (List ((Ar 6) × (Ar 6))) → Option (List ((Ar 6) × (Ar 6)))
  | 0, _, _ => none
  | k + 1, x79, x81 => if x79 ≤ (wrap64 (((l0.getD (0 : Int).toNat (Ar.zero 6)).get 0) + ((l0.getD (1 : Int).toNat (Ar.zero 6)).get 0))) then (if x79 ≤ 30 then (if 30 < (wrap64 ((wrap64 (((l0.getD (0 : Int).toNat (Ar.zero 6)).get 0) + ((l0.getD (1 : Int).toNat (Ar.zero 6)).get 0))) - x79)) then (spec_l5Like.l2 K l0 t2 k (wrap64 (x79 + 1)) x81) else ((spec_l5Search.f K t2 [x79] [(wrap64 ((wrap64 (((l0.getD (0 : Int).toNat (Ar.zero 6)).get 0) + ((l0.getD (1 : Int).toNat (Ar.zero 6)).get 0))) - x79))]).bind fun t87 => (spec_l5Like.l3 K t87 K 0 x81).bind fun x104 => spec_l5Like.l2 K l0 t2 k (wrap64 (x79 + 1)) x104)) else (some x81)) else (some x81)
def spec_l5Like.f (K : Nat) (l0 : (List (Ar 6))) : Option (List ((Ar 6) × (Ar 6))) := (spec_l2Table.f K l0).bind fun t2 => if (0 : Int) ≤ 0 ∧ 0 < (l0.length : Int) then (if (0 : Int) ≤ 1 ∧ 1 < (l0.length : Int) then ((spec_l5Like.l2 K l0 t2 K 0 ([] : List ((Ar 6) × (Ar 6)))).bind fun x78 => some x78) else none) else none
set_option maxRecDepth 100000 in
set_option maxHeartbeats 4000000 in
theorem spec_l5Like.calls {w0 : World} (K : Nat) (l0 : (List (Ar 6))) (u0 : Value) (q0 : SlR cd31 w0 u0 l0) (r : (List ((Ar 6) × (Ar 6)))) (H : spec_l5Like.f K l0 = some r) : Calls Try.prog 38 [u0].toArray w0 (Post w0 fun w v => Fresh cd50 w0.heap.size w v r) := by
  rw [spec_l5Like.f] at H
  refine s_start Try.func38 rfl Try.ntmps38 rfl ?_
  intro a hF
  have hM := Ms.start w0
  skip
  refine wp_seq ?_
  refine s_region ?_
  refine s_val hF rfl rfl rfl (e_assign hF rfl) ?_; intro a hF
  refine s_nil ?_
  refine then_n ?_
  refine wp_seq ?_
  obtain ⟨t2, h3, H⟩ := bind_some H
  obtain ⟨c4, H⟩ := ite_some H
  obtain ⟨c5, H⟩ := ite_some H
  refine wp_mono (Q := fun e a w => e = Exit.normal ∧ ∃ v1 : Value, ∃ b6 : Nat, Fr 55 a [(3, v1), (4, pt b6 0), (5, Value.int .i64 (wrap64 (((l0.getD (0 : Int).toNat (Ar.zero 6)).get 0) + ((l0.getD (1 : Int).toNat (Ar.zero 6)).get 0))))] ∧ Ms [] w0 w [rowR cd50 v1 ([] : List ((Ar 6) × (Ar 6))), boxR b6 [Pt.ar t2] 43]) ?_ ?_
  · skip
    refine s_held (fun w => Ms [] w0 w []) #[false, false, false, false, false, false, false, false, false, false, false, false, false, false, false, false] mixed rfl rfl hM ?_; intro w hf hM; clear hf
    refine h_val 1 #[false, true, false, false, false, false, false, false, false, false, false, false, false, false, false, false] rfl (by kernel_rfl) hF rfl rfl rfl (fun w hS => e_move hF rfl) (hM.pick [] rfl rfl) ?_; intro a hF
    refine h_val 3 #[false, true, false, true, false, false, false, false, false, false, false, false, false, false, false, false] rfl (by kernel_rfl) hF rfl rfl rfl (fun w hS => e_move hF rfl) (hM.pick [] rfl rfl) ?_; intro a hF
    have f7 := (q0.frm hM.frm).toF
    refine h_val 4 #[false, true, false, true, true, false, false, false, false, false, false, false, false, false, false, false] rfl (by kernel_rfl) hF rfl rfl rfl (fun w hS => e_ias cd31 hF rfl rfl f7 Try.underlying22 Try.sizeOf31 c4.1 c4.2) (hM.pick [] rfl rfl) ?_; intro a hF
    refine h_val 5 #[false, true, false, true, true, true, false, false, false, false, false, false, false, false, false, false] rfl (by kernel_rfl) hF rfl rfl rfl (fun w hS => e_ia hF rfl rfl Try.underlying31 Try.sizeOf3 (by decide) (by decide)) (hM.pick [] rfl rfl) ?_; intro a hF
    refine h_val 6 #[false, true, false, true, true, true, true, false, false, false, false, false, false, false, false, false] rfl (by kernel_rfl) hF rfl rfl rfl (fun w hS => e_ldsi (m := 0) (p := 0) (o := 0) (k := 0) hF rfl (q0.frm hS.frm) (getD_some (z := (Ar.zero 6)) c4.1 c4.2) rfl rfl Try.isAgg3 (by decide) (by decide)) (hM.pick [] rfl rfl) ?_; intro a hF
    refine h_val 7 #[false, true, false, true, true, true, true, true, false, false, false, false, false, false, false, false] rfl (by kernel_rfl) hF rfl rfl rfl (fun w hS => e_move hF rfl) (hM.pick [] rfl rfl) ?_; intro a hF
    have f8 := (q0.frm hM.frm).toF
    refine h_val 8 #[false, true, false, true, true, true, true, true, true, false, false, false, false, false, false, false] rfl (by kernel_rfl) hF rfl rfl rfl (fun w hS => e_ias cd31 hF rfl rfl f8 Try.underlying22 Try.sizeOf31 c5.1 c5.2) (hM.pick [] rfl rfl) ?_; intro a hF
    refine h_val 9 #[false, true, false, true, true, true, true, true, true, true, false, false, false, false, false, false] rfl (by kernel_rfl) hF rfl rfl rfl (fun w hS => e_ia hF rfl rfl Try.underlying31 Try.sizeOf3 (by decide) (by decide)) (hM.pick [] rfl rfl) ?_; intro a hF
    refine h_val 10 #[false, true, false, true, true, true, true, true, true, true, true, false, false, false, false, false] rfl (by kernel_rfl) hF rfl rfl rfl (fun w hS => e_ldsi (m := 1) (p := 0) (o := 0) (k := 0) hF rfl (q0.frm hS.frm) (getD_some (z := (Ar.zero 6)) c5.1 c5.2) rfl rfl Try.isAgg3 (by decide) (by decide)) (hM.pick [] rfl rfl) ?_; intro a hF
    refine h_val 11 #[false, true, false, true, true, true, true, true, true, true, true, true, false, false, false, false] rfl (by kernel_rfl) hF rfl rfl rfl (fun w hS => e_add hF rfl rfl) (hM.pick [] rfl rfl) ?_; intro a hF
    refine h_three 0 2 12 #[true, true, false, true, true, true, true, true, true, true, true, true, false, false, false, false] #[false, true, true, true, true, true, true, true, true, true, true, true, false, false, false, false] #[false, true, false, true, true, true, true, true, true, true, true, true, true, false, false, false] rfl rfl rfl rfl rfl rfl (by kernel_rfl) ?_ ?_ ?_
    · skip
      refine s_bsl (C := cd50) ([] : List ((Ar 6) × (Ar 6))) cdok50 hF hM rfl rfl rfl rfl Try.underlying37 rfl ?_; intro a w v1 hF hM
      refine s_nil ⟨rfl, (hM.pick [] rfl rfl), ?_⟩
      refine h_two 2 12 #[true, true, true, true, true, true, true, true, true, true, true, true, false, false, false, false] #[true, true, false, true, true, true, true, true, true, true, true, true, true, false, false, false] rfl rfl rfl rfl (by kernel_rfl) ?_ ?_
      · skip
        refine s_call hF rfl rfl rfl Try.call29 (spec_l2Table.calls K l0 u0 (q0.frm hM.frm) t2 h3) ?_; intro a w v hF hf hR
        subst hR; have hM := hM.grow hf
        refine s_nil ⟨rfl, (hM.pick [] rfl rfl), ?_⟩
        refine h_one 12 #[true, true, true, true, true, true, true, true, true, true, true, true, true, false, false, false] rfl (by kernel_rfl) ?_
        refine s_alloc (ps := [Pt.ar (Ar.zero 121)]) hF hM rfl rfl zv43 rfl ?_; intro a w b6 hF hM
        refine s_nil ⟨rfl, (hM.pick [] rfl rfl), ?_⟩
        refine h_val 13 #[true, true, true, true, true, true, true, true, true, true, true, true, true, true, false, false] rfl (by kernel_rfl) hF rfl rfl rfl (fun w hS => e_assign hF rfl) (hM.pick [] rfl rfl) ?_; intro a hF
        refine h_one 14 #[true, true, true, true, true, true, true, true, true, true, true, true, true, true, true, false] rfl (by kernel_rfl) ?_
        refine s_stw (i := 0) (ps' := [Pt.ar t2]) hF hM rfl rfl rfl rfl rfl rfl Try.sizeOf43 rfl ?_; intro a w hF hM
        refine s_nil ⟨rfl, (hM.pick [] rfl rfl), ?_⟩
        refine h_val 15 #[true, true, true, true, true, true, true, true, true, true, true, true, true, true, true, true] rfl (by kernel_rfl) hF rfl rfl rfl (fun w hS => e_assign hF rfl) (hM.pick [] rfl rfl) ?_; intro a hF
        exact h_done rfl ⟨rfl, v1, b6, hF.sub _ ⟨rfl, rfl, rfl, trivial⟩, hM.pick [1, 0] rfl rfl⟩
      · skip
        refine s_alloc (ps := [Pt.ar (Ar.zero 121)]) hF hM rfl rfl zv43 rfl ?_; intro a w b6 hF hM
        refine s_nil ⟨rfl, (hM.pick [] rfl rfl), ?_⟩
        refine h_one 2 #[true, true, true, true, true, true, true, true, true, true, true, true, true, false, false, false] rfl (by kernel_rfl) ?_
        refine s_call hF rfl rfl rfl Try.call29 (spec_l2Table.calls K l0 u0 (q0.frm hM.frm) t2 h3) ?_; intro a w v hF hf hR
        subst hR; have hM := hM.grow hf
        refine s_nil ⟨rfl, (hM.pick [] rfl rfl), ?_⟩
        refine h_val 13 #[true, true, true, true, true, true, true, true, true, true, true, true, true, true, false, false] rfl (by kernel_rfl) hF rfl rfl rfl (fun w hS => e_assign hF rfl) (hM.pick [] rfl rfl) ?_; intro a hF
        refine h_one 14 #[true, true, true, true, true, true, true, true, true, true, true, true, true, true, true, false] rfl (by kernel_rfl) ?_
        refine s_stw (i := 0) (ps' := [Pt.ar t2]) hF hM rfl rfl rfl rfl rfl rfl Try.sizeOf43 rfl ?_; intro a w hF hM
        refine s_nil ⟨rfl, (hM.pick [] rfl rfl), ?_⟩
        refine h_val 15 #[true, true, true, true, true, true, true, true, true, true, true, true, true, true, true, true] rfl (by kernel_rfl) hF rfl rfl rfl (fun w hS => e_assign hF rfl) (hM.pick [] rfl rfl) ?_; intro a hF
        exact h_done rfl ⟨rfl, v1, b6, hF.sub _ ⟨rfl, rfl, rfl, trivial⟩, hM.pick [1, 0] rfl rfl⟩
    · skip
      refine s_call hF rfl rfl rfl Try.call29 (spec_l2Table.calls K l0 u0 (q0.frm hM.frm) t2 h3) ?_; intro a w v hF hf hR
      subst hR; have hM := hM.grow hf
      refine s_nil ⟨rfl, (hM.pick [] rfl rfl), ?_⟩
      refine h_two 0 12 #[true, true, true, true, true, true, true, true, true, true, true, true, false, false, false, false] #[false, true, true, true, true, true, true, true, true, true, true, true, true, false, false, false] rfl rfl rfl rfl (by kernel_rfl) ?_ ?_
      · skip
        refine s_bsl (C := cd50) ([] : List ((Ar 6) × (Ar 6))) cdok50 hF hM rfl rfl rfl rfl Try.underlying37 rfl ?_; intro a w v1 hF hM
        refine s_nil ⟨rfl, (hM.pick [] rfl rfl), ?_⟩
        refine h_one 12 #[true, true, true, true, true, true, true, true, true, true, true, true, true, false, false, false] rfl (by kernel_rfl) ?_
        refine s_alloc (ps := [Pt.ar (Ar.zero 121)]) hF hM rfl rfl zv43 rfl ?_; intro a w b6 hF hM
        refine s_nil ⟨rfl, (hM.pick [] rfl rfl), ?_⟩
        refine h_val 13 #[true, true, true, true, true, true, true, true, true, true, true, true, true, true, false, false] rfl (by kernel_rfl) hF rfl rfl rfl (fun w hS => e_assign hF rfl) (hM.pick [] rfl rfl) ?_; intro a hF
        refine h_one 14 #[true, true, true, true, true, true, true, true, true, true, true, true, true, true, true, false] rfl (by kernel_rfl) ?_
        refine s_stw (i := 0) (ps' := [Pt.ar t2]) hF hM rfl rfl rfl rfl rfl rfl Try.sizeOf43 rfl ?_; intro a w hF hM
        refine s_nil ⟨rfl, (hM.pick [] rfl rfl), ?_⟩
        refine h_val 15 #[true, true, true, true, true, true, true, true, true, true, true, true, true, true, true, true] rfl (by kernel_rfl) hF rfl rfl rfl (fun w hS => e_assign hF rfl) (hM.pick [] rfl rfl) ?_; intro a hF
        exact h_done rfl ⟨rfl, v1, b6, hF.sub _ ⟨rfl, rfl, rfl, trivial⟩, hM.pick [1, 0] rfl rfl⟩
      · skip
        refine s_alloc (ps := [Pt.ar (Ar.zero 121)]) hF hM rfl rfl zv43 rfl ?_; intro a w b6 hF hM
        refine s_nil ⟨rfl, (hM.pick [] rfl rfl), ?_⟩
        refine h_one 0 #[true, true, true, true, true, true, true, true, true, true, true, true, true, false, false, false] rfl (by kernel_rfl) ?_
        refine s_bsl (C := cd50) ([] : List ((Ar 6) × (Ar 6))) cdok50 hF hM rfl rfl rfl rfl Try.underlying37 rfl ?_; intro a w v1 hF hM
        refine s_nil ⟨rfl, (hM.pick [] rfl rfl), ?_⟩
        refine h_val 13 #[true, true, true, true, true, true, true, true, true, true, true, true, true, true, false, false] rfl (by kernel_rfl) hF rfl rfl rfl (fun w hS => e_assign hF rfl) (hM.pick [] rfl rfl) ?_; intro a hF
        refine h_one 14 #[true, true, true, true, true, true, true, true, true, true, true, true, true, true, true, false] rfl (by kernel_rfl) ?_
        refine s_stw (i := 1) (ps' := [Pt.ar t2]) hF hM rfl rfl rfl rfl rfl rfl Try.sizeOf43 rfl ?_; intro a w hF hM
        refine s_nil ⟨rfl, (hM.pick [] rfl rfl), ?_⟩
        refine h_val 15 #[true, true, true, true, true, true, true, true, true, true, true, true, true, true, true, true] rfl (by kernel_rfl) hF rfl rfl rfl (fun w hS => e_assign hF rfl) (hM.pick [] rfl rfl) ?_; intro a hF
        exact h_done rfl ⟨rfl, v1, b6, hF.sub _ ⟨rfl, rfl, rfl, trivial⟩, hM.pick [0, 1] rfl rfl⟩
    · skip
      refine s_alloc (ps := [Pt.ar (Ar.zero 121)]) hF hM rfl rfl zv43 rfl ?_; intro a w b6 hF hM
      refine s_nil ⟨rfl, (hM.pick [] rfl rfl), ?_⟩
      refine h_two 0 2 #[true, true, false, true, true, true, true, true, true, true, true, true, true, false, false, false] #[false, true, true, true, true, true, true, true, true, true, true, true, true, false, false, false] rfl rfl rfl rfl (by kernel_rfl) ?_ ?_
      · skip
        refine s_bsl (C := cd50) ([] : List ((Ar 6) × (Ar 6))) cdok50 hF hM rfl rfl rfl rfl Try.underlying37 rfl ?_; intro a w v1 hF hM
        refine s_nil ⟨rfl, (hM.pick [] rfl rfl), ?_⟩
        refine h_one 2 #[true, true, true, true, true, true, true, true, true, true, true, true, true, false, false, false] rfl (by kernel_rfl) ?_
        refine s_call hF rfl rfl rfl Try.call29 (spec_l2Table.calls K l0 u0 (q0.frm hM.frm) t2 h3) ?_; intro a w v hF hf hR
        subst hR; have hM := hM.grow hf
        refine s_nil ⟨rfl, (hM.pick [] rfl rfl), ?_⟩
        refine h_val 13 #[true, true, true, true, true, true, true, true, true, true, true, true, true, true, false, false] rfl (by kernel_rfl) hF rfl rfl rfl (fun w hS => e_assign hF rfl) (hM.pick [] rfl rfl) ?_; intro a hF
        refine h_one 14 #[true, true, true, true, true, true, true, true, true, true, true, true, true, true, true, false] rfl (by kernel_rfl) ?_
        refine s_stw (i := 1) (ps' := [Pt.ar t2]) hF hM rfl rfl rfl rfl rfl rfl Try.sizeOf43 rfl ?_; intro a w hF hM
        refine s_nil ⟨rfl, (hM.pick [] rfl rfl), ?_⟩
        refine h_val 15 #[true, true, true, true, true, true, true, true, true, true, true, true, true, true, true, true] rfl (by kernel_rfl) hF rfl rfl rfl (fun w hS => e_assign hF rfl) (hM.pick [] rfl rfl) ?_; intro a hF
        exact h_done rfl ⟨rfl, v1, b6, hF.sub _ ⟨rfl, rfl, rfl, trivial⟩, hM.pick [0, 1] rfl rfl⟩
      · skip
        refine s_call hF rfl rfl rfl Try.call29 (spec_l2Table.calls K l0 u0 (q0.frm hM.frm) t2 h3) ?_; intro a w v hF hf hR
        subst hR; have hM := hM.grow hf
        refine s_nil ⟨rfl, (hM.pick [] rfl rfl), ?_⟩
        refine h_one 0 #[true, true, true, true, true, true, true, true, true, true, true, true, true, false, false, false] rfl (by kernel_rfl) ?_
        refine s_bsl (C := cd50) ([] : List ((Ar 6) × (Ar 6))) cdok50 hF hM rfl rfl rfl rfl Try.underlying37 rfl ?_; intro a w v1 hF hM
        refine s_nil ⟨rfl, (hM.pick [] rfl rfl), ?_⟩
        refine h_val 13 #[true, true, true, true, true, true, true, true, true, true, true, true, true, true, false, false] rfl (by kernel_rfl) hF rfl rfl rfl (fun w hS => e_assign hF rfl) (hM.pick [] rfl rfl) ?_; intro a hF
        refine h_one 14 #[true, true, true, true, true, true, true, true, true, true, true, true, true, true, true, false] rfl (by kernel_rfl) ?_
        refine s_stw (i := 1) (ps' := [Pt.ar t2]) hF hM rfl rfl rfl rfl rfl rfl Try.sizeOf43 rfl ?_; intro a w hF hM
        refine s_nil ⟨rfl, (hM.pick [] rfl rfl), ?_⟩
        refine h_val 15 #[true, true, true, true, true, true, true, true, true, true, true, true, true, true, true, true] rfl (by kernel_rfl) hF rfl rfl rfl (fun w hS => e_assign hF rfl) (hM.pick [] rfl rfl) ?_; intro a hF
        exact h_done rfl ⟨rfl, v1, b6, hF.sub _ ⟨rfl, rfl, rfl, trivial⟩, hM.pick [0, 1] rfl rfl⟩
  rintro e a w ⟨rfl, v1, b6, hF, hM⟩
  refine then_n ?_
  refine wp_seq ?_
  refine wp_seq ?_
  refine s_region ?_
  refine s_val hF rfl rfl rfl (e_assign hF rfl) ?_; intro a hF
  refine s_nil ?_
  refine then_n ?_
  refine wp_block ?_
  obtain ⟨o115, h116, H⟩ := bind_some H
  refine wp_mono (Q := fun e a w => (e = Exit.exit 0 ∧ ∃ v77 : Value, ∃ x78 : (List ((Ar 6) × (Ar 6))), x78 = o115 ∧ Fr 55 a [(3, v77)] ∧ Ms [] w0 w [rowR cd50 v77 x78])) ?_ ?_
  · refine s_loop (fun kq a w => ∃ v80 : Value, ∃ x79 : Int, ∃ x81 : (List ((Ar 6) × (Ar 6))), spec_l5Like.l2 K l0 t2 kq x79 x81 = some o115 ∧ Fr 55 a [(3, v80), (4, pt b6 0), (5, Value.int .i64 (wrap64 (((l0.getD (0 : Int).toNat (Ar.zero 6)).get 0) + ((l0.getD (1 : Int).toNat (Ar.zero 6)).get 0)))), (6, Value.int .i64 x79)] ∧ Ms [] w0 w [rowR cd50 v80 x81, boxR b6 [Pt.ar t2] 43]) K ⟨v1, 0, ([] : List ((Ar 6) × (Ar 6))), h116, hF.sub _ ⟨rfl, rfl, rfl, rfl, trivial⟩, hM.pick [0, 1] rfl rfl⟩ ?_ ?_
    · rintro a w ⟨_, _, _, H, _⟩; exact none_some H
    · rintro k a w ⟨v80, x79, x81, H, hF, hM⟩; rw [spec_l5Like.l2] at H
      refine wp_seq ?_
      refine wp_seq ?_
      rcases ite_cases H with ⟨c82, H⟩ | ⟨c82, H⟩
      ·
        refine s_region ?_
        refine s_val hF rfl rfl rfl (e_move hF rfl) ?_; intro a hF
        refine s_val hF rfl rfl rfl (e_move hF rfl) ?_; intro a hF
        refine s_val hF rfl rfl rfl (e_leq hF rfl rfl) ?_; intro a hF
        refine s_val hF rfl rfl rfl (e_move hF rfl) ?_; intro a hF
        have hF := hF.topb (decide_eq_true c82)
        refine s_val hF rfl rfl rfl (e_move hF rfl) ?_; intro a hF
        refine s_val hF rfl rfl rfl (e_leq hF rfl rfl) ?_; intro a hF
        refine s_val hF rfl rfl rfl (e_pick_t hF rfl rfl) ?_; intro a hF
        refine s_nil ?_
        refine then_n ?_
        rcases ite_cases H with ⟨c83, H⟩ | ⟨c83, H⟩
        ·
          refine s_cond_t hF rfl (decide_eq_true c83) ?_
          refine wp_skip ?_
          refine then_n ?_
          refine wp_seq ?_
          refine wp_block ?_
          refine wp_seq ?_
          refine wp_seq ?_
          refine s_region ?_
          refine s_val hF rfl rfl rfl (e_move hF rfl) ?_; intro a hF
          refine s_val hF rfl rfl rfl (e_move hF rfl) ?_; intro a hF
          refine s_val hF rfl rfl rfl (e_sub hF rfl rfl) ?_; intro a hF
          refine s_val hF rfl rfl rfl (e_gtr hF rfl rfl) ?_; intro a hF
          refine s_nil ?_
          refine then_n ?_
          rcases ite_cases H with ⟨c84, H⟩ | ⟨c84, H⟩
          ·
            refine s_cond_t hF rfl (decide_eq_true c84) ?_
            refine wp_exit ?_
            refine then_x ?_
            refine blk_x ?_
            refine then_n ?_
            refine s_region ?_
            refine s_val hF rfl rfl rfl (e_move hF rfl) ?_; intro a hF
            refine s_val hF rfl rfl rfl (e_add hF rfl rfl) ?_; intro a hF
            refine s_val hF rfl rfl rfl (e_assign hF rfl) ?_; intro a hF
            refine s_nil ?_
            refine then_n ?_
            exact ⟨v80, (wrap64 (x79 + 1)), x81, H, hF.sub _ ⟨rfl, rfl, rfl, rfl, trivial⟩, hM.pick [0, 1] rfl rfl⟩
          ·
            refine s_cond_f hF rfl (decide_eq_false c84) ?_
            refine wp_skip ?_
            refine then_n ?_
            refine wp_seq ?_
            obtain ⟨t87, h88, H⟩ := bind_some H
            refine s_region ?_
            refine s_val hF rfl rfl rfl (e_lda (i := 1) 0 1 hF hM rfl rfl rfl rfl Try.isAgg43 Try.sizeOf43 rfl) ?_; intro a hF
            refine s_val hF rfl rfl rfl (e_move hF rfl) ?_; intro a hF
            refine s_bsl (C := cd3) [x79] cdok3 hF hM rfl rfl rfl rfl Try.underlying59 rfl ?_; intro a w v85 hF hM
            refine s_val hF rfl rfl rfl (e_move hF rfl) ?_; intro a hF
            refine s_val hF rfl rfl rfl (e_move hF rfl) ?_; intro a hF
            refine s_val hF rfl rfl rfl (e_sub hF rfl rfl) ?_; intro a hF
            refine s_bsl (C := cd3) [(wrap64 ((wrap64 (((l0.getD (0 : Int).toNat (Ar.zero 6)).get 0) + ((l0.getD (1 : Int).toNat (Ar.zero 6)).get 0))) - x79))] cdok3 hF hM rfl rfl rfl rfl Try.underlying59 rfl ?_; intro a w v86 hF hM
            refine s_callx hF rfl rfl rfl Try.call53 (spec_l5Search.calls K t2 [x79] v85 (hM.sl 1 rfl) (hM.apart_row 1 rfl [] (by decide) rfl) [(wrap64 ((wrap64 (((l0.getD (0 : Int).toNat (Ar.zero 6)).get 0) + ((l0.getD (1 : Int).toNat (Ar.zero 6)).get 0))) - x79))] v86 (hM.sl 0 rfl) (hM.apart_row 0 rfl [] (by decide) rfl) (hM.lend [] rfl rfl) t87 h88) ?_; intro a w v hF hR
            obtain ⟨v89, hR, rfl⟩ := hR; have hM := hM.back [] [0, 1, 2, 3] (by decide) rfl rfl hR
            refine s_val hF rfl rfl rfl (e_assign hF rfl) ?_; intro a hF
            refine s_nil ?_
            refine then_n ?_
            refine wp_seq ?_
            refine s_region ?_
            refine s_val hF rfl rfl rfl (e_assign hF rfl) ?_; intro a hF
            refine s_nil ?_
            refine then_n ?_
            refine wp_block ?_
            obtain ⟨o113, h114, H⟩ := bind_some H
            refine wp_mono (Q := fun e a w => (e = Exit.exit 2 ∧ ∃ v103 : Value, ∃ x104 : (List ((Ar 6) × (Ar 6))), x104 = o113 ∧ Fr 55 a [(3, v103), (4, pt b6 0), (5, Value.int .i64 (wrap64 (((l0.getD (0 : Int).toNat (Ar.zero 6)).get 0) + ((l0.getD (1 : Int).toNat (Ar.zero 6)).get 0)))), (6, Value.int .i64 x79)] ∧ Ms [] w0 w [rowR cd50 v103 x104, boxR b6 [Pt.ar t2] 43])) ?_ ?_
            · refine s_loop (fun kq a w => ∃ v106 : Value, ∃ x105 : Int, ∃ x107 : (List ((Ar 6) × (Ar 6))), spec_l5Like.l3 K t87 kq x105 x107 = some o113 ∧ Fr 55 a [(3, v106), (4, pt b6 0), (5, Value.int .i64 (wrap64 (((l0.getD (0 : Int).toNat (Ar.zero 6)).get 0) + ((l0.getD (1 : Int).toNat (Ar.zero 6)).get 0)))), (6, Value.int .i64 x79), (7, v89), (8, Value.int .i64 x105)] ∧ Ms [] w0 w [rowR cd50 v106 x107, boxR b6 [Pt.ar t2] 43, rowR cd50 v89 t87]) K ⟨v80, 0, x81, h114, hF.sub _ ⟨rfl, rfl, rfl, rfl, rfl, rfl, trivial⟩, hM.pick [3, 4, 0] rfl rfl⟩ ?_ ?_
              · rintro a w ⟨_, _, _, H, _⟩; exact none_some H
              · rintro k a w ⟨v106, x105, x107, H, hF, hM⟩; rw [spec_l5Like.l3] at H
                refine wp_seq ?_
                refine wp_seq ?_
                refine s_region ?_
                refine s_val hF rfl rfl rfl (e_move hF rfl) ?_; intro a hF
                refine s_val hF rfl rfl rfl (e_move hF rfl) ?_; intro a hF
                refine s_val hF rfl rfl rfl (e_len hF rfl (hM.sl 2 rfl).toF Try.underlying37) ?_; intro a hF
                refine s_val hF rfl rfl rfl (e_lss hF rfl rfl) ?_; intro a hF
                refine s_nil ?_
                refine then_n ?_
                rcases ite_cases H with ⟨c108, H⟩ | ⟨c108, H⟩
                ·
                  refine s_cond_t hF rfl (decide_eq_true c108) ?_
                  refine wp_skip ?_
                  refine then_n ?_
                  refine wp_seq ?_
                  refine wp_block ?_
                  obtain ⟨c109, H⟩ := ite_some H
                  obtain ⟨t110, h111, H⟩ := bind_some H
                  refine s_region ?_
                  refine s_val hF rfl rfl rfl (e_move hF rfl) ?_; intro a hF
                  refine s_val hF rfl rfl rfl (e_move hF rfl) ?_; intro a hF
                  refine s_val hF rfl rfl rfl (e_move hF rfl) ?_; intro a hF
                  refine s_val hF rfl rfl rfl (e_ias cd50 hF rfl rfl (hM.sl 2 rfl).toF Try.underlying37 Try.sizeOf50 c109.1 c109.2) ?_; intro a hF
                  refine s_val hF rfl rfl rfl (e_ldsa (m := x105) hF rfl (hM.sl 2 rfl) (getD_some (z := ((Ar.zero 6), (Ar.zero 6))) c109.1 c109.2) Try.isAgg50 Try.sizeOf50) ?_; intro a hF
                  refine s_callx hF rfl rfl rfl Try.call43 (spec_l5Put.calls K x107 v106 (t87.getD (x105 : Int).toNat ((Ar.zero 6), (Ar.zero 6))) (hM.lend [0] rfl rfl) t110 h111) ?_; intro a w v hF hR
                  obtain ⟨v112, hR, rfl⟩ := hR; have hM := hM.back [0] [1, 2] (by decide) rfl rfl hR
                  refine s_val hF rfl rfl rfl (e_assign hF rfl) ?_; intro a hF
                  refine s_nil ?_
                  refine blk_n ?_
                  refine then_n ?_
                  refine s_region ?_
                  refine s_val hF rfl rfl rfl (e_move hF rfl) ?_; intro a hF
                  refine s_val hF rfl rfl rfl (e_add hF rfl rfl) ?_; intro a hF
                  refine s_val hF rfl rfl rfl (e_assign hF rfl) ?_; intro a hF
                  refine s_nil ?_
                  refine then_n ?_
                  exact ⟨v112, (wrap64 (x105 + 1)), t110, H, hF.sub _ ⟨rfl, rfl, rfl, rfl, rfl, rfl, trivial⟩, hM.pick [0, 1, 2] rfl rfl⟩
                ·
                  refine s_cond_f hF rfl (decide_eq_false c108) ?_
                  refine wp_exit ?_
                  refine then_x ?_
                  refine then_x ?_
                  exact ⟨rfl, v106, x107, some_some H, hF.sub _ ⟨rfl, rfl, rfl, rfl, trivial⟩, hM.pick [0, 1] rfl rfl⟩
            · rintro e a w ⟨rfl, v103, x104, rfl, hF, hM⟩
              skip
              refine blk_x ?_
              refine blk_n ?_
              refine then_n ?_
              refine s_region ?_
              refine s_val hF rfl rfl rfl (e_move hF rfl) ?_; intro a hF
              refine s_val hF rfl rfl rfl (e_add hF rfl rfl) ?_; intro a hF
              refine s_val hF rfl rfl rfl (e_assign hF rfl) ?_; intro a hF
              refine s_nil ?_
              refine then_n ?_
              exact ⟨v103, (wrap64 (x79 + 1)), x104, H, hF.sub _ ⟨rfl, rfl, rfl, rfl, trivial⟩, hM.pick [0, 1] rfl rfl⟩
        ·
          refine s_cond_f hF rfl (decide_eq_false c83) ?_
          refine wp_exit ?_
          refine then_x ?_
          refine then_x ?_
          exact ⟨rfl, v80, x81, some_some H, hF.sub _ ⟨rfl, trivial⟩, hM.pick [0] rfl rfl⟩
      ·
        refine s_region ?_
        refine s_val hF rfl rfl rfl (e_move hF rfl) ?_; intro a hF
        refine s_val hF rfl rfl rfl (e_move hF rfl) ?_; intro a hF
        refine s_val hF rfl rfl rfl (e_leq hF rfl rfl) ?_; intro a hF
        refine s_val hF rfl rfl rfl (e_move hF rfl) ?_; intro a hF
        have hF := hF.topb (decide_eq_false c82)
        refine s_skip hF rfl rfl rfl ?_; intro a hF
        refine s_skip hF rfl rfl rfl ?_; intro a hF
        refine s_val hF rfl rfl rfl (e_pick_f hF rfl rfl) ?_; intro a hF
        refine s_nil ?_
        refine then_n ?_
        refine s_cond_f hF rfl rfl ?_
        refine wp_exit ?_
        refine then_x ?_
        refine then_x ?_
        exact ⟨rfl, v80, x81, some_some H, hF.sub _ ⟨rfl, trivial⟩, hM.pick [0] rfl rfl⟩
  · rintro e a w ⟨rfl, v77, x78, rfl, hF, hM⟩
    skip
    refine blk_x ?_
    refine then_n ?_
    refine wp_seq ?_
    refine s_region ?_
    refine s_val hF rfl rfl rfl (e_move hF rfl) ?_; intro a hF
    refine s_val hF rfl rfl rfl (e_assign hF rfl) ?_; intro a hF
    refine s_nil ?_
    refine then_n ?_
    refine wp_ret ?_
    obtain rfl := some_some H
    refine s_ret [v77] hF Try.results38 ⟨rfl, trivial⟩ ?_
    exact ⟨_, rfl, hM.frm, hM.give 0 rfl⟩

/-! ### loop.example/g01210/spec.l5Base: function 45 -/
def spec_l5Base.l0 (K : Nat) (a0 : (Ar 6)) : Nat → Int → (Ar 6) → Option (Ar 6)
  | 0, _, _ => none
  | k + 1, x9, x10 => if x9 < 6 then (if (0 : Int) ≤ x9 ∧ x9 < 6 then (spec_l5Base.l0 K a0 k (wrap64 (x9 + 1)) (x10.set x9 (wrap64 ((a0.get x9) - (a0.get 0))))) else none) else (some x10)
def spec_l5Base.f (K : Nat) (a0 : (Ar 6)) : Option (Ar 6) := (spec_l5Base.l0 K a0 K 0 (⟨[0, 0, 0, 0, 0, 0], rfl⟩ : Ar 6)).bind fun x8 => some x8
set_option maxRecDepth 100000 in
set_option maxHeartbeats 4000000 in
theorem spec_l5Base.calls {w0 : World} (K : Nat) (a0 : (Ar 6)) (r : (Ar 6)) (H : spec_l5Base.f K a0 = some r) : Calls Try.prog 45 [ag [Pt.ar a0]].toArray w0 (Post w0 fun w v => v = ag [Pt.ar r]) := by
  rw [spec_l5Base.f] at H
  refine s_start Try.func45 rfl Try.ntmps45 rfl ?_
  intro a hF
  have hM := Ms.start w0
  skip
  refine wp_seq ?_
  refine s_region ?_
  refine s_box (ps := [Pt.ar a0]) hF hM rfl rfl rfl rfl ?_; intro a w b1 hF hM
  refine s_alloc (ps := [Pt.ar (Ar.zero 6)]) hF hM rfl rfl zv31 rfl ?_; intro a w b2 hF hM
  refine s_nil ?_
  refine then_n ?_
  refine wp_seq ?_
  refine s_region ?_
  refine s_val hF rfl rfl rfl (e_build' (cells := cat [Pt.ar (⟨[0, 0, 0, 0, 0, 0], rfl⟩ : Ar 6)]) hF rfl (by kernel_rfl)) ?_; intro a hF
  refine s_alloc (ps := [Pt.ar (Ar.zero 6)]) hF hM rfl rfl zv31 rfl ?_; intro a w b3 hF hM
  refine s_stw (i := 0) (ps' := [Pt.ar (⟨[0, 0, 0, 0, 0, 0], rfl⟩ : Ar 6)]) hF hM rfl rfl rfl rfl rfl rfl Try.sizeOf31 rfl ?_; intro a w hF hM
  refine s_nil ?_
  refine then_n ?_
  refine wp_seq ?_
  refine wp_seq ?_
  refine s_region ?_
  refine s_val hF rfl rfl rfl (e_assign hF rfl) ?_; intro a hF
  refine s_nil ?_
  refine then_n ?_
  refine wp_block ?_
  obtain ⟨o13, h14, H⟩ := bind_some H
  refine wp_mono (Q := fun e a w => (e = Exit.exit 0 ∧ ∃ x8 : (Ar 6), x8 = o13 ∧ Fr 19 a [(2, pt b2 0), (3, pt b3 0)] ∧ Ms [] w0 w [boxR b2 [Pt.ar (Ar.zero 6)] 31, boxR b3 [Pt.ar x8] 31])) ?_ ?_
  · refine s_loop (fun kq a w => ∃ x9 : Int, ∃ x10 : (Ar 6), spec_l5Base.l0 K a0 kq x9 x10 = some o13 ∧ Fr 19 a [(1, pt b1 0), (2, pt b2 0), (3, pt b3 0), (4, Value.int .i64 x9)] ∧ Ms [] w0 w [boxR b1 [Pt.ar a0] 31, boxR b2 [Pt.ar (Ar.zero 6)] 31, boxR b3 [Pt.ar x10] 31]) K ⟨0, (⟨[0, 0, 0, 0, 0, 0], rfl⟩ : Ar 6), h14, hF.sub _ ⟨rfl, rfl, rfl, rfl, trivial⟩, hM.pick [2, 1, 0] rfl rfl⟩ ?_ ?_
    · rintro a w ⟨_, _, H, _⟩; exact none_some H
    · rintro k a w ⟨x9, x10, H, hF, hM⟩; rw [spec_l5Base.l0] at H
      refine wp_seq ?_
      refine wp_seq ?_
      refine s_region ?_
      refine s_val hF rfl rfl rfl (e_move hF rfl) ?_; intro a hF
      refine s_val hF rfl rfl rfl (e_lss hF rfl rfl) ?_; intro a hF
      refine s_nil ?_
      refine then_n ?_
      rcases ite_cases H with ⟨c11, H⟩ | ⟨c11, H⟩
      ·
        refine s_cond_t hF rfl (decide_eq_true c11) ?_
        refine wp_skip ?_
        refine then_n ?_
        refine wp_seq ?_
        refine wp_block ?_
        obtain ⟨c12, H⟩ := ite_some H
        refine s_held (fun w => Ms [] w0 w [boxR b1 [Pt.ar a0] 31, boxR b2 [Pt.ar (Ar.zero 6)] 31]) #[false, false, false, false, false, false, false, false, false] mixed rfl rfl hM ?_; intro w hf hM; clear hf
        refine h_val 0 #[true, false, false, false, false, false, false, false, false] rfl (by kernel_rfl) hF rfl rfl rfl (fun w hS => e_move hF rfl) (hM.pick [0, 1] rfl rfl) ?_; intro a hF
        refine h_val 1 #[true, true, false, false, false, false, false, false, false] rfl (by kernel_rfl) hF rfl rfl rfl (fun w hS => e_move hF rfl) (hM.pick [0, 1] rfl rfl) ?_; intro a hF
        refine h_val 2 #[true, true, true, false, false, false, false, false, false] rfl (by kernel_rfl) hF rfl rfl rfl (fun w hS => e_ia hF rfl rfl Try.underlying31 Try.sizeOf3 c12.1 c12.2) (hM.pick [0, 1] rfl rfl) ?_; intro a hF
        refine h_val 3 #[true, true, true, true, false, false, false, false, false] rfl (by kernel_rfl) hF rfl rfl rfl (fun w hS => e_ldi (i := 0) (k := 0) hF hS rfl rfl rfl rfl rfl Try.isAgg3 c12.1 c12.2) (hM.pick [0, 1] rfl rfl) ?_; intro a hF
        refine h_val 4 #[true, true, true, true, true, false, false, false, false] rfl (by kernel_rfl) hF rfl rfl rfl (fun w hS => e_ia hF rfl rfl Try.underlying31 Try.sizeOf3 (by decide) (by decide)) (hM.pick [0, 1] rfl rfl) ?_; intro a hF
        refine h_val 5 #[true, true, true, true, true, true, false, false, false] rfl (by kernel_rfl) hF rfl rfl rfl (fun w hS => e_ldi (i := 0) (k := 0) hF hS rfl rfl rfl rfl rfl Try.isAgg3 (by decide) (by decide)) (hM.pick [0, 1] rfl rfl) ?_; intro a hF
        refine h_val 6 #[true, true, true, true, true, true, true, false, false] rfl (by kernel_rfl) hF rfl rfl rfl (fun w hS => e_sub hF rfl rfl) (hM.pick [0, 1] rfl rfl) ?_; intro a hF
        refine h_val 7 #[true, true, true, true, true, true, true, true, false] rfl (by kernel_rfl) hF rfl rfl rfl (fun w hS => e_ia hF rfl rfl Try.underlying31 Try.sizeOf3 c12.1 c12.2) (hM.pick [0, 1] rfl rfl) ?_; intro a hF
        refine h_one 8 #[true, true, true, true, true, true, true, true, true] rfl (by kernel_rfl) ?_
        refine s_sti (i := 2) (k := 0) hF hM rfl rfl rfl rfl rfl rfl rfl Try.sizeOf3 c12.1 c12.2 ?_; intro a w hF hM
        refine s_nil ⟨rfl, (hM.pick [0, 1] rfl rfl), ?_⟩
        refine h_done rfl ?_
        refine blk_n ?_
        refine then_n ?_
        refine s_region ?_
        refine s_val hF rfl rfl rfl (e_move hF rfl) ?_; intro a hF
        refine s_val hF rfl rfl rfl (e_add hF rfl rfl) ?_; intro a hF
        refine s_val hF rfl rfl rfl (e_assign hF rfl) ?_; intro a hF
        refine s_nil ?_
        refine then_n ?_
        exact ⟨(wrap64 (x9 + 1)), (x10.set x9 (wrap64 ((a0.get x9) - (a0.get 0)))), H, hF.sub _ ⟨rfl, rfl, rfl, rfl, trivial⟩, hM.pick [0, 1, 2] rfl rfl⟩
      ·
        refine s_cond_f hF rfl (decide_eq_false c11) ?_
        refine wp_exit ?_
        refine then_x ?_
        refine then_x ?_
        exact ⟨rfl, x10, some_some H, hF.sub _ ⟨rfl, rfl, trivial⟩, hM.pick [1, 2] rfl rfl⟩
  · rintro e a w ⟨rfl, x8, rfl, hF, hM⟩
    skip
    refine blk_x ?_
    refine then_n ?_
    refine wp_seq ?_
    refine s_region ?_
    refine s_val hF rfl rfl rfl (e_lda (i := 1) 0 1 hF hM rfl rfl rfl rfl Try.isAgg31 Try.sizeOf31 rfl) ?_; intro a hF
    refine s_stw (i := 0) (ps' := [Pt.ar x8]) hF hM rfl rfl rfl rfl rfl rfl Try.sizeOf31 rfl ?_; intro a w hF hM
    refine s_nil ?_
    refine then_n ?_
    refine wp_ret ?_
    obtain rfl := some_some H
    refine s_ret [ag [Pt.ar x8]] hF Try.results45 ⟨⟨_, rfl, rv_box hM (i := 0) rfl Try.isAgg31 Try.sizeOf31 rfl⟩, trivial⟩ ?_
    exact ⟨_, rfl, hM.frm, rfl⟩

/-! ### loop.example/g01210/spec.ShapesLike: function 24 -/
def spec_ShapesLike.l0 (K : Nat) (l0 : (List (Ar 6))) (t5 : (List ((Ar 6) × (Ar 6)))) : Nat → Int → (List ((Ar 6) × (Ar 6))) → Option (List ((Ar 6) × (Ar 6)))
  | 0, _, _ => none
  | k + 1, x35, x37 => if x35 < (t5.length : Int) then (if (0 : Int) ≤ x35 ∧ x35 < (t5.length : Int) then ((spec_l5Base.f K ((t5.getD (x35 : Int).toNat ((Ar.zero 6), (Ar.zero 6))).1)).bind fun t40 => (spec_l5Base.f K ((t5.getD (x35 : Int).toNat ((Ar.zero 6), (Ar.zero 6))).2)).bind fun t42 => (spec_l5Pair.f K t40 t42).bind fun t44 => (spec_l5Put.f K x37 t44).bind fun t46 => spec_ShapesLike.l0 K l0 t5 k (wrap64 (x35 + 1)) t46) else none) else (some x37)
def spec_ShapesLike.f (K : Nat) (l0 : (List (Ar 6))) : Option ((List ((Ar 6) × (Ar 6))) × Bool) := (spec_l5Two.f K l0).bind fun t2 => if t2 = true then ((spec_l5Like.f K l0).bind fun t5 => (spec_ShapesLike.l0 K l0 t5 K 0 ([] : List ((Ar 6) × (Ar 6)))).bind fun x34 => if ([] : List ((Ar 6) × (Ar 6))).length + x34.length ≤ 1073741824 then (some ((([] : List ((Ar 6) × (Ar 6))) ++ x34), true)) else none) else (some (([] : List ((Ar 6) × (Ar 6))), false))
set_option maxRecDepth 100000 in
set_option maxHeartbeats 4000000 in
theorem spec_ShapesLike.calls {w0 : World} (K : Nat) (l0 : (List (Ar 6))) (u0 : Value) (q0 : SlR cd31 w0 u0 l0) (r : ((List ((Ar 6) × (Ar 6))) × Bool)) (H : spec_ShapesLike.f K l0 = some r) : Calls Try.prog 24 [u0].toArray w0 (Post w0 fun w v => ∃ v0 : Value, v = Value.tuple #[v0, Value.bool r.2] ∧ Fresh cd50 w0.heap.size w v0 r.1) := by
  rw [spec_ShapesLike.f] at H
  refine s_start Try.func24 rfl Try.ntmps24 rfl ?_
  intro a hF
  have hM := Ms.start w0
  skip
  refine wp_seq ?_
  refine s_region ?_
  refine s_val hF rfl rfl rfl (e_assign hF rfl) ?_; intro a hF
  refine s_val hF rfl rfl rfl (e_assign hF rfl) ?_; intro a hF
  refine s_nil ?_
  refine then_n ?_
  refine wp_seq ?_
  refine s_region ?_
  refine s_bsl (C := cd50) ([] : List ((Ar 6) × (Ar 6))) cdok50 hF hM rfl rfl rfl rfl Try.underlying37 rfl ?_; intro a w v1 hF hM
  refine s_val hF rfl rfl rfl (e_assign hF rfl) ?_; intro a hF
  refine s_nil ?_
  refine then_n ?_
  refine wp_seq ?_
  refine wp_seq ?_
  obtain ⟨t2, h3, H⟩ := bind_some H
  refine s_region ?_
  refine s_val hF rfl rfl rfl (e_move hF rfl) ?_; intro a hF
  refine s_call hF rfl rfl rfl Try.call37 (spec_l5Two.calls K l0 u0 (q0.frm hM.frm) t2 h3) ?_; intro a w v hF hf hR
  subst hR; have hM := hM.grow hf
  refine s_val hF rfl rfl rfl (e_not hF rfl) ?_; intro a hF
  refine s_nil ?_
  refine then_n ?_
  rcases ite_cases H with ⟨c4, H⟩ | ⟨c4, H⟩
  ·
    refine s_cond_f hF rfl (congrArg Bool.not c4) ?_
    refine wp_skip ?_
    refine then_n ?_
    refine wp_seq ?_
    obtain ⟨t5, h6, H⟩ := bind_some H
    refine s_region ?_
    refine s_val hF rfl rfl rfl (e_move hF rfl) ?_; intro a hF
    refine s_call hF rfl rfl rfl Try.call38 (spec_l5Like.calls K l0 u0 (q0.frm hM.frm) t5 h6) ?_; intro a w v7 hF hf hR
    have hM := hM.fresh hf hR
    refine s_val hF rfl rfl rfl (e_assign hF rfl) ?_; intro a hF
    refine s_nil ?_
    refine then_n ?_
    refine wp_seq ?_
    refine wp_seq ?_
    refine s_region ?_
    refine s_val hF rfl rfl rfl (e_assign hF rfl) ?_; intro a hF
    refine s_nil ?_
    refine then_n ?_
    refine wp_block ?_
    obtain ⟨o51, h52, H⟩ := bind_some H
    refine wp_mono (Q := fun e a w => (e = Exit.exit 0 ∧ ∃ v33 : Value, ∃ x34 : (List ((Ar 6) × (Ar 6))), x34 = o51 ∧ Fr 38 a [(4, v33)] ∧ Ms [] w0 w [rowR cd50 v33 x34])) ?_ ?_
    · refine s_loop (fun kq a w => ∃ v36 : Value, ∃ x35 : Int, ∃ x37 : (List ((Ar 6) × (Ar 6))), spec_ShapesLike.l0 K l0 t5 kq x35 x37 = some o51 ∧ Fr 38 a [(4, v36), (5, v7), (6, Value.int .i64 x35)] ∧ Ms [] w0 w [rowR cd50 v36 x37, rowR cd50 v7 t5]) K ⟨v1, 0, ([] : List ((Ar 6) × (Ar 6))), h52, hF.sub _ ⟨rfl, rfl, rfl, trivial⟩, hM.pick [1, 0] rfl rfl⟩ ?_ ?_
      · rintro a w ⟨_, _, _, H, _⟩; exact none_some H
      · rintro k a w ⟨v36, x35, x37, H, hF, hM⟩; rw [spec_ShapesLike.l0] at H
        refine wp_seq ?_
        refine wp_seq ?_
        refine s_region ?_
        refine s_val hF rfl rfl rfl (e_move hF rfl) ?_; intro a hF
        refine s_val hF rfl rfl rfl (e_move hF rfl) ?_; intro a hF
        refine s_val hF rfl rfl rfl (e_len hF rfl (hM.sl 1 rfl).toF Try.underlying37) ?_; intro a hF
        refine s_val hF rfl rfl rfl (e_lss hF rfl rfl) ?_; intro a hF
        refine s_nil ?_
        refine then_n ?_
        rcases ite_cases H with ⟨c38, H⟩ | ⟨c38, H⟩
        ·
          refine s_cond_t hF rfl (decide_eq_true c38) ?_
          refine wp_skip ?_
          refine then_n ?_
          refine wp_seq ?_
          refine wp_block ?_
          obtain ⟨c39, H⟩ := ite_some H
          obtain ⟨t40, h41, H⟩ := bind_some H
          obtain ⟨t42, h43, H⟩ := bind_some H
          obtain ⟨t44, h45, H⟩ := bind_some H
          obtain ⟨t46, h47, H⟩ := bind_some H
          refine s_held (fun w => Ms [] w0 w [rowR cd50 v7 t5]) #[false, false, false, false, false, false, false, false, false, false, false, false, false, false, false, false] mixed rfl rfl hM ?_; intro w hf hM; clear hf
          refine h_val 0 #[true, false, false, false, false, false, false, false, false, false, false, false, false, false, false, false] rfl (by kernel_rfl) hF rfl rfl rfl (fun w hS => e_move hF rfl) (hM.pick [1] rfl rfl) ?_; intro a hF
          refine h_val 1 #[true, true, false, false, false, false, false, false, false, false, false, false, false, false, false, false] rfl (by kernel_rfl) hF rfl rfl rfl (fun w hS => e_move hF rfl) (hM.pick [1] rfl rfl) ?_; intro a hF
          refine h_val 2 #[true, true, true, false, false, false, false, false, false, false, false, false, false, false, false, false] rfl (by kernel_rfl) hF rfl rfl rfl (fun w hS => e_move hF rfl) (hM.pick [1] rfl rfl) ?_; intro a hF
          have f49 := (hM.sl 1 rfl).toF
          refine h_val 3 #[true, true, true, true, false, false, false, false, false, false, false, false, false, false, false, false] rfl (by kernel_rfl) hF rfl rfl rfl (fun w hS => e_ias cd50 hF rfl rfl f49 Try.underlying37 Try.sizeOf50 c39.1 c39.2) (hM.pick [1] rfl rfl) ?_; intro a hF
          refine h_val 4 #[true, true, true, true, true, false, false, false, false, false, false, false, false, false, false, false] rfl (by kernel_rfl) hF rfl rfl rfl (fun w hS => e_fa hF rfl Try.underlying50 rfl Try.sizeOf31 rfl rfl) (hM.pick [1] rfl rfl) ?_; intro a hF
          refine h_val 5 #[true, true, true, true, true, true, false, false, false, false, false, false, false, false, false, false] rfl (by kernel_rfl) hF rfl rfl rfl (fun w hS => e_ldsap (m := x35) (o := 0) 0 1 hF rfl (hS.sl 0 rfl) (getD_some (z := ((Ar.zero 6), (Ar.zero 6))) c39.1 c39.2) rfl rfl Try.isAgg31 Try.sizeOf31 rfl) (hM.pick [1] rfl rfl) ?_; intro a hF
          refine h_val 7 #[true, true, true, true, true, true, false, true, false, false, false, false, false, false, false, false] rfl (by kernel_rfl) hF rfl rfl rfl (fun w hS => e_move hF rfl) (hM.pick [1] rfl rfl) ?_; intro a hF
          refine h_val 8 #[true, true, true, true, true, true, false, true, true, false, false, false, false, false, false, false] rfl (by kernel_rfl) hF rfl rfl rfl (fun w hS => e_move hF rfl) (hM.pick [1] rfl rfl) ?_; intro a hF
          have f50 := (hM.sl 1 rfl).toF
          refine h_val 9 #[true, true, true, true, true, true, false, true, true, true, false, false, false, false, false, false] rfl (by kernel_rfl) hF rfl rfl rfl (fun w hS => e_ias cd50 hF rfl rfl f50 Try.underlying37 Try.sizeOf50 c39.1 c39.2) (hM.pick [1] rfl rfl) ?_; intro a hF
          refine h_val 10 #[true, true, true, true, true, true, false, true, true, true, true, false, false, false, false, false] rfl (by kernel_rfl) hF rfl rfl rfl (fun w hS => e_fa hF rfl Try.underlying50 rfl Try.sizeOf31 rfl rfl) (hM.pick [1] rfl rfl) ?_; intro a hF
          refine h_val 11 #[true, true, true, true, true, true, false, true, true, true, true, true, false, false, false, false] rfl (by kernel_rfl) hF rfl rfl rfl (fun w hS => e_ldsap (m := x35) (o := 6) 1 1 hF rfl (hS.sl 0 rfl) (getD_some (z := ((Ar.zero 6), (Ar.zero 6))) c39.1 c39.2) rfl rfl Try.isAgg31 Try.sizeOf31 rfl) (hM.pick [1] rfl rfl) ?_; intro a hF
          refine h_one 6 #[true, true, true, true, true, true, true, true, true, true, true, true, false, false, false, false] rfl (by kernel_rfl) ?_
          refine s_call hF rfl rfl rfl Try.call45 (spec_l5Base.calls K ((t5.getD (x35 : Int).toNat ((Ar.zero 6), (Ar.zero 6))).1) t40 h41) ?_; intro a w v hF hf hR
          subst hR; have hM := hM.grow hf
          refine s_nil ⟨rfl, (hM.pick [1] rfl rfl), ?_⟩
          refine h_one 12 #[true, true, true, true, true, true, true, true, true, true, true, true, true, false, false, false] rfl (by kernel_rfl) ?_
          refine s_call hF rfl rfl rfl Try.call45 (spec_l5Base.calls K ((t5.getD (x35 : Int).toNat ((Ar.zero 6), (Ar.zero 6))).2) t42 h43) ?_; intro a w v hF hf hR
          subst hR; have hM := hM.grow hf
          refine s_nil ⟨rfl, (hM.pick [1] rfl rfl), ?_⟩
          refine h_one 13 #[true, true, true, true, true, true, true, true, true, true, true, true, true, true, false, false] rfl (by kernel_rfl) ?_
          refine s_call hF rfl rfl rfl Try.call44 (spec_l5Pair.calls K t40 t42 t44 h45) ?_; intro a w v hF hf hR
          subst hR; have hM := hM.grow hf
          refine s_nil ⟨rfl, (hM.pick [1] rfl rfl), ?_⟩
          refine h_one 14 #[true, true, true, true, true, true, true, true, true, true, true, true, true, true, true, false] rfl (by kernel_rfl) ?_
          refine s_callx hF rfl rfl rfl Try.call43 (spec_l5Put.calls K x37 v36 t44 (hM.lend [0] rfl rfl) t46 h47) ?_; intro a w v hF hR
          obtain ⟨v48, hR, rfl⟩ := hR; have hM := hM.back [0] [1] (by decide) rfl rfl hR
          refine s_nil ⟨rfl, (hM.pick [1] rfl rfl), ?_⟩
          refine h_val 15 #[true, true, true, true, true, true, true, true, true, true, true, true, true, true, true, true] rfl (by kernel_rfl) hF rfl rfl rfl (fun w hS => e_assign hF rfl) (hM.pick [1] rfl rfl) ?_; intro a hF
          refine h_done rfl ?_
          refine blk_n ?_
          refine then_n ?_
          refine s_region ?_
          refine s_val hF rfl rfl rfl (e_move hF rfl) ?_; intro a hF
          refine s_val hF rfl rfl rfl (e_add hF rfl rfl) ?_; intro a hF
          refine s_val hF rfl rfl rfl (e_assign hF rfl) ?_; intro a hF
          refine s_nil ?_
          refine then_n ?_
          exact ⟨v48, (wrap64 (x35 + 1)), t46, H, hF.sub _ ⟨rfl, rfl, rfl, trivial⟩, hM.pick [0, 1] rfl rfl⟩
        ·
          refine s_cond_f hF rfl (decide_eq_false c38) ?_
          refine wp_exit ?_
          refine then_x ?_
          refine then_x ?_
          exact ⟨rfl, v36, x37, some_some H, hF.sub _ ⟨rfl, trivial⟩, hM.pick [0] rfl rfl⟩
    · rintro e a w ⟨rfl, v33, x34, rfl, hF, hM⟩
      skip
      refine blk_x ?_
      refine then_n ?_
      refine wp_seq ?_
      obtain ⟨c55, H⟩ := ite_some H
      refine s_region ?_
      refine s_bsl (C := cd50) ([] : List ((Ar 6) × (Ar 6))) cdok50 hF hM rfl rfl rfl rfl Try.underlying37 rfl ?_; intro a w v53 hF hM
      refine s_val hF rfl rfl rfl (e_move hF rfl) ?_; intro a hF
      refine s_append (i := 0) cdok50 hF hM rfl rfl rfl rfl rfl (hM.sl 1 rfl) Try.underlying37 c55 ?_; intro a w v54 hF hM
      refine s_val hF rfl rfl rfl (e_assign hF rfl) ?_; intro a hF
      refine s_val hF rfl rfl rfl (e_assign hF rfl) ?_; intro a hF
      refine s_nil ?_
      refine then_n ?_
      refine wp_ret ?_
      obtain rfl := some_some H
      refine s_ret [v54, Value.bool true] hF Try.results24 ⟨rfl, rfl, trivial⟩ ?_
      exact ⟨_, rfl, hM.frm, ⟨v54, rfl, hM.give 0 rfl⟩⟩
  ·
    refine s_cond_t hF rfl (congrArg Bool.not (bf c4)) ?_
    refine wp_seq ?_
    refine s_region ?_
    refine s_val hF rfl rfl rfl (e_move hF rfl) ?_; intro a hF
    refine s_val hF rfl rfl rfl (e_assign hF rfl) ?_; intro a hF
    refine s_val hF rfl rfl rfl (e_assign hF rfl) ?_; intro a hF
    refine s_nil ?_
    refine then_n ?_
    refine wp_ret ?_
    refine then_r ?_
    obtain rfl := some_some H
    refine s_ret [v1, Value.bool false] hF Try.results24 ⟨rfl, rfl, trivial⟩ ?_
    exact ⟨_, rfl, hM.frm, ⟨v1, rfl, hM.give 0 rfl⟩⟩

/-! ### loop.example/g01210/impl.within: function 51 -/
def impl_within.f (K : Nat) (a0 : Int) (a1 : Int) (a2 : Int) : Option Bool := if a1 ≤ a0 then (some (decide (a0 ≤ a2))) else (some false)
set_option maxRecDepth 100000 in
set_option maxHeartbeats 4000000 in
theorem impl_within.calls {w0 : World} (K : Nat) (a0 : Int) (a1 : Int) (a2 : Int) (r : Bool) (H : impl_within.f K a0 a1 a2 = some r) : Calls Try.prog 51 [Value.int .i64 a0, Value.int .i64 a1, Value.int .i64 a2].toArray w0 (Post w0 fun w v => v = Value.bool r) := by
  rw [impl_within.f] at H
  refine s_start Try.func51 rfl Try.ntmps51 rfl ?_
  intro a hF
  have hM := Ms.start w0
  skip
  refine wp_seq ?_
  refine s_region ?_
  refine s_val hF rfl rfl rfl (e_assign hF rfl) ?_; intro a hF
  refine s_nil ?_
  refine then_n ?_
  refine wp_seq ?_
  rcases ite_cases H with ⟨c1, H⟩ | ⟨c1, H⟩
  ·
    refine s_region ?_
    refine s_val hF rfl rfl rfl (e_move hF rfl) ?_; intro a hF
    refine s_val hF rfl rfl rfl (e_move hF rfl) ?_; intro a hF
    refine s_val hF rfl rfl rfl (e_leq hF rfl rfl) ?_; intro a hF
    refine s_val hF rfl rfl rfl (e_move hF rfl) ?_; intro a hF
    have hF := hF.topb (decide_eq_true c1)
    refine s_val hF rfl rfl rfl (e_move hF rfl) ?_; intro a hF
    refine s_val hF rfl rfl rfl (e_move hF rfl) ?_; intro a hF
    refine s_val hF rfl rfl rfl (e_leq hF rfl rfl) ?_; intro a hF
    refine s_val hF rfl rfl rfl (e_pick_t hF rfl rfl) ?_; intro a hF
    refine s_val hF rfl rfl rfl (e_assign hF rfl) ?_; intro a hF
    refine s_nil ?_
    refine then_n ?_
    refine wp_ret ?_
    obtain rfl := some_some H
    refine s_ret [Value.bool (decide (a0 ≤ a2))] hF Try.results51 ⟨rfl, trivial⟩ ?_
    exact ⟨_, rfl, hM.frm, rfl⟩
  ·
    refine s_region ?_
    refine s_val hF rfl rfl rfl (e_move hF rfl) ?_; intro a hF
    refine s_val hF rfl rfl rfl (e_move hF rfl) ?_; intro a hF
    refine s_val hF rfl rfl rfl (e_leq hF rfl rfl) ?_; intro a hF
    refine s_val hF rfl rfl rfl (e_move hF rfl) ?_; intro a hF
    have hF := hF.topb (decide_eq_false c1)
    refine s_skip hF rfl rfl rfl ?_; intro a hF
    refine s_skip hF rfl rfl rfl ?_; intro a hF
    refine s_skip hF rfl rfl rfl ?_; intro a hF
    refine s_val hF rfl rfl rfl (e_pick_f hF rfl rfl) ?_; intro a hF
    refine s_val hF rfl rfl rfl (e_assign hF rfl) ?_; intro a hF
    refine s_nil ?_
    refine then_n ?_
    refine wp_ret ?_
    obtain rfl := some_some H
    refine s_ret [Value.bool false] hF Try.results51 ⟨rfl, trivial⟩ ?_
    exact ⟨_, rfl, hM.frm, rfl⟩

/-! ### loop.example/g01210/impl.isFace: function 55 -/
def impl_isFace.f (K : Nat) (a0 : Int) : Option Bool := (impl_within.f K a0 0 30).bind fun t1 => some t1
set_option maxRecDepth 100000 in
set_option maxHeartbeats 4000000 in
theorem impl_isFace.calls {w0 : World} (K : Nat) (a0 : Int) (r : Bool) (H : impl_isFace.f K a0 = some r) : Calls Try.prog 55 [Value.int .i64 a0].toArray w0 (Post w0 fun w v => v = Value.bool r) := by
  rw [impl_isFace.f] at H
  refine s_start Try.func55 rfl Try.ntmps55 rfl ?_
  intro a hF
  have hM := Ms.start w0
  skip
  refine wp_seq ?_
  refine s_region ?_
  refine s_val hF rfl rfl rfl (e_assign hF rfl) ?_; intro a hF
  refine s_nil ?_
  refine then_n ?_
  refine wp_seq ?_
  obtain ⟨t1, h2, H⟩ := bind_some H
  refine s_region ?_
  refine s_val hF rfl rfl rfl (e_move hF rfl) ?_; intro a hF
  refine s_call hF rfl rfl rfl Try.call51 (impl_within.calls K a0 0 30 t1 h2) ?_; intro a w v hF hf hR
  subst hR; have hM := hM.grow hf
  refine s_val hF rfl rfl rfl (e_assign hF rfl) ?_; intro a hF
  refine s_nil ?_
  refine then_n ?_
  refine wp_ret ?_
  obtain rfl := some_some H
  refine s_ret [Value.bool t1] hF Try.results55 ⟨rfl, trivial⟩ ?_
  exact ⟨_, rfl, hM.frm, rfl⟩

/-! ### loop.example/g01210/impl.areAll[int]$1: function 71 -/
def impl_areAll_int_1__isFace.f (K : Nat) (a0 : Int) : Option Bool := (impl_isFace.f K a0).bind fun t3 => some (!t3)
set_option maxRecDepth 100000 in
set_option maxHeartbeats 4000000 in
theorem impl_areAll_int_1__isFace.calls {w0 : World} (K : Nat) (a0 : Int) (b1 : Nat) (q2 : (boxR b1 [Pt.val (Value.func (.func 55) #[] #[]) rfl] 61).holds w0) (r : Bool) (H : impl_areAll_int_1__isFace.f K a0 = some r) : Calls Try.prog 71 [Value.int .i64 a0, pt b1 0].toArray w0 (Post w0 fun w v => v = Value.bool r) := by
  rw [impl_areAll_int_1__isFace.f] at H
  refine s_start Try.func71 rfl Try.ntmps71 rfl ?_
  intro a hF
  have hM := Ms.start w0
  skip
  refine wp_seq ?_
  refine s_region ?_
  refine s_val hF rfl rfl rfl (e_assign hF rfl) ?_; intro a hF
  refine s_nil ?_
  refine then_n ?_
  refine wp_seq ?_
  obtain ⟨t3, h4, H⟩ := bind_some H
  refine s_region ?_
  refine s_val hF rfl rfl rfl (e_ld (i := 0) (k := 0) hF (lent_ms (box_frm q2 hM.frm)) rfl rfl rfl rfl Try.isAgg61 rfl) ?_; intro a hF
  refine s_val hF rfl rfl rfl (e_move hF rfl) ?_; intro a hF
  refine s_callv hF rfl rfl rfl rfl (callsV_of Try.call55 (impl_isFace.calls K a0 t3 h4)) ?_; intro a w v hF ⟨hf, hR⟩
  subst hR; have hM := hM.grow hf
  refine s_val hF rfl rfl rfl (e_not hF rfl) ?_; intro a hF
  refine s_val hF rfl rfl rfl (e_assign hF rfl) ?_; intro a hF
  refine s_nil ?_
  refine then_n ?_
  refine wp_ret ?_
  obtain rfl := some_some H
  refine s_ret [Value.bool (!t3)] hF Try.results71 ⟨rfl, trivial⟩ ?_
  exact ⟨_, rfl, hM.frm, rfl⟩

/-! ### slices.IndexFunc[[]int,int]: function 79 -/
def slices_IndexFunc_int_int__areAll_int_1_isFace.l0 (K : Nat) (l0 : (List Int)) : Nat → Int → Option (Sum Unit Int)
  | 0, _ => none
  | k + 1, x14 => if x14 < (l0.length : Int) then (if (0 : Int) ≤ x14 ∧ x14 < (l0.length : Int) then ((impl_areAll_int_1__isFace.f K (l0.getD (x14 : Int).toNat (0 : Int))).bind fun t17 => if t17 = true then (some (Sum.inr x14)) else (slices_IndexFunc_int_int__areAll_int_1_isFace.l0 K l0 k (wrap64 (x14 + 1)))) else none) else (some (Sum.inl ()))
def slices_IndexFunc_int_int__areAll_int_1_isFace.f (K : Nat) (l0 : (List Int)) : Option Int := (slices_IndexFunc_int_int__areAll_int_1_isFace.l0 K l0 K 0).bind fun o20 => (match o20 with | .inl () => some (-1) | .inr r22 => some r22)
set_option maxRecDepth 100000 in
set_option maxHeartbeats 4000000 in
theorem slices_IndexFunc_int_int__areAll_int_1_isFace.calls {w0 : World} (K : Nat) (l0 : (List Int)) (u0 : Value) (q0 : SlR cd3 w0 u0 l0) (b1 : Nat) (q2 : (boxR b1 [Pt.val (Value.func (.func 55) #[] #[]) rfl] 61).holds w0) (r : Int) (H : slices_IndexFunc_int_int__areAll_int_1_isFace.f K l0 = some r) : Calls Try.prog 79 [u0, Value.func (.func 71) #[] #[pt b1 0]].toArray w0 (Post w0 fun w v => v = Value.int .i64 r) := by
  rw [slices_IndexFunc_int_int__areAll_int_1_isFace.f] at H
  refine s_start Try.func79 rfl Try.ntmps79 rfl ?_
  intro a hF
  have hM := Ms.start w0
  skip
  refine wp_seq ?_
  refine s_region ?_
  refine s_val hF rfl rfl rfl (e_assign hF rfl) ?_; intro a hF
  refine s_nil ?_
  refine then_n ?_
  refine wp_seq ?_
  refine wp_seq ?_
  refine s_region ?_
  refine s_val hF rfl rfl rfl (e_move hF rfl) ?_; intro a hF
  refine s_val hF rfl rfl rfl (e_len hF rfl (q0.frm hM.frm).toF Try.underlying59) ?_; intro a hF
  refine s_val hF rfl rfl rfl (e_move hF rfl) ?_; intro a hF
  refine s_nil ?_
  refine then_n ?_
  refine wp_block ?_
  obtain ⟨o20, h21, H⟩ := bind_some H
  refine wp_mono (Q := fun e a w => (e = Exit.exit 0 ∧ Sum.inl () = o20 ∧ Fr 19 a [] ∧ Ms [] w0 w []) ∨ (e = Exit.ret ∧ ∃ r22 : Int, Sum.inr r22 = o20 ∧ Fr 19 a [(4, Value.int .i64 r22)] ∧ Ms [] w0 w [])) ?_ ?_
  · refine s_loop (fun kq a w => ∃ x14 : Int, slices_IndexFunc_int_int__areAll_int_1_isFace.l0 K l0 kq x14 = some o20 ∧ Fr 19 a [(0, u0), (1, Value.func (.func 71) #[] #[pt b1 0]), (7, Value.int .i64 (l0.length : Int)), (8, Value.int .i64 x14)] ∧ Ms [] w0 w []) K ⟨0, h21, hF.sub _ ⟨rfl, rfl, rfl, rfl, trivial⟩, hM.pick [] rfl rfl⟩ ?_ ?_
    · rintro a w ⟨_, H, _⟩; exact none_some H
    · rintro k a w ⟨x14, H, hF, hM⟩; rw [slices_IndexFunc_int_int__areAll_int_1_isFace.l0] at H
      refine wp_seq ?_
      refine s_region ?_
      refine s_val hF rfl rfl rfl (e_lss hF rfl rfl) ?_; intro a hF
      refine s_nil ?_
      refine then_n ?_
      refine wp_seq ?_
      rcases ite_cases H with ⟨c15, H⟩ | ⟨c15, H⟩
      ·
        refine s_cond_t hF rfl (decide_eq_true c15) ?_
        refine wp_skip ?_
        refine then_n ?_
        refine wp_seq ?_
        refine wp_block ?_
        refine wp_seq ?_
        refine s_region ?_
        refine s_val hF rfl rfl rfl (e_move hF rfl) ?_; intro a hF
        refine s_val hF rfl rfl rfl (e_assign hF rfl) ?_; intro a hF
        refine s_nil ?_
        refine then_n ?_
        refine wp_seq ?_
        obtain ⟨c16, H⟩ := ite_some H
        obtain ⟨t17, h18, H⟩ := bind_some H
        refine s_region ?_
        refine s_val hF rfl rfl rfl (e_move hF rfl) ?_; intro a hF
        refine s_val hF rfl rfl rfl (e_move hF rfl) ?_; intro a hF
        refine s_val hF rfl rfl rfl (e_move hF rfl) ?_; intro a hF
        refine s_val hF rfl rfl rfl (e_ias cd3 hF rfl rfl (q0.frm hM.frm).toF Try.underlying59 Try.sizeOf3 c16.1 c16.2) ?_; intro a hF
        refine s_val hF rfl rfl rfl (e_lds (m := x14) hF rfl (q0.frm hM.frm) (getD_some (z := (0 : Int)) c16.1 c16.2) rfl rfl Try.isAgg3) ?_; intro a hF
        refine s_callv hF rfl rfl rfl rfl (callsV_of Try.call71 (impl_areAll_int_1__isFace.calls K (l0.getD (x14 : Int).toNat (0 : Int)) b1 (box_frm q2 hM.frm) t17 h18)) ?_; intro a w v hF ⟨hf, hR⟩
        subst hR; have hM := hM.grow hf
        refine s_nil ?_
        refine then_n ?_
        rcases ite_cases H with ⟨c19, H⟩ | ⟨c19, H⟩
        ·
          refine s_cond_t hF rfl c19 ?_
          refine wp_seq ?_
          refine s_region ?_
          refine s_val hF rfl rfl rfl (e_move hF rfl) ?_; intro a hF
          refine s_val hF rfl rfl rfl (e_assign hF rfl) ?_; intro a hF
          refine s_nil ?_
          refine then_n ?_
          refine wp_ret ?_
          refine blk_r ?_
          refine then_r ?_
          refine then_r ?_
          exact Or.inr (⟨rfl, x14, some_some H, hF.sub _ ⟨rfl, trivial⟩, hM.pick [] rfl rfl⟩)
        ·
          refine s_cond_f hF rfl (bf c19) ?_
          refine wp_skip ?_
          refine blk_n ?_
          refine then_n ?_
          refine s_region ?_
          refine s_val hF rfl rfl rfl (e_add hF rfl rfl) ?_; intro a hF
          refine s_val hF rfl rfl rfl (e_move hF rfl) ?_; intro a hF
          refine s_nil ?_
          refine then_n ?_
          exact ⟨(wrap64 (x14 + 1)), H, hF.sub _ ⟨rfl, rfl, rfl, rfl, trivial⟩, hM.pick [] rfl rfl⟩
      ·
        refine s_cond_f hF rfl (decide_eq_false c15) ?_
        refine wp_exit ?_
        refine then_x ?_
        refine then_x ?_
        exact Or.inl (⟨rfl, some_some H, hF.sub _ trivial, hM.pick [] rfl rfl⟩)
  · rintro e a w (⟨rfl, rfl, hF, hM⟩ | ⟨rfl, r22, rfl, hF, hM⟩)
    ·
      dsimp only at H
      refine blk_x ?_
      refine then_n ?_
      refine wp_seq ?_
      refine s_region ?_
      refine s_val hF rfl rfl rfl (e_assign hF rfl) ?_; intro a hF
      refine s_nil ?_
      refine then_n ?_
      refine wp_ret ?_
      obtain rfl := some_some H
      refine s_ret [Value.int .i64 (-1)] hF Try.results79 ⟨rfl, trivial⟩ ?_
      exact ⟨_, rfl, hM.frm, rfl⟩
    ·
      dsimp only at H
      refine blk_r ?_
      refine then_r ?_
      obtain rfl := some_some H
      refine s_ret [Value.int .i64 r22] hF Try.results79 ⟨rfl, trivial⟩ ?_
      exact ⟨_, rfl, hM.frm, rfl⟩

/-! ### slices.ContainsFunc[[]int,int]: function 70 -/
def slices_ContainsFunc_int_int__areAll_int_1_isFace.f (K : Nat) (l0 : (List Int)) : Option Bool := (slices_IndexFunc_int_int__areAll_int_1_isFace.f K l0).bind fun t3 => some (decide (0 ≤ t3))
set_option maxRecDepth 100000 in
set_option maxHeartbeats 4000000 in
theorem slices_ContainsFunc_int_int__areAll_int_1_isFace.calls {w0 : World} (K : Nat) (l0 : (List Int)) (u0 : Value) (q0 : SlR cd3 w0 u0 l0) (b1 : Nat) (q2 : (boxR b1 [Pt.val (Value.func (.func 55) #[] #[]) rfl] 61).holds w0) (r : Bool) (H : slices_ContainsFunc_int_int__areAll_int_1_isFace.f K l0 = some r) : Calls Try.prog 70 [u0, Value.func (.func 71) #[] #[pt b1 0]].toArray w0 (Post w0 fun w v => v = Value.bool r) := by
  rw [slices_ContainsFunc_int_int__areAll_int_1_isFace.f] at H
  refine s_start Try.func70 rfl Try.ntmps70 rfl ?_
  intro a hF
  have hM := Ms.start w0
  skip
  refine wp_seq ?_
  refine s_region ?_
  refine s_val hF rfl rfl rfl (e_assign hF rfl) ?_; intro a hF
  refine s_nil ?_
  refine then_n ?_
  refine wp_seq ?_
  obtain ⟨t3, h4, H⟩ := bind_some H
  refine s_region ?_
  refine s_val hF rfl rfl rfl (e_move hF rfl) ?_; intro a hF
  refine s_val hF rfl rfl rfl (e_move hF rfl) ?_; intro a hF
  refine s_call hF rfl rfl rfl Try.call79 (slices_IndexFunc_int_int__areAll_int_1_isFace.calls K l0 u0 (q0.frm hM.frm) b1 (box_frm q2 hM.frm) t3 h4) ?_; intro a w v hF hf hR
  subst hR; have hM := hM.grow hf
  refine s_val hF rfl rfl rfl (e_geq hF rfl rfl) ?_; intro a hF
  refine s_val hF rfl rfl rfl (e_assign hF rfl) ?_; intro a hF
  refine s_nil ?_
  refine then_n ?_
  refine wp_ret ?_
  obtain rfl := some_some H
  refine s_ret [Value.bool (decide (0 ≤ t3))] hF Try.results70 ⟨rfl, trivial⟩ ?_
  exact ⟨_, rfl, hM.frm, rfl⟩

/-! ### loop.example/g01210/impl.areAll[int]: function 54 -/
def impl_areAll_int__isFace.f (K : Nat) (l0 : (List Int)) : Option Bool := (slices_ContainsFunc_int_int__areAll_int_1_isFace.f K l0).bind fun t2 => some (!t2)
set_option maxRecDepth 100000 in
set_option maxHeartbeats 4000000 in
theorem impl_areAll_int__isFace.calls {w0 : World} (K : Nat) (l0 : (List Int)) (u0 : Value) (q0 : SlR cd3 w0 u0 l0) (r : Bool) (H : impl_areAll_int__isFace.f K l0 = some r) : Calls Try.prog 54 [u0, Value.func (.func 55) #[] #[]].toArray w0 (Post w0 fun w v => v = Value.bool r) := by
  rw [impl_areAll_int__isFace.f] at H
  refine s_start Try.func54 rfl Try.ntmps54 rfl ?_
  intro a hF
  have hM := Ms.start w0
  skip
  refine wp_seq ?_
  refine s_region ?_
  refine s_box (ps := [Pt.val (Value.func (.func 55) #[] #[]) rfl]) hF hM rfl rfl rfl rfl ?_; intro a w b1 hF hM
  refine s_val hF rfl rfl rfl (e_assign hF rfl) ?_; intro a hF
  refine s_nil ?_
  refine then_n ?_
  refine wp_seq ?_
  obtain ⟨t2, h3, H⟩ := bind_some H
  refine s_region ?_
  refine s_val hF rfl rfl rfl (e_move hF rfl) ?_; intro a hF
  refine s_val hF rfl rfl rfl (e_mkfunc (hF.evs' rfl)) ?_; intro a hF
  refine s_call hF rfl rfl rfl Try.call70 (slices_ContainsFunc_int_int__areAll_int_1_isFace.calls K l0 u0 (q0.frm hM.frm) b1 (hM.get 0 rfl) t2 h3) ?_; intro a w v hF hf hR
  subst hR; have hM := hM.grow hf
  refine s_val hF rfl rfl rfl (e_not hF rfl) ?_; intro a hF
  refine s_val hF rfl rfl rfl (e_assign hF rfl) ?_; intro a hF
  refine s_nil ?_
  refine then_n ?_
  refine wp_ret ?_
  obtain rfl := some_some H
  refine s_ret [Value.bool (!t2)] hF Try.results54 ⟨rfl, trivial⟩ ?_
  exact ⟨_, rfl, hM.frm, rfl⟩

/-! ### cmp.isNaN[int]: function 80 -/
def cmp_isNaN_int.f (K : Nat) (a0 : Int) : Option Bool := some (!(decide (a0 = a0)))
set_option maxRecDepth 100000 in
set_option maxHeartbeats 4000000 in
theorem cmp_isNaN_int.calls {w0 : World} (K : Nat) (a0 : Int) (r : Bool) (H : cmp_isNaN_int.f K a0 = some r) : Calls Try.prog 80 [Value.int .i64 a0].toArray w0 (Post w0 fun w v => v = Value.bool r) := by
  rw [cmp_isNaN_int.f] at H
  refine s_start Try.func80 rfl Try.ntmps80 rfl ?_
  intro a hF
  have hM := Ms.start w0
  skip
  refine wp_seq ?_
  refine s_region ?_
  refine s_val hF rfl rfl rfl (e_assign hF rfl) ?_; intro a hF
  refine s_nil ?_
  refine then_n ?_
  refine wp_seq ?_
  refine s_region ?_
  refine s_val hF rfl rfl rfl (e_move hF rfl) ?_; intro a hF
  refine s_val hF rfl rfl rfl (e_move hF rfl) ?_; intro a hF
  refine s_val hF rfl rfl rfl (e_neq hF rfl rfl) ?_; intro a hF
  refine s_val hF rfl rfl rfl (e_assign hF rfl) ?_; intro a hF
  refine s_nil ?_
  refine then_n ?_
  refine wp_ret ?_
  obtain rfl := some_some H
  refine s_ret [Value.bool (!(decide (a0 = a0)))] hF Try.results80 ⟨rfl, trivial⟩ ?_
  exact ⟨_, rfl, hM.frm, rfl⟩

/-! ### cmp.Less[int]: function 72 -/
def cmp_Less_int.f (K : Nat) (a0 : Int) (a1 : Int) : Option Bool := (cmp_isNaN_int.f K a0).bind fun t1 => if t1 = true then ((cmp_isNaN_int.f K a1).bind fun t4 => if t4 = true then (some (decide (a0 < a1))) else (some true)) else (some (decide (a0 < a1)))
set_option maxRecDepth 100000 in
set_option maxHeartbeats 4000000 in
theorem cmp_Less_int.calls {w0 : World} (K : Nat) (a0 : Int) (a1 : Int) (r : Bool) (H : cmp_Less_int.f K a0 a1 = some r) : Calls Try.prog 72 [Value.int .i64 a0, Value.int .i64 a1].toArray w0 (Post w0 fun w v => v = Value.bool r) := by
  rw [cmp_Less_int.f] at H
  refine s_start Try.func72 rfl Try.ntmps72 rfl ?_
  intro a hF
  have hM := Ms.start w0
  skip
  refine wp_seq ?_
  refine s_region ?_
  refine s_val hF rfl rfl rfl (e_assign hF rfl) ?_; intro a hF
  refine s_nil ?_
  refine then_n ?_
  refine wp_seq ?_
  obtain ⟨t1, h2, H⟩ := bind_some H
  rcases ite_cases H with ⟨c3, H⟩ | ⟨c3, H⟩
  ·
    obtain ⟨t4, h5, H⟩ := bind_some H
    rcases ite_cases H with ⟨c6, H⟩ | ⟨c6, H⟩
    ·
      refine s_region ?_
      refine s_val hF rfl rfl rfl (e_move hF rfl) ?_; intro a hF
      refine s_call hF rfl rfl rfl Try.call80 (cmp_isNaN_int.calls K a0 t1 h2) ?_; intro a w v hF hf hR
      subst hR; have hM := hM.grow hf
      refine s_val hF rfl rfl rfl (e_move hF rfl) ?_; intro a hF
      have hF := hF.topb c3
      refine s_val hF rfl rfl rfl (e_move hF rfl) ?_; intro a hF
      refine s_call hF rfl rfl rfl Try.call80 (cmp_isNaN_int.calls K a1 t4 h5) ?_; intro a w v hF hf hR
      subst hR; have hM := hM.grow hf
      refine s_val hF rfl rfl rfl (e_not hF rfl) ?_; intro a hF
      refine s_val hF rfl rfl rfl (e_pick_t hF rfl rfl) ?_; intro a hF
      refine s_val hF rfl rfl rfl (e_move hF rfl) ?_; intro a hF
      have hF := hF.topb (congrArg Bool.not c6)
      refine s_val hF rfl rfl rfl (e_move hF rfl) ?_; intro a hF
      refine s_val hF rfl rfl rfl (e_move hF rfl) ?_; intro a hF
      refine s_val hF rfl rfl rfl (e_lss hF rfl rfl) ?_; intro a hF
      refine s_val hF rfl rfl rfl (e_pick_f hF rfl rfl) ?_; intro a hF
      refine s_val hF rfl rfl rfl (e_assign hF rfl) ?_; intro a hF
      refine s_nil ?_
      refine then_n ?_
      refine wp_ret ?_
      obtain rfl := some_some H
      refine s_ret [Value.bool (decide (a0 < a1))] hF Try.results72 ⟨rfl, trivial⟩ ?_
      exact ⟨_, rfl, hM.frm, rfl⟩
    ·
      refine s_region ?_
      refine s_val hF rfl rfl rfl (e_move hF rfl) ?_; intro a hF
      refine s_call hF rfl rfl rfl Try.call80 (cmp_isNaN_int.calls K a0 t1 h2) ?_; intro a w v hF hf hR
      subst hR; have hM := hM.grow hf
      refine s_val hF rfl rfl rfl (e_move hF rfl) ?_; intro a hF
      have hF := hF.topb c3
      refine s_val hF rfl rfl rfl (e_move hF rfl) ?_; intro a hF
      refine s_call hF rfl rfl rfl Try.call80 (cmp_isNaN_int.calls K a1 t4 h5) ?_; intro a w v hF hf hR
      subst hR; have hM := hM.grow hf
      refine s_val hF rfl rfl rfl (e_not hF rfl) ?_; intro a hF
      refine s_val hF rfl rfl rfl (e_pick_t hF rfl rfl) ?_; intro a hF
      refine s_val hF rfl rfl rfl (e_move hF rfl) ?_; intro a hF
      have hF := hF.topb (congrArg Bool.not (bf c6))
      refine s_skip hF rfl rfl rfl ?_; intro a hF
      refine s_skip hF rfl rfl rfl ?_; intro a hF
      refine s_skip hF rfl rfl rfl ?_; intro a hF
      refine s_val hF rfl rfl rfl (e_pick_t hF rfl rfl) ?_; intro a hF
      refine s_val hF rfl rfl rfl (e_assign hF rfl) ?_; intro a hF
      refine s_nil ?_
      refine then_n ?_
      refine wp_ret ?_
      obtain rfl := some_some H
      refine s_ret [Value.bool true] hF Try.results72 ⟨rfl, trivial⟩ ?_
      exact ⟨_, rfl, hM.frm, rfl⟩
  ·
    refine s_region ?_
    refine s_val hF rfl rfl rfl (e_move hF rfl) ?_; intro a hF
    refine s_call hF rfl rfl rfl Try.call80 (cmp_isNaN_int.calls K a0 t1 h2) ?_; intro a w v hF hf hR
    subst hR; have hM := hM.grow hf
    refine s_val hF rfl rfl rfl (e_move hF rfl) ?_; intro a hF
    have hF := hF.topb (bf c3)
    refine s_skip hF rfl rfl rfl ?_; intro a hF
    refine s_skip hF rfl rfl rfl ?_; intro a hF
    refine s_skip hF rfl rfl rfl ?_; intro a hF
    refine s_val hF rfl rfl rfl (e_pick_f hF rfl rfl) ?_; intro a hF
    refine s_val hF rfl rfl rfl (e_move hF rfl) ?_; intro a hF
    refine s_val hF rfl rfl rfl (e_move hF rfl) ?_; intro a hF
    refine s_val hF rfl rfl rfl (e_move hF rfl) ?_; intro a hF
    refine s_val hF rfl rfl rfl (e_lss hF rfl rfl) ?_; intro a hF
    refine s_val hF rfl rfl rfl (e_pick_f hF rfl rfl) ?_; intro a hF
    refine s_val hF rfl rfl rfl (e_assign hF rfl) ?_; intro a hF
    refine s_nil ?_
    refine then_n ?_
    refine wp_ret ?_
    obtain rfl := some_some H
    refine s_ret [Value.bool (decide (a0 < a1))] hF Try.results72 ⟨rfl, trivial⟩ ?_
    exact ⟨_, rfl, hM.frm, rfl⟩

/-! ### slices.IsSorted[[]int,int]: function 56 -/
def slices_IsSorted_int_int.l0 (K : Nat) (l0 : (List Int)) : Nat → Int → Option (Sum Unit Bool)
  | 0, _ => none
  | k + 1, x14 => if 0 < x14 then (if (0 : Int) ≤ x14 ∧ x14 < (l0.length : Int) then (if (0 : Int) ≤ (wrap64 (x14 - 1)) ∧ (wrap64 (x14 - 1)) < (l0.length : Int) then ((cmp_Less_int.f K (l0.getD (x14 : Int).toNat (0 : Int)) (l0.getD ((wrap64 (x14 - 1)) : Int).toNat (0 : Int))).bind fun t18 => if t18 = true then (some (Sum.inr false)) else (slices_IsSorted_int_int.l0 K l0 k (wrap64 (x14 - 1)))) else none) else none) else (some (Sum.inl ()))
def slices_IsSorted_int_int.f (K : Nat) (l0 : (List Int)) : Option Bool := (slices_IsSorted_int_int.l0 K l0 K (wrap64 ((l0.length : Int) - 1))).bind fun o23 => (match o23 with | .inl () => some true | .inr r25 => some r25)
set_option maxRecDepth 100000 in
set_option maxHeartbeats 4000000 in
theorem slices_IsSorted_int_int.calls {w0 : World} (K : Nat) (l0 : (List Int)) (u0 : Value) (q0 : SlR cd3 w0 u0 l0) (r : Bool) (H : slices_IsSorted_int_int.f K l0 = some r) : Calls Try.prog 56 [u0].toArray w0 (Post w0 fun w v => v = Value.bool r) := by
  rw [slices_IsSorted_int_int.f] at H
  refine s_start Try.func56 rfl Try.ntmps56 rfl ?_
  intro a hF
  have hM := Ms.start w0
  skip
  refine wp_seq ?_
  refine s_region ?_
  refine s_val hF rfl rfl rfl (e_assign hF rfl) ?_; intro a hF
  refine s_nil ?_
  refine then_n ?_
  refine wp_seq ?_
  refine wp_seq ?_
  refine s_region ?_
  refine s_val hF rfl rfl rfl (e_move hF rfl) ?_; intro a hF
  refine s_val hF rfl rfl rfl (e_len hF rfl (q0.frm hM.frm).toF Try.underlying59) ?_; intro a hF
  refine s_val hF rfl rfl rfl (e_sub hF rfl rfl) ?_; intro a hF
  refine s_val hF rfl rfl rfl (e_assign hF rfl) ?_; intro a hF
  refine s_nil ?_
  refine then_n ?_
  refine wp_block ?_
  obtain ⟨o23, h24, H⟩ := bind_some H
  refine wp_mono (Q := fun e a w => (e = Exit.exit 0 ∧ Sum.inl () = o23 ∧ Fr 21 a [] ∧ Ms [] w0 w []) ∨ (e = Exit.ret ∧ ∃ r25 : Bool, Sum.inr r25 = o23 ∧ Fr 21 a [(2, Value.bool r25)] ∧ Ms [] w0 w [])) ?_ ?_
  · refine s_loop (fun kq a w => ∃ x14 : Int, slices_IsSorted_int_int.l0 K l0 kq x14 = some o23 ∧ Fr 21 a [(0, u0), (3, Value.int .i64 x14)] ∧ Ms [] w0 w []) K ⟨(wrap64 ((l0.length : Int) - 1)), h24, hF.sub _ ⟨rfl, rfl, trivial⟩, hM.pick [] rfl rfl⟩ ?_ ?_
    · rintro a w ⟨_, H, _⟩; exact none_some H
    · rintro k a w ⟨x14, H, hF, hM⟩; rw [slices_IsSorted_int_int.l0] at H
      refine wp_seq ?_
      refine wp_seq ?_
      refine s_region ?_
      refine s_val hF rfl rfl rfl (e_move hF rfl) ?_; intro a hF
      refine s_val hF rfl rfl rfl (e_gtr hF rfl rfl) ?_; intro a hF
      refine s_nil ?_
      refine then_n ?_
      rcases ite_cases H with ⟨c15, H⟩ | ⟨c15, H⟩
      ·
        refine s_cond_t hF rfl (decide_eq_true c15) ?_
        refine wp_skip ?_
        refine then_n ?_
        refine wp_seq ?_
        refine wp_block ?_
        refine wp_seq ?_
        obtain ⟨c16, H⟩ := ite_some H
        obtain ⟨c17, H⟩ := ite_some H
        obtain ⟨t18, h19, H⟩ := bind_some H
        refine s_held (fun w => Ms [] w0 w []) #[false, false, false, false, false, false, false, false, false, false] mixed rfl rfl hM ?_; intro w hf hM; clear hf
        refine h_val 0 #[true, false, false, false, false, false, false, false, false, false] rfl (by kernel_rfl) hF rfl rfl rfl (fun w hS => e_move hF rfl) (hM.pick [] rfl rfl) ?_; intro a hF
        refine h_val 1 #[true, true, false, false, false, false, false, false, false, false] rfl (by kernel_rfl) hF rfl rfl rfl (fun w hS => e_move hF rfl) (hM.pick [] rfl rfl) ?_; intro a hF
        have f20 := (q0.frm hM.frm).toF
        refine h_val 2 #[true, true, true, false, false, false, false, false, false, false] rfl (by kernel_rfl) hF rfl rfl rfl (fun w hS => e_ias cd3 hF rfl rfl f20 Try.underlying59 Try.sizeOf3 c16.1 c16.2) (hM.pick [] rfl rfl) ?_; intro a hF
        refine h_val 3 #[true, true, true, true, false, false, false, false, false, false] rfl (by kernel_rfl) hF rfl rfl rfl (fun w hS => e_lds (m := x14) hF rfl (q0.frm hS.frm) (getD_some (z := (0 : Int)) c16.1 c16.2) rfl rfl Try.isAgg3) (hM.pick [] rfl rfl) ?_; intro a hF
        refine h_val 4 #[true, true, true, true, true, false, false, false, false, false] rfl (by kernel_rfl) hF rfl rfl rfl (fun w hS => e_move hF rfl) (hM.pick [] rfl rfl) ?_; intro a hF
        refine h_val 5 #[true, true, true, true, true, true, false, false, false, false] rfl (by kernel_rfl) hF rfl rfl rfl (fun w hS => e_move hF rfl) (hM.pick [] rfl rfl) ?_; intro a hF
        refine h_val 6 #[true, true, true, true, true, true, true, false, false, false] rfl (by kernel_rfl) hF rfl rfl rfl (fun w hS => e_sub hF rfl rfl) (hM.pick [] rfl rfl) ?_; intro a hF
        have f21 := (q0.frm hM.frm).toF
        refine h_val 7 #[true, true, true, true, true, true, true, true, false, false] rfl (by kernel_rfl) hF rfl rfl rfl (fun w hS => e_ias cd3 hF rfl rfl f21 Try.underlying59 Try.sizeOf3 c17.1 c17.2) (hM.pick [] rfl rfl) ?_; intro a hF
        refine h_val 8 #[true, true, true, true, true, true, true, true, true, false] rfl (by kernel_rfl) hF rfl rfl rfl (fun w hS => e_lds (m := (wrap64 (x14 - 1))) hF rfl (q0.frm hS.frm) (getD_some (z := (0 : Int)) c17.1 c17.2) rfl rfl Try.isAgg3) (hM.pick [] rfl rfl) ?_; intro a hF
        refine h_one 9 #[true, true, true, true, true, true, true, true, true, true] rfl (by kernel_rfl) ?_
        refine s_call hF rfl rfl rfl Try.call72 (cmp_Less_int.calls K (l0.getD (x14 : Int).toNat (0 : Int)) (l0.getD ((wrap64 (x14 - 1)) : Int).toNat (0 : Int)) t18 h19) ?_; intro a w v hF hf hR
        subst hR; have hM := hM.grow hf
        refine s_nil ⟨rfl, (hM.pick [] rfl rfl), ?_⟩
        refine h_done rfl ?_
        refine then_n ?_
        rcases ite_cases H with ⟨c22, H⟩ | ⟨c22, H⟩
        ·
          refine s_cond_t hF rfl c22 ?_
          refine wp_seq ?_
          refine s_region ?_
          refine s_val hF rfl rfl rfl (e_assign hF rfl) ?_; intro a hF
          refine s_nil ?_
          refine then_n ?_
          refine wp_ret ?_
          refine blk_r ?_
          refine then_r ?_
          refine then_r ?_
          exact Or.inr (⟨rfl, false, some_some H, hF.sub _ ⟨rfl, trivial⟩, hM.pick [] rfl rfl⟩)
        ·
          refine s_cond_f hF rfl (bf c22) ?_
          refine wp_skip ?_
          refine blk_n ?_
          refine then_n ?_
          refine s_region ?_
          refine s_val hF rfl rfl rfl (e_move hF rfl) ?_; intro a hF
          refine s_val hF rfl rfl rfl (e_sub hF rfl rfl) ?_; intro a hF
          refine s_val hF rfl rfl rfl (e_assign hF rfl) ?_; intro a hF
          refine s_nil ?_
          refine then_n ?_
          exact ⟨(wrap64 (x14 - 1)), H, hF.sub _ ⟨rfl, rfl, trivial⟩, hM.pick [] rfl rfl⟩
      ·
        refine s_cond_f hF rfl (decide_eq_false c15) ?_
        refine wp_exit ?_
        refine then_x ?_
        refine then_x ?_
        exact Or.inl (⟨rfl, some_some H, hF.sub _ trivial, hM.pick [] rfl rfl⟩)
  · rintro e a w (⟨rfl, rfl, hF, hM⟩ | ⟨rfl, r25, rfl, hF, hM⟩)
    ·
      dsimp only at H
      refine blk_x ?_
      refine then_n ?_
      refine wp_seq ?_
      refine s_region ?_
      refine s_val hF rfl rfl rfl (e_assign hF rfl) ?_; intro a hF
      refine s_nil ?_
      refine then_n ?_
      refine wp_ret ?_
      obtain rfl := some_some H
      refine s_ret [Value.bool true] hF Try.results56 ⟨rfl, trivial⟩ ?_
      exact ⟨_, rfl, hM.frm, rfl⟩
    ·
      dsimp only at H
      refine blk_r ?_
      refine then_r ?_
      obtain rfl := some_some H
      refine s_ret [Value.bool r25] hF Try.results56 ⟨rfl, trivial⟩ ?_
      exact ⟨_, rfl, hM.frm, rfl⟩

/-! ### loop.example/g01210/impl.IsDie: function 39 -/
def impl_IsDie.f (K : Nat) (a0 : (Ar 6)) : Option Bool := (impl_areAll_int__isFace.f K a0.l).bind fun t2 => if t2 = true then ((slices_IsSorted_int_int.f K a0.l).bind fun t5 => some t5) else (some false)
set_option maxRecDepth 100000 in
set_option maxHeartbeats 4000000 in
theorem impl_IsDie.calls {w0 : World} (K : Nat) (a0 : (Ar 6)) (r : Bool) (H : impl_IsDie.f K a0 = some r) : Calls Try.prog 39 [ag [Pt.ar a0]].toArray w0 (Post w0 fun w v => v = Value.bool r) := by
  rw [impl_IsDie.f] at H
  refine s_start Try.func39 rfl Try.ntmps39 rfl ?_
  intro a hF
  have hM := Ms.start w0
  skip
  refine wp_seq ?_
  refine s_region ?_
  refine s_box (ps := [Pt.ar a0]) hF hM rfl rfl rfl rfl ?_; intro a w b1 hF hM
  refine s_val hF rfl rfl rfl (e_assign hF rfl) ?_; intro a hF
  refine s_nil ?_
  refine then_n ?_
  refine wp_seq ?_
  obtain ⟨t2, h3, H⟩ := bind_some H
  rcases ite_cases H with ⟨c4, H⟩ | ⟨c4, H⟩
  ·
    obtain ⟨t5, h6, H⟩ := bind_some H
    refine s_region ?_
    refine s_val hF rfl rfl rfl (e_slA0 hF rfl Try.underlying31 Try.sizeOf3) ?_; intro a hF
    refine s_call hF rfl rfl rfl Try.call54 (impl_areAll_int__isFace.calls K a0.l (Value.slice (some ⟨b1, 0, none⟩) 6 6) (hM.boxSl (k := 0) (m := 6) 0 rfl rfl rfl cd3 (fun _ => rfl) 6 (by decide)) t2 h3) ?_; intro a w v hF hf hR
    subst hR; have hM := hM.grow hf
    refine s_val hF rfl rfl rfl (e_move hF rfl) ?_; intro a hF
    have hF := hF.topb c4
    refine s_val hF rfl rfl rfl (e_slA0 hF rfl Try.underlying31 Try.sizeOf3) ?_; intro a hF
    refine s_call hF rfl rfl rfl Try.call56 (slices_IsSorted_int_int.calls K a0.l (Value.slice (some ⟨b1, 0, none⟩) 6 6) (hM.boxSl (k := 0) (m := 6) 0 rfl rfl rfl cd3 (fun _ => rfl) 6 (by decide)) t5 h6) ?_; intro a w v hF hf hR
    subst hR; have hM := hM.grow hf
    refine s_val hF rfl rfl rfl (e_pick_t hF rfl rfl) ?_; intro a hF
    refine s_val hF rfl rfl rfl (e_assign hF rfl) ?_; intro a hF
    refine s_nil ?_
    refine then_n ?_
    refine wp_ret ?_
    obtain rfl := some_some H
    refine s_ret [Value.bool t5] hF Try.results39 ⟨rfl, trivial⟩ ?_
    exact ⟨_, rfl, hM.frm, rfl⟩
  ·
    refine s_region ?_
    refine s_val hF rfl rfl rfl (e_slA0 hF rfl Try.underlying31 Try.sizeOf3) ?_; intro a hF
    refine s_call hF rfl rfl rfl Try.call54 (impl_areAll_int__isFace.calls K a0.l (Value.slice (some ⟨b1, 0, none⟩) 6 6) (hM.boxSl (k := 0) (m := 6) 0 rfl rfl rfl cd3 (fun _ => rfl) 6 (by decide)) t2 h3) ?_; intro a w v hF hf hR
    subst hR; have hM := hM.grow hf
    refine s_val hF rfl rfl rfl (e_move hF rfl) ?_; intro a hF
    have hF := hF.topb (bf c4)
    refine s_skip hF rfl rfl rfl ?_; intro a hF
    refine s_skip hF rfl rfl rfl ?_; intro a hF
    refine s_val hF rfl rfl rfl (e_pick_f hF rfl rfl) ?_; intro a hF
    refine s_val hF rfl rfl rfl (e_assign hF rfl) ?_; intro a hF
    refine s_nil ?_
    refine then_n ?_
    refine wp_ret ?_
    obtain rfl := some_some H
    refine s_ret [Value.bool false] hF Try.results39 ⟨rfl, trivial⟩ ?_
    exact ⟨_, rfl, hM.frm, rfl⟩

/-! ### loop.example/g01210/impl.areAll[[6]int]$1: function 67 -/
def impl_areAll_6_int_1__IsDie.f (K : Nat) (a0 : (Ar 6)) : Option Bool := (impl_IsDie.f K a0).bind fun t4 => some (!t4)
set_option maxRecDepth 100000 in
set_option maxHeartbeats 4000000 in
theorem impl_areAll_6_int_1__IsDie.calls {w0 : World} (K : Nat) (a0 : (Ar 6)) (b1 : Nat) (q2 : (boxR b1 [Pt.val (Value.func (.func 39) #[] #[]) rfl] 47).holds w0) (r : Bool) (H : impl_areAll_6_int_1__IsDie.f K a0 = some r) : Calls Try.prog 67 [ag [Pt.ar a0], pt b1 0].toArray w0 (Post w0 fun w v => v = Value.bool r) := by
  rw [impl_areAll_6_int_1__IsDie.f] at H
  refine s_start Try.func67 rfl Try.ntmps67 rfl ?_
  intro a hF
  have hM := Ms.start w0
  skip
  refine wp_seq ?_
  refine s_region ?_
  refine s_box (ps := [Pt.ar a0]) hF hM rfl rfl rfl rfl ?_; intro a w b3 hF hM
  refine s_val hF rfl rfl rfl (e_assign hF rfl) ?_; intro a hF
  refine s_nil ?_
  refine then_n ?_
  refine wp_seq ?_
  obtain ⟨t4, h5, H⟩ := bind_some H
  refine s_region ?_
  refine s_val hF rfl rfl rfl (e_ld (i := 0) (k := 0) hF (lent_ms (box_frm q2 hM.frm)) rfl rfl rfl rfl Try.isAgg47 rfl) ?_; intro a hF
  refine s_val hF rfl rfl rfl (e_lda (i := 0) 0 1 hF hM rfl rfl rfl rfl Try.isAgg31 Try.sizeOf31 rfl) ?_; intro a hF
  refine s_callv hF rfl rfl rfl rfl (callsV_of Try.call39 (impl_IsDie.calls K a0 t4 h5)) ?_; intro a w v hF ⟨hf, hR⟩
  subst hR; have hM := hM.grow hf
  refine s_val hF rfl rfl rfl (e_not hF rfl) ?_; intro a hF
  refine s_val hF rfl rfl rfl (e_assign hF rfl) ?_; intro a hF
  refine s_nil ?_
  refine then_n ?_
  refine wp_ret ?_
  obtain rfl := some_some H
  refine s_ret [Value.bool (!t4)] hF Try.results67 ⟨rfl, trivial⟩ ?_
  exact ⟨_, rfl, hM.frm, rfl⟩

/-! ### slices.IndexFunc[[][6]int,[6]int]: function 78 -/
def slices_IndexFunc_6_int_6_int__areAll_6_int_1_IsDie.l0 (K : Nat) (l0 : (List (Ar 6))) : Nat → Int → Option (Sum Unit Int)
  | 0, _ => none
  | k + 1, x14 => if x14 < (l0.length : Int) then (if (0 : Int) ≤ x14 ∧ x14 < (l0.length : Int) then ((impl_areAll_6_int_1__IsDie.f K (l0.getD (x14 : Int).toNat (Ar.zero 6))).bind fun t17 => if t17 = true then (some (Sum.inr x14)) else (slices_IndexFunc_6_int_6_int__areAll_6_int_1_IsDie.l0 K l0 k (wrap64 (x14 + 1)))) else none) else (some (Sum.inl ()))
def slices_IndexFunc_6_int_6_int__areAll_6_int_1_IsDie.f (K : Nat) (l0 : (List (Ar 6))) : Option Int := (slices_IndexFunc_6_int_6_int__areAll_6_int_1_IsDie.l0 K l0 K 0).bind fun o20 => (match o20 with | .inl () => some (-1) | .inr r22 => some r22)
set_option maxRecDepth 100000 in
set_option maxHeartbeats 4000000 in
theorem slices_IndexFunc_6_int_6_int__areAll_6_int_1_IsDie.calls {w0 : World} (K : Nat) (l0 : (List (Ar 6))) (u0 : Value) (q0 : SlR cd31 w0 u0 l0) (b1 : Nat) (q2 : (boxR b1 [Pt.val (Value.func (.func 39) #[] #[]) rfl] 47).holds w0) (r : Int) (H : slices_IndexFunc_6_int_6_int__areAll_6_int_1_IsDie.f K l0 = some r) : Calls Try.prog 78 [u0, Value.func (.func 67) #[] #[pt b1 0]].toArray w0 (Post w0 fun w v => v = Value.int .i64 r) := by
  rw [slices_IndexFunc_6_int_6_int__areAll_6_int_1_IsDie.f] at H
  refine s_start Try.func78 rfl Try.ntmps78 rfl ?_
  intro a hF
  have hM := Ms.start w0
  skip
  refine wp_seq ?_
  refine s_region ?_
  refine s_val hF rfl rfl rfl (e_assign hF rfl) ?_; intro a hF
  refine s_nil ?_
  refine then_n ?_
  refine wp_seq ?_
  refine wp_seq ?_
  refine s_region ?_
  refine s_val hF rfl rfl rfl (e_move hF rfl) ?_; intro a hF
  refine s_val hF rfl rfl rfl (e_len hF rfl (q0.frm hM.frm).toF Try.underlying22) ?_; intro a hF
  refine s_val hF rfl rfl rfl (e_move hF rfl) ?_; intro a hF
  refine s_nil ?_
  refine then_n ?_
  refine wp_block ?_
  obtain ⟨o20, h21, H⟩ := bind_some H
  refine wp_mono (Q := fun e a w => (e = Exit.exit 0 ∧ Sum.inl () = o20 ∧ Fr 19 a [] ∧ Ms [] w0 w []) ∨ (e = Exit.ret ∧ ∃ r22 : Int, Sum.inr r22 = o20 ∧ Fr 19 a [(4, Value.int .i64 r22)] ∧ Ms [] w0 w [])) ?_ ?_
  · refine s_loop (fun kq a w => ∃ x14 : Int, slices_IndexFunc_6_int_6_int__areAll_6_int_1_IsDie.l0 K l0 kq x14 = some o20 ∧ Fr 19 a [(0, u0), (1, Value.func (.func 67) #[] #[pt b1 0]), (7, Value.int .i64 (l0.length : Int)), (8, Value.int .i64 x14)] ∧ Ms [] w0 w []) K ⟨0, h21, hF.sub _ ⟨rfl, rfl, rfl, rfl, trivial⟩, hM.pick [] rfl rfl⟩ ?_ ?_
    · rintro a w ⟨_, H, _⟩; exact none_some H
    · rintro k a w ⟨x14, H, hF, hM⟩; rw [slices_IndexFunc_6_int_6_int__areAll_6_int_1_IsDie.l0] at H
      refine wp_seq ?_
      refine s_region ?_
      refine s_val hF rfl rfl rfl (e_lss hF rfl rfl) ?_; intro a hF
      refine s_nil ?_
      refine then_n ?_
      refine wp_seq ?_
      rcases ite_cases H with ⟨c15, H⟩ | ⟨c15, H⟩
      ·
        refine s_cond_t hF rfl (decide_eq_true c15) ?_
        refine wp_skip ?_
        refine then_n ?_
        refine wp_seq ?_
        refine wp_block ?_
        refine wp_seq ?_
        refine s_region ?_
        refine s_val hF rfl rfl rfl (e_move hF rfl) ?_; intro a hF
        refine s_val hF rfl rfl rfl (e_assign hF rfl) ?_; intro a hF
        refine s_nil ?_
        refine then_n ?_
        refine wp_seq ?_
        obtain ⟨c16, H⟩ := ite_some H
        obtain ⟨t17, h18, H⟩ := bind_some H
        refine s_region ?_
        refine s_val hF rfl rfl rfl (e_move hF rfl) ?_; intro a hF
        refine s_val hF rfl rfl rfl (e_move hF rfl) ?_; intro a hF
        refine s_val hF rfl rfl rfl (e_move hF rfl) ?_; intro a hF
        refine s_val hF rfl rfl rfl (e_ias cd31 hF rfl rfl (q0.frm hM.frm).toF Try.underlying22 Try.sizeOf31 c16.1 c16.2) ?_; intro a hF
        refine s_val hF rfl rfl rfl (e_ldsa (m := x14) hF rfl (q0.frm hM.frm) (getD_some (z := (Ar.zero 6)) c16.1 c16.2) Try.isAgg31 Try.sizeOf31) ?_; intro a hF
        refine s_callv hF rfl rfl rfl rfl (callsV_of Try.call67 (impl_areAll_6_int_1__IsDie.calls K (l0.getD (x14 : Int).toNat (Ar.zero 6)) b1 (box_frm q2 hM.frm) t17 h18)) ?_; intro a w v hF ⟨hf, hR⟩
        subst hR; have hM := hM.grow hf
        refine s_nil ?_
        refine then_n ?_
        rcases ite_cases H with ⟨c19, H⟩ | ⟨c19, H⟩
        ·
          refine s_cond_t hF rfl c19 ?_
          refine wp_seq ?_
          refine s_region ?_
          refine s_val hF rfl rfl rfl (e_move hF rfl) ?_; intro a hF
          refine s_val hF rfl rfl rfl (e_assign hF rfl) ?_; intro a hF
          refine s_nil ?_
          refine then_n ?_
          refine wp_ret ?_
          refine blk_r ?_
          refine then_r ?_
          refine then_r ?_
          exact Or.inr (⟨rfl, x14, some_some H, hF.sub _ ⟨rfl, trivial⟩, hM.pick [] rfl rfl⟩)
        ·
          refine s_cond_f hF rfl (bf c19) ?_
          refine wp_skip ?_
          refine blk_n ?_
          refine then_n ?_
          refine s_region ?_
          refine s_val hF rfl rfl rfl (e_add hF rfl rfl) ?_; intro a hF
          refine s_val hF rfl rfl rfl (e_move hF rfl) ?_; intro a hF
          refine s_nil ?_
          refine then_n ?_
          exact ⟨(wrap64 (x14 + 1)), H, hF.sub _ ⟨rfl, rfl, rfl, rfl, trivial⟩, hM.pick [] rfl rfl⟩
      ·
        refine s_cond_f hF rfl (decide_eq_false c15) ?_
        refine wp_exit ?_
        refine then_x ?_
        refine then_x ?_
        exact Or.inl (⟨rfl, some_some H, hF.sub _ trivial, hM.pick [] rfl rfl⟩)
  · rintro e a w (⟨rfl, rfl, hF, hM⟩ | ⟨rfl, r22, rfl, hF, hM⟩)
    ·
      dsimp only at H
      refine blk_x ?_
      refine then_n ?_
      refine wp_seq ?_
      refine s_region ?_
      refine s_val hF rfl rfl rfl (e_assign hF rfl) ?_; intro a hF
      refine s_nil ?_
      refine then_n ?_
      refine wp_ret ?_
      obtain rfl := some_some H
      refine s_ret [Value.int .i64 (-1)] hF Try.results78 ⟨rfl, trivial⟩ ?_
      exact ⟨_, rfl, hM.frm, rfl⟩
    ·
      dsimp only at H
      refine blk_r ?_
      refine then_r ?_
      obtain rfl := some_some H
      refine s_ret [Value.int .i64 r22] hF Try.results78 ⟨rfl, trivial⟩ ?_
      exact ⟨_, rfl, hM.frm, rfl⟩

/-! ### slices.ContainsFunc[[][6]int,[6]int]: function 66 -/
def slices_ContainsFunc_6_int_6_int__areAll_6_int_1_IsDie.f (K : Nat) (l0 : (List (Ar 6))) : Option Bool := (slices_IndexFunc_6_int_6_int__areAll_6_int_1_IsDie.f K l0).bind fun t3 => some (decide (0 ≤ t3))
set_option maxRecDepth 100000 in
set_option maxHeartbeats 4000000 in
theorem slices_ContainsFunc_6_int_6_int__areAll_6_int_1_IsDie.calls {w0 : World} (K : Nat) (l0 : (List (Ar 6))) (u0 : Value) (q0 : SlR cd31 w0 u0 l0) (b1 : Nat) (q2 : (boxR b1 [Pt.val (Value.func (.func 39) #[] #[]) rfl] 47).holds w0) (r : Bool) (H : slices_ContainsFunc_6_int_6_int__areAll_6_int_1_IsDie.f K l0 = some r) : Calls Try.prog 66 [u0, Value.func (.func 67) #[] #[pt b1 0]].toArray w0 (Post w0 fun w v => v = Value.bool r) := by
  rw [slices_ContainsFunc_6_int_6_int__areAll_6_int_1_IsDie.f] at H
  refine s_start Try.func66 rfl Try.ntmps66 rfl ?_
  intro a hF
  have hM := Ms.start w0
  skip
  refine wp_seq ?_
  refine s_region ?_
  refine s_val hF rfl rfl rfl (e_assign hF rfl) ?_; intro a hF
  refine s_nil ?_
  refine then_n ?_
  refine wp_seq ?_
  obtain ⟨t3, h4, H⟩ := bind_some H
  refine s_region ?_
  refine s_val hF rfl rfl rfl (e_move hF rfl) ?_; intro a hF
  refine s_val hF rfl rfl rfl (e_move hF rfl) ?_; intro a hF
  refine s_call hF rfl rfl rfl Try.call78 (slices_IndexFunc_6_int_6_int__areAll_6_int_1_IsDie.calls K l0 u0 (q0.frm hM.frm) b1 (box_frm q2 hM.frm) t3 h4) ?_; intro a w v hF hf hR
  subst hR; have hM := hM.grow hf
  refine s_val hF rfl rfl rfl (e_geq hF rfl rfl) ?_; intro a hF
  refine s_val hF rfl rfl rfl (e_assign hF rfl) ?_; intro a hF
  refine s_nil ?_
  refine then_n ?_
  refine wp_ret ?_
  obtain rfl := some_some H
  refine s_ret [Value.bool (decide (0 ≤ t3))] hF Try.results66 ⟨rfl, trivial⟩ ?_
  exact ⟨_, rfl, hM.frm, rfl⟩

/-! ### loop.example/g01210/impl.areAll[[6]int]: function 52 -/
def impl_areAll_6_int__IsDie.f (K : Nat) (l0 : (List (Ar 6))) : Option Bool := (slices_ContainsFunc_6_int_6_int__areAll_6_int_1_IsDie.f K l0).bind fun t2 => some (!t2)
set_option maxRecDepth 100000 in
set_option maxHeartbeats 4000000 in
theorem impl_areAll_6_int__IsDie.calls {w0 : World} (K : Nat) (l0 : (List (Ar 6))) (u0 : Value) (q0 : SlR cd31 w0 u0 l0) (r : Bool) (H : impl_areAll_6_int__IsDie.f K l0 = some r) : Calls Try.prog 52 [u0, Value.func (.func 39) #[] #[]].toArray w0 (Post w0 fun w v => v = Value.bool r) := by
  rw [impl_areAll_6_int__IsDie.f] at H
  refine s_start Try.func52 rfl Try.ntmps52 rfl ?_
  intro a hF
  have hM := Ms.start w0
  skip
  refine wp_seq ?_
  refine s_region ?_
  refine s_box (ps := [Pt.val (Value.func (.func 39) #[] #[]) rfl]) hF hM rfl rfl rfl rfl ?_; intro a w b1 hF hM
  refine s_val hF rfl rfl rfl (e_assign hF rfl) ?_; intro a hF
  refine s_nil ?_
  refine then_n ?_
  refine wp_seq ?_
  obtain ⟨t2, h3, H⟩ := bind_some H
  refine s_region ?_
  refine s_val hF rfl rfl rfl (e_move hF rfl) ?_; intro a hF
  refine s_val hF rfl rfl rfl (e_mkfunc (hF.evs' rfl)) ?_; intro a hF
  refine s_call hF rfl rfl rfl Try.call66 (slices_ContainsFunc_6_int_6_int__areAll_6_int_1_IsDie.calls K l0 u0 (q0.frm hM.frm) b1 (hM.get 0 rfl) t2 h3) ?_; intro a w v hF hf hR
  subst hR; have hM := hM.grow hf
  refine s_val hF rfl rfl rfl (e_not hF rfl) ?_; intro a hF
  refine s_val hF rfl rfl rfl (e_assign hF rfl) ?_; intro a hF
  refine s_nil ?_
  refine then_n ?_
  refine wp_ret ?_
  obtain rfl := some_some H
  refine s_ret [Value.bool (!t2)] hF Try.results52 ⟨rfl, trivial⟩ ?_
  exact ⟨_, rfl, hM.frm, rfl⟩

/-! ### loop.example/g01210/impl.IsPool: function 32 -/
def impl_IsPool.f (K : Nat) (l0 : (List (Ar 6))) : Option Bool := (impl_within.f K (l0.length : Int) 1 4).bind fun t1 => if t1 = true then ((impl_areAll_6_int__IsDie.f K l0).bind fun t4 => some t4) else (some false)
set_option maxRecDepth 100000 in
set_option maxHeartbeats 4000000 in
theorem impl_IsPool.calls {w0 : World} (K : Nat) (l0 : (List (Ar 6))) (u0 : Value) (q0 : SlR cd31 w0 u0 l0) (r : Bool) (H : impl_IsPool.f K l0 = some r) : Calls Try.prog 32 [u0].toArray w0 (Post w0 fun w v => v = Value.bool r) := by
  rw [impl_IsPool.f] at H
  refine s_start Try.func32 rfl Try.ntmps32 rfl ?_
  intro a hF
  have hM := Ms.start w0
  skip
  refine wp_seq ?_
  refine s_region ?_
  refine s_val hF rfl rfl rfl (e_assign hF rfl) ?_; intro a hF
  refine s_nil ?_
  refine then_n ?_
  refine wp_seq ?_
  obtain ⟨t1, h2, H⟩ := bind_some H
  rcases ite_cases H with ⟨c3, H⟩ | ⟨c3, H⟩
  ·
    obtain ⟨t4, h5, H⟩ := bind_some H
    refine s_region ?_
    refine s_val hF rfl rfl rfl (e_move hF rfl) ?_; intro a hF
    refine s_val hF rfl rfl rfl (e_len hF rfl (q0.frm hM.frm).toF Try.underlying22) ?_; intro a hF
    refine s_call hF rfl rfl rfl Try.call51 (impl_within.calls K (l0.length : Int) 1 4 t1 h2) ?_; intro a w v hF hf hR
    subst hR; have hM := hM.grow hf
    refine s_val hF rfl rfl rfl (e_move hF rfl) ?_; intro a hF
    have hF := hF.topb c3
    refine s_val hF rfl rfl rfl (e_move hF rfl) ?_; intro a hF
    refine s_call hF rfl rfl rfl Try.call52 (impl_areAll_6_int__IsDie.calls K l0 u0 (q0.frm hM.frm) t4 h5) ?_; intro a w v hF hf hR
    subst hR; have hM := hM.grow hf
    refine s_val hF rfl rfl rfl (e_pick_t hF rfl rfl) ?_; intro a hF
    refine s_val hF rfl rfl rfl (e_assign hF rfl) ?_; intro a hF
    refine s_nil ?_
    refine then_n ?_
    refine wp_ret ?_
    obtain rfl := some_some H
    refine s_ret [Value.bool t4] hF Try.results32 ⟨rfl, trivial⟩ ?_
    exact ⟨_, rfl, hM.frm, rfl⟩
  ·
    refine s_region ?_
    refine s_val hF rfl rfl rfl (e_move hF rfl) ?_; intro a hF
    refine s_val hF rfl rfl rfl (e_len hF rfl (q0.frm hM.frm).toF Try.underlying22) ?_; intro a hF
    refine s_call hF rfl rfl rfl Try.call51 (impl_within.calls K (l0.length : Int) 1 4 t1 h2) ?_; intro a w v hF hf hR
    subst hR; have hM := hM.grow hf
    refine s_val hF rfl rfl rfl (e_move hF rfl) ?_; intro a hF
    have hF := hF.topb (bf c3)
    refine s_skip hF rfl rfl rfl ?_; intro a hF
    refine s_skip hF rfl rfl rfl ?_; intro a hF
    refine s_val hF rfl rfl rfl (e_pick_f hF rfl rfl) ?_; intro a hF
    refine s_val hF rfl rfl rfl (e_assign hF rfl) ?_; intro a hF
    refine s_nil ?_
    refine then_n ?_
    refine wp_ret ?_
    obtain rfl := some_some H
    refine s_ret [Value.bool false] hF Try.results32 ⟨rfl, trivial⟩ ?_
    exact ⟨_, rfl, hM.frm, rfl⟩

/-! ### loop.example/g01210/impl.isTwo: function 40 -/
def impl_isTwo.f (K : Nat) (l0 : (List (Ar 6))) : Option Bool := (impl_IsPool.f K l0).bind fun t1 => if t1 = true then (some (decide ((l0.length : Int) = 2))) else (some false)
set_option maxRecDepth 100000 in
set_option maxHeartbeats 4000000 in
theorem impl_isTwo.calls {w0 : World} (K : Nat) (l0 : (List (Ar 6))) (u0 : Value) (q0 : SlR cd31 w0 u0 l0) (r : Bool) (H : impl_isTwo.f K l0 = some r) : Calls Try.prog 40 [u0].toArray w0 (Post w0 fun w v => v = Value.bool r) := by
  rw [impl_isTwo.f] at H
  refine s_start Try.func40 rfl Try.ntmps40 rfl ?_
  intro a hF
  have hM := Ms.start w0
  skip
  refine wp_seq ?_
  refine s_region ?_
  refine s_val hF rfl rfl rfl (e_assign hF rfl) ?_; intro a hF
  refine s_nil ?_
  refine then_n ?_
  refine wp_seq ?_
  obtain ⟨t1, h2, H⟩ := bind_some H
  rcases ite_cases H with ⟨c3, H⟩ | ⟨c3, H⟩
  ·
    refine s_region ?_
    refine s_val hF rfl rfl rfl (e_move hF rfl) ?_; intro a hF
    refine s_call hF rfl rfl rfl Try.call32 (impl_IsPool.calls K l0 u0 (q0.frm hM.frm) t1 h2) ?_; intro a w v hF hf hR
    subst hR; have hM := hM.grow hf
    refine s_val hF rfl rfl rfl (e_move hF rfl) ?_; intro a hF
    have hF := hF.topb c3
    refine s_val hF rfl rfl rfl (e_move hF rfl) ?_; intro a hF
    refine s_val hF rfl rfl rfl (e_len hF rfl (q0.frm hM.frm).toF Try.underlying22) ?_; intro a hF
    refine s_val hF rfl rfl rfl (e_eql hF rfl rfl) ?_; intro a hF
    refine s_val hF rfl rfl rfl (e_pick_t hF rfl rfl) ?_; intro a hF
    refine s_val hF rfl rfl rfl (e_assign hF rfl) ?_; intro a hF
    refine s_nil ?_
    refine then_n ?_
    refine wp_ret ?_
    obtain rfl := some_some H
    refine s_ret [Value.bool (decide ((l0.length : Int) = 2))] hF Try.results40 ⟨rfl, trivial⟩ ?_
    exact ⟨_, rfl, hM.frm, rfl⟩
  ·
    refine s_region ?_
    refine s_val hF rfl rfl rfl (e_move hF rfl) ?_; intro a hF
    refine s_call hF rfl rfl rfl Try.call32 (impl_IsPool.calls K l0 u0 (q0.frm hM.frm) t1 h2) ?_; intro a w v hF hf hR
    subst hR; have hM := hM.grow hf
    refine s_val hF rfl rfl rfl (e_move hF rfl) ?_; intro a hF
    have hF := hF.topb (bf c3)
    refine s_skip hF rfl rfl rfl ?_; intro a hF
    refine s_skip hF rfl rfl rfl ?_; intro a hF
    refine s_skip hF rfl rfl rfl ?_; intro a hF
    refine s_val hF rfl rfl rfl (e_pick_f hF rfl rfl) ?_; intro a hF
    refine s_val hF rfl rfl rfl (e_assign hF rfl) ?_; intro a hF
    refine s_nil ?_
    refine then_n ?_
    refine wp_ret ?_
    obtain rfl := some_some H
    refine s_ret [Value.bool false] hF Try.results40 ⟨rfl, trivial⟩ ?_
    exact ⟨_, rfl, hM.frm, rfl⟩

/-! ### loop.example/g01210/impl.bounds: function 57 -/
def impl_bounds.l0 (K : Nat) (l0 : (List (Ar 6))) : Nat → Int → Int → Int → Option (Int × Int)
  | 0, _, _, _ => none
  | k + 1, x12, x13, x14 => if x14 < (l0.length : Int) then (if (0 : Int) ≤ x14 ∧ x14 < (l0.length : Int) then (impl_bounds.l0 K l0 k (wrap64 (x12 + ((l0.getD (x14 : Int).toNat (Ar.zero 6)).get 0))) (wrap64 (x13 + ((l0.getD (x14 : Int).toNat (Ar.zero 6)).get 5))) (wrap64 (x14 + 1))) else none) else (some (x12, x13))
def impl_bounds.f (K : Nat) (l0 : (List (Ar 6))) : Option (Int × Int) := (impl_bounds.l0 K l0 K 0 0 0).bind fun (x10, x11) => some (x10, x11)
set_option maxRecDepth 100000 in
set_option maxHeartbeats 4000000 in
theorem impl_bounds.calls {w0 : World} (K : Nat) (l0 : (List (Ar 6))) (u0 : Value) (q0 : SlR cd31 w0 u0 l0) (r : (Int × Int)) (H : impl_bounds.f K l0 = some r) : Calls Try.prog 57 [u0].toArray w0 (Post w0 fun w v => v = Value.tuple #[Value.int .i64 r.1, Value.int .i64 r.2]) := by
  rw [impl_bounds.f] at H
  refine s_start Try.func57 rfl Try.ntmps57 rfl ?_
  intro a hF
  have hM := Ms.start w0
  skip
  refine wp_seq ?_
  refine s_region ?_
  refine s_val hF rfl rfl rfl (e_assign hF rfl) ?_; intro a hF
  refine s_val hF rfl rfl rfl (e_assign hF rfl) ?_; intro a hF
  refine s_nil ?_
  refine then_n ?_
  refine wp_seq ?_
  refine s_region ?_
  refine s_val hF rfl rfl rfl (e_assign hF rfl) ?_; intro a hF
  refine s_val hF rfl rfl rfl (e_assign hF rfl) ?_; intro a hF
  refine s_nil ?_
  refine then_n ?_
  refine wp_seq ?_
  refine wp_seq ?_
  refine s_region ?_
  refine s_val hF rfl rfl rfl (e_move hF rfl) ?_; intro a hF
  refine s_val hF rfl rfl rfl (e_len hF rfl (q0.frm hM.frm).toF Try.underlying22) ?_; intro a hF
  refine s_val hF rfl rfl rfl (e_move hF rfl) ?_; intro a hF
  refine s_nil ?_
  refine then_n ?_
  refine wp_block ?_
  obtain ⟨o18, h19, H⟩ := bind_some H
  refine wp_mono (Q := fun e a w => (e = Exit.exit 0 ∧ ∃ x10 : Int, ∃ x11 : Int, (x10, x11) = o18 ∧ Fr 25 a [(4, Value.int .i64 x10), (5, Value.int .i64 x11)] ∧ Ms [] w0 w [])) ?_ ?_
  · refine s_loop (fun kq a w => ∃ x12 : Int, ∃ x13 : Int, ∃ x14 : Int, impl_bounds.l0 K l0 kq x12 x13 x14 = some o18 ∧ Fr 25 a [(4, Value.int .i64 x12), (5, Value.int .i64 x13), (8, u0), (9, Value.int .i64 (l0.length : Int)), (10, Value.int .i64 x14)] ∧ Ms [] w0 w []) K ⟨0, 0, 0, h19, hF.sub _ ⟨rfl, rfl, rfl, rfl, rfl, trivial⟩, hM.pick [] rfl rfl⟩ ?_ ?_
    · rintro a w ⟨_, _, _, H, _⟩; exact none_some H
    · rintro k a w ⟨x12, x13, x14, H, hF, hM⟩; rw [impl_bounds.l0] at H
      refine wp_seq ?_
      refine s_region ?_
      refine s_val hF rfl rfl rfl (e_lss hF rfl rfl) ?_; intro a hF
      refine s_nil ?_
      refine then_n ?_
      refine wp_seq ?_
      rcases ite_cases H with ⟨c15, H⟩ | ⟨c15, H⟩
      ·
        refine s_cond_t hF rfl (decide_eq_true c15) ?_
        refine wp_skip ?_
        refine then_n ?_
        refine wp_seq ?_
        refine wp_block ?_
        refine wp_seq ?_
        obtain ⟨c16, H⟩ := ite_some H
        refine s_region ?_
        refine s_val hF rfl rfl rfl (e_ias cd31 hF rfl rfl (q0.frm hM.frm).toF Try.underlying22 Try.sizeOf31 c16.1 c16.2) ?_; intro a hF
        refine s_val hF rfl rfl rfl (e_ldsa (m := x14) hF rfl (q0.frm hM.frm) (getD_some (z := (Ar.zero 6)) c16.1 c16.2) Try.isAgg31 Try.sizeOf31) ?_; intro a hF
        refine s_alloc (ps := [Pt.ar (Ar.zero 6)]) hF hM rfl rfl zv31 rfl ?_; intro a w b17 hF hM
        refine s_stw (i := 0) (ps' := [Pt.ar (l0.getD (x14 : Int).toNat (Ar.zero 6))]) hF hM rfl rfl rfl rfl rfl rfl Try.sizeOf31 rfl ?_; intro a w hF hM
        refine s_nil ?_
        refine then_n ?_
        refine wp_seq ?_
        refine s_region ?_
        refine s_val hF rfl rfl rfl (e_move hF rfl) ?_; intro a hF
        refine s_val hF rfl rfl rfl (e_ia hF rfl rfl Try.underlying31 Try.sizeOf3 (by decide) (by decide)) ?_; intro a hF
        refine s_val hF rfl rfl rfl (e_ldi (i := 0) (k := 0) hF hM rfl rfl rfl rfl rfl Try.isAgg3 (by decide) (by decide)) ?_; intro a hF
        refine s_val hF rfl rfl rfl (e_add hF rfl rfl) ?_; intro a hF
        refine s_val hF rfl rfl rfl (e_assign hF rfl) ?_; intro a hF
        refine s_nil ?_
        refine then_n ?_
        refine s_region ?_
        refine s_val hF rfl rfl rfl (e_move hF rfl) ?_; intro a hF
        refine s_val hF rfl rfl rfl (e_ia hF rfl rfl Try.underlying31 Try.sizeOf3 (by decide) (by decide)) ?_; intro a hF
        refine s_val hF rfl rfl rfl (e_ldi (i := 0) (k := 0) hF hM rfl rfl rfl rfl rfl Try.isAgg3 (by decide) (by decide)) ?_; intro a hF
        refine s_val hF rfl rfl rfl (e_add hF rfl rfl) ?_; intro a hF
        refine s_val hF rfl rfl rfl (e_assign hF rfl) ?_; intro a hF
        refine s_nil ?_
        refine blk_n ?_
        refine then_n ?_
        refine s_region ?_
        refine s_val hF rfl rfl rfl (e_add hF rfl rfl) ?_; intro a hF
        refine s_val hF rfl rfl rfl (e_move hF rfl) ?_; intro a hF
        refine s_nil ?_
        refine then_n ?_
        exact ⟨(wrap64 (x12 + ((l0.getD (x14 : Int).toNat (Ar.zero 6)).get 0))), (wrap64 (x13 + ((l0.getD (x14 : Int).toNat (Ar.zero 6)).get 5))), (wrap64 (x14 + 1)), H, hF.sub _ ⟨rfl, rfl, rfl, rfl, rfl, trivial⟩, hM.pick [] rfl rfl⟩
      ·
        refine s_cond_f hF rfl (decide_eq_false c15) ?_
        refine wp_exit ?_
        refine then_x ?_
        refine then_x ?_
        exact ⟨rfl, x12, x13, some_some H, hF.sub _ ⟨rfl, rfl, trivial⟩, hM.pick [] rfl rfl⟩
  · rintro e a w ⟨rfl, x10, x11, rfl, hF, hM⟩
    skip
    refine blk_x ?_
    refine then_n ?_
    refine wp_seq ?_
    refine s_region ?_
    refine s_val hF rfl rfl rfl (e_move hF rfl) ?_; intro a hF
    refine s_val hF rfl rfl rfl (e_move hF rfl) ?_; intro a hF
    refine s_val hF rfl rfl rfl (e_assign hF rfl) ?_; intro a hF
    refine s_val hF rfl rfl rfl (e_assign hF rfl) ?_; intro a hF
    refine s_nil ?_
    refine then_n ?_
    refine wp_ret ?_
    obtain rfl := some_some H
    refine s_ret [Value.int .i64 x10, Value.int .i64 x11] hF Try.results57 ⟨rfl, rfl, trivial⟩ ?_
    exact ⟨_, rfl, hM.frm, rfl⟩

/-! ### loop.example/g01210/impl.sums: function 33 -/
def impl_sums.l12 (K : Nat) (l0 : (List (Ar 6))) (x126 : Int) (x127 : (Ar 121)) (x167 : Int) : Nat → Int → (Ar 121) → Option (Ar 121)
  | 0, _, _ => none
  | k + 1, x179, x180 => if x179 < 6 then (if (0 : Int) ≤ x179 ∧ x179 < 6 then (if (0 : Int) ≤ (wrap64 (x167 + ((l0.getD (x126 : Int).toNat (Ar.zero 6)).get x179))) ∧ (wrap64 (x167 + ((l0.getD (x126 : Int).toNat (Ar.zero 6)).get x179))) < 121 then (impl_sums.l12 K l0 x126 x127 x167 k (wrap64 (x179 + 1)) (x180.set (wrap64 (x167 + ((l0.getD (x126 : Int).toNat (Ar.zero 6)).get x179))) (wrap64 ((x180.get (wrap64 (x167 + ((l0.getD (x126 : Int).toNat (Ar.zero 6)).get x179)))) + (x127.get x167))))) else none) else none) else (some x180)
def impl_sums.l11 (K : Nat) (l0 : (List (Ar 6))) (x126 : Int) (x127 : (Ar 121)) : Nat → Int → (Ar 121) → Option (Ar 121)
  | 0, _, _ => none
  | k + 1, x167, x168 => if x167 < 121 then (if (0 : Int) ≤ x167 ∧ x167 < 121 then (if (x127.get x167) = 0 then (impl_sums.l11 K l0 x126 x127 k (wrap64 (x167 + 1)) x168) else ((impl_sums.l12 K l0 x126 x127 x167 K 0 x168).bind fun x178 => impl_sums.l11 K l0 x126 x127 k (wrap64 (x167 + 1)) x178)) else none) else (some x168)
def impl_sums.l8 (K : Nat) (l0 : (List (Ar 6))) : Nat → Int → (Ar 121) → Option (Ar 121)
  | 0, _, _ => none
  | k + 1, x126, x127 => if x126 < (l0.length : Int) then (if (0 : Int) ≤ x126 ∧ x126 < (l0.length : Int) then ((impl_sums.l11 K l0 x126 x127 K 0 (Ar.zero 121)).bind fun x166 => impl_sums.l8 K l0 k (wrap64 (x126 + 1)) x166) else none) else (some x127)
def impl_sums.f (K : Nat) (l0 : (List (Ar 6))) : Option (Ar 121) := (impl_sums.l8 K l0 K 0 ((Ar.zero 121).set 0 1)).bind fun x125 => some x125
set_option maxRecDepth 100000 in
set_option maxHeartbeats 4000000 in
theorem impl_sums.calls {w0 : World} (K : Nat) (l0 : (List (Ar 6))) (u0 : Value) (q0 : SlR cd31 w0 u0 l0) (r : (Ar 121)) (H : impl_sums.f K l0 = some r) : Calls Try.prog 33 [u0].toArray w0 (Post w0 fun w v => v = ag [Pt.ar r]) := by
  rw [impl_sums.f] at H
  refine s_start Try.func33 rfl Try.ntmps33 rfl ?_
  intro a hF
  have hM := Ms.start w0
  skip
  refine wp_seq ?_
  refine s_region ?_
  refine s_alloc (ps := [Pt.ar (Ar.zero 121)]) hF hM rfl rfl zv43 rfl ?_; intro a w b1 hF hM
  refine s_nil ?_
  refine then_n ?_
  refine wp_seq ?_
  refine s_region ?_
  refine s_alloc (ps := [Pt.ar (Ar.zero 121)]) hF hM rfl rfl zv43 rfl ?_; intro a w b2 hF hM
  refine s_nil ?_
  refine then_n ?_
  refine wp_seq ?_
  refine s_region ?_
  refine s_val hF rfl rfl rfl (e_ia hF rfl rfl Try.underlying43 Try.sizeOf3 (by decide) (by decide)) ?_; intro a hF
  refine s_sti (i := 0) (k := 0) hF hM rfl rfl rfl rfl rfl rfl rfl Try.sizeOf3 (by decide) (by decide) ?_; intro a w hF hM
  refine s_nil ?_
  refine then_n ?_
  refine wp_seq ?_
  refine wp_seq ?_
  refine s_region ?_
  refine s_val hF rfl rfl rfl (e_move hF rfl) ?_; intro a hF
  refine s_val hF rfl rfl rfl (e_len hF rfl (q0.frm hM.frm).toF Try.underlying22) ?_; intro a hF
  refine s_val hF rfl rfl rfl (e_move hF rfl) ?_; intro a hF
  refine s_nil ?_
  refine then_n ?_
  refine wp_block ?_
  obtain ⟨o188, h189, H⟩ := bind_some H
  refine wp_mono (Q := fun e a w => (e = Exit.exit 0 ∧ ∃ x125 : (Ar 121), x125 = o188 ∧ Fr 42 a [(2, pt b1 0), (3, pt b2 0)] ∧ Ms [] w0 w [boxR b1 [Pt.ar (Ar.zero 121)] 43, boxR b2 [Pt.ar x125] 43])) ?_ ?_
  · refine s_loop (fun kq a w => ∃ x126 : Int, ∃ x127 : (Ar 121), impl_sums.l8 K l0 kq x126 x127 = some o188 ∧ Fr 42 a [(2, pt b1 0), (3, pt b2 0), (12, u0), (13, Value.int .i64 (l0.length : Int)), (14, Value.int .i64 x126)] ∧ Ms [] w0 w [boxR b1 [Pt.ar (Ar.zero 121)] 43, boxR b2 [Pt.ar x127] 43]) K ⟨0, ((Ar.zero 121).set 0 1), h189, hF.sub _ ⟨rfl, rfl, rfl, rfl, rfl, trivial⟩, hM.pick [1, 0] rfl rfl⟩ ?_ ?_
    · rintro a w ⟨_, _, H, _⟩; exact none_some H
    · rintro k a w ⟨x126, x127, H, hF, hM⟩; rw [impl_sums.l8] at H
      refine wp_seq ?_
      refine s_region ?_
      refine s_val hF rfl rfl rfl (e_lss hF rfl rfl) ?_; intro a hF
      refine s_nil ?_
      refine then_n ?_
      refine wp_seq ?_
      rcases ite_cases H with ⟨c128, H⟩ | ⟨c128, H⟩
      ·
        refine s_cond_t hF rfl (decide_eq_true c128) ?_
        refine wp_skip ?_
        refine then_n ?_
        refine wp_seq ?_
        refine wp_block ?_
        refine wp_seq ?_
        obtain ⟨c129, H⟩ := ite_some H
        refine s_region ?_
        refine s_val hF rfl rfl rfl (e_ias cd31 hF rfl rfl (q0.frm hM.frm).toF Try.underlying22 Try.sizeOf31 c129.1 c129.2) ?_; intro a hF
        refine s_val hF rfl rfl rfl (e_ldsa (m := x126) hF rfl (q0.frm hM.frm) (getD_some (z := (Ar.zero 6)) c129.1 c129.2) Try.isAgg31 Try.sizeOf31) ?_; intro a hF
        refine s_alloc (ps := [Pt.ar (Ar.zero 6)]) hF hM rfl rfl zv31 rfl ?_; intro a w b130 hF hM
        refine s_stw (i := 0) (ps' := [Pt.ar (l0.getD (x126 : Int).toNat (Ar.zero 6))]) hF hM rfl rfl rfl rfl rfl rfl Try.sizeOf31 rfl ?_; intro a w hF hM
        refine s_nil ?_
        refine then_n ?_
        refine wp_seq ?_
        refine s_region ?_
        refine s_alloc (ps := [Pt.ar (Ar.zero 121)]) hF hM rfl rfl zv43 rfl ?_; intro a w b131 hF hM
        refine s_nil ?_
        refine then_n ?_
        refine wp_seq ?_
        refine wp_seq ?_
        refine s_region ?_
        refine s_val hF rfl rfl rfl (e_lda (i := 3) 0 1 hF hM rfl rfl rfl rfl Try.isAgg43 Try.sizeOf43 rfl) ?_; intro a hF
        refine s_val hF rfl rfl rfl (e_move hF rfl) ?_; intro a hF
        refine s_nil ?_
        refine then_n ?_
        refine wp_block ?_
        obtain ⟨o186, h187, H⟩ := bind_some H
        refine wp_mono (Q := fun e a w => (e = Exit.exit 2 ∧ ∃ x166 : (Ar 121), x166 = o186 ∧ Fr 42 a [(2, pt b1 0), (3, pt b2 0), (6, pt b131 0), (12, u0), (13, Value.int .i64 (l0.length : Int)), (14, Value.int .i64 x126)] ∧ Ms [] w0 w [boxR b1 [Pt.ar (Ar.zero 121)] 43, boxR b2 [Pt.ar x127] 43, boxR b131 [Pt.ar x166] 43])) ?_ ?_
        · refine s_loop (fun kq a w => ∃ x167 : Int, ∃ x168 : (Ar 121), impl_sums.l11 K l0 x126 x127 kq x167 x168 = some o186 ∧ Fr 42 a [(2, pt b1 0), (3, pt b2 0), (5, pt b130 0), (6, pt b131 0), (12, u0), (13, Value.int .i64 (l0.length : Int)), (14, Value.int .i64 x126), (18, ag [Pt.ar x127]), (19, Value.int .i64 x167)] ∧ Ms [] w0 w [boxR b1 [Pt.ar (Ar.zero 121)] 43, boxR b2 [Pt.ar x127] 43, boxR b130 [Pt.ar (l0.getD (x126 : Int).toNat (Ar.zero 6))] 31, boxR b131 [Pt.ar x168] 43]) K ⟨0, (Ar.zero 121), h187, hF.sub _ ⟨rfl, rfl, rfl, rfl, rfl, rfl, rfl, rfl, rfl, trivial⟩, hM.pick [2, 3, 1, 0] rfl rfl⟩ ?_ ?_
          · rintro a w ⟨_, _, H, _⟩; exact none_some H
          · rintro k a w ⟨x167, x168, H, hF, hM⟩; rw [impl_sums.l11] at H
            refine wp_seq ?_
            refine s_region ?_
            refine s_val hF rfl rfl rfl (e_lss hF rfl rfl) ?_; intro a hF
            refine s_nil ?_
            refine then_n ?_
            refine wp_seq ?_
            rcases ite_cases H with ⟨c169, H⟩ | ⟨c169, H⟩
            ·
              refine s_cond_t hF rfl (decide_eq_true c169) ?_
              refine wp_skip ?_
              refine then_n ?_
              refine wp_seq ?_
              refine wp_block ?_
              refine wp_seq ?_
              obtain ⟨c170, H⟩ := ite_some H
              refine s_region ?_
              refine s_val hF rfl rfl rfl (e_move hF rfl) ?_; intro a hF
              refine s_val hF rfl rfl rfl (e_ix hF rfl rfl Try.underlying43 Try.sizeOf3 Try.isAgg3 c170.1 c170.2) ?_; intro a hF
              refine s_val hF rfl rfl rfl (e_assign hF rfl) ?_; intro a hF
              refine s_val hF rfl rfl rfl (e_assign hF rfl) ?_; intro a hF
              refine s_nil ?_
              refine then_n ?_
              refine wp_seq ?_
              refine wp_seq ?_
              refine s_region ?_
              refine s_val hF rfl rfl rfl (e_move hF rfl) ?_; intro a hF
              refine s_val hF rfl rfl rfl (e_eql hF rfl rfl) ?_; intro a hF
              refine s_nil ?_
              refine then_n ?_
              rcases ite_cases H with ⟨c171, H⟩ | ⟨c171, H⟩
              ·
                refine s_cond_t hF rfl (decide_eq_true c171) ?_
                refine wp_exit ?_
                refine then_x ?_
                refine blk_x ?_
                refine then_n ?_
                refine s_region ?_
                refine s_val hF rfl rfl rfl (e_add hF rfl rfl) ?_; intro a hF
                refine s_val hF rfl rfl rfl (e_move hF rfl) ?_; intro a hF
                refine s_nil ?_
                refine then_n ?_
                exact ⟨(wrap64 (x167 + 1)), x168, H, hF.sub _ ⟨rfl, rfl, rfl, rfl, rfl, rfl, rfl, rfl, rfl, trivial⟩, hM.pick [0, 1, 2, 3] rfl rfl⟩
              ·
                refine s_cond_f hF rfl (decide_eq_false c171) ?_
                refine wp_skip ?_
                refine then_n ?_
                refine wp_seq ?_
                refine s_region ?_
                refine s_val hF rfl rfl rfl (e_lda (i := 2) 0 1 hF hM rfl rfl rfl rfl Try.isAgg31 Try.sizeOf31 rfl) ?_; intro a hF
                refine s_val hF rfl rfl rfl (e_move hF rfl) ?_; intro a hF
                refine s_nil ?_
                refine then_n ?_
                refine wp_block ?_
                obtain ⟨o184, h185, H⟩ := bind_some H
                refine wp_mono (Q := fun e a w => (e = Exit.exit 4 ∧ ∃ x178 : (Ar 121), x178 = o184 ∧ Fr 42 a [(2, pt b1 0), (3, pt b2 0), (5, pt b130 0), (6, pt b131 0), (12, u0), (13, Value.int .i64 (l0.length : Int)), (14, Value.int .i64 x126), (18, ag [Pt.ar x127]), (19, Value.int .i64 x167)] ∧ Ms [] w0 w [boxR b1 [Pt.ar (Ar.zero 121)] 43, boxR b2 [Pt.ar x127] 43, boxR b130 [Pt.ar (l0.getD (x126 : Int).toNat (Ar.zero 6))] 31, boxR b131 [Pt.ar x178] 43])) ?_ ?_
                · refine s_loop (fun kq a w => ∃ x179 : Int, ∃ x180 : (Ar 121), impl_sums.l12 K l0 x126 x127 x167 kq x179 x180 = some o184 ∧ Fr 42 a [(2, pt b1 0), (3, pt b2 0), (5, pt b130 0), (6, pt b131 0), (7, Value.int .i64 x167), (8, Value.int .i64 (x127.get x167)), (12, u0), (13, Value.int .i64 (l0.length : Int)), (14, Value.int .i64 x126), (18, ag [Pt.ar x127]), (19, Value.int .i64 x167), (25, ag [Pt.ar (l0.getD (x126 : Int).toNat (Ar.zero 6))]), (26, Value.int .i64 x179)] ∧ Ms [] w0 w [boxR b1 [Pt.ar (Ar.zero 121)] 43, boxR b2 [Pt.ar x127] 43, boxR b130 [Pt.ar (l0.getD (x126 : Int).toNat (Ar.zero 6))] 31, boxR b131 [Pt.ar x180] 43]) K ⟨0, x168, h185, hF.sub _ ⟨rfl, rfl, rfl, rfl, rfl, rfl, rfl, rfl, rfl, rfl, rfl, rfl, rfl, trivial⟩, hM.pick [0, 1, 2, 3] rfl rfl⟩ ?_ ?_
                  · rintro a w ⟨_, _, H, _⟩; exact none_some H
                  · rintro k a w ⟨x179, x180, H, hF, hM⟩; rw [impl_sums.l12] at H
                    refine wp_seq ?_
                    refine s_region ?_
                    refine s_val hF rfl rfl rfl (e_lss hF rfl rfl) ?_; intro a hF
                    refine s_nil ?_
                    refine then_n ?_
                    refine wp_seq ?_
                    rcases ite_cases H with ⟨c181, H⟩ | ⟨c181, H⟩
                    ·
                      refine s_cond_t hF rfl (decide_eq_true c181) ?_
                      refine wp_skip ?_
                      refine then_n ?_
                      refine wp_seq ?_
                      refine wp_block ?_
                      refine wp_seq ?_
                      obtain ⟨c182, H⟩ := ite_some H
                      refine s_region ?_
                      refine s_val hF rfl rfl rfl (e_ix hF rfl rfl Try.underlying31 Try.sizeOf3 Try.isAgg3 c182.1 c182.2) ?_; intro a hF
                      refine s_val hF rfl rfl rfl (e_assign hF rfl) ?_; intro a hF
                      refine s_nil ?_
                      refine then_n ?_
                      obtain ⟨c183, H⟩ := ite_some H
                      refine s_region ?_
                      refine s_val hF rfl rfl rfl (e_move hF rfl) ?_; intro a hF
                      refine s_val hF rfl rfl rfl (e_move hF rfl) ?_; intro a hF
                      refine s_val hF rfl rfl rfl (e_add hF rfl rfl) ?_; intro a hF
                      refine s_val hF rfl rfl rfl (e_ia hF rfl rfl Try.underlying43 Try.sizeOf3 c183.1 c183.2) ?_; intro a hF
                      refine s_val hF rfl rfl rfl (e_ldi (i := 3) (k := 0) hF hM rfl rfl rfl rfl rfl Try.isAgg3 c183.1 c183.2) ?_; intro a hF
                      refine s_val hF rfl rfl rfl (e_move hF rfl) ?_; intro a hF
                      refine s_val hF rfl rfl rfl (e_add hF rfl rfl) ?_; intro a hF
                      refine s_val hF rfl rfl rfl (e_ia hF rfl rfl Try.underlying43 Try.sizeOf3 c183.1 c183.2) ?_; intro a hF
                      refine s_sti (i := 3) (k := 0) hF hM rfl rfl rfl rfl rfl rfl rfl Try.sizeOf3 c183.1 c183.2 ?_; intro a w hF hM
                      refine s_nil ?_
                      refine blk_n ?_
                      refine then_n ?_
                      refine s_region ?_
                      refine s_val hF rfl rfl rfl (e_add hF rfl rfl) ?_; intro a hF
                      refine s_val hF rfl rfl rfl (e_move hF rfl) ?_; intro a hF
                      refine s_nil ?_
                      refine then_n ?_
                      exact ⟨(wrap64 (x179 + 1)), (x180.set (wrap64 (x167 + ((l0.getD (x126 : Int).toNat (Ar.zero 6)).get x179))) (wrap64 ((x180.get (wrap64 (x167 + ((l0.getD (x126 : Int).toNat (Ar.zero 6)).get x179)))) + (x127.get x167)))), H, hF.sub _ ⟨rfl, rfl, rfl, rfl, rfl, rfl, rfl, rfl, rfl, rfl, rfl, rfl, rfl, trivial⟩, hM.pick [0, 1, 2, 3] rfl rfl⟩
                    ·
                      refine s_cond_f hF rfl (decide_eq_false c181) ?_
                      refine wp_exit ?_
                      refine then_x ?_
                      refine then_x ?_
                      exact ⟨rfl, x180, some_some H, hF.sub _ ⟨rfl, rfl, rfl, rfl, rfl, rfl, rfl, rfl, rfl, trivial⟩, hM.pick [0, 1, 2, 3] rfl rfl⟩
                · rintro e a w ⟨rfl, x178, rfl, hF, hM⟩
                  skip
                  refine blk_x ?_
                  refine blk_n ?_
                  refine then_n ?_
                  refine s_region ?_
                  refine s_val hF rfl rfl rfl (e_add hF rfl rfl) ?_; intro a hF
                  refine s_val hF rfl rfl rfl (e_move hF rfl) ?_; intro a hF
                  refine s_nil ?_
                  refine then_n ?_
                  exact ⟨(wrap64 (x167 + 1)), x178, H, hF.sub _ ⟨rfl, rfl, rfl, rfl, rfl, rfl, rfl, rfl, rfl, trivial⟩, hM.pick [0, 1, 2, 3] rfl rfl⟩
            ·
              refine s_cond_f hF rfl (decide_eq_false c169) ?_
              refine wp_exit ?_
              refine then_x ?_
              refine then_x ?_
              exact ⟨rfl, x168, some_some H, hF.sub _ ⟨rfl, rfl, rfl, rfl, rfl, rfl, trivial⟩, hM.pick [0, 1, 3] rfl rfl⟩
        · rintro e a w ⟨rfl, x166, rfl, hF, hM⟩
          skip
          refine blk_x ?_
          refine then_n ?_
          refine s_region ?_
          refine s_val hF rfl rfl rfl (e_lda (i := 2) 0 1 hF hM rfl rfl rfl rfl Try.isAgg43 Try.sizeOf43 rfl) ?_; intro a hF
          refine s_stw (i := 1) (ps' := [Pt.ar x166]) hF hM rfl rfl rfl rfl rfl rfl Try.sizeOf43 rfl ?_; intro a w hF hM
          refine s_nil ?_
          refine blk_n ?_
          refine then_n ?_
          refine s_region ?_
          refine s_val hF rfl rfl rfl (e_add hF rfl rfl) ?_; intro a hF
          refine s_val hF rfl rfl rfl (e_move hF rfl) ?_; intro a hF
          refine s_nil ?_
          refine then_n ?_
          exact ⟨(wrap64 (x126 + 1)), x166, H, hF.sub _ ⟨rfl, rfl, rfl, rfl, rfl, trivial⟩, hM.pick [0, 1] rfl rfl⟩
      ·
        refine s_cond_f hF rfl (decide_eq_false c128) ?_
        refine wp_exit ?_
        refine then_x ?_
        refine then_x ?_
        exact ⟨rfl, x127, some_some H, hF.sub _ ⟨rfl, rfl, trivial⟩, hM.pick [0, 1] rfl rfl⟩
  · rintro e a w ⟨rfl, x125, rfl, hF, hM⟩
    skip
    refine blk_x ?_
    refine then_n ?_
    refine wp_seq ?_
    refine s_region ?_
    refine s_val hF rfl rfl rfl (e_lda (i := 1) 0 1 hF hM rfl rfl rfl rfl Try.isAgg43 Try.sizeOf43 rfl) ?_; intro a hF
    refine s_stw (i := 0) (ps' := [Pt.ar x125]) hF hM rfl rfl rfl rfl rfl rfl Try.sizeOf43 rfl ?_; intro a w hF hM
    refine s_nil ?_
    refine then_n ?_
    refine wp_ret ?_
    obtain rfl := some_some H
    refine s_ret [ag [Pt.ar x125]] hF Try.results33 ⟨⟨_, rfl, rv_box hM (i := 0) rfl Try.isAgg43 Try.sizeOf43 rfl⟩, trivial⟩ ?_
    exact ⟨_, rfl, hM.frm, rfl⟩

/-! ### loop.example/g01210/impl.die: function 81 -/
def impl_die.l3 (K : Nat) (a0 : (Ar 31)) (x42 : Int) : Nat → Int → Int → (Ar 6) → Option (Int × (Ar 6))
  | 0, _, _, _ => none
  | k + 1, x55, x56, x57 => if x56 < (a0.get x42) then (if (0 : Int) ≤ x55 ∧ x55 < 6 then (impl_die.l3 K a0 x42 k (wrap64 (x55 + 1)) (wrap64 (x56 + 1)) (x57.set x55 x42)) else none) else (some (x55, x57))
def impl_die.l2 (K : Nat) (a0 : (Ar 31)) : Nat → Int → Int → (Ar 6) → Option (Ar 6)
  | 0, _, _, _ => none
  | k + 1, x41, x42, x43 => if x42 < 31 then (if (0 : Int) ≤ x42 ∧ x42 < 31 then ((impl_die.l3 K a0 x42 K x41 0 x43).bind fun (x53, x54) => impl_die.l2 K a0 k x53 (wrap64 (x42 + 1)) x54) else none) else (some x43)
def impl_die.f (K : Nat) (a0 : (Ar 31)) : Option (Ar 6) := (impl_die.l2 K a0 K 0 0 (Ar.zero 6)).bind fun x40 => some x40
set_option maxRecDepth 100000 in
set_option maxHeartbeats 4000000 in
theorem impl_die.calls {w0 : World} (K : Nat) (a0 : (Ar 31)) (r : (Ar 6)) (H : impl_die.f K a0 = some r) : Calls Try.prog 81 [ag [Pt.ar a0]].toArray w0 (Post w0 fun w v => v = ag [Pt.ar r]) := by
  rw [impl_die.f] at H
  refine s_start Try.func81 rfl Try.ntmps81 rfl ?_
  intro a hF
  have hM := Ms.start w0
  skip
  refine wp_seq ?_
  refine s_region ?_
  refine s_box (ps := [Pt.ar a0]) hF hM rfl rfl rfl rfl ?_; intro a w b1 hF hM
  refine s_alloc (ps := [Pt.ar (Ar.zero 6)]) hF hM rfl rfl zv31 rfl ?_; intro a w b2 hF hM
  refine s_nil ?_
  refine then_n ?_
  refine wp_seq ?_
  refine s_region ?_
  refine s_alloc (ps := [Pt.ar (Ar.zero 6)]) hF hM rfl rfl zv31 rfl ?_; intro a w b3 hF hM
  refine s_nil ?_
  refine then_n ?_
  refine wp_seq ?_
  refine s_region ?_
  refine s_val hF rfl rfl rfl (e_assign hF rfl) ?_; intro a hF
  refine s_nil ?_
  refine then_n ?_
  refine wp_seq ?_
  refine wp_seq ?_
  refine s_region ?_
  refine s_val hF rfl rfl rfl (e_lda (i := 2) 0 1 hF hM rfl rfl rfl rfl Try.isAgg73 Try.sizeOf73 rfl) ?_; intro a hF
  refine s_val hF rfl rfl rfl (e_move hF rfl) ?_; intro a hF
  refine s_nil ?_
  refine then_n ?_
  refine wp_block ?_
  obtain ⟨o62, h63, H⟩ := bind_some H
  refine wp_mono (Q := fun e a w => (e = Exit.exit 0 ∧ ∃ x40 : (Ar 6), x40 = o62 ∧ Fr 23 a [(2, pt b2 0), (3, pt b3 0)] ∧ Ms [] w0 w [boxR b2 [Pt.ar (Ar.zero 6)] 31, boxR b3 [Pt.ar x40] 31])) ?_ ?_
  · refine s_loop (fun kq a w => ∃ x41 : Int, ∃ x42 : Int, ∃ x43 : (Ar 6), impl_die.l2 K a0 kq x41 x42 x43 = some o62 ∧ Fr 23 a [(2, pt b2 0), (3, pt b3 0), (4, Value.int .i64 x41), (7, ag [Pt.ar a0]), (8, Value.int .i64 x42)] ∧ Ms [] w0 w [boxR b2 [Pt.ar (Ar.zero 6)] 31, boxR b3 [Pt.ar x43] 31]) K ⟨0, 0, (Ar.zero 6), h63, hF.sub _ ⟨rfl, rfl, rfl, rfl, rfl, trivial⟩, hM.pick [1, 0] rfl rfl⟩ ?_ ?_
    · rintro a w ⟨_, _, _, H, _⟩; exact none_some H
    · rintro k a w ⟨x41, x42, x43, H, hF, hM⟩; rw [impl_die.l2] at H
      refine wp_seq ?_
      refine s_region ?_
      refine s_val hF rfl rfl rfl (e_lss hF rfl rfl) ?_; intro a hF
      refine s_nil ?_
      refine then_n ?_
      refine wp_seq ?_
      rcases ite_cases H with ⟨c44, H⟩ | ⟨c44, H⟩
      ·
        refine s_cond_t hF rfl (decide_eq_true c44) ?_
        refine wp_skip ?_
        refine then_n ?_
        refine wp_seq ?_
        refine wp_block ?_
        refine wp_seq ?_
        obtain ⟨c45, H⟩ := ite_some H
        refine s_region ?_
        refine s_val hF rfl rfl rfl (e_move hF rfl) ?_; intro a hF
        refine s_val hF rfl rfl rfl (e_ix hF rfl rfl Try.underlying73 Try.sizeOf3 Try.isAgg3 c45.1 c45.2) ?_; intro a hF
        refine s_val hF rfl rfl rfl (e_assign hF rfl) ?_; intro a hF
        refine s_val hF rfl rfl rfl (e_assign hF rfl) ?_; intro a hF
        refine s_nil ?_
        refine then_n ?_
        refine wp_seq ?_
        refine s_region ?_
        refine s_val hF rfl rfl rfl (e_move hF rfl) ?_; intro a hF
        refine s_val hF rfl rfl rfl (e_move hF rfl) ?_; intro a hF
        refine s_nil ?_
        refine then_n ?_
        refine wp_block ?_
        obtain ⟨o60, h61, H⟩ := bind_some H
        refine wp_mono (Q := fun e a w => (e = Exit.exit 2 ∧ ∃ x53 : Int, ∃ x54 : (Ar 6), (x53, x54) = o60 ∧ Fr 23 a [(2, pt b2 0), (3, pt b3 0), (4, Value.int .i64 x53), (7, ag [Pt.ar a0]), (8, Value.int .i64 x42)] ∧ Ms [] w0 w [boxR b2 [Pt.ar (Ar.zero 6)] 31, boxR b3 [Pt.ar x54] 31])) ?_ ?_
        · refine s_loop (fun kq a w => ∃ x55 : Int, ∃ x56 : Int, ∃ x57 : (Ar 6), impl_die.l3 K a0 x42 kq x55 x56 x57 = some o60 ∧ Fr 23 a [(2, pt b2 0), (3, pt b3 0), (4, Value.int .i64 x55), (5, Value.int .i64 x42), (7, ag [Pt.ar a0]), (8, Value.int .i64 x42), (12, Value.int .i64 (a0.get x42)), (13, Value.int .i64 x56)] ∧ Ms [] w0 w [boxR b2 [Pt.ar (Ar.zero 6)] 31, boxR b3 [Pt.ar x57] 31]) K ⟨x41, 0, x43, h61, hF.sub _ ⟨rfl, rfl, rfl, rfl, rfl, rfl, rfl, rfl, trivial⟩, hM.pick [0, 1] rfl rfl⟩ ?_ ?_
          · rintro a w ⟨_, _, _, H, _⟩; exact none_some H
          · rintro k a w ⟨x55, x56, x57, H, hF, hM⟩; rw [impl_die.l3] at H
            refine wp_seq ?_
            refine s_region ?_
            refine s_val hF rfl rfl rfl (e_lss hF rfl rfl) ?_; intro a hF
            refine s_nil ?_
            refine then_n ?_
            refine wp_seq ?_
            rcases ite_cases H with ⟨c58, H⟩ | ⟨c58, H⟩
            ·
              refine s_cond_t hF rfl (decide_eq_true c58) ?_
              refine wp_skip ?_
              refine then_n ?_
              refine wp_seq ?_
              refine wp_block ?_
              refine wp_seq ?_
              obtain ⟨c59, H⟩ := ite_some H
              refine s_region ?_
              refine s_val hF rfl rfl rfl (e_move hF rfl) ?_; intro a hF
              refine s_val hF rfl rfl rfl (e_move hF rfl) ?_; intro a hF
              refine s_val hF rfl rfl rfl (e_ia hF rfl rfl Try.underlying31 Try.sizeOf3 c59.1 c59.2) ?_; intro a hF
              refine s_sti (i := 1) (k := 0) hF hM rfl rfl rfl rfl rfl rfl rfl Try.sizeOf3 c59.1 c59.2 ?_; intro a w hF hM
              refine s_nil ?_
              refine then_n ?_
              refine s_region ?_
              refine s_val hF rfl rfl rfl (e_move hF rfl) ?_; intro a hF
              refine s_val hF rfl rfl rfl (e_add hF rfl rfl) ?_; intro a hF
              refine s_val hF rfl rfl rfl (e_assign hF rfl) ?_; intro a hF
              refine s_nil ?_
              refine blk_n ?_
              refine then_n ?_
              refine s_region ?_
              refine s_val hF rfl rfl rfl (e_add hF rfl rfl) ?_; intro a hF
              refine s_val hF rfl rfl rfl (e_move hF rfl) ?_; intro a hF
              refine s_nil ?_
              refine then_n ?_
              exact ⟨(wrap64 (x55 + 1)), (wrap64 (x56 + 1)), (x57.set x55 x42), H, hF.sub _ ⟨rfl, rfl, rfl, rfl, rfl, rfl, rfl, rfl, trivial⟩, hM.pick [0, 1] rfl rfl⟩
            ·
              refine s_cond_f hF rfl (decide_eq_false c58) ?_
              refine wp_exit ?_
              refine then_x ?_
              refine then_x ?_
              exact ⟨rfl, x55, x57, some_some H, hF.sub _ ⟨rfl, rfl, rfl, rfl, rfl, trivial⟩, hM.pick [0, 1] rfl rfl⟩
        · rintro e a w ⟨rfl, x53, x54, rfl, hF, hM⟩
          skip
          refine blk_x ?_
          refine blk_n ?_
          refine then_n ?_
          refine s_region ?_
          refine s_val hF rfl rfl rfl (e_add hF rfl rfl) ?_; intro a hF
          refine s_val hF rfl rfl rfl (e_move hF rfl) ?_; intro a hF
          refine s_nil ?_
          refine then_n ?_
          exact ⟨x53, (wrap64 (x42 + 1)), x54, H, hF.sub _ ⟨rfl, rfl, rfl, rfl, rfl, trivial⟩, hM.pick [0, 1] rfl rfl⟩
      ·
        refine s_cond_f hF rfl (decide_eq_false c44) ?_
        refine wp_exit ?_
        refine then_x ?_
        refine then_x ?_
        exact ⟨rfl, x43, some_some H, hF.sub _ ⟨rfl, rfl, trivial⟩, hM.pick [0, 1] rfl rfl⟩
  · rintro e a w ⟨rfl, x40, rfl, hF, hM⟩
    skip
    refine blk_x ?_
    refine then_n ?_
    refine wp_seq ?_
    refine s_region ?_
    refine s_val hF rfl rfl rfl (e_lda (i := 1) 0 1 hF hM rfl rfl rfl rfl Try.isAgg31 Try.sizeOf31 rfl) ?_; intro a hF
    refine s_stw (i := 0) (ps' := [Pt.ar x40]) hF hM rfl rfl rfl rfl rfl rfl Try.sizeOf31 rfl ?_; intro a w hF hM
    refine s_nil ?_
    refine then_n ?_
    refine wp_ret ?_
    obtain rfl := some_some H
    refine s_ret [ag [Pt.ar x40]] hF Try.results81 ⟨⟨_, rfl, rv_box hM (i := 0) rfl Try.isAgg31 Try.sizeOf31 rfl⟩, trivial⟩ ?_
    exact ⟨_, rfl, hM.frm, rfl⟩

/-! ### cmp.Compare[int]: function 83 -/
def cmp_Compare_int.f (K : Nat) (a0 : Int) (a1 : Int) : Option Int := (cmp_isNaN_int.f K a0).bind fun t1 => (cmp_isNaN_int.f K a1).bind fun t3 => if t1 = true then (if t3 = true then (some 0) else (some (-1))) else (if t3 = true then (some 1) else (if a0 < a1 then (some (-1)) else (if a1 < a0 then (some 1) else (some 0))))
set_option maxRecDepth 100000 in
set_option maxHeartbeats 4000000 in
theorem cmp_Compare_int.calls {w0 : World} (K : Nat) (a0 : Int) (a1 : Int) (r : Int) (H : cmp_Compare_int.f K a0 a1 = some r) : Calls Try.prog 83 [Value.int .i64 a0, Value.int .i64 a1].toArray w0 (Post w0 fun w v => v = Value.int .i64 r) := by
  rw [cmp_Compare_int.f] at H
  refine s_start Try.func83 rfl Try.ntmps83 rfl ?_
  intro a hF
  have hM := Ms.start w0
  skip
  refine wp_seq ?_
  refine s_region ?_
  refine s_val hF rfl rfl rfl (e_assign hF rfl) ?_; intro a hF
  refine s_nil ?_
  refine then_n ?_
  refine wp_seq ?_
  obtain ⟨t1, h2, H⟩ := bind_some H
  refine s_region ?_
  refine s_val hF rfl rfl rfl (e_move hF rfl) ?_; intro a hF
  refine s_call hF rfl rfl rfl Try.call80 (cmp_isNaN_int.calls K a0 t1 h2) ?_; intro a w v hF hf hR
  subst hR; have hM := hM.grow hf
  refine s_val hF rfl rfl rfl (e_assign hF rfl) ?_; intro a hF
  refine s_nil ?_
  refine then_n ?_
  refine wp_seq ?_
  obtain ⟨t3, h4, H⟩ := bind_some H
  refine s_region ?_
  refine s_val hF rfl rfl rfl (e_move hF rfl) ?_; intro a hF
  refine s_call hF rfl rfl rfl Try.call80 (cmp_isNaN_int.calls K a1 t3 h4) ?_; intro a w v hF hf hR
  subst hR; have hM := hM.grow hf
  refine s_val hF rfl rfl rfl (e_assign hF rfl) ?_; intro a hF
  refine s_nil ?_
  refine then_n ?_
  refine wp_seq ?_
  refine wp_seq ?_
  refine s_region ?_
  refine s_val hF rfl rfl rfl (e_move hF rfl) ?_; intro a hF
  refine s_nil ?_
  refine then_n ?_
  rcases ite_cases H with ⟨c5, H⟩ | ⟨c5, H⟩
  ·
    refine s_cond_t hF rfl c5 ?_
    refine wp_seq ?_
    refine wp_seq ?_
    refine s_region ?_
    refine s_val hF rfl rfl rfl (e_move hF rfl) ?_; intro a hF
    refine s_nil ?_
    refine then_n ?_
    rcases ite_cases H with ⟨c6, H⟩ | ⟨c6, H⟩
    ·
      refine s_cond_t hF rfl c6 ?_
      refine wp_seq ?_
      refine s_region ?_
      refine s_val hF rfl rfl rfl (e_assign hF rfl) ?_; intro a hF
      refine s_nil ?_
      refine then_n ?_
      refine wp_ret ?_
      refine then_r ?_
      refine then_r ?_
      obtain rfl := some_some H
      refine s_ret [Value.int .i64 0] hF Try.results83 ⟨rfl, trivial⟩ ?_
      exact ⟨_, rfl, hM.frm, rfl⟩
    ·
      refine s_cond_f hF rfl (bf c6) ?_
      refine wp_skip ?_
      refine then_n ?_
      refine wp_seq ?_
      refine s_region ?_
      refine s_val hF rfl rfl rfl (e_assign hF rfl) ?_; intro a hF
      refine s_nil ?_
      refine then_n ?_
      refine wp_ret ?_
      refine then_r ?_
      obtain rfl := some_some H
      refine s_ret [Value.int .i64 (-1)] hF Try.results83 ⟨rfl, trivial⟩ ?_
      exact ⟨_, rfl, hM.frm, rfl⟩
  ·
    refine s_cond_f hF rfl (bf c5) ?_
    refine wp_skip ?_
    refine then_n ?_
    refine wp_seq ?_
    refine wp_seq ?_
    refine s_region ?_
    refine s_val hF rfl rfl rfl (e_move hF rfl) ?_; intro a hF
    refine s_nil ?_
    refine then_n ?_
    rcases ite_cases H with ⟨c7, H⟩ | ⟨c7, H⟩
    ·
      refine s_cond_t hF rfl c7 ?_
      refine wp_seq ?_
      refine s_region ?_
      refine s_val hF rfl rfl rfl (e_assign hF rfl) ?_; intro a hF
      refine s_nil ?_
      refine then_n ?_
      refine wp_ret ?_
      refine then_r ?_
      obtain rfl := some_some H
      refine s_ret [Value.int .i64 1] hF Try.results83 ⟨rfl, trivial⟩ ?_
      exact ⟨_, rfl, hM.frm, rfl⟩
    ·
      refine s_cond_f hF rfl (bf c7) ?_
      refine wp_skip ?_
      refine then_n ?_
      refine wp_seq ?_
      refine wp_seq ?_
      refine s_region ?_
      refine s_val hF rfl rfl rfl (e_move hF rfl) ?_; intro a hF
      refine s_val hF rfl rfl rfl (e_move hF rfl) ?_; intro a hF
      refine s_val hF rfl rfl rfl (e_lss hF rfl rfl) ?_; intro a hF
      refine s_nil ?_
      refine then_n ?_
      rcases ite_cases H with ⟨c8, H⟩ | ⟨c8, H⟩
      ·
        refine s_cond_t hF rfl (decide_eq_true c8) ?_
        refine wp_seq ?_
        refine s_region ?_
        refine s_val hF rfl rfl rfl (e_assign hF rfl) ?_; intro a hF
        refine s_nil ?_
        refine then_n ?_
        refine wp_ret ?_
        refine then_r ?_
        obtain rfl := some_some H
        refine s_ret [Value.int .i64 (-1)] hF Try.results83 ⟨rfl, trivial⟩ ?_
        exact ⟨_, rfl, hM.frm, rfl⟩
      ·
        refine s_cond_f hF rfl (decide_eq_false c8) ?_
        refine wp_skip ?_
        refine then_n ?_
        refine wp_seq ?_
        refine wp_seq ?_
        refine s_region ?_
        refine s_val hF rfl rfl rfl (e_move hF rfl) ?_; intro a hF
        refine s_val hF rfl rfl rfl (e_move hF rfl) ?_; intro a hF
        refine s_val hF rfl rfl rfl (e_gtr hF rfl rfl) ?_; intro a hF
        refine s_nil ?_
        refine then_n ?_
        rcases ite_cases H with ⟨c9, H⟩ | ⟨c9, H⟩
        ·
          refine s_cond_t hF rfl (decide_eq_true c9) ?_
          refine wp_seq ?_
          refine s_region ?_
          refine s_val hF rfl rfl rfl (e_assign hF rfl) ?_; intro a hF
          refine s_nil ?_
          refine then_n ?_
          refine wp_ret ?_
          refine then_r ?_
          obtain rfl := some_some H
          refine s_ret [Value.int .i64 1] hF Try.results83 ⟨rfl, trivial⟩ ?_
          exact ⟨_, rfl, hM.frm, rfl⟩
        ·
          refine s_cond_f hF rfl (decide_eq_false c9) ?_
          refine wp_skip ?_
          refine then_n ?_
          refine wp_seq ?_
          refine s_region ?_
          refine s_val hF rfl rfl rfl (e_assign hF rfl) ?_; intro a hF
          refine s_nil ?_
          refine then_n ?_
          refine wp_ret ?_
          obtain rfl := some_some H
          refine s_ret [Value.int .i64 0] hF Try.results83 ⟨rfl, trivial⟩ ?_
          exact ⟨_, rfl, hM.frm, rfl⟩

/-! ### slices.Compare[[]int,int]: function 74 -/
def slices_Compare_int_int.l0 (K : Nat) (l0 : (List Int)) (l1 : (List Int)) : Nat → Int → Option (Sum Unit Int)
  | 0, _ => none
  | k + 1, x16 => if x16 < (l0.length : Int) then (if (0 : Int) ≤ x16 ∧ x16 < (l0.length : Int) then (if (l1.length : Int) ≤ x16 then (some (Sum.inr 1)) else (if (0 : Int) ≤ x16 ∧ x16 < (l1.length : Int) then ((cmp_Compare_int.f K (l0.getD (x16 : Int).toNat (0 : Int)) (l1.getD (x16 : Int).toNat (0 : Int))).bind fun t21 => if t21 = 0 then (slices_Compare_int_int.l0 K l0 l1 k (wrap64 (x16 + 1))) else (some (Sum.inr t21))) else none)) else none) else (some (Sum.inl ()))
def slices_Compare_int_int.f (K : Nat) (l0 : (List Int)) (l1 : (List Int)) : Option Int := (slices_Compare_int_int.l0 K l0 l1 K 0).bind fun o24 => (match o24 with | .inl () => if (l0.length : Int) < (l1.length : Int) then (some (-1)) else (some 0) | .inr r26 => some r26)
set_option maxRecDepth 100000 in
set_option maxHeartbeats 4000000 in
theorem slices_Compare_int_int.calls {w0 : World} (K : Nat) (l0 : (List Int)) (u0 : Value) (q0 : SlR cd3 w0 u0 l0) (l1 : (List Int)) (u1 : Value) (q1 : SlR cd3 w0 u1 l1) (r : Int) (H : slices_Compare_int_int.f K l0 l1 = some r) : Calls Try.prog 74 [u0, u1].toArray w0 (Post w0 fun w v => v = Value.int .i64 r) := by
  rw [slices_Compare_int_int.f] at H
  refine s_start Try.func74 rfl Try.ntmps74 rfl ?_
  intro a hF
  have hM := Ms.start w0
  skip
  refine wp_seq ?_
  refine s_region ?_
  refine s_val hF rfl rfl rfl (e_assign hF rfl) ?_; intro a hF
  refine s_nil ?_
  refine then_n ?_
  refine wp_seq ?_
  refine wp_seq ?_
  refine s_region ?_
  refine s_val hF rfl rfl rfl (e_move hF rfl) ?_; intro a hF
  refine s_val hF rfl rfl rfl (e_len hF rfl (q0.frm hM.frm).toF Try.underlying59) ?_; intro a hF
  refine s_val hF rfl rfl rfl (e_move hF rfl) ?_; intro a hF
  refine s_nil ?_
  refine then_n ?_
  refine wp_block ?_
  obtain ⟨o24, h25, H⟩ := bind_some H
  refine wp_mono (Q := fun e a w => (e = Exit.exit 0 ∧ Sum.inl () = o24 ∧ Fr 36 a [(0, u0), (1, u1)] ∧ Ms [] w0 w []) ∨ (e = Exit.ret ∧ ∃ r26 : Int, Sum.inr r26 = o24 ∧ Fr 36 a [(4, Value.int .i64 r26)] ∧ Ms [] w0 w [])) ?_ ?_
  · refine s_loop (fun kq a w => ∃ x16 : Int, slices_Compare_int_int.l0 K l0 l1 kq x16 = some o24 ∧ Fr 36 a [(0, u0), (1, u1), (9, u0), (10, Value.int .i64 (l0.length : Int)), (11, Value.int .i64 x16)] ∧ Ms [] w0 w []) K ⟨0, h25, hF.sub _ ⟨rfl, rfl, rfl, rfl, rfl, trivial⟩, hM.pick [] rfl rfl⟩ ?_ ?_
    · rintro a w ⟨_, H, _⟩; exact none_some H
    · rintro k a w ⟨x16, H, hF, hM⟩; rw [slices_Compare_int_int.l0] at H
      refine wp_seq ?_
      refine s_region ?_
      refine s_val hF rfl rfl rfl (e_lss hF rfl rfl) ?_; intro a hF
      refine s_nil ?_
      refine then_n ?_
      refine wp_seq ?_
      rcases ite_cases H with ⟨c17, H⟩ | ⟨c17, H⟩
      ·
        refine s_cond_t hF rfl (decide_eq_true c17) ?_
        refine wp_skip ?_
        refine then_n ?_
        refine wp_seq ?_
        refine wp_block ?_
        refine wp_seq ?_
        obtain ⟨c18, H⟩ := ite_some H
        refine s_region ?_
        refine s_val hF rfl rfl rfl (e_move hF rfl) ?_; intro a hF
        refine s_val hF rfl rfl rfl (e_ias cd3 hF rfl rfl (q0.frm hM.frm).toF Try.underlying59 Try.sizeOf3 c18.1 c18.2) ?_; intro a hF
        refine s_val hF rfl rfl rfl (e_lds (m := x16) hF rfl (q0.frm hM.frm) (getD_some (z := (0 : Int)) c18.1 c18.2) rfl rfl Try.isAgg3) ?_; intro a hF
        refine s_val hF rfl rfl rfl (e_assign hF rfl) ?_; intro a hF
        refine s_val hF rfl rfl rfl (e_assign hF rfl) ?_; intro a hF
        refine s_nil ?_
        refine then_n ?_
        refine wp_seq ?_
        refine wp_seq ?_
        refine s_region ?_
        refine s_val hF rfl rfl rfl (e_move hF rfl) ?_; intro a hF
        refine s_val hF rfl rfl rfl (e_move hF rfl) ?_; intro a hF
        refine s_val hF rfl rfl rfl (e_len hF rfl (q1.frm hM.frm).toF Try.underlying59) ?_; intro a hF
        refine s_val hF rfl rfl rfl (e_geq hF rfl rfl) ?_; intro a hF
        refine s_nil ?_
        refine then_n ?_
        rcases ite_cases H with ⟨c19, H⟩ | ⟨c19, H⟩
        ·
          refine s_cond_t hF rfl (decide_eq_true c19) ?_
          refine wp_seq ?_
          refine s_region ?_
          refine s_val hF rfl rfl rfl (e_assign hF rfl) ?_; intro a hF
          refine s_nil ?_
          refine then_n ?_
          refine wp_ret ?_
          refine then_r ?_
          refine blk_r ?_
          refine then_r ?_
          refine then_r ?_
          exact Or.inr (⟨rfl, 1, some_some H, hF.sub _ ⟨rfl, trivial⟩, hM.pick [] rfl rfl⟩)
        ·
          refine s_cond_f hF rfl (decide_eq_false c19) ?_
          refine wp_skip ?_
          refine then_n ?_
          refine wp_seq ?_
          obtain ⟨c20, H⟩ := ite_some H
          refine s_region ?_
          refine s_val hF rfl rfl rfl (e_move hF rfl) ?_; intro a hF
          refine s_val hF rfl rfl rfl (e_move hF rfl) ?_; intro a hF
          refine s_val hF rfl rfl rfl (e_ias cd3 hF rfl rfl (q1.frm hM.frm).toF Try.underlying59 Try.sizeOf3 c20.1 c20.2) ?_; intro a hF
          refine s_val hF rfl rfl rfl (e_lds (m := x16) hF rfl (q1.frm hM.frm) (getD_some (z := (0 : Int)) c20.1 c20.2) rfl rfl Try.isAgg3) ?_; intro a hF
          refine s_val hF rfl rfl rfl (e_assign hF rfl) ?_; intro a hF
          refine s_nil ?_
          refine then_n ?_
          refine wp_seq ?_
          obtain ⟨t21, h22, H⟩ := bind_some H
          refine s_region ?_
          refine s_val hF rfl rfl rfl (e_move hF rfl) ?_; intro a hF
          refine s_val hF rfl rfl rfl (e_move hF rfl) ?_; intro a hF
          refine s_call hF rfl rfl rfl Try.call83 (cmp_Compare_int.calls K (l0.getD (x16 : Int).toNat (0 : Int)) (l1.getD (x16 : Int).toNat (0 : Int)) t21 h22) ?_; intro a w v hF hf hR
          subst hR; have hM := hM.grow hf
          refine s_val hF rfl rfl rfl (e_assign hF rfl) ?_; intro a hF
          refine s_nil ?_
          refine then_n ?_
          refine wp_seq ?_
          refine s_region ?_
          refine s_val hF rfl rfl rfl (e_move hF rfl) ?_; intro a hF
          refine s_val hF rfl rfl rfl (e_neq hF rfl rfl) ?_; intro a hF
          refine s_nil ?_
          refine then_n ?_
          rcases ite_cases H with ⟨c23, H⟩ | ⟨c23, H⟩
          ·
            refine s_cond_f hF rfl (congrArg Bool.not (decide_eq_true c23)) ?_
            refine wp_skip ?_
            refine blk_n ?_
            refine then_n ?_
            refine s_region ?_
            refine s_val hF rfl rfl rfl (e_add hF rfl rfl) ?_; intro a hF
            refine s_val hF rfl rfl rfl (e_move hF rfl) ?_; intro a hF
            refine s_nil ?_
            refine then_n ?_
            exact ⟨(wrap64 (x16 + 1)), H, hF.sub _ ⟨rfl, rfl, rfl, rfl, rfl, trivial⟩, hM.pick [] rfl rfl⟩
          ·
            refine s_cond_t hF rfl (congrArg Bool.not (decide_eq_false c23)) ?_
            refine wp_seq ?_
            refine s_region ?_
            refine s_val hF rfl rfl rfl (e_move hF rfl) ?_; intro a hF
            refine s_val hF rfl rfl rfl (e_assign hF rfl) ?_; intro a hF
            refine s_nil ?_
            refine then_n ?_
            refine wp_ret ?_
            refine blk_r ?_
            refine then_r ?_
            refine then_r ?_
            exact Or.inr (⟨rfl, t21, some_some H, hF.sub _ ⟨rfl, trivial⟩, hM.pick [] rfl rfl⟩)
      ·
        refine s_cond_f hF rfl (decide_eq_false c17) ?_
        refine wp_exit ?_
        refine then_x ?_
        refine then_x ?_
        exact Or.inl (⟨rfl, some_some H, hF.sub _ ⟨rfl, rfl, trivial⟩, hM.pick [] rfl rfl⟩)
  · rintro e a w (⟨rfl, rfl, hF, hM⟩ | ⟨rfl, r26, rfl, hF, hM⟩)
    ·
      dsimp only at H
      refine blk_x ?_
      refine then_n ?_
      refine wp_seq ?_
      refine wp_seq ?_
      refine s_region ?_
      refine s_val hF rfl rfl rfl (e_move hF rfl) ?_; intro a hF
      refine s_val hF rfl rfl rfl (e_len hF rfl (q0.frm hM.frm).toF Try.underlying59) ?_; intro a hF
      refine s_val hF rfl rfl rfl (e_move hF rfl) ?_; intro a hF
      refine s_val hF rfl rfl rfl (e_len hF rfl (q1.frm hM.frm).toF Try.underlying59) ?_; intro a hF
      refine s_val hF rfl rfl rfl (e_lss hF rfl rfl) ?_; intro a hF
      refine s_nil ?_
      refine then_n ?_
      rcases ite_cases H with ⟨c27, H⟩ | ⟨c27, H⟩
      ·
        refine s_cond_t hF rfl (decide_eq_true c27) ?_
        refine wp_seq ?_
        refine s_region ?_
        refine s_val hF rfl rfl rfl (e_assign hF rfl) ?_; intro a hF
        refine s_nil ?_
        refine then_n ?_
        refine wp_ret ?_
        refine then_r ?_
        obtain rfl := some_some H
        refine s_ret [Value.int .i64 (-1)] hF Try.results74 ⟨rfl, trivial⟩ ?_
        exact ⟨_, rfl, hM.frm, rfl⟩
      ·
        refine s_cond_f hF rfl (decide_eq_false c27) ?_
        refine wp_skip ?_
        refine then_n ?_
        refine wp_seq ?_
        refine s_region ?_
        refine s_val hF rfl rfl rfl (e_assign hF rfl) ?_; intro a hF
        refine s_nil ?_
        refine then_n ?_
        refine wp_ret ?_
        obtain rfl := some_some H
        refine s_ret [Value.int .i64 0] hF Try.results74 ⟨rfl, trivial⟩ ?_
        exact ⟨_, rfl, hM.frm, rfl⟩
    ·
      dsimp only at H
      refine blk_r ?_
      refine then_r ?_
      obtain rfl := some_some H
      refine s_ret [Value.int .i64 r26] hF Try.results74 ⟨rfl, trivial⟩ ?_
      exact ⟨_, rfl, hM.frm, rfl⟩

/-! ### loop.example/g01210/impl.compareDice: function 62 -/
def impl_compareDice.f (K : Nat) (a0 : (Ar 6)) (a1 : (Ar 6)) : Option Int := (slices_Compare_int_int.f K a0.l a1.l).bind fun t3 => some t3
set_option maxRecDepth 100000 in
set_option maxHeartbeats 4000000 in
theorem impl_compareDice.calls {w0 : World} (K : Nat) (a0 : (Ar 6)) (a1 : (Ar 6)) (r : Int) (H : impl_compareDice.f K a0 a1 = some r) : Calls Try.prog 62 [ag [Pt.ar a0], ag [Pt.ar a1]].toArray w0 (Post w0 fun w v => v = Value.int .i64 r) := by
  rw [impl_compareDice.f] at H
  refine s_start Try.func62 rfl Try.ntmps62 rfl ?_
  intro a hF
  have hM := Ms.start w0
  skip
  refine wp_seq ?_
  refine s_region ?_
  refine s_box (ps := [Pt.ar a0]) hF hM rfl rfl rfl rfl ?_; intro a w b1 hF hM
  refine s_box (ps := [Pt.ar a1]) hF hM rfl rfl rfl rfl ?_; intro a w b2 hF hM
  refine s_val hF rfl rfl rfl (e_assign hF rfl) ?_; intro a hF
  refine s_nil ?_
  refine then_n ?_
  refine wp_seq ?_
  obtain ⟨t3, h4, H⟩ := bind_some H
  refine s_held (fun w => Ms [] w0 w [boxR b2 [Pt.ar a1] 31, boxR b1 [Pt.ar a0] 31]) #[false, false, false, false] mixed rfl rfl hM ?_; intro w hf hM; clear hf
  refine h_val 0 #[true, false, false, false] rfl (by kernel_rfl) hF rfl rfl rfl (fun w hS => e_slA0 hF rfl Try.underlying31 Try.sizeOf3) (hM.pick [0, 1] rfl rfl) ?_; intro a hF
  refine h_val 1 #[true, true, false, false] rfl (by kernel_rfl) hF rfl rfl rfl (fun w hS => e_slA0 hF rfl Try.underlying31 Try.sizeOf3) (hM.pick [0, 1] rfl rfl) ?_; intro a hF
  refine h_one 2 #[true, true, true, false] rfl (by kernel_rfl) ?_
  refine s_call hF rfl rfl rfl Try.call74 (slices_Compare_int_int.calls K a0.l (Value.slice (some ⟨b1, 0, none⟩) 6 6) (hM.boxSl (k := 0) (m := 6) 1 rfl rfl rfl cd3 (fun _ => rfl) 6 (by decide)) a1.l (Value.slice (some ⟨b2, 0, none⟩) 6 6) (hM.boxSl (k := 0) (m := 6) 0 rfl rfl rfl cd3 (fun _ => rfl) 6 (by decide)) t3 h4) ?_; intro a w v hF hf hR
  subst hR; have hM := hM.grow hf
  refine s_nil ⟨rfl, (hM.pick [0, 1] rfl rfl), ?_⟩
  refine h_val 3 #[true, true, true, true] rfl (by kernel_rfl) hF rfl rfl rfl (fun w hS => e_assign hF rfl) (hM.pick [0, 1] rfl rfl) ?_; intro a hF
  refine h_done rfl ?_
  refine then_n ?_
  refine wp_ret ?_
  obtain rfl := some_some H
  refine s_ret [Value.int .i64 t3] hF Try.results62 ⟨rfl, trivial⟩ ?_
  exact ⟨_, rfl, hM.frm, rfl⟩

/-! ### loop.example/g01210/impl.pairOf: function 46 -/
def impl_pairOf.f (K : Nat) (a0 : (Ar 6)) (a1 : (Ar 6)) : Option ((Ar 6) × (Ar 6)) := (impl_compareDice.f K a0 a1).bind fun t4 => if 0 < t4 then (some ((a1, a0).1, (a1, a0).2)) else (some ((a0, a1).1, (a0, a1).2))
set_option maxRecDepth 100000 in
set_option maxHeartbeats 4000000 in
theorem impl_pairOf.calls {w0 : World} (K : Nat) (a0 : (Ar 6)) (a1 : (Ar 6)) (r : ((Ar 6) × (Ar 6))) (H : impl_pairOf.f K a0 a1 = some r) : Calls Try.prog 46 [ag [Pt.ar a0], ag [Pt.ar a1]].toArray w0 (Post w0 fun w v => v = ag [Pt.ar r.1, Pt.ar r.2]) := by
  rw [impl_pairOf.f] at H
  refine s_start Try.func46 rfl Try.ntmps46 rfl ?_
  intro a hF
  have hM := Ms.start w0
  skip
  refine wp_seq ?_
  refine s_region ?_
  refine s_box (ps := [Pt.ar a0]) hF hM rfl rfl rfl rfl ?_; intro a w b1 hF hM
  refine s_box (ps := [Pt.ar a1]) hF hM rfl rfl rfl rfl ?_; intro a w b2 hF hM
  refine s_alloc (ps := [Pt.ar (((Ar.zero 6), (Ar.zero 6)).1), Pt.ar (((Ar.zero 6), (Ar.zero 6)).2)]) hF hM rfl rfl zv50 rfl ?_; intro a w b3 hF hM
  refine s_nil ?_
  refine then_n ?_
  refine wp_seq ?_
  refine wp_seq ?_
  obtain ⟨t4, h5, H⟩ := bind_some H
  refine s_region ?_
  refine s_val hF rfl rfl rfl (e_lda (i := 2) 0 1 hF hM rfl rfl rfl rfl Try.isAgg31 Try.sizeOf31 rfl) ?_; intro a hF
  refine s_val hF rfl rfl rfl (e_lda (i := 1) 0 1 hF hM rfl rfl rfl rfl Try.isAgg31 Try.sizeOf31 rfl) ?_; intro a hF
  refine s_call hF rfl rfl rfl Try.call62 (impl_compareDice.calls K a0 a1 t4 h5) ?_; intro a w v hF hf hR
  subst hR; have hM := hM.grow hf
  refine s_val hF rfl rfl rfl (e_gtr hF rfl rfl) ?_; intro a hF
  refine s_nil ?_
  refine then_n ?_
  rcases ite_cases H with ⟨c6, H⟩ | ⟨c6, H⟩
  ·
    refine s_cond_t hF rfl (decide_eq_true c6) ?_
    refine s_region ?_
    refine s_val hF rfl rfl rfl (e_lda (i := 1) 0 1 hF hM rfl rfl rfl rfl Try.isAgg31 Try.sizeOf31 rfl) ?_; intro a hF
    refine s_val hF rfl rfl rfl (e_lda (i := 2) 0 1 hF hM rfl rfl rfl rfl Try.isAgg31 Try.sizeOf31 rfl) ?_; intro a hF
    refine s_stw (i := 2) (ps' := [Pt.ar a1]) hF hM rfl rfl rfl rfl rfl rfl Try.sizeOf31 rfl ?_; intro a w hF hM
    refine s_stw (i := 1) (ps' := [Pt.ar a0]) hF hM rfl rfl rfl rfl rfl rfl Try.sizeOf31 rfl ?_; intro a w hF hM
    refine s_nil ?_
    refine then_n ?_
    refine wp_seq ?_
    refine s_region ?_
    refine s_val hF rfl rfl rfl (e_lda (i := 2) 0 1 hF hM rfl rfl rfl rfl Try.isAgg31 Try.sizeOf31 rfl) ?_; intro a hF
    refine s_val hF rfl rfl rfl (e_lda (i := 1) 0 1 hF hM rfl rfl rfl rfl Try.isAgg31 Try.sizeOf31 rfl) ?_; intro a hF
    refine s_val hF rfl rfl rfl (e_build' hF rfl (bld50 a1 a0)) ?_; intro a hF
    refine s_stw (i := 0) (ps' := [Pt.ar ((a1, a0).1), Pt.ar ((a1, a0).2)]) hF hM rfl rfl rfl rfl rfl rfl Try.sizeOf50 rfl ?_; intro a w hF hM
    refine s_nil ?_
    refine then_n ?_
    refine wp_ret ?_
    obtain rfl := some_some H
    refine s_ret [ag [Pt.ar (((a1, a0).1, (a1, a0).2).1), Pt.ar (((a1, a0).1, (a1, a0).2).2)]] hF Try.results46 ⟨⟨_, rfl, rv_box hM (i := 0) rfl Try.isAgg50 Try.sizeOf50 rfl⟩, trivial⟩ ?_
    exact ⟨_, rfl, hM.frm, rfl⟩
  ·
    refine s_cond_f hF rfl (decide_eq_false c6) ?_
    refine wp_skip ?_
    refine then_n ?_
    refine wp_seq ?_
    refine s_region ?_
    refine s_val hF rfl rfl rfl (e_lda (i := 2) 0 1 hF hM rfl rfl rfl rfl Try.isAgg31 Try.sizeOf31 rfl) ?_; intro a hF
    refine s_val hF rfl rfl rfl (e_lda (i := 1) 0 1 hF hM rfl rfl rfl rfl Try.isAgg31 Try.sizeOf31 rfl) ?_; intro a hF
    refine s_val hF rfl rfl rfl (e_build' hF rfl (bld50 a0 a1)) ?_; intro a hF
    refine s_stw (i := 0) (ps' := [Pt.ar ((a0, a1).1), Pt.ar ((a0, a1).2)]) hF hM rfl rfl rfl rfl rfl rfl Try.sizeOf50 rfl ?_; intro a w hF hM
    refine s_nil ?_
    refine then_n ?_
    refine wp_ret ?_
    obtain rfl := some_some H
    refine s_ret [ag [Pt.ar (((a0, a1).1, (a0, a1).2).1), Pt.ar (((a0, a1).1, (a0, a1).2).2)]] hF Try.results46 ⟨⟨_, rfl, rv_box hM (i := 0) rfl Try.isAgg50 Try.sizeOf50 rfl⟩, trivial⟩ ?_
    exact ⟨_, rfl, hM.frm, rfl⟩

/-! ### (*loop.example/g01210/impl.factors).known: function 82 -/
def impl_factors_known__c.l0 (K : Nat) (y4 : (Ar 31)) (y5 : (Ar 31)) (a1 : Int) : Nat → Int → Int → Option Int
  | 0, _, _ => none
  | k + 1, x22, x23 => if x23 < a1 then (if x23 ≤ 30 then (if (0 : Int) ≤ x23 ∧ x23 < 31 then (if (0 : Int) ≤ (wrap64 (a1 - x23)) ∧ (wrap64 (a1 - x23)) < 31 then (impl_factors_known__c.l0 K y4 y5 a1 k (wrap64 (x22 + (wrap64 ((y4.get x23) * (y5.get (wrap64 (a1 - x23))))))) (wrap64 (x23 + 1))) else none) else none) else (some x22)) else (some x22)
def impl_factors_known__c.f (K : Nat) (y9 : (List ((Ar 6) × (Ar 6)))) (y3 : (Ar 121)) (y4 : (Ar 31)) (y5 : (Ar 31)) (y6 : Int) (y7 : Int) (a1 : Int) : Option Int := (impl_factors_known__c.l0 K y4 y5 a1 K 0 (if (wrap64 (a1 - 30)) > 1 then (wrap64 (a1 - 30)) else 1)).bind fun x21 => some x21
set_option maxRecDepth 100000 in
set_option maxHeartbeats 4000000 in
theorem impl_factors_known__c.calls {w0 : World} (K : Nat) (v8 : Value) (y9 : (List ((Ar 6) × (Ar 6)))) (q10 : SlR cd50 w0 v8 y9) (b1 : Nat) (y3 : (Ar 121)) (y4 : (Ar 31)) (y5 : (Ar 31)) (y6 : Int) (y7 : Int) (q2 : (boxR b1 [Pt.ar y3, Pt.ar y4, Pt.ar y5, Pt.int y6, Pt.int y7, Pt.any v8] 75).holds w0) (a1 : Int) (r : Int) (H : impl_factors_known__c.f K y9 y3 y4 y5 y6 y7 a1 = some r) : Calls Try.prog 82 [pt b1 0, Value.int .i64 a1].toArray w0 (Post w0 fun w v => v = Value.int .i64 r) := by
  rw [impl_factors_known__c.f] at H
  refine s_start Try.func82 rfl Try.ntmps82 rfl ?_
  intro a hF
  have hM := Ms.start w0
  skip
  refine wp_seq ?_
  refine s_region ?_
  refine s_val hF rfl rfl rfl (e_assign hF rfl) ?_; intro a hF
  refine s_nil ?_
  refine then_n ?_
  refine wp_seq ?_
  refine s_region ?_
  refine s_val hF rfl rfl rfl (e_assign hF rfl) ?_; intro a hF
  refine s_nil ?_
  refine then_n ?_
  refine wp_seq ?_
  refine wp_seq ?_
  refine s_region ?_
  refine s_val hF rfl rfl rfl (e_move hF rfl) ?_; intro a hF
  refine s_val hF rfl rfl rfl (e_sub hF rfl rfl) ?_; intro a hF
  refine s_val hF rfl rfl rfl (e_max hF rfl rfl) ?_; intro a hF
  refine s_val hF rfl rfl rfl (e_assign hF rfl) ?_; intro a hF
  refine s_nil ?_
  refine then_n ?_
  refine wp_block ?_
  obtain ⟨o28, h29, H⟩ := bind_some H
  refine wp_mono (Q := fun e a w => (e = Exit.exit 0 ∧ ∃ x21 : Int, x21 = o28 ∧ Fr 37 a [(5, Value.int .i64 x21)] ∧ Ms [] w0 w [])) ?_ ?_
  · refine s_loop (fun kq a w => ∃ x22 : Int, ∃ x23 : Int, impl_factors_known__c.l0 K y4 y5 a1 kq x22 x23 = some o28 ∧ Fr 37 a [(0, pt b1 0), (1, Value.int .i64 a1), (5, Value.int .i64 x22), (6, Value.int .i64 x23)] ∧ Ms [] w0 w []) K ⟨0, (if (wrap64 (a1 - 30)) > 1 then (wrap64 (a1 - 30)) else 1), h29, hF.sub _ ⟨rfl, rfl, rfl, rfl, trivial⟩, hM.pick [] rfl rfl⟩ ?_ ?_
    · rintro a w ⟨_, _, H, _⟩; exact none_some H
    · rintro k a w ⟨x22, x23, H, hF, hM⟩; rw [impl_factors_known__c.l0] at H
      refine wp_seq ?_
      refine wp_seq ?_
      rcases ite_cases H with ⟨c24, H⟩ | ⟨c24, H⟩
      ·
        refine s_region ?_
        refine s_val hF rfl rfl rfl (e_move hF rfl) ?_; intro a hF
        refine s_val hF rfl rfl rfl (e_move hF rfl) ?_; intro a hF
        refine s_val hF rfl rfl rfl (e_lss hF rfl rfl) ?_; intro a hF
        refine s_val hF rfl rfl rfl (e_move hF rfl) ?_; intro a hF
        have hF := hF.topb (decide_eq_true c24)
        refine s_val hF rfl rfl rfl (e_move hF rfl) ?_; intro a hF
        refine s_val hF rfl rfl rfl (e_leq hF rfl rfl) ?_; intro a hF
        refine s_val hF rfl rfl rfl (e_pick_t hF rfl rfl) ?_; intro a hF
        refine s_nil ?_
        refine then_n ?_
        rcases ite_cases H with ⟨c25, H⟩ | ⟨c25, H⟩
        ·
          refine s_cond_t hF rfl (decide_eq_true c25) ?_
          refine wp_skip ?_
          refine then_n ?_
          refine wp_seq ?_
          refine wp_block ?_
          obtain ⟨c26, H⟩ := ite_some H
          obtain ⟨c27, H⟩ := ite_some H
          refine s_held (fun w => Ms [] w0 w []) #[false, false, false, false, false, false, false, false, false, false, false, false, false, false, false, false, false, false] mixed rfl rfl hM ?_; intro w hf hM; clear hf
          refine h_val 0 #[true, false, false, false, false, false, false, false, false, false, false, false, false, false, false, false, false, false] rfl (by kernel_rfl) hF rfl rfl rfl (fun w hS => e_move hF rfl) (hM.pick [] rfl rfl) ?_; intro a hF
          refine h_val 1 #[true, true, false, false, false, false, false, false, false, false, false, false, false, false, false, false, false, false] rfl (by kernel_rfl) hF rfl rfl rfl (fun w hS => e_move hF rfl) (hM.pick [] rfl rfl) ?_; intro a hF
          refine h_val 2 #[true, true, true, false, false, false, false, false, false, false, false, false, false, false, false, false, false, false] rfl (by kernel_rfl) hF rfl rfl rfl (fun w hS => e_move hF rfl) (hM.pick [] rfl rfl) ?_; intro a hF
          refine h_val 3 #[true, true, true, true, false, false, false, false, false, false, false, false, false, false, false, false, false, false] rfl (by kernel_rfl) hF rfl rfl rfl (fun w hS => e_nilc hF rfl) (hM.pick [] rfl rfl) ?_; intro a hF
          refine h_val 4 #[true, true, true, true, true, false, false, false, false, false, false, false, false, false, false, false, false, false] rfl (by kernel_rfl) hF rfl rfl rfl (fun w hS => e_fa hF rfl Try.underlying75 rfl Try.sizeOf73 rfl rfl) (hM.pick [] rfl rfl) ?_; intro a hF
          refine h_val 5 #[true, true, true, true, true, true, false, false, false, false, false, false, false, false, false, false, false, false] rfl (by kernel_rfl) hF rfl rfl rfl (fun w hS => e_ia hF rfl rfl Try.underlying73 Try.sizeOf3 c26.1 c26.2) (hM.pick [] rfl rfl) ?_; intro a hF
          refine h_val 6 #[true, true, true, true, true, true, true, false, false, false, false, false, false, false, false, false, false, false] rfl (by kernel_rfl) hF rfl rfl rfl (fun w hS => e_ldi (i := 0) (k := 1) hF (lent_ms (box_frm q2 hS.frm)) rfl rfl rfl rfl rfl Try.isAgg3 c26.1 c26.2) (hM.pick [] rfl rfl) ?_; intro a hF
          refine h_val 7 #[true, true, true, true, true, true, true, true, false, false, false, false, false, false, false, false, false, false] rfl (by kernel_rfl) hF rfl rfl rfl (fun w hS => e_move hF rfl) (hM.pick [] rfl rfl) ?_; intro a hF
          refine h_val 8 #[true, true, true, true, true, true, true, true, true, false, false, false, false, false, false, false, false, false] rfl (by kernel_rfl) hF rfl rfl rfl (fun w hS => e_move hF rfl) (hM.pick [] rfl rfl) ?_; intro a hF
          refine h_val 9 #[true, true, true, true, true, true, true, true, true, true, false, false, false, false, false, false, false, false] rfl (by kernel_rfl) hF rfl rfl rfl (fun w hS => e_move hF rfl) (hM.pick [] rfl rfl) ?_; intro a hF
          refine h_val 10 #[true, true, true, true, true, true, true, true, true, true, true, false, false, false, false, false, false, false] rfl (by kernel_rfl) hF rfl rfl rfl (fun w hS => e_sub hF rfl rfl) (hM.pick [] rfl rfl) ?_; intro a hF
          refine h_val 11 #[true, true, true, true, true, true, true, true, true, true, true, true, false, false, false, false, false, false] rfl (by kernel_rfl) hF rfl rfl rfl (fun w hS => e_nilc hF rfl) (hM.pick [] rfl rfl) ?_; intro a hF
          refine h_val 12 #[true, true, true, true, true, true, true, true, true, true, true, true, true, false, false, false, false, false] rfl (by kernel_rfl) hF rfl rfl rfl (fun w hS => e_fa hF rfl Try.underlying75 rfl Try.sizeOf73 rfl rfl) (hM.pick [] rfl rfl) ?_; intro a hF
          refine h_val 13 #[true, true, true, true, true, true, true, true, true, true, true, true, true, true, false, false, false, false] rfl (by kernel_rfl) hF rfl rfl rfl (fun w hS => e_ia hF rfl rfl Try.underlying73 Try.sizeOf3 c27.1 c27.2) (hM.pick [] rfl rfl) ?_; intro a hF
          refine h_val 14 #[true, true, true, true, true, true, true, true, true, true, true, true, true, true, true, false, false, false] rfl (by kernel_rfl) hF rfl rfl rfl (fun w hS => e_ldi (i := 0) (k := 2) hF (lent_ms (box_frm q2 hS.frm)) rfl rfl rfl rfl rfl Try.isAgg3 c27.1 c27.2) (hM.pick [] rfl rfl) ?_; intro a hF
          refine h_val 15 #[true, true, true, true, true, true, true, true, true, true, true, true, true, true, true, true, false, false] rfl (by kernel_rfl) hF rfl rfl rfl (fun w hS => e_mul hF rfl rfl) (hM.pick [] rfl rfl) ?_; intro a hF
          refine h_val 16 #[true, true, true, true, true, true, true, true, true, true, true, true, true, true, true, true, true, false] rfl (by kernel_rfl) hF rfl rfl rfl (fun w hS => e_add hF rfl rfl) (hM.pick [] rfl rfl) ?_; intro a hF
          refine h_val 17 #[true, true, true, true, true, true, true, true, true, true, true, true, true, true, true, true, true, true] rfl (by kernel_rfl) hF rfl rfl rfl (fun w hS => e_assign hF rfl) (hM.pick [] rfl rfl) ?_; intro a hF
          refine h_done rfl ?_
          refine blk_n ?_
          refine then_n ?_
          refine s_region ?_
          refine s_val hF rfl rfl rfl (e_move hF rfl) ?_; intro a hF
          refine s_val hF rfl rfl rfl (e_add hF rfl rfl) ?_; intro a hF
          refine s_val hF rfl rfl rfl (e_assign hF rfl) ?_; intro a hF
          refine s_nil ?_
          refine then_n ?_
          exact ⟨(wrap64 (x22 + (wrap64 ((y4.get x23) * (y5.get (wrap64 (a1 - x23))))))), (wrap64 (x23 + 1)), H, hF.sub _ ⟨rfl, rfl, rfl, rfl, trivial⟩, hM.pick [] rfl rfl⟩
        ·
          refine s_cond_f hF rfl (decide_eq_false c25) ?_
          refine wp_exit ?_
          refine then_x ?_
          refine then_x ?_
          exact ⟨rfl, x22, some_some H, hF.sub _ ⟨rfl, trivial⟩, hM.pick [] rfl rfl⟩
      ·
        refine s_region ?_
        refine s_val hF rfl rfl rfl (e_move hF rfl) ?_; intro a hF
        refine s_val hF rfl rfl rfl (e_move hF rfl) ?_; intro a hF
        refine s_val hF rfl rfl rfl (e_lss hF rfl rfl) ?_; intro a hF
        refine s_val hF rfl rfl rfl (e_move hF rfl) ?_; intro a hF
        have hF := hF.topb (decide_eq_false c24)
        refine s_skip hF rfl rfl rfl ?_; intro a hF
        refine s_skip hF rfl rfl rfl ?_; intro a hF
        refine s_val hF rfl rfl rfl (e_pick_f hF rfl rfl) ?_; intro a hF
        refine s_nil ?_
        refine then_n ?_
        refine s_cond_f hF rfl rfl ?_
        refine wp_exit ?_
        refine then_x ?_
        refine then_x ?_
        exact ⟨rfl, x22, some_some H, hF.sub _ ⟨rfl, trivial⟩, hM.pick [] rfl rfl⟩
  · rintro e a w ⟨rfl, x21, rfl, hF, hM⟩
    skip
    refine blk_x ?_
    refine then_n ?_
    refine wp_seq ?_
    refine s_region ?_
    refine s_val hF rfl rfl rfl (e_move hF rfl) ?_; intro a hF
    refine s_val hF rfl rfl rfl (e_assign hF rfl) ?_; intro a hF
    refine s_nil ?_
    refine then_n ?_
    refine wp_ret ?_
    obtain rfl := some_some H
    refine s_ret [Value.int .i64 x21] hF Try.results82 ⟨rfl, trivial⟩ ?_
    exact ⟨_, rfl, hM.frm, rfl⟩

end Go.Proofs.Ytlcogkfjjlclmaa.WShapesLike

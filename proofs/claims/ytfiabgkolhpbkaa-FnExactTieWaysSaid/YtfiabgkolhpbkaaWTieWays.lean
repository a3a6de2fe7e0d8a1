/- The walk through the code that the statement reaches: what each function computes. Conditions: none but those in each line. -/
import Derived.Test.YtfiabgkolhpbkaaWTieWaysa
namespace Go.Proofs.Ytfiabgkolhpbkaa.WTieWays
open Go.K Go.RowKit
set_option linter.unusedVariables false
set_option linter.unusedSimpArgs false

/-! ### loop.example/g01210/laws.FnExactTieWays: function 11 -/
def laws_FnExactTieWays.f (K : Nat) (l0 : (List (Ar 6))) : Option Bool := (laws_szIntA6S.f K l0 1048576).bind fun t1 => if t1 < 0 then (some true) else ((laws_toIntA6S.f K l0).bind fun t4 => (spec_TieWays.f K t4).bind fun t7 => (laws_toIntA6S.f K l0).bind fun t9 => (impl_TieWays.f K t9).bind fun t12 => if t12.1 = t7.1 then (if (t12.2 == t7.2) = true then ((laws_toIntA6S.f K l0).bind fun t16 => (laws_eqIntA6S.f K t9 t16).bind fun t19 => if t19 = true then (some true) else (some false)) else (some false)) else (some false))
set_option maxRecDepth 100000 in
set_option maxHeartbeats 4000000 in
theorem laws_FnExactTieWays.calls {w0 : World} (K : Nat) (l0 : (List (Ar 6))) (u0 : Value) (q0 : SlR cd62 w0 u0 l0) (r : Bool) (H : laws_FnExactTieWays.f K l0 = some r) : Calls Try.prog 11 [u0].toArray w0 (Post w0 fun w v => v = Value.bool r) := by
  rw [laws_FnExactTieWays.f] at H
  refine s_start Try.func11 rfl Try.ntmps11 rfl ?_
  intro a hF
  have hM := Ms.start w0
  skip
  refine wp_seq ?_
  refine s_region ?_
  refine s_val hF rfl rfl rfl (e_assign hF rfl) ?_; intro a hF
  refine s_nil ?_
  refine then_n ?_
  refine wp_seq ?_
  refine s_region ?_
  refine s_val hF rfl rfl rfl (e_assign hF rfl) ?_; intro a hF
  refine s_nil ?_
  refine then_n ?_
  refine wp_seq ?_
  obtain ⟨t1, h2, H⟩ := bind_some H
  refine s_region ?_
  refine s_val hF rfl rfl rfl (e_move hF rfl) ?_; intro a hF
  refine s_val hF rfl rfl rfl (e_move hF rfl) ?_; intro a hF
  refine s_call hF rfl rfl rfl Try.call30 (laws_szIntA6S.calls K l0 u0 (q0.frm hM.frm) 1048576 t1 h2) ?_; intro a w v hF hf hR
  subst hR; have hM := hM.grow hf
  refine s_val hF rfl rfl rfl (e_assign hF rfl) ?_; intro a hF
  refine s_nil ?_
  refine then_n ?_
  refine wp_seq ?_
  refine wp_seq ?_
  refine s_region ?_
  refine s_val hF rfl rfl rfl (e_move hF rfl) ?_; intro a hF
  refine s_val hF rfl rfl rfl (e_lss hF rfl rfl) ?_; intro a hF
  refine s_nil ?_
  refine then_n ?_
  rcases ite_cases H with ⟨c3, H⟩ | ⟨c3, H⟩
  ·
    refine s_cond_t hF rfl (decide_eq_true c3) ?_
    refine wp_seq ?_
    refine s_region ?_
    refine s_val hF rfl rfl rfl (e_assign hF rfl) ?_; intro a hF
    refine s_nil ?_
    refine then_n ?_
    refine wp_ret ?_
    refine then_r ?_
    obtain rfl := some_some H
    refine s_ret [Value.bool true] hF Try.results11 ⟨rfl, trivial⟩ ?_
    exact ⟨_, rfl, hM.frm, rfl⟩
  ·
    refine s_cond_f hF rfl (decide_eq_false c3) ?_
    refine wp_skip ?_
    refine then_n ?_
    refine wp_seq ?_
    obtain ⟨t4, h5, H⟩ := bind_some H
    obtain ⟨t7, h8, H⟩ := bind_some H
    refine s_region ?_
    refine s_val hF rfl rfl rfl (e_move hF rfl) ?_; intro a hF
    refine s_call hF rfl rfl rfl Try.call32 (laws_toIntA6S.calls K l0 u0 (q0.frm hM.frm) t4 h5) ?_; intro a w v6 hF hf hR
    have hM := hM.fresh hf hR
    refine s_call hF rfl rfl rfl Try.call41 (spec_TieWays.calls K t4 v6 (hM.sl 0 rfl) t7 h8) ?_; intro a w v hF hf hR
    subst hR; have hM := hM.grow hf
    refine s_val hF rfl rfl rfl (e_move hF rfl) ?_; intro a hF
    refine s_val hF rfl rfl rfl (e_extract hF rfl rfl) ?_; intro a hF
    refine s_val hF rfl rfl rfl (e_extract hF rfl rfl) ?_; intro a hF
    refine s_val hF rfl rfl rfl (e_assign hF rfl) ?_; intro a hF
    refine s_val hF rfl rfl rfl (e_assign hF rfl) ?_; intro a hF
    refine s_nil ?_
    refine then_n ?_
    refine wp_seq ?_
    obtain ⟨t9, h10, H⟩ := bind_some H
    refine s_region ?_
    refine s_val hF rfl rfl rfl (e_move hF rfl) ?_; intro a hF
    refine s_call hF rfl rfl rfl Try.call32 (laws_toIntA6S.calls K l0 u0 (q0.frm hM.frm) t9 h10) ?_; intro a w v11 hF hf hR
    have hM := hM.fresh hf hR
    refine s_val hF rfl rfl rfl (e_assign hF rfl) ?_; intro a hF
    refine s_nil ?_
    refine then_n ?_
    refine wp_seq ?_
    obtain ⟨t12, h13, H⟩ := bind_some H
    refine s_region ?_
    refine s_val hF rfl rfl rfl (e_move hF rfl) ?_; intro a hF
    refine s_call hF rfl rfl rfl Try.call42 (impl_TieWays.calls K t9 v11 (hM.sl 0 rfl) t12 h13) ?_; intro a w v hF hf hR
    subst hR; have hM := hM.grow hf
    refine s_val hF rfl rfl rfl (e_move hF rfl) ?_; intro a hF
    refine s_val hF rfl rfl rfl (e_extract hF rfl rfl) ?_; intro a hF
    refine s_val hF rfl rfl rfl (e_extract hF rfl rfl) ?_; intro a hF
    refine s_val hF rfl rfl rfl (e_assign hF rfl) ?_; intro a hF
    refine s_val hF rfl rfl rfl (e_assign hF rfl) ?_; intro a hF
    refine s_nil ?_
    refine then_n ?_
    refine wp_seq ?_
    refine wp_seq ?_
    rcases ite_cases H with ⟨c14, H⟩ | ⟨c14, H⟩
    ·
      refine s_region ?_
      refine s_val hF rfl rfl rfl (e_move hF rfl) ?_; intro a hF
      refine s_val hF rfl rfl rfl (e_move hF rfl) ?_; intro a hF
      refine s_val hF rfl rfl rfl (e_neq hF rfl rfl) ?_; intro a hF
      refine s_val hF rfl rfl rfl (e_move hF rfl) ?_; intro a hF
      have hF := hF.topb (congrArg Bool.not (decide_eq_true c14))
      refine s_val hF rfl rfl rfl (e_move hF rfl) ?_; intro a hF
      refine s_val hF rfl rfl rfl (e_move hF rfl) ?_; intro a hF
      refine s_val hF rfl rfl rfl (e_bneq hF rfl rfl Try.underlying4) ?_; intro a hF
      refine s_val hF rfl rfl rfl (e_pick_f hF rfl rfl) ?_; intro a hF
      refine s_nil ?_
      refine then_n ?_
      rcases ite_cases H with ⟨c15, H⟩ | ⟨c15, H⟩
      ·
        refine s_cond_f hF rfl (congrArg Bool.not c15) ?_
        refine wp_skip ?_
        refine then_n ?_
        refine wp_seq ?_
        refine wp_seq ?_
        obtain ⟨t16, h17, H⟩ := bind_some H
        obtain ⟨t19, h20, H⟩ := bind_some H
        refine s_region ?_
        refine s_val hF rfl rfl rfl (e_move hF rfl) ?_; intro a hF
        refine s_val hF rfl rfl rfl (e_move hF rfl) ?_; intro a hF
        refine s_call hF rfl rfl rfl Try.call32 (laws_toIntA6S.calls K l0 u0 (q0.frm hM.frm) t16 h17) ?_; intro a w v18 hF hf hR
        have hM := hM.fresh hf hR
        refine s_call hF rfl rfl rfl Try.call27 (laws_eqIntA6S.calls K t9 v11 (hM.sl 1 rfl) t16 v18 (hM.sl 0 rfl) t19 h20) ?_; intro a w v hF hf hR
        subst hR; have hM := hM.grow hf
        refine s_val hF rfl rfl rfl (e_not hF rfl) ?_; intro a hF
        refine s_nil ?_
        refine then_n ?_
        rcases ite_cases H with ⟨c21, H⟩ | ⟨c21, H⟩
        ·
          refine s_cond_f hF rfl (congrArg Bool.not c21) ?_
          refine wp_skip ?_
          refine then_n ?_
          refine wp_seq ?_
          refine s_region ?_
          refine s_val hF rfl rfl rfl (e_assign hF rfl) ?_; intro a hF
          refine s_nil ?_
          refine then_n ?_
          refine wp_ret ?_
          obtain rfl := some_some H
          refine s_ret [Value.bool true] hF Try.results11 ⟨rfl, trivial⟩ ?_
          exact ⟨_, rfl, hM.frm, rfl⟩
        ·
          refine s_cond_t hF rfl (congrArg Bool.not (bf c21)) ?_
          refine wp_seq ?_
          refine s_region ?_
          refine s_val hF rfl rfl rfl (e_assign hF rfl) ?_; intro a hF
          refine s_nil ?_
          refine then_n ?_
          refine wp_ret ?_
          refine then_r ?_
          obtain rfl := some_some H
          refine s_ret [Value.bool false] hF Try.results11 ⟨rfl, trivial⟩ ?_
          exact ⟨_, rfl, hM.frm, rfl⟩
      ·
        refine s_cond_t hF rfl (congrArg Bool.not (bf c15)) ?_
        refine wp_seq ?_
        refine s_region ?_
        refine s_val hF rfl rfl rfl (e_assign hF rfl) ?_; intro a hF
        refine s_nil ?_
        refine then_n ?_
        refine wp_ret ?_
        refine then_r ?_
        obtain rfl := some_some H
        refine s_ret [Value.bool false] hF Try.results11 ⟨rfl, trivial⟩ ?_
        exact ⟨_, rfl, hM.frm, rfl⟩
    ·
      refine s_region ?_
      refine s_val hF rfl rfl rfl (e_move hF rfl) ?_; intro a hF
      refine s_val hF rfl rfl rfl (e_move hF rfl) ?_; intro a hF
      refine s_val hF rfl rfl rfl (e_neq hF rfl rfl) ?_; intro a hF
      refine s_val hF rfl rfl rfl (e_move hF rfl) ?_; intro a hF
      have hF := hF.topb (congrArg Bool.not (decide_eq_false c14))
      refine s_skip hF rfl rfl rfl ?_; intro a hF
      refine s_skip hF rfl rfl rfl ?_; intro a hF
      refine s_skip hF rfl rfl rfl ?_; intro a hF
      refine s_val hF rfl rfl rfl (e_pick_t hF rfl rfl) ?_; intro a hF
      refine s_nil ?_
      refine then_n ?_
      refine s_cond_t hF rfl rfl ?_
      refine wp_seq ?_
      refine s_region ?_
      refine s_val hF rfl rfl rfl (e_assign hF rfl) ?_; intro a hF
      refine s_nil ?_
      refine then_n ?_
      refine wp_ret ?_
      refine then_r ?_
      obtain rfl := some_some H
      refine s_ret [Value.bool false] hF Try.results11 ⟨rfl, trivial⟩ ?_
      exact ⟨_, rfl, hM.frm, rfl⟩

end Go.Proofs.Ytfiabgkolhpbkaa.WTieWays

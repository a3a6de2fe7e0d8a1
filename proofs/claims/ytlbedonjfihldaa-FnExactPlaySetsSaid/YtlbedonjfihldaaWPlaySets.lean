/- The walk through the code that the statement reaches: what each function computes. Conditions: none but those in each line. -/
import Derived.Test.YtlbedonjfihldaaWPlaySetsa
namespace Go.Proofs.Ytlbedonjfihldaa.WPlaySets
open Go.K Go.RowKit
set_option linter.unusedVariables false
set_option linter.unusedSimpArgs false

/-! ### loop.example/g01210/laws.FnExactPlaySets: function 7 -/
def laws_FnExactPlaySets.f (K : Nat) (l0 : (List (Ar 6))) (a1 : Int) (l2 : (List Int)) (l3 : (List Int)) : Option Bool := if 1048576 < (l2.length : Int) then (some true) else (if 1048576 < (l3.length : Int) then (some true) else ((laws_szIntA6S.f K l0 1048576).bind fun t3 => if t3 < 0 then (some true) else ((laws_toIntA6S.f K l0).bind fun t6 => (laws_toIntS.f K l2).bind fun t9 => (laws_toIntS.f K l3).bind fun t12 => (spec_PlaySets.f K t6 a1 t9 t12).bind fun t15 => (laws_toIntA6S.f K l0).bind fun t18 => (laws_toIntS.f K l2).bind fun t21 => (laws_toIntS.f K l3).bind fun t24 => (impl_PlaySets.f K t18 a1 t21 t24).bind fun t27 => (laws_eqIntS.f K t27.1 t15.1).bind fun t30 => if t30 = true then (if (t27.2 == t15.2) = true then ((laws_toIntA6S.f K l0).bind fun t34 => (laws_eqIntA6S.f K t18 t34).bind fun t37 => if t37 = true then ((laws_toIntS.f K l2).bind fun t40 => (laws_eqIntS.f K t21 t40).bind fun t43 => if t43 = true then ((laws_toIntS.f K l3).bind fun t46 => (laws_eqIntS.f K t24 t46).bind fun t49 => if t49 = true then ((laws_markIntA6S.f K t18 1).bind fun t52 => (laws_markIntS.f K t21 t52.1).bind fun t54 => (laws_markIntS.f K t24 t54.1).bind fun t56 => if t56.1 < 0 then (some false) else ((laws_eqIntS.f K t27.1 t15.1).bind fun t59 => if t59 = true then ((laws_markIntS.f K t27.1 1).bind fun t62 => (laws_heldIntS.f K t62.2 1).bind fun t64 => if t64 < 0 then (some false) else (if t64 = t62.1 then ((laws_toIntA6S.f K l0).bind fun t68 => (laws_toIntS.f K l2).bind fun t71 => (laws_toIntS.f K l3).bind fun t74 => (impl_PlaySets.f K t68 a1 t71 t74).bind fun t77 => (laws_eqIntS.f K t77.1 t15.1).bind fun t80 => if t80 = true then (if (t77.2 == t15.2) = true then ((laws_heldIntS.f K t62.2 1).bind fun t84 => if t84 < 0 then (some false) else (if t84 = t62.1 then (some true) else (some false))) else (some false)) else (some false)) else (some false))) else (some false))) else (some false)) else (some false)) else (some false)) else (some false)) else (some false))))
set_option maxRecDepth 100000 in
set_option maxHeartbeats 4000000 in
theorem laws_FnExactPlaySets.calls {w0 : World} (K : Nat) (l0 : (List (Ar 6))) (u0 : Value) (q0 : SlR cd28 w0 u0 l0) (a1 : Int) (l2 : (List Int)) (u2 : Value) (q2 : SlR cd3 w0 u2 l2) (l3 : (List Int)) (u3 : Value) (q3 : SlR cd3 w0 u3 l3) (r : Bool) (H : laws_FnExactPlaySets.f K l0 a1 l2 l3 = some r) : Calls Try.prog 7 [u0, Value.int .i64 a1, u2, u3].toArray w0 (Post w0 fun w v => v = Value.bool r) := by
  rw [laws_FnExactPlaySets.f] at H
  refine s_start Try.func7 rfl Try.ntmps7 rfl ?_
  intro a hF
  have hM := Ms.start w0
  skip
  refine wp_seq ?_
  refine s_region ?_
  refine s_val hF rfl rfl rfl (e_assign hF rfl) ?_; intro a hF
  refine s_nil ?_
  refine then_n ?_
  refine wp_seq ?_
  refine wp_seq ?_
  refine s_region ?_
  refine s_val hF rfl rfl rfl (e_move hF rfl) ?_; intro a hF
  refine s_val hF rfl rfl rfl (e_len hF rfl (q2.frm hM.frm).toF Try.underlying33) ?_; intro a hF
  refine s_val hF rfl rfl rfl (e_gtr hF rfl rfl) ?_; intro a hF
  refine s_nil ?_
  refine then_n ?_
  rcases ite_cases H with ⟨c1, H⟩ | ⟨c1, H⟩
  ·
    refine s_cond_t hF rfl (decide_eq_true c1) ?_
    refine wp_seq ?_
    refine s_region ?_
    refine s_val hF rfl rfl rfl (e_assign hF rfl) ?_; intro a hF
    refine s_nil ?_
    refine then_n ?_
    refine wp_ret ?_
    refine then_r ?_
    obtain rfl := some_some H
    refine s_ret [Value.bool true] hF Try.results7 ⟨rfl, trivial⟩ ?_
    exact ⟨_, rfl, hM.frm, rfl⟩
  ·
    refine s_cond_f hF rfl (decide_eq_false c1) ?_
    refine wp_skip ?_
    refine then_n ?_
    refine wp_seq ?_
    refine wp_seq ?_
    refine s_region ?_
    refine s_val hF rfl rfl rfl (e_move hF rfl) ?_; intro a hF
    refine s_val hF rfl rfl rfl (e_len hF rfl (q3.frm hM.frm).toF Try.underlying33) ?_; intro a hF
    refine s_val hF rfl rfl rfl (e_gtr hF rfl rfl) ?_; intro a hF
    refine s_nil ?_
    refine then_n ?_
    rcases ite_cases H with ⟨c2, H⟩ | ⟨c2, H⟩
    ·
      refine s_cond_t hF rfl (decide_eq_true c2) ?_
      refine wp_seq ?_
      refine s_region ?_
      refine s_val hF rfl rfl rfl (e_assign hF rfl) ?_; intro a hF
      refine s_nil ?_
      refine then_n ?_
      refine wp_ret ?_
      refine then_r ?_
      obtain rfl := some_some H
      refine s_ret [Value.bool true] hF Try.results7 ⟨rfl, trivial⟩ ?_
      exact ⟨_, rfl, hM.frm, rfl⟩
    ·
      refine s_cond_f hF rfl (decide_eq_false c2) ?_
      refine wp_skip ?_
      refine then_n ?_
      refine wp_seq ?_
      refine s_region ?_
      refine s_val hF rfl rfl rfl (e_assign hF rfl) ?_; intro a hF
      refine s_nil ?_
      refine then_n ?_
      refine wp_seq ?_
      obtain ⟨t3, h4, H⟩ := bind_some H
      refine s_region ?_
      refine s_val hF rfl rfl rfl (e_move hF rfl) ?_; intro a hF
      refine s_val hF rfl rfl rfl (e_move hF rfl) ?_; intro a hF
      refine s_call hF rfl rfl rfl Try.call30 (laws_szIntA6S.calls K l0 u0 (q0.frm hM.frm) 1048576 t3 h4) ?_; intro a w v hF hf hR
      subst hR; have hM := hM.grow hf
      refine s_val hF rfl rfl rfl (e_assign hF rfl) ?_; intro a hF
      refine s_nil ?_
      refine then_n ?_
      refine wp_seq ?_
      refine wp_seq ?_
      refine s_region ?_
      refine s_val hF rfl rfl rfl (e_move hF rfl) ?_; intro a hF
      refine s_val hF rfl rfl rfl (e_lss hF rfl rfl) ?_; intro a hF
      refine s_nil ?_
      refine then_n ?_
      rcases ite_cases H with ⟨c5, H⟩ | ⟨c5, H⟩
      ·
        refine s_cond_t hF rfl (decide_eq_true c5) ?_
        refine wp_seq ?_
        refine s_region ?_
        refine s_val hF rfl rfl rfl (e_assign hF rfl) ?_; intro a hF
        refine s_nil ?_
        refine then_n ?_
        refine wp_ret ?_
        refine then_r ?_
        obtain rfl := some_some H
        refine s_ret [Value.bool true] hF Try.results7 ⟨rfl, trivial⟩ ?_
        exact ⟨_, rfl, hM.frm, rfl⟩
      ·
        refine s_cond_f hF rfl (decide_eq_false c5) ?_
        refine wp_skip ?_
        refine then_n ?_
        refine wp_seq ?_
        obtain ⟨t6, h7, H⟩ := bind_some H
        obtain ⟨t9, h10, H⟩ := bind_some H
        obtain ⟨t12, h13, H⟩ := bind_some H
        obtain ⟨t15, h16, H⟩ := bind_some H
        refine s_region ?_
        refine s_val hF rfl rfl rfl (e_move hF rfl) ?_; intro a hF
        refine s_call hF rfl rfl rfl Try.call32 (laws_toIntA6S.calls K l0 u0 (q0.frm hM.frm) t6 h7) ?_; intro a w v8 hF hf hR
        have hM := hM.fresh hf hR
        refine s_val hF rfl rfl rfl (e_move hF rfl) ?_; intro a hF
        refine s_val hF rfl rfl rfl (e_move hF rfl) ?_; intro a hF
        refine s_call hF rfl rfl rfl Try.call22 (laws_toIntS.calls K l2 u2 (q2.frm hM.frm) t9 h10) ?_; intro a w v11 hF hf hR
        have hM := hM.fresh hf hR
        refine s_val hF rfl rfl rfl (e_move hF rfl) ?_; intro a hF
        refine s_call hF rfl rfl rfl Try.call22 (laws_toIntS.calls K l3 u3 (q3.frm hM.frm) t12 h13) ?_; intro a w v14 hF hf hR
        have hM := hM.fresh hf hR
        refine s_call hF rfl rfl rfl Try.call31 (spec_PlaySets.calls K t6 v8 (hM.sl 2 rfl) a1 t9 v11 (hM.sl 1 rfl) t12 v14 (hM.sl 0 rfl) t15 h16) ?_; intro a w v hF hf hR
        obtain ⟨v17, rfl, hR⟩ := hR; have hM := hM.fresh hf hR
        refine s_val hF rfl rfl rfl (e_move hF rfl) ?_; intro a hF
        refine s_val hF rfl rfl rfl (e_extract hF rfl rfl) ?_; intro a hF
        refine s_val hF rfl rfl rfl (e_extract hF rfl rfl) ?_; intro a hF
        refine s_val hF rfl rfl rfl (e_assign hF rfl) ?_; intro a hF
        refine s_val hF rfl rfl rfl (e_assign hF rfl) ?_; intro a hF
        refine s_nil ?_
        refine then_n ?_
        refine wp_seq ?_
        obtain ⟨t18, h19, H⟩ := bind_some H
        refine s_region ?_
        refine s_val hF rfl rfl rfl (e_move hF rfl) ?_; intro a hF
        refine s_call hF rfl rfl rfl Try.call32 (laws_toIntA6S.calls K l0 u0 (q0.frm hM.frm) t18 h19) ?_; intro a w v20 hF hf hR
        have hM := hM.fresh hf hR
        refine s_val hF rfl rfl rfl (e_assign hF rfl) ?_; intro a hF
        refine s_nil ?_
        refine then_n ?_
        refine wp_seq ?_
        obtain ⟨t21, h22, H⟩ := bind_some H
        refine s_region ?_
        refine s_val hF rfl rfl rfl (e_move hF rfl) ?_; intro a hF
        refine s_call hF rfl rfl rfl Try.call22 (laws_toIntS.calls K l2 u2 (q2.frm hM.frm) t21 h22) ?_; intro a w v23 hF hf hR
        have hM := hM.fresh hf hR
        refine s_val hF rfl rfl rfl (e_assign hF rfl) ?_; intro a hF
        refine s_nil ?_
        refine then_n ?_
        refine wp_seq ?_
        obtain ⟨t24, h25, H⟩ := bind_some H
        refine s_region ?_
        refine s_val hF rfl rfl rfl (e_move hF rfl) ?_; intro a hF
        refine s_call hF rfl rfl rfl Try.call22 (laws_toIntS.calls K l3 u3 (q3.frm hM.frm) t24 h25) ?_; intro a w v26 hF hf hR
        have hM := hM.fresh hf hR
        refine s_val hF rfl rfl rfl (e_assign hF rfl) ?_; intro a hF
        refine s_nil ?_
        refine then_n ?_
        refine wp_seq ?_
        obtain ⟨t27, h28, H⟩ := bind_some H
        refine s_region ?_
        refine s_val hF rfl rfl rfl (e_move hF rfl) ?_; intro a hF
        refine s_val hF rfl rfl rfl (e_move hF rfl) ?_; intro a hF
        refine s_val hF rfl rfl rfl (e_move hF rfl) ?_; intro a hF
        refine s_val hF rfl rfl rfl (e_move hF rfl) ?_; intro a hF
        refine s_call hF rfl rfl rfl Try.call33 (impl_PlaySets.calls K t18 v20 (hM.sl 2 rfl) a1 t21 v23 (hM.sl 1 rfl) t24 v26 (hM.sl 0 rfl) t27 h28) ?_; intro a w v hF hf hR
        obtain ⟨v29, rfl, hR⟩ := hR; have hM := hM.fresh hf hR
        refine s_val hF rfl rfl rfl (e_move hF rfl) ?_; intro a hF
        refine s_val hF rfl rfl rfl (e_extract hF rfl rfl) ?_; intro a hF
        refine s_val hF rfl rfl rfl (e_extract hF rfl rfl) ?_; intro a hF
        refine s_val hF rfl rfl rfl (e_assign hF rfl) ?_; intro a hF
        refine s_val hF rfl rfl rfl (e_assign hF rfl) ?_; intro a hF
        refine s_nil ?_
        refine then_n ?_
        refine wp_seq ?_
        refine wp_seq ?_
        obtain ⟨t30, h31, H⟩ := bind_some H
        rcases ite_cases H with ⟨c32, H⟩ | ⟨c32, H⟩
        ·
          refine s_region ?_
          refine s_val hF rfl rfl rfl (e_move hF rfl) ?_; intro a hF
          refine s_val hF rfl rfl rfl (e_move hF rfl) ?_; intro a hF
          refine s_call hF rfl rfl rfl Try.call24 (laws_eqIntS.calls K t27.1 v29 (hM.sl 0 rfl) t15.1 v17 (hM.sl 4 rfl) t30 h31) ?_; intro a w v hF hf hR
          subst hR; have hM := hM.grow hf
          refine s_val hF rfl rfl rfl (e_not hF rfl) ?_; intro a hF
          refine s_val hF rfl rfl rfl (e_move hF rfl) ?_; intro a hF
          have hF := hF.topb (congrArg Bool.not c32)
          refine s_val hF rfl rfl rfl (e_move hF rfl) ?_; intro a hF
          refine s_val hF rfl rfl rfl (e_move hF rfl) ?_; intro a hF
          refine s_val hF rfl rfl rfl (e_bneq hF rfl rfl Try.underlying4) ?_; intro a hF
          refine s_val hF rfl rfl rfl (e_pick_f hF rfl rfl) ?_; intro a hF
          refine s_nil ?_
          refine then_n ?_
          rcases ite_cases H with ⟨c33, H⟩ | ⟨c33, H⟩
          ·
            refine s_cond_f hF rfl (congrArg Bool.not c33) ?_
            refine wp_skip ?_
            refine then_n ?_
            refine wp_seq ?_
            refine wp_seq ?_
            obtain ⟨t34, h35, H⟩ := bind_some H
            obtain ⟨t37, h38, H⟩ := bind_some H
            refine s_region ?_
            refine s_val hF rfl rfl rfl (e_move hF rfl) ?_; intro a hF
            refine s_val hF rfl rfl rfl (e_move hF rfl) ?_; intro a hF
            refine s_call hF rfl rfl rfl Try.call32 (laws_toIntA6S.calls K l0 u0 (q0.frm hM.frm) t34 h35) ?_; intro a w v36 hF hf hR
            have hM := hM.fresh hf hR
            refine s_call hF rfl rfl rfl Try.call34 (laws_eqIntA6S.calls K t18 v20 (hM.sl 4 rfl) t34 v36 (hM.sl 0 rfl) t37 h38) ?_; intro a w v hF hf hR
            subst hR; have hM := hM.grow hf
            refine s_val hF rfl rfl rfl (e_not hF rfl) ?_; intro a hF
            refine s_nil ?_
            refine then_n ?_
            rcases ite_cases H with ⟨c39, H⟩ | ⟨c39, H⟩
            ·
              refine s_cond_f hF rfl (congrArg Bool.not c39) ?_
              refine wp_skip ?_
              refine then_n ?_
              refine wp_seq ?_
              refine wp_seq ?_
              obtain ⟨t40, h41, H⟩ := bind_some H
              obtain ⟨t43, h44, H⟩ := bind_some H
              refine s_region ?_
              refine s_val hF rfl rfl rfl (e_move hF rfl) ?_; intro a hF
              refine s_val hF rfl rfl rfl (e_move hF rfl) ?_; intro a hF
              refine s_call hF rfl rfl rfl Try.call22 (laws_toIntS.calls K l2 u2 (q2.frm hM.frm) t40 h41) ?_; intro a w v42 hF hf hR
              have hM := hM.fresh hf hR
              refine s_call hF rfl rfl rfl Try.call24 (laws_eqIntS.calls K t21 v23 (hM.sl 4 rfl) t40 v42 (hM.sl 0 rfl) t43 h44) ?_; intro a w v hF hf hR
              subst hR; have hM := hM.grow hf
              refine s_val hF rfl rfl rfl (e_not hF rfl) ?_; intro a hF
              refine s_nil ?_
              refine then_n ?_
              rcases ite_cases H with ⟨c45, H⟩ | ⟨c45, H⟩
              ·
                refine s_cond_f hF rfl (congrArg Bool.not c45) ?_
                refine wp_skip ?_
                refine then_n ?_
                refine wp_seq ?_
                refine wp_seq ?_
                obtain ⟨t46, h47, H⟩ := bind_some H
                obtain ⟨t49, h50, H⟩ := bind_some H
                refine s_region ?_
                refine s_val hF rfl rfl rfl (e_move hF rfl) ?_; intro a hF
                refine s_val hF rfl rfl rfl (e_move hF rfl) ?_; intro a hF
                refine s_call hF rfl rfl rfl Try.call22 (laws_toIntS.calls K l3 u3 (q3.frm hM.frm) t46 h47) ?_; intro a w v48 hF hf hR
                have hM := hM.fresh hf hR
                refine s_call hF rfl rfl rfl Try.call24 (laws_eqIntS.calls K t24 v26 (hM.sl 4 rfl) t46 v48 (hM.sl 0 rfl) t49 h50) ?_; intro a w v hF hf hR
                subst hR; have hM := hM.grow hf
                refine s_val hF rfl rfl rfl (e_not hF rfl) ?_; intro a hF
                refine s_nil ?_
                refine then_n ?_
                rcases ite_cases H with ⟨c51, H⟩ | ⟨c51, H⟩
                ·
                  refine s_cond_f hF rfl (congrArg Bool.not c51) ?_
                  refine wp_skip ?_
                  refine then_n ?_
                  refine wp_seq ?_
                  refine s_region ?_
                  refine s_val hF rfl rfl rfl (e_assign hF rfl) ?_; intro a hF
                  refine s_nil ?_
                  refine then_n ?_
                  refine wp_seq ?_
                  obtain ⟨t52, h53, H⟩ := bind_some H
                  refine s_region ?_
                  refine s_val hF rfl rfl rfl (e_move hF rfl) ?_; intro a hF
                  refine s_val hF rfl rfl rfl (e_move hF rfl) ?_; intro a hF
                  refine s_callx hF rfl rfl rfl Try.call35 (laws_markIntA6S.calls K t18 v20 (hM.get 6 rfl) 1 t52 h53) ?_; intro a w v hF ⟨hf, hR⟩
                  obtain ⟨hR, hO⟩ := hR; subst hR; have hM := hM.turn (i := 6) (R' := rowR cd28 v20 t52.2) rfl hf hO (fun _ hb => .inl hb)
                  refine s_val hF rfl rfl rfl (e_assign hF rfl) ?_; intro a hF
                  refine s_nil ?_
                  refine then_n ?_
                  refine wp_seq ?_
                  obtain ⟨t54, h55, H⟩ := bind_some H
                  refine s_region ?_
                  refine s_val hF rfl rfl rfl (e_move hF rfl) ?_; intro a hF
                  refine s_val hF rfl rfl rfl (e_move hF rfl) ?_; intro a hF
                  refine s_callx hF rfl rfl rfl Try.call36 (laws_markIntS.calls K t21 v23 (hM.get 5 rfl) t52.1 t54 h55) ?_; intro a w v hF ⟨hf, hR⟩
                  obtain ⟨hR, hO⟩ := hR; subst hR; have hM := hM.turn (i := 5) (R' := rowR cd3 v23 t54.2) rfl hf hO (fun _ hb => .inl hb)
                  refine s_val hF rfl rfl rfl (e_assign hF rfl) ?_; intro a hF
                  refine s_nil ?_
                  refine then_n ?_
                  refine wp_seq ?_
                  obtain ⟨t56, h57, H⟩ := bind_some H
                  refine s_region ?_
                  refine s_val hF rfl rfl rfl (e_move hF rfl) ?_; intro a hF
                  refine s_val hF rfl rfl rfl (e_move hF rfl) ?_; intro a hF
                  refine s_callx hF rfl rfl rfl Try.call36 (laws_markIntS.calls K t24 v26 (hM.get 4 rfl) t54.1 t56 h57) ?_; intro a w v hF ⟨hf, hR⟩
                  obtain ⟨hR, hO⟩ := hR; subst hR; have hM := hM.turn (i := 4) (R' := rowR cd3 v26 t56.2) rfl hf hO (fun _ hb => .inl hb)
                  refine s_val hF rfl rfl rfl (e_assign hF rfl) ?_; intro a hF
                  refine s_nil ?_
                  refine then_n ?_
                  refine wp_seq ?_
                  refine wp_seq ?_
                  rcases ite_cases H with ⟨c58, H⟩ | ⟨c58, H⟩
                  ·
                    refine s_region ?_
                    refine s_val hF rfl rfl rfl (e_move hF rfl) ?_; intro a hF
                    refine s_val hF rfl rfl rfl (e_lss hF rfl rfl) ?_; intro a hF
                    refine s_val hF rfl rfl rfl (e_move hF rfl) ?_; intro a hF
                    have hF := hF.topb (decide_eq_true c58)
                    refine s_skip hF rfl rfl rfl ?_; intro a hF
                    refine s_skip hF rfl rfl rfl ?_; intro a hF
                    refine s_skip hF rfl rfl rfl ?_; intro a hF
                    refine s_skip hF rfl rfl rfl ?_; intro a hF
                    refine s_val hF rfl rfl rfl (e_pick_t hF rfl rfl) ?_; intro a hF
                    refine s_val hF rfl rfl rfl (e_move hF rfl) ?_; intro a hF
                    refine s_skip hF rfl rfl rfl ?_; intro a hF
                    refine s_skip hF rfl rfl rfl ?_; intro a hF
                    refine s_skip hF rfl rfl rfl ?_; intro a hF
                    refine s_val hF rfl rfl rfl (e_pick_t hF rfl rfl) ?_; intro a hF
                    refine s_nil ?_
                    refine then_n ?_
                    refine s_cond_t hF rfl rfl ?_
                    refine wp_seq ?_
                    refine s_region ?_
                    refine s_val hF rfl rfl rfl (e_assign hF rfl) ?_; intro a hF
                    refine s_nil ?_
                    refine then_n ?_
                    refine wp_ret ?_
                    refine then_r ?_
                    obtain rfl := some_some H
                    refine s_ret [Value.bool false] hF Try.results7 ⟨rfl, trivial⟩ ?_
                    exact ⟨_, rfl, hM.frm, rfl⟩
                  ·
                    obtain ⟨t59, h60, H⟩ := bind_some H
                    rcases ite_cases H with ⟨c61, H⟩ | ⟨c61, H⟩
                    ·
                      refine s_region ?_
                      refine s_val hF rfl rfl rfl (e_move hF rfl) ?_; intro a hF
                      refine s_val hF rfl rfl rfl (e_lss hF rfl rfl) ?_; intro a hF
                      refine s_val hF rfl rfl rfl (e_move hF rfl) ?_; intro a hF
                      have hF := hF.topb (decide_eq_false c58)
                      refine s_val hF rfl rfl rfl (e_move hF rfl) ?_; intro a hF
                      refine s_val hF rfl rfl rfl (e_move hF rfl) ?_; intro a hF
                      refine s_call hF rfl rfl rfl Try.call24 (laws_eqIntS.calls K t27.1 v29 (hM.sl 3 rfl) t15.1 v17 (hM.sl 7 rfl) t59 h60) ?_; intro a w v hF hf hR
                      subst hR; have hM := hM.grow hf
                      refine s_val hF rfl rfl rfl (e_not hF rfl) ?_; intro a hF
                      refine s_val hF rfl rfl rfl (e_pick_f hF rfl rfl) ?_; intro a hF
                      refine s_val hF rfl rfl rfl (e_move hF rfl) ?_; intro a hF
                      have hF := hF.topb (congrArg Bool.not c61)
                      refine s_val hF rfl rfl rfl (e_move hF rfl) ?_; intro a hF
                      refine s_val hF rfl rfl rfl (e_move hF rfl) ?_; intro a hF
                      refine s_val hF rfl rfl rfl (e_bneq hF rfl rfl Try.underlying4) ?_; intro a hF
                      refine s_val hF rfl rfl rfl (e_pick_f hF rfl rfl) ?_; intro a hF
                      refine s_nil ?_
                      refine then_n ?_
                      refine s_cond_f hF rfl (congrArg Bool.not c33) ?_
                      refine wp_skip ?_
                      refine then_n ?_
                      refine wp_seq ?_
                      refine s_region ?_
                      refine s_val hF rfl rfl rfl (e_assign hF rfl) ?_; intro a hF
                      refine s_nil ?_
                      refine then_n ?_
                      refine wp_seq ?_
                      obtain ⟨t62, h63, H⟩ := bind_some H
                      refine s_region ?_
                      refine s_val hF rfl rfl rfl (e_move hF rfl) ?_; intro a hF
                      refine s_val hF rfl rfl rfl (e_move hF rfl) ?_; intro a hF
                      refine s_callx hF rfl rfl rfl Try.call36 (laws_markIntS.calls K t27.1 v29 (hM.get 3 rfl) 1 t62 h63) ?_; intro a w v hF ⟨hf, hR⟩
                      obtain ⟨hR, hO⟩ := hR; subst hR; have hM := hM.turn (i := 3) (R' := rowR cd3 v29 t62.2) rfl hf hO (fun _ hb => .inl hb)
                      refine s_val hF rfl rfl rfl (e_assign hF rfl) ?_; intro a hF
                      refine s_nil ?_
                      refine then_n ?_
                      refine wp_seq ?_
                      refine s_region ?_
                      refine s_val hF rfl rfl rfl (e_assign hF rfl) ?_; intro a hF
                      refine s_nil ?_
                      refine then_n ?_
                      refine wp_seq ?_
                      obtain ⟨t64, h65, H⟩ := bind_some H
                      refine s_region ?_
                      refine s_val hF rfl rfl rfl (e_move hF rfl) ?_; intro a hF
                      refine s_val hF rfl rfl rfl (e_move hF rfl) ?_; intro a hF
                      refine s_call hF rfl rfl rfl Try.call37 (laws_heldIntS.calls K t62.2 v29 (hM.sl 3 rfl) 1 t64 h65) ?_; intro a w v hF hf hR
                      subst hR; have hM := hM.grow hf
                      refine s_val hF rfl rfl rfl (e_assign hF rfl) ?_; intro a hF
                      refine s_nil ?_
                      refine then_n ?_
                      refine wp_seq ?_
                      refine wp_seq ?_
                      refine s_region ?_
                      refine s_val hF rfl rfl rfl (e_move hF rfl) ?_; intro a hF
                      refine s_val hF rfl rfl rfl (e_lss hF rfl rfl) ?_; intro a hF
                      refine s_nil ?_
                      refine then_n ?_
                      rcases ite_cases H with ⟨c66, H⟩ | ⟨c66, H⟩
                      ·
                        refine s_cond_t hF rfl (decide_eq_true c66) ?_
                        refine wp_seq ?_
                        refine s_region ?_
                        refine s_val hF rfl rfl rfl (e_assign hF rfl) ?_; intro a hF
                        refine s_nil ?_
                        refine then_n ?_
                        refine wp_ret ?_
                        refine then_r ?_
                        obtain rfl := some_some H
                        refine s_ret [Value.bool false] hF Try.results7 ⟨rfl, trivial⟩ ?_
                        exact ⟨_, rfl, hM.frm, rfl⟩
                      ·
                        refine s_cond_f hF rfl (decide_eq_false c66) ?_
                        refine wp_skip ?_
                        refine then_n ?_
                        refine wp_seq ?_
                        refine wp_seq ?_
                        refine s_region ?_
                        refine s_val hF rfl rfl rfl (e_move hF rfl) ?_; intro a hF
                        refine s_val hF rfl rfl rfl (e_move hF rfl) ?_; intro a hF
                        refine s_val hF rfl rfl rfl (e_neq hF rfl rfl) ?_; intro a hF
                        refine s_nil ?_
                        refine then_n ?_
                        rcases ite_cases H with ⟨c67, H⟩ | ⟨c67, H⟩
                        ·
                          refine s_cond_f hF rfl (congrArg Bool.not (decide_eq_true c67)) ?_
                          refine wp_skip ?_
                          refine then_n ?_
                          refine wp_seq ?_
                          obtain ⟨t68, h69, H⟩ := bind_some H
                          obtain ⟨t71, h72, H⟩ := bind_some H
                          obtain ⟨t74, h75, H⟩ := bind_some H
                          obtain ⟨t77, h78, H⟩ := bind_some H
                          refine s_region ?_
                          refine s_val hF rfl rfl rfl (e_move hF rfl) ?_; intro a hF
                          refine s_call hF rfl rfl rfl Try.call32 (laws_toIntA6S.calls K l0 u0 (q0.frm hM.frm) t68 h69) ?_; intro a w v70 hF hf hR
                          have hM := hM.fresh hf hR
                          refine s_val hF rfl rfl rfl (e_move hF rfl) ?_; intro a hF
                          refine s_val hF rfl rfl rfl (e_move hF rfl) ?_; intro a hF
                          refine s_call hF rfl rfl rfl Try.call22 (laws_toIntS.calls K l2 u2 (q2.frm hM.frm) t71 h72) ?_; intro a w v73 hF hf hR
                          have hM := hM.fresh hf hR
                          refine s_val hF rfl rfl rfl (e_move hF rfl) ?_; intro a hF
                          refine s_call hF rfl rfl rfl Try.call22 (laws_toIntS.calls K l3 u3 (q3.frm hM.frm) t74 h75) ?_; intro a w v76 hF hf hR
                          have hM := hM.fresh hf hR
                          refine s_call hF rfl rfl rfl Try.call33 (impl_PlaySets.calls K t68 v70 (hM.sl 2 rfl) a1 t71 v73 (hM.sl 1 rfl) t74 v76 (hM.sl 0 rfl) t77 h78) ?_; intro a w v hF hf hR
                          obtain ⟨v79, rfl, hR⟩ := hR; have hM := hM.fresh hf hR
                          refine s_val hF rfl rfl rfl (e_move hF rfl) ?_; intro a hF
                          refine s_val hF rfl rfl rfl (e_extract hF rfl rfl) ?_; intro a hF
                          refine s_val hF rfl rfl rfl (e_extract hF rfl rfl) ?_; intro a hF
                          refine s_val hF rfl rfl rfl (e_assign hF rfl) ?_; intro a hF
                          refine s_val hF rfl rfl rfl (e_assign hF rfl) ?_; intro a hF
                          refine s_nil ?_
                          refine then_n ?_
                          refine wp_seq ?_
                          refine wp_seq ?_
                          obtain ⟨t80, h81, H⟩ := bind_some H
                          rcases ite_cases H with ⟨c82, H⟩ | ⟨c82, H⟩
                          ·
                            refine s_region ?_
                            refine s_val hF rfl rfl rfl (e_move hF rfl) ?_; intro a hF
                            refine s_val hF rfl rfl rfl (e_move hF rfl) ?_; intro a hF
                            refine s_call hF rfl rfl rfl Try.call24 (laws_eqIntS.calls K t77.1 v79 (hM.sl 0 rfl) t15.1 v17 (hM.sl 11 rfl) t80 h81) ?_; intro a w v hF hf hR
                            subst hR; have hM := hM.grow hf
                            refine s_val hF rfl rfl rfl (e_not hF rfl) ?_; intro a hF
                            refine s_val hF rfl rfl rfl (e_move hF rfl) ?_; intro a hF
                            have hF := hF.topb (congrArg Bool.not c82)
                            refine s_val hF rfl rfl rfl (e_move hF rfl) ?_; intro a hF
                            refine s_val hF rfl rfl rfl (e_move hF rfl) ?_; intro a hF
                            refine s_val hF rfl rfl rfl (e_bneq hF rfl rfl Try.underlying4) ?_; intro a hF
                            refine s_val hF rfl rfl rfl (e_pick_f hF rfl rfl) ?_; intro a hF
                            refine s_nil ?_
                            refine then_n ?_
                            rcases ite_cases H with ⟨c83, H⟩ | ⟨c83, H⟩
                            ·
                              refine s_cond_f hF rfl (congrArg Bool.not c83) ?_
                              refine wp_skip ?_
                              refine then_n ?_
                              refine wp_seq ?_
                              refine s_region ?_
                              refine s_val hF rfl rfl rfl (e_assign hF rfl) ?_; intro a hF
                              refine s_nil ?_
                              refine then_n ?_
                              refine wp_seq ?_
                              obtain ⟨t84, h85, H⟩ := bind_some H
                              refine s_region ?_
                              refine s_val hF rfl rfl rfl (e_move hF rfl) ?_; intro a hF
                              refine s_val hF rfl rfl rfl (e_move hF rfl) ?_; intro a hF
                              refine s_call hF rfl rfl rfl Try.call37 (laws_heldIntS.calls K t62.2 v29 (hM.sl 7 rfl) 1 t84 h85) ?_; intro a w v hF hf hR
                              subst hR; have hM := hM.grow hf
                              refine s_val hF rfl rfl rfl (e_assign hF rfl) ?_; intro a hF
                              refine s_nil ?_
                              refine then_n ?_
                              refine wp_seq ?_
                              refine wp_seq ?_
                              refine s_region ?_
                              refine s_val hF rfl rfl rfl (e_move hF rfl) ?_; intro a hF
                              refine s_val hF rfl rfl rfl (e_lss hF rfl rfl) ?_; intro a hF
                              refine s_nil ?_
                              refine then_n ?_
                              rcases ite_cases H with ⟨c86, H⟩ | ⟨c86, H⟩
                              ·
                                refine s_cond_t hF rfl (decide_eq_true c86) ?_
                                refine wp_seq ?_
                                refine s_region ?_
                                refine s_val hF rfl rfl rfl (e_assign hF rfl) ?_; intro a hF
                                refine s_nil ?_
                                refine then_n ?_
                                refine wp_ret ?_
                                refine then_r ?_
                                obtain rfl := some_some H
                                refine s_ret [Value.bool false] hF Try.results7 ⟨rfl, trivial⟩ ?_
                                exact ⟨_, rfl, hM.frm, rfl⟩
                              ·
                                refine s_cond_f hF rfl (decide_eq_false c86) ?_
                                refine wp_skip ?_
                                refine then_n ?_
                                refine wp_seq ?_
                                refine wp_seq ?_
                                refine s_region ?_
                                refine s_val hF rfl rfl rfl (e_move hF rfl) ?_; intro a hF
                                refine s_val hF rfl rfl rfl (e_move hF rfl) ?_; intro a hF
                                refine s_val hF rfl rfl rfl (e_neq hF rfl rfl) ?_; intro a hF
                                refine s_nil ?_
                                refine then_n ?_
                                rcases ite_cases H with ⟨c87, H⟩ | ⟨c87, H⟩
                                ·
                                  refine s_cond_f hF rfl (congrArg Bool.not (decide_eq_true c87)) ?_
                                  refine wp_skip ?_
                                  refine then_n ?_
                                  refine wp_seq ?_
                                  refine s_region ?_
                                  refine s_val hF rfl rfl rfl (e_assign hF rfl) ?_; intro a hF
                                  refine s_nil ?_
                                  refine then_n ?_
                                  refine wp_ret ?_
                                  obtain rfl := some_some H
                                  refine s_ret [Value.bool true] hF Try.results7 ⟨rfl, trivial⟩ ?_
                                  exact ⟨_, rfl, hM.frm, rfl⟩
                                ·
                                  refine s_cond_t hF rfl (congrArg Bool.not (decide_eq_false c87)) ?_
                                  refine wp_seq ?_
                                  refine s_region ?_
                                  refine s_val hF rfl rfl rfl (e_assign hF rfl) ?_; intro a hF
                                  refine s_nil ?_
                                  refine then_n ?_
                                  refine wp_ret ?_
                                  refine then_r ?_
                                  obtain rfl := some_some H
                                  refine s_ret [Value.bool false] hF Try.results7 ⟨rfl, trivial⟩ ?_
                                  exact ⟨_, rfl, hM.frm, rfl⟩
                            ·
                              refine s_cond_t hF rfl (congrArg Bool.not (bf c83)) ?_
                              refine wp_seq ?_
                              refine s_region ?_
                              refine s_val hF rfl rfl rfl (e_assign hF rfl) ?_; intro a hF
                              refine s_nil ?_
                              refine then_n ?_
                              refine wp_ret ?_
                              refine then_r ?_
                              obtain rfl := some_some H
                              refine s_ret [Value.bool false] hF Try.results7 ⟨rfl, trivial⟩ ?_
                              exact ⟨_, rfl, hM.frm, rfl⟩
                          ·
                            refine s_region ?_
                            refine s_val hF rfl rfl rfl (e_move hF rfl) ?_; intro a hF
                            refine s_val hF rfl rfl rfl (e_move hF rfl) ?_; intro a hF
                            refine s_call hF rfl rfl rfl Try.call24 (laws_eqIntS.calls K t77.1 v79 (hM.sl 0 rfl) t15.1 v17 (hM.sl 11 rfl) t80 h81) ?_; intro a w v hF hf hR
                            subst hR; have hM := hM.grow hf
                            refine s_val hF rfl rfl rfl (e_not hF rfl) ?_; intro a hF
                            refine s_val hF rfl rfl rfl (e_move hF rfl) ?_; intro a hF
                            have hF := hF.topb (congrArg Bool.not (bf c82))
                            refine s_skip hF rfl rfl rfl ?_; intro a hF
                            refine s_skip hF rfl rfl rfl ?_; intro a hF
                            refine s_skip hF rfl rfl rfl ?_; intro a hF
                            refine s_val hF rfl rfl rfl (e_pick_t hF rfl rfl) ?_; intro a hF
                            refine s_nil ?_
                            refine then_n ?_
                            refine s_cond_t hF rfl rfl ?_
                            refine wp_seq ?_
                            refine s_region ?_
                            refine s_val hF rfl rfl rfl (e_assign hF rfl) ?_; intro a hF
                            refine s_nil ?_
                            refine then_n ?_
                            refine wp_ret ?_
                            refine then_r ?_
                            obtain rfl := some_some H
                            refine s_ret [Value.bool false] hF Try.results7 ⟨rfl, trivial⟩ ?_
                            exact ⟨_, rfl, hM.frm, rfl⟩
                        ·
                          refine s_cond_t hF rfl (congrArg Bool.not (decide_eq_false c67)) ?_
                          refine wp_seq ?_
                          refine s_region ?_
                          refine s_val hF rfl rfl rfl (e_assign hF rfl) ?_; intro a hF
                          refine s_nil ?_
                          refine then_n ?_
                          refine wp_ret ?_
                          refine then_r ?_
                          obtain rfl := some_some H
                          refine s_ret [Value.bool false] hF Try.results7 ⟨rfl, trivial⟩ ?_
                          exact ⟨_, rfl, hM.frm, rfl⟩
                    ·
                      refine s_region ?_
                      refine s_val hF rfl rfl rfl (e_move hF rfl) ?_; intro a hF
                      refine s_val hF rfl rfl rfl (e_lss hF rfl rfl) ?_; intro a hF
                      refine s_val hF rfl rfl rfl (e_move hF rfl) ?_; intro a hF
                      have hF := hF.topb (decide_eq_false c58)
                      refine s_val hF rfl rfl rfl (e_move hF rfl) ?_; intro a hF
                      refine s_val hF rfl rfl rfl (e_move hF rfl) ?_; intro a hF
                      refine s_call hF rfl rfl rfl Try.call24 (laws_eqIntS.calls K t27.1 v29 (hM.sl 3 rfl) t15.1 v17 (hM.sl 7 rfl) t59 h60) ?_; intro a w v hF hf hR
                      subst hR; have hM := hM.grow hf
                      refine s_val hF rfl rfl rfl (e_not hF rfl) ?_; intro a hF
                      refine s_val hF rfl rfl rfl (e_pick_f hF rfl rfl) ?_; intro a hF
                      refine s_val hF rfl rfl rfl (e_move hF rfl) ?_; intro a hF
                      have hF := hF.topb (congrArg Bool.not (bf c61))
                      refine s_skip hF rfl rfl rfl ?_; intro a hF
                      refine s_skip hF rfl rfl rfl ?_; intro a hF
                      refine s_skip hF rfl rfl rfl ?_; intro a hF
                      refine s_val hF rfl rfl rfl (e_pick_t hF rfl rfl) ?_; intro a hF
                      refine s_nil ?_
                      refine then_n ?_
                      refine s_cond_t hF rfl rfl ?_
                      refine wp_seq ?_
                      refine s_region ?_
                      refine s_val hF rfl rfl rfl (e_assign hF rfl) ?_; intro a hF
                      refine s_nil ?_
                      refine then_n ?_
                      refine wp_ret ?_
                      refine then_r ?_
                      obtain rfl := some_some H
                      refine s_ret [Value.bool false] hF Try.results7 ⟨rfl, trivial⟩ ?_
                      exact ⟨_, rfl, hM.frm, rfl⟩
                ·
                  refine s_cond_t hF rfl (congrArg Bool.not (bf c51)) ?_
                  refine wp_seq ?_
                  refine s_region ?_
                  refine s_val hF rfl rfl rfl (e_assign hF rfl) ?_; intro a hF
                  refine s_nil ?_
                  refine then_n ?_
                  refine wp_ret ?_
                  refine then_r ?_
                  obtain rfl := some_some H
                  refine s_ret [Value.bool false] hF Try.results7 ⟨rfl, trivial⟩ ?_
                  exact ⟨_, rfl, hM.frm, rfl⟩
              ·
                refine s_cond_t hF rfl (congrArg Bool.not (bf c45)) ?_
                refine wp_seq ?_
                refine s_region ?_
                refine s_val hF rfl rfl rfl (e_assign hF rfl) ?_; intro a hF
                refine s_nil ?_
                refine then_n ?_
                refine wp_ret ?_
                refine then_r ?_
                obtain rfl := some_some H
                refine s_ret [Value.bool false] hF Try.results7 ⟨rfl, trivial⟩ ?_
                exact ⟨_, rfl, hM.frm, rfl⟩
            ·
              refine s_cond_t hF rfl (congrArg Bool.not (bf c39)) ?_
              refine wp_seq ?_
              refine s_region ?_
              refine s_val hF rfl rfl rfl (e_assign hF rfl) ?_; intro a hF
              refine s_nil ?_
              refine then_n ?_
              refine wp_ret ?_
              refine then_r ?_
              obtain rfl := some_some H
              refine s_ret [Value.bool false] hF Try.results7 ⟨rfl, trivial⟩ ?_
              exact ⟨_, rfl, hM.frm, rfl⟩
          ·
            refine s_cond_t hF rfl (congrArg Bool.not (bf c33)) ?_
            refine wp_seq ?_
            refine s_region ?_
            refine s_val hF rfl rfl rfl (e_assign hF rfl) ?_; intro a hF
            refine s_nil ?_
            refine then_n ?_
            refine wp_ret ?_
            refine then_r ?_
            obtain rfl := some_some H
            refine s_ret [Value.bool false] hF Try.results7 ⟨rfl, trivial⟩ ?_
            exact ⟨_, rfl, hM.frm, rfl⟩
        ·
          refine s_region ?_
          refine s_val hF rfl rfl rfl (e_move hF rfl) ?_; intro a hF
          refine s_val hF rfl rfl rfl (e_move hF rfl) ?_; intro a hF
          refine s_call hF rfl rfl rfl Try.call24 (laws_eqIntS.calls K t27.1 v29 (hM.sl 0 rfl) t15.1 v17 (hM.sl 4 rfl) t30 h31) ?_; intro a w v hF hf hR
          subst hR; have hM := hM.grow hf
          refine s_val hF rfl rfl rfl (e_not hF rfl) ?_; intro a hF
          refine s_val hF rfl rfl rfl (e_move hF rfl) ?_; intro a hF
          have hF := hF.topb (congrArg Bool.not (bf c32))
          refine s_skip hF rfl rfl rfl ?_; intro a hF
          refine s_skip hF rfl rfl rfl ?_; intro a hF
          refine s_skip hF rfl rfl rfl ?_; intro a hF
          refine s_val hF rfl rfl rfl (e_pick_t hF rfl rfl) ?_; intro a hF
          refine s_nil ?_
          refine then_n ?_
          refine s_cond_t hF rfl rfl ?_
          refine wp_seq ?_
          refine s_region ?_
          refine s_val hF rfl rfl rfl (e_assign hF rfl) ?_; intro a hF
          refine s_nil ?_
          refine then_n ?_
          refine wp_ret ?_
          refine then_r ?_
          obtain rfl := some_some H
          refine s_ret [Value.bool false] hF Try.results7 ⟨rfl, trivial⟩ ?_
          exact ⟨_, rfl, hM.frm, rfl⟩

end Go.Proofs.Ytlbedonjfihldaa.WPlaySets

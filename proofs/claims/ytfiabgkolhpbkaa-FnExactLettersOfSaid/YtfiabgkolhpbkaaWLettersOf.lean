/- The walk through the code that the statement reaches: what each function computes. Conditions: none but those in each line. -/
import Derived.Test.YtfiabgkolhpbkaaWLettersOfa
namespace Go.Proofs.Ytfiabgkolhpbkaa.WLettersOf
open Go.K Go.RowKit
set_option linter.unusedVariables false
set_option linter.unusedSimpArgs false

/-! ### loop.example/g01210/laws.FnExactLettersOf: function 10 -/
def laws_FnExactLettersOf.f (K : Nat) (l0 : (List (Ar 6))) : Option Bool := (laws_szIntA6S.f K l0 1048576).bind fun t1 => if t1 < 0 then (some true) else ((laws_toIntA6S.f K l0).bind fun t4 => (spec_LettersOf.f K t4).bind fun t7 => (laws_toIntA6S.f K l0).bind fun t10 => (impl_LettersOf.f K t10).bind fun t13 => (laws_eqIntS.f K t13.1 t7.1).bind fun t16 => if t16 = true then (if (t13.2 == t7.2) = true then ((laws_toIntA6S.f K l0).bind fun t20 => (laws_eqIntA6S.f K t10 t20).bind fun t23 => if t23 = true then ((laws_markIntA6S.f K t10 1).bind fun t26 => if t26.1 < 0 then (some false) else ((laws_eqIntS.f K t13.1 t7.1).bind fun t29 => if t29 = true then ((laws_markIntS.f K t13.1 1).bind fun t32 => (laws_heldIntS.f K t32.2 1).bind fun t34 => if t34 < 0 then (some false) else (if t34 = t32.1 then ((laws_toIntA6S.f K l0).bind fun t38 => (impl_LettersOf.f K t38).bind fun t41 => (laws_eqIntS.f K t41.1 t7.1).bind fun t44 => if t44 = true then (if (t41.2 == t7.2) = true then ((laws_heldIntS.f K t32.2 1).bind fun t48 => if t48 < 0 then (some false) else (if t48 = t32.1 then (some true) else (some false))) else (some false)) else (some false)) else (some false))) else (some false))) else (some false)) else (some false)) else (some false))
set_option maxRecDepth 100000 in
set_option maxHeartbeats 4000000 in
theorem laws_FnExactLettersOf.calls {w0 : World} (K : Nat) (l0 : (List (Ar 6))) (u0 : Value) (q0 : SlR cd62 w0 u0 l0) (r : Bool) (H : laws_FnExactLettersOf.f K l0 = some r) : Calls Try.prog 10 [u0].toArray w0 (Post w0 fun w v => v = Value.bool r) := by
  rw [laws_FnExactLettersOf.f] at H
  refine s_start Try.func10 rfl Try.ntmps10 rfl ?_
  intro a hF
  have hM := Ms.start w0
  skip
  refine wp_seq ?_
  refine s_region ?_
  refine s_val hF rfl rfl rfl (e_assign hF rfl) ?_; intro a hF
  refine s_nil ?_
  refine then_n ?_
  refine wp_seq ?_
  refine s_region ?_
  refine s_val hF rfl rfl rfl (e_assign hF rfl) ?_; intro a hF
  refine s_nil ?_
  refine then_n ?_
  refine wp_seq ?_
  obtain ⟨t1, h2, H⟩ := bind_some H
  refine s_region ?_
  refine s_val hF rfl rfl rfl (e_move hF rfl) ?_; intro a hF
  refine s_val hF rfl rfl rfl (e_move hF rfl) ?_; intro a hF
  refine s_call hF rfl rfl rfl Try.call30 (laws_szIntA6S.calls K l0 u0 (q0.frm hM.frm) 1048576 t1 h2) ?_; intro a w v hF hf hR
  subst hR; have hM := hM.grow hf
  refine s_val hF rfl rfl rfl (e_assign hF rfl) ?_; intro a hF
  refine s_nil ?_
  refine then_n ?_
  refine wp_seq ?_
  refine wp_seq ?_
  refine s_region ?_
  refine s_val hF rfl rfl rfl (e_move hF rfl) ?_; intro a hF
  refine s_val hF rfl rfl rfl (e_lss hF rfl rfl) ?_; intro a hF
  refine s_nil ?_
  refine then_n ?_
  rcases ite_cases H with ⟨c3, H⟩ | ⟨c3, H⟩
  ·
    refine s_cond_t hF rfl (decide_eq_true c3) ?_
    refine wp_seq ?_
    refine s_region ?_
    refine s_val hF rfl rfl rfl (e_assign hF rfl) ?_; intro a hF
    refine s_nil ?_
    refine then_n ?_
    refine wp_ret ?_
    refine then_r ?_
    obtain rfl := some_some H
    refine s_ret [Value.bool true] hF Try.results10 ⟨rfl, trivial⟩ ?_
    exact ⟨_, rfl, hM.frm, rfl⟩
  ·
    refine s_cond_f hF rfl (decide_eq_false c3) ?_
    refine wp_skip ?_
    refine then_n ?_
    refine wp_seq ?_
    obtain ⟨t4, h5, H⟩ := bind_some H
    obtain ⟨t7, h8, H⟩ := bind_some H
    refine s_region ?_
    refine s_val hF rfl rfl rfl (e_move hF rfl) ?_; intro a hF
    refine s_call hF rfl rfl rfl Try.call32 (laws_toIntA6S.calls K l0 u0 (q0.frm hM.frm) t4 h5) ?_; intro a w v6 hF hf hR
    have hM := hM.fresh hf hR
    refine s_call hF rfl rfl rfl Try.call39 (spec_LettersOf.calls K t4 v6 (hM.sl 0 rfl) t7 h8) ?_; intro a w v hF hf hR
    obtain ⟨v9, rfl, hR⟩ := hR; have hM := hM.fresh hf hR
    refine s_val hF rfl rfl rfl (e_move hF rfl) ?_; intro a hF
    refine s_val hF rfl rfl rfl (e_extract hF rfl rfl) ?_; intro a hF
    refine s_val hF rfl rfl rfl (e_extract hF rfl rfl) ?_; intro a hF
    refine s_val hF rfl rfl rfl (e_assign hF rfl) ?_; intro a hF
    refine s_val hF rfl rfl rfl (e_assign hF rfl) ?_; intro a hF
    refine s_nil ?_
    refine then_n ?_
    refine wp_seq ?_
    obtain ⟨t10, h11, H⟩ := bind_some H
    refine s_region ?_
    refine s_val hF rfl rfl rfl (e_move hF rfl) ?_; intro a hF
    refine s_call hF rfl rfl rfl Try.call32 (laws_toIntA6S.calls K l0 u0 (q0.frm hM.frm) t10 h11) ?_; intro a w v12 hF hf hR
    have hM := hM.fresh hf hR
    refine s_val hF rfl rfl rfl (e_assign hF rfl) ?_; intro a hF
    refine s_nil ?_
    refine then_n ?_
    refine wp_seq ?_
    obtain ⟨t13, h14, H⟩ := bind_some H
    refine s_region ?_
    refine s_val hF rfl rfl rfl (e_move hF rfl) ?_; intro a hF
    refine s_call hF rfl rfl rfl Try.call40 (impl_LettersOf.calls K t10 v12 (hM.sl 0 rfl) t13 h14) ?_; intro a w v hF hf hR
    obtain ⟨v15, rfl, hR⟩ := hR; have hM := hM.fresh hf hR
    refine s_val hF rfl rfl rfl (e_move hF rfl) ?_; intro a hF
    refine s_val hF rfl rfl rfl (e_extract hF rfl rfl) ?_; intro a hF
    refine s_val hF rfl rfl rfl (e_extract hF rfl rfl) ?_; intro a hF
    refine s_val hF rfl rfl rfl (e_assign hF rfl) ?_; intro a hF
    refine s_val hF rfl rfl rfl (e_assign hF rfl) ?_; intro a hF
    refine s_nil ?_
    refine then_n ?_
    refine wp_seq ?_
    refine wp_seq ?_
    obtain ⟨t16, h17, H⟩ := bind_some H
    rcases ite_cases H with ⟨c18, H⟩ | ⟨c18, H⟩
    ·
      refine s_region ?_
      refine s_val hF rfl rfl rfl (e_move hF rfl) ?_; intro a hF
      refine s_val hF rfl rfl rfl (e_move hF rfl) ?_; intro a hF
      refine s_call hF rfl rfl rfl Try.call17 (laws_eqIntS.calls K t13.1 v15 (hM.sl 0 rfl) t7.1 v9 (hM.sl 2 rfl) t16 h17) ?_; intro a w v hF hf hR
      subst hR; have hM := hM.grow hf
      refine s_val hF rfl rfl rfl (e_not hF rfl) ?_; intro a hF
      refine s_val hF rfl rfl rfl (e_move hF rfl) ?_; intro a hF
      have hF := hF.topb (congrArg Bool.not c18)
      refine s_val hF rfl rfl rfl (e_move hF rfl) ?_; intro a hF
      refine s_val hF rfl rfl rfl (e_move hF rfl) ?_; intro a hF
      refine s_val hF rfl rfl rfl (e_bneq hF rfl rfl Try.underlying4) ?_; intro a hF
      refine s_val hF rfl rfl rfl (e_pick_f hF rfl rfl) ?_; intro a hF
      refine s_nil ?_
      refine then_n ?_
      rcases ite_cases H with ⟨c19, H⟩ | ⟨c19, H⟩
      ·
        refine s_cond_f hF rfl (congrArg Bool.not c19) ?_
        refine wp_skip ?_
        refine then_n ?_
        refine wp_seq ?_
        refine wp_seq ?_
        obtain ⟨t20, h21, H⟩ := bind_some H
        obtain ⟨t23, h24, H⟩ := bind_some H
        refine s_region ?_
        refine s_val hF rfl rfl rfl (e_move hF rfl) ?_; intro a hF
        refine s_val hF rfl rfl rfl (e_move hF rfl) ?_; intro a hF
        refine s_call hF rfl rfl rfl Try.call32 (laws_toIntA6S.calls K l0 u0 (q0.frm hM.frm) t20 h21) ?_; intro a w v22 hF hf hR
        have hM := hM.fresh hf hR
        refine s_call hF rfl rfl rfl Try.call27 (laws_eqIntA6S.calls K t10 v12 (hM.sl 2 rfl) t20 v22 (hM.sl 0 rfl) t23 h24) ?_; intro a w v hF hf hR
        subst hR; have hM := hM.grow hf
        refine s_val hF rfl rfl rfl (e_not hF rfl) ?_; intro a hF
        refine s_nil ?_
        refine then_n ?_
        rcases ite_cases H with ⟨c25, H⟩ | ⟨c25, H⟩
        ·
          refine s_cond_f hF rfl (congrArg Bool.not c25) ?_
          refine wp_skip ?_
          refine then_n ?_
          refine wp_seq ?_
          refine s_region ?_
          refine s_val hF rfl rfl rfl (e_assign hF rfl) ?_; intro a hF
          refine s_nil ?_
          refine then_n ?_
          refine wp_seq ?_
          obtain ⟨t26, h27, H⟩ := bind_some H
          refine s_region ?_
          refine s_val hF rfl rfl rfl (e_move hF rfl) ?_; intro a hF
          refine s_val hF rfl rfl rfl (e_move hF rfl) ?_; intro a hF
          refine s_callx hF rfl rfl rfl Try.call28 (laws_markIntA6S.calls K t10 v12 (hM.get 2 rfl) 1 t26 h27) ?_; intro a w v hF ⟨hf, hR⟩
          obtain ⟨hR, hO⟩ := hR; subst hR; have hM := hM.turn (i := 2) (R' := rowR cd62 v12 t26.2) rfl hf hO (fun _ hb => .inl hb)
          refine s_val hF rfl rfl rfl (e_assign hF rfl) ?_; intro a hF
          refine s_nil ?_
          refine then_n ?_
          refine wp_seq ?_
          refine wp_seq ?_
          rcases ite_cases H with ⟨c28, H⟩ | ⟨c28, H⟩
          ·
            refine s_region ?_
            refine s_val hF rfl rfl rfl (e_move hF rfl) ?_; intro a hF
            refine s_val hF rfl rfl rfl (e_lss hF rfl rfl) ?_; intro a hF
            refine s_val hF rfl rfl rfl (e_move hF rfl) ?_; intro a hF
            have hF := hF.topb (decide_eq_true c28)
            refine s_skip hF rfl rfl rfl ?_; intro a hF
            refine s_skip hF rfl rfl rfl ?_; intro a hF
            refine s_skip hF rfl rfl rfl ?_; intro a hF
            refine s_skip hF rfl rfl rfl ?_; intro a hF
            refine s_val hF rfl rfl rfl (e_pick_t hF rfl rfl) ?_; intro a hF
            refine s_val hF rfl rfl rfl (e_move hF rfl) ?_; intro a hF
            refine s_skip hF rfl rfl rfl ?_; intro a hF
            refine s_skip hF rfl rfl rfl ?_; intro a hF
            refine s_skip hF rfl rfl rfl ?_; intro a hF
            refine s_val hF rfl rfl rfl (e_pick_t hF rfl rfl) ?_; intro a hF
            refine s_nil ?_
            refine then_n ?_
            refine s_cond_t hF rfl rfl ?_
            refine wp_seq ?_
            refine s_region ?_
            refine s_val hF rfl rfl rfl (e_assign hF rfl) ?_; intro a hF
            refine s_nil ?_
            refine then_n ?_
            refine wp_ret ?_
            refine then_r ?_
            obtain rfl := some_some H
            refine s_ret [Value.bool false] hF Try.results10 ⟨rfl, trivial⟩ ?_
            exact ⟨_, rfl, hM.frm, rfl⟩
          ·
            obtain ⟨t29, h30, H⟩ := bind_some H
            rcases ite_cases H with ⟨c31, H⟩ | ⟨c31, H⟩
            ·
              refine s_region ?_
              refine s_val hF rfl rfl rfl (e_move hF rfl) ?_; intro a hF
              refine s_val hF rfl rfl rfl (e_lss hF rfl rfl) ?_; intro a hF
              refine s_val hF rfl rfl rfl (e_move hF rfl) ?_; intro a hF
              have hF := hF.topb (decide_eq_false c28)
              refine s_val hF rfl rfl rfl (e_move hF rfl) ?_; intro a hF
              refine s_val hF rfl rfl rfl (e_move hF rfl) ?_; intro a hF
              refine s_call hF rfl rfl rfl Try.call17 (laws_eqIntS.calls K t13.1 v15 (hM.sl 1 rfl) t7.1 v9 (hM.sl 3 rfl) t29 h30) ?_; intro a w v hF hf hR
              subst hR; have hM := hM.grow hf
              refine s_val hF rfl rfl rfl (e_not hF rfl) ?_; intro a hF
              refine s_val hF rfl rfl rfl (e_pick_f hF rfl rfl) ?_; intro a hF
              refine s_val hF rfl rfl rfl (e_move hF rfl) ?_; intro a hF
              have hF := hF.topb (congrArg Bool.not c31)
              refine s_val hF rfl rfl rfl (e_move hF rfl) ?_; intro a hF
              refine s_val hF rfl rfl rfl (e_move hF rfl) ?_; intro a hF
              refine s_val hF rfl rfl rfl (e_bneq hF rfl rfl Try.underlying4) ?_; intro a hF
              refine s_val hF rfl rfl rfl (e_pick_f hF rfl rfl) ?_; intro a hF
              refine s_nil ?_
              refine then_n ?_
              refine s_cond_f hF rfl (congrArg Bool.not c19) ?_
              refine wp_skip ?_
              refine then_n ?_
              refine wp_seq ?_
              refine s_region ?_
              refine s_val hF rfl rfl rfl (e_assign hF rfl) ?_; intro a hF
              refine s_nil ?_
              refine then_n ?_
              refine wp_seq ?_
              obtain ⟨t32, h33, H⟩ := bind_some H
              refine s_region ?_
              refine s_val hF rfl rfl rfl (e_move hF rfl) ?_; intro a hF
              refine s_val hF rfl rfl rfl (e_move hF rfl) ?_; intro a hF
              refine s_callx hF rfl rfl rfl Try.call18 (laws_markIntS.calls K t13.1 v15 (hM.get 1 rfl) 1 t32 h33) ?_; intro a w v hF ⟨hf, hR⟩
              obtain ⟨hR, hO⟩ := hR; subst hR; have hM := hM.turn (i := 1) (R' := rowR cd3 v15 t32.2) rfl hf hO (fun _ hb => .inl hb)
              refine s_val hF rfl rfl rfl (e_assign hF rfl) ?_; intro a hF
              refine s_nil ?_
              refine then_n ?_
              refine wp_seq ?_
              refine s_region ?_
              refine s_val hF rfl rfl rfl (e_assign hF rfl) ?_; intro a hF
              refine s_nil ?_
              refine then_n ?_
              refine wp_seq ?_
              obtain ⟨t34, h35, H⟩ := bind_some H
              refine s_region ?_
              refine s_val hF rfl rfl rfl (e_move hF rfl) ?_; intro a hF
              refine s_val hF rfl rfl rfl (e_move hF rfl) ?_; intro a hF
              refine s_call hF rfl rfl rfl Try.call19 (laws_heldIntS.calls K t32.2 v15 (hM.sl 1 rfl) 1 t34 h35) ?_; intro a w v hF hf hR
              subst hR; have hM := hM.grow hf
              refine s_val hF rfl rfl rfl (e_assign hF rfl) ?_; intro a hF
              refine s_nil ?_
              refine then_n ?_
              refine wp_seq ?_
              refine wp_seq ?_
              refine s_region ?_
              refine s_val hF rfl rfl rfl (e_move hF rfl) ?_; intro a hF
              refine s_val hF rfl rfl rfl (e_lss hF rfl rfl) ?_; intro a hF
              refine s_nil ?_
              refine then_n ?_
              rcases ite_cases H with ⟨c36, H⟩ | ⟨c36, H⟩
              ·
                refine s_cond_t hF rfl (decide_eq_true c36) ?_
                refine wp_seq ?_
                refine s_region ?_
                refine s_val hF rfl rfl rfl (e_assign hF rfl) ?_; intro a hF
                refine s_nil ?_
                refine then_n ?_
                refine wp_ret ?_
                refine then_r ?_
                obtain rfl := some_some H
                refine s_ret [Value.bool false] hF Try.results10 ⟨rfl, trivial⟩ ?_
                exact ⟨_, rfl, hM.frm, rfl⟩
              ·
                refine s_cond_f hF rfl (decide_eq_false c36) ?_
                refine wp_skip ?_
                refine then_n ?_
                refine wp_seq ?_
                refine wp_seq ?_
                refine s_region ?_
                refine s_val hF rfl rfl rfl (e_move hF rfl) ?_; intro a hF
                refine s_val hF rfl rfl rfl (e_move hF rfl) ?_; intro a hF
                refine s_val hF rfl rfl rfl (e_neq hF rfl rfl) ?_; intro a hF
                refine s_nil ?_
                refine then_n ?_
                rcases ite_cases H with ⟨c37, H⟩ | ⟨c37, H⟩
                ·
                  refine s_cond_f hF rfl (congrArg Bool.not (decide_eq_true c37)) ?_
                  refine wp_skip ?_
                  refine then_n ?_
                  refine wp_seq ?_
                  obtain ⟨t38, h39, H⟩ := bind_some H
                  obtain ⟨t41, h42, H⟩ := bind_some H
                  refine s_region ?_
                  refine s_val hF rfl rfl rfl (e_move hF rfl) ?_; intro a hF
                  refine s_call hF rfl rfl rfl Try.call32 (laws_toIntA6S.calls K l0 u0 (q0.frm hM.frm) t38 h39) ?_; intro a w v40 hF hf hR
                  have hM := hM.fresh hf hR
                  refine s_call hF rfl rfl rfl Try.call40 (impl_LettersOf.calls K t38 v40 (hM.sl 0 rfl) t41 h42) ?_; intro a w v hF hf hR
                  obtain ⟨v43, rfl, hR⟩ := hR; have hM := hM.fresh hf hR
                  refine s_val hF rfl rfl rfl (e_move hF rfl) ?_; intro a hF
                  refine s_val hF rfl rfl rfl (e_extract hF rfl rfl) ?_; intro a hF
                  refine s_val hF rfl rfl rfl (e_extract hF rfl rfl) ?_; intro a hF
                  refine s_val hF rfl rfl rfl (e_assign hF rfl) ?_; intro a hF
                  refine s_val hF rfl rfl rfl (e_assign hF rfl) ?_; intro a hF
                  refine s_nil ?_
                  refine then_n ?_
                  refine wp_seq ?_
                  refine wp_seq ?_
                  obtain ⟨t44, h45, H⟩ := bind_some H
                  rcases ite_cases H with ⟨c46, H⟩ | ⟨c46, H⟩
                  ·
                    refine s_region ?_
                    refine s_val hF rfl rfl rfl (e_move hF rfl) ?_; intro a hF
                    refine s_val hF rfl rfl rfl (e_move hF rfl) ?_; intro a hF
                    refine s_call hF rfl rfl rfl Try.call17 (laws_eqIntS.calls K t41.1 v43 (hM.sl 0 rfl) t7.1 v9 (hM.sl 5 rfl) t44 h45) ?_; intro a w v hF hf hR
                    subst hR; have hM := hM.grow hf
                    refine s_val hF rfl rfl rfl (e_not hF rfl) ?_; intro a hF
                    refine s_val hF rfl rfl rfl (e_move hF rfl) ?_; intro a hF
                    have hF := hF.topb (congrArg Bool.not c46)
                    refine s_val hF rfl rfl rfl (e_move hF rfl) ?_; intro a hF
                    refine s_val hF rfl rfl rfl (e_move hF rfl) ?_; intro a hF
                    refine s_val hF rfl rfl rfl (e_bneq hF rfl rfl Try.underlying4) ?_; intro a hF
                    refine s_val hF rfl rfl rfl (e_pick_f hF rfl rfl) ?_; intro a hF
                    refine s_nil ?_
                    refine then_n ?_
                    rcases ite_cases H with ⟨c47, H⟩ | ⟨c47, H⟩
                    ·
                      refine s_cond_f hF rfl (congrArg Bool.not c47) ?_
                      refine wp_skip ?_
                      refine then_n ?_
                      refine wp_seq ?_
                      refine s_region ?_
                      refine s_val hF rfl rfl rfl (e_assign hF rfl) ?_; intro a hF
                      refine s_nil ?_
                      refine then_n ?_
                      refine wp_seq ?_
                      obtain ⟨t48, h49, H⟩ := bind_some H
                      refine s_region ?_
                      refine s_val hF rfl rfl rfl (e_move hF rfl) ?_; intro a hF
                      refine s_val hF rfl rfl rfl (e_move hF rfl) ?_; intro a hF
                      refine s_call hF rfl rfl rfl Try.call19 (laws_heldIntS.calls K t32.2 v15 (hM.sl 3 rfl) 1 t48 h49) ?_; intro a w v hF hf hR
                      subst hR; have hM := hM.grow hf
                      refine s_val hF rfl rfl rfl (e_assign hF rfl) ?_; intro a hF
                      refine s_nil ?_
                      refine then_n ?_
                      refine wp_seq ?_
                      refine wp_seq ?_
                      refine s_region ?_
                      refine s_val hF rfl rfl rfl (e_move hF rfl) ?_; intro a hF
                      refine s_val hF rfl rfl rfl (e_lss hF rfl rfl) ?_; intro a hF
                      refine s_nil ?_
                      refine then_n ?_
                      rcases ite_cases H with ⟨c50, H⟩ | ⟨c50, H⟩
                      ·
                        refine s_cond_t hF rfl (decide_eq_true c50) ?_
                        refine wp_seq ?_
                        refine s_region ?_
                        refine s_val hF rfl rfl rfl (e_assign hF rfl) ?_; intro a hF
                        refine s_nil ?_
                        refine then_n ?_
                        refine wp_ret ?_
                        refine then_r ?_
                        obtain rfl := some_some H
                        refine s_ret [Value.bool false] hF Try.results10 ⟨rfl, trivial⟩ ?_
                        exact ⟨_, rfl, hM.frm, rfl⟩
                      ·
                        refine s_cond_f hF rfl (decide_eq_false c50) ?_
                        refine wp_skip ?_
                        refine then_n ?_
                        refine wp_seq ?_
                        refine wp_seq ?_
                        refine s_region ?_
                        refine s_val hF rfl rfl rfl (e_move hF rfl) ?_; intro a hF
                        refine s_val hF rfl rfl rfl (e_move hF rfl) ?_; intro a hF
                        refine s_val hF rfl rfl rfl (e_neq hF rfl rfl) ?_; intro a hF
                        refine s_nil ?_
                        refine then_n ?_
                        rcases ite_cases H with ⟨c51, H⟩ | ⟨c51, H⟩
                        ·
                          refine s_cond_f hF rfl (congrArg Bool.not (decide_eq_true c51)) ?_
                          refine wp_skip ?_
                          refine then_n ?_
                          refine wp_seq ?_
                          refine s_region ?_
                          refine s_val hF rfl rfl rfl (e_assign hF rfl) ?_; intro a hF
                          refine s_nil ?_
                          refine then_n ?_
                          refine wp_ret ?_
                          obtain rfl := some_some H
                          refine s_ret [Value.bool true] hF Try.results10 ⟨rfl, trivial⟩ ?_
                          exact ⟨_, rfl, hM.frm, rfl⟩
                        ·
                          refine s_cond_t hF rfl (congrArg Bool.not (decide_eq_false c51)) ?_
                          refine wp_seq ?_
                          refine s_region ?_
                          refine s_val hF rfl rfl rfl (e_assign hF rfl) ?_; intro a hF
                          refine s_nil ?_
                          refine then_n ?_
                          refine wp_ret ?_
                          refine then_r ?_
                          obtain rfl := some_some H
                          refine s_ret [Value.bool false] hF Try.results10 ⟨rfl, trivial⟩ ?_
                          exact ⟨_, rfl, hM.frm, rfl⟩
                    ·
                      refine s_cond_t hF rfl (congrArg Bool.not (bf c47)) ?_
                      refine wp_seq ?_
                      refine s_region ?_
                      refine s_val hF rfl rfl rfl (e_assign hF rfl) ?_; intro a hF
                      refine s_nil ?_
                      refine then_n ?_
                      refine wp_ret ?_
                      refine then_r ?_
                      obtain rfl := some_some H
                      refine s_ret [Value.bool false] hF Try.results10 ⟨rfl, trivial⟩ ?_
                      exact ⟨_, rfl, hM.frm, rfl⟩
                  ·
                    refine s_region ?_
                    refine s_val hF rfl rfl rfl (e_move hF rfl) ?_; intro a hF
                    refine s_val hF rfl rfl rfl (e_move hF rfl) ?_; intro a hF
                    refine s_call hF rfl rfl rfl Try.call17 (laws_eqIntS.calls K t41.1 v43 (hM.sl 0 rfl) t7.1 v9 (hM.sl 5 rfl) t44 h45) ?_; intro a w v hF hf hR
                    subst hR; have hM := hM.grow hf
                    refine s_val hF rfl rfl rfl (e_not hF rfl) ?_; intro a hF
                    refine s_val hF rfl rfl rfl (e_move hF rfl) ?_; intro a hF
                    have hF := hF.topb (congrArg Bool.not (bf c46))
                    refine s_skip hF rfl rfl rfl ?_; intro a hF
                    refine s_skip hF rfl rfl rfl ?_; intro a hF
                    refine s_skip hF rfl rfl rfl ?_; intro a hF
                    refine s_val hF rfl rfl rfl (e_pick_t hF rfl rfl) ?_; intro a hF
                    refine s_nil ?_
                    refine then_n ?_
                    refine s_cond_t hF rfl rfl ?_
                    refine wp_seq ?_
                    refine s_region ?_
                    refine s_val hF rfl rfl rfl (e_assign hF rfl) ?_; intro a hF
                    refine s_nil ?_
                    refine then_n ?_
                    refine wp_ret ?_
                    refine then_r ?_
                    obtain rfl := some_some H
                    refine s_ret [Value.bool false] hF Try.results10 ⟨rfl, trivial⟩ ?_
                    exact ⟨_, rfl, hM.frm, rfl⟩
                ·
                  refine s_cond_t hF rfl (congrArg Bool.not (decide_eq_false c37)) ?_
                  refine wp_seq ?_
                  refine s_region ?_
                  refine s_val hF rfl rfl rfl (e_assign hF rfl) ?_; intro a hF
                  refine s_nil ?_
                  refine then_n ?_
                  refine wp_ret ?_
                  refine then_r ?_
                  obtain rfl := some_some H
                  refine s_ret [Value.bool false] hF Try.results10 ⟨rfl, trivial⟩ ?_
                  exact ⟨_, rfl, hM.frm, rfl⟩
            ·
              refine s_region ?_
              refine s_val hF rfl rfl rfl (e_move hF rfl) ?_; intro a hF
              refine s_val hF rfl rfl rfl (e_lss hF rfl rfl) ?_; intro a hF
              refine s_val hF rfl rfl rfl (e_move hF rfl) ?_; intro a hF
              have hF := hF.topb (decide_eq_false c28)
              refine s_val hF rfl rfl rfl (e_move hF rfl) ?_; intro a hF
              refine s_val hF rfl rfl rfl (e_move hF rfl) ?_; intro a hF
              refine s_call hF rfl rfl rfl Try.call17 (laws_eqIntS.calls K t13.1 v15 (hM.sl 1 rfl) t7.1 v9 (hM.sl 3 rfl) t29 h30) ?_; intro a w v hF hf hR
              subst hR; have hM := hM.grow hf
              refine s_val hF rfl rfl rfl (e_not hF rfl) ?_; intro a hF
              refine s_val hF rfl rfl rfl (e_pick_f hF rfl rfl) ?_; intro a hF
              refine s_val hF rfl rfl rfl (e_move hF rfl) ?_; intro a hF
              have hF := hF.topb (congrArg Bool.not (bf c31))
              refine s_skip hF rfl rfl rfl ?_; intro a hF
              refine s_skip hF rfl rfl rfl ?_; intro a hF
              refine s_skip hF rfl rfl rfl ?_; intro a hF
              refine s_val hF rfl rfl rfl (e_pick_t hF rfl rfl) ?_; intro a hF
              refine s_nil ?_
              refine then_n ?_
              refine s_cond_t hF rfl rfl ?_
              refine wp_seq ?_
              refine s_region ?_
              refine s_val hF rfl rfl rfl (e_assign hF rfl) ?_; intro a hF
              refine s_nil ?_
              refine then_n ?_
              refine wp_ret ?_
              refine then_r ?_
              obtain rfl := some_some H
              refine s_ret [Value.bool false] hF Try.results10 ⟨rfl, trivial⟩ ?_
              exact ⟨_, rfl, hM.frm, rfl⟩
        ·
          refine s_cond_t hF rfl (congrArg Bool.not (bf c25)) ?_
          refine wp_seq ?_
          refine s_region ?_
          refine s_val hF rfl rfl rfl (e_assign hF rfl) ?_; intro a hF
          refine s_nil ?_
          refine then_n ?_
          refine wp_ret ?_
          refine then_r ?_
          obtain rfl := some_some H
          refine s_ret [Value.bool false] hF Try.results10 ⟨rfl, trivial⟩ ?_
          exact ⟨_, rfl, hM.frm, rfl⟩
      ·
        refine s_cond_t hF rfl (congrArg Bool.not (bf c19)) ?_
        refine wp_seq ?_
        refine s_region ?_
        refine s_val hF rfl rfl rfl (e_assign hF rfl) ?_; intro a hF
        refine s_nil ?_
        refine then_n ?_
        refine wp_ret ?_
        refine then_r ?_
        obtain rfl := some_some H
        refine s_ret [Value.bool false] hF Try.results10 ⟨rfl, trivial⟩ ?_
        exact ⟨_, rfl, hM.frm, rfl⟩
    ·
      refine s_region ?_
      refine s_val hF rfl rfl rfl (e_move hF rfl) ?_; intro a hF
      refine s_val hF rfl rfl rfl (e_move hF rfl) ?_; intro a hF
      refine s_call hF rfl rfl rfl Try.call17 (laws_eqIntS.calls K t13.1 v15 (hM.sl 0 rfl) t7.1 v9 (hM.sl 2 rfl) t16 h17) ?_; intro a w v hF hf hR
      subst hR; have hM := hM.grow hf
      refine s_val hF rfl rfl rfl (e_not hF rfl) ?_; intro a hF
      refine s_val hF rfl rfl rfl (e_move hF rfl) ?_; intro a hF
      have hF := hF.topb (congrArg Bool.not (bf c18))
      refine s_skip hF rfl rfl rfl ?_; intro a hF
      refine s_skip hF rfl rfl rfl ?_; intro a hF
      refine s_skip hF rfl rfl rfl ?_; intro a hF
      refine s_val hF rfl rfl rfl (e_pick_t hF rfl rfl) ?_; intro a hF
      refine s_nil ?_
      refine then_n ?_
      refine s_cond_t hF rfl rfl ?_
      refine wp_seq ?_
      refine s_region ?_
      refine s_val hF rfl rfl rfl (e_assign hF rfl) ?_; intro a hF
      refine s_nil ?_
      refine then_n ?_
      refine wp_ret ?_
      refine then_r ?_
      obtain rfl := some_some H
      refine s_ret [Value.bool false] hF Try.results10 ⟨rfl, trivial⟩ ?_
      exact ⟨_, rfl, hM.frm, rfl⟩

/-! ### loop.example/g01210/laws.heldIntA6S: function 29 -/
def laws_heldIntA6S.l3 (K : Nat) (l0 : (List (Ar 6))) (x43 : Int) : Nat → Int → Int → Option (Sum Int Int)
  | 0, _, _ => none
  | k + 1, x54, x55 => if x55 < 6 then (if (0 : Int) ≤ x43 ∧ x43 < (l0.length : Int) then (if (0 : Int) ≤ x55 ∧ x55 < 6 then (if ((l0.getD (x43 : Int).toNat (Ar.zero 6)).get x55) = x54 then (laws_heldIntA6S.l3 K l0 x43 k (wrap64 (x54 + 1)) (wrap64 (x55 + 1))) else (some (Sum.inr (-1)))) else none) else none) else (some (Sum.inl x54))
def laws_heldIntA6S.l2 (K : Nat) (l0 : (List (Ar 6))) : Nat → Int → Int → Option (Sum Int Int)
  | 0, _, _ => none
  | k + 1, x42, x43 => if x43 < (l0.length : Int) then ((laws_heldIntA6S.l3 K l0 x43 K x42 0).bind fun o60 => (match o60 with | .inl x53 => laws_heldIntA6S.l2 K l0 k x53 (wrap64 (x43 + 1)) | .inr r62 => some (Sum.inr r62))) else (some (Sum.inl x42))
def laws_heldIntA6S.f (K : Nat) (l0 : (List (Ar 6))) (a1 : Int) : Option Int := (laws_heldIntA6S.l2 K l0 K a1 0).bind fun o63 => (match o63 with | .inl x41 => some x41 | .inr r65 => some r65)
set_option maxRecDepth 100000 in
set_option maxHeartbeats 4000000 in
theorem laws_heldIntA6S.calls {w0 : World} (K : Nat) (l0 : (List (Ar 6))) (u0 : Value) (q0 : SlR cd62 w0 u0 l0) (a1 : Int) (r : Int) (H : laws_heldIntA6S.f K l0 a1 = some r) : Calls Try.prog 29 [u0, Value.int .i64 a1].toArray w0 (Post w0 fun w v => v = Value.int .i64 r) := by
  rw [laws_heldIntA6S.f] at H
  refine s_start Try.func29 rfl Try.ntmps29 rfl ?_
  intro a hF
  have hM := Ms.start w0
  skip
  refine wp_seq ?_
  refine s_region ?_
  refine s_val hF rfl rfl rfl (e_assign hF rfl) ?_; intro a hF
  refine s_nil ?_
  refine then_n ?_
  refine wp_seq ?_
  refine wp_seq ?_
  refine s_region ?_
  refine s_val hF rfl rfl rfl (e_assign hF rfl) ?_; intro a hF
  refine s_nil ?_
  refine then_n ?_
  refine wp_block ?_
  obtain ⟨o63, h64, H⟩ := bind_some H
  refine wp_mono (Q := fun e a w => (e = Exit.exit 0 ∧ ∃ x41 : Int, Sum.inl x41 = o63 ∧ Fr 28 a [(1, Value.int .i64 x41)] ∧ Ms [] w0 w []) ∨ (e = Exit.ret ∧ ∃ r65 : Int, Sum.inr r65 = o63 ∧ Fr 28 a [(4, Value.int .i64 r65)] ∧ Ms [] w0 w [])) ?_ ?_
  · refine s_loop (fun kq a w => ∃ x42 : Int, ∃ x43 : Int, laws_heldIntA6S.l2 K l0 kq x42 x43 = some o63 ∧ Fr 28 a [(0, u0), (1, Value.int .i64 x42), (5, Value.int .i64 x43)] ∧ Ms [] w0 w []) K ⟨a1, 0, h64, hF.sub _ ⟨rfl, rfl, rfl, trivial⟩, hM.pick [] rfl rfl⟩ ?_ ?_
    · rintro a w ⟨_, _, H, _⟩; exact none_some H
    · rintro k a w ⟨x42, x43, H, hF, hM⟩; rw [laws_heldIntA6S.l2] at H
      refine wp_seq ?_
      refine wp_seq ?_
      refine s_region ?_
      refine s_val hF rfl rfl rfl (e_move hF rfl) ?_; intro a hF
      refine s_val hF rfl rfl rfl (e_move hF rfl) ?_; intro a hF
      refine s_val hF rfl rfl rfl (e_len hF rfl (q0.frm hM.frm).toF Try.underlying37) ?_; intro a hF
      refine s_val hF rfl rfl rfl (e_lss hF rfl rfl) ?_; intro a hF
      refine s_nil ?_
      refine then_n ?_
      rcases ite_cases H with ⟨c44, H⟩ | ⟨c44, H⟩
      ·
        refine s_cond_t hF rfl (decide_eq_true c44) ?_
        refine wp_skip ?_
        refine then_n ?_
        refine wp_seq ?_
        refine wp_block ?_
        refine wp_seq ?_
        refine s_region ?_
        refine s_val hF rfl rfl rfl (e_assign hF rfl) ?_; intro a hF
        refine s_nil ?_
        refine then_n ?_
        refine wp_block ?_
        obtain ⟨o60, h61, H⟩ := bind_some H
        refine wp_mono (Q := fun e a w => (e = Exit.exit 2 ∧ ∃ x53 : Int, Sum.inl x53 = o60 ∧ Fr 28 a [(0, u0), (1, Value.int .i64 x53), (5, Value.int .i64 x43)] ∧ Ms [] w0 w []) ∨ (e = Exit.ret ∧ ∃ r62 : Int, Sum.inr r62 = o60 ∧ Fr 28 a [(4, Value.int .i64 r62)] ∧ Ms [] w0 w [])) ?_ ?_
        · refine s_loop (fun kq a w => ∃ x54 : Int, ∃ x55 : Int, laws_heldIntA6S.l3 K l0 x43 kq x54 x55 = some o60 ∧ Fr 28 a [(0, u0), (1, Value.int .i64 x54), (5, Value.int .i64 x43), (6, Value.int .i64 x55)] ∧ Ms [] w0 w []) K ⟨x42, 0, h61, hF.sub _ ⟨rfl, rfl, rfl, rfl, trivial⟩, hM.pick [] rfl rfl⟩ ?_ ?_
          · rintro a w ⟨_, _, H, _⟩; exact none_some H
          · rintro k a w ⟨x54, x55, H, hF, hM⟩; rw [laws_heldIntA6S.l3] at H
            refine wp_seq ?_
            refine wp_seq ?_
            refine s_region ?_
            refine s_val hF rfl rfl rfl (e_move hF rfl) ?_; intro a hF
            refine s_val hF rfl rfl rfl (e_lss hF rfl rfl) ?_; intro a hF
            refine s_nil ?_
            refine then_n ?_
            rcases ite_cases H with ⟨c56, H⟩ | ⟨c56, H⟩
            ·
              refine s_cond_t hF rfl (decide_eq_true c56) ?_
              refine wp_skip ?_
              refine then_n ?_
              refine wp_seq ?_
              refine wp_block ?_
              refine wp_seq ?_
              refine wp_seq ?_
              obtain ⟨c57, H⟩ := ite_some H
              obtain ⟨c58, H⟩ := ite_some H
              refine s_region ?_
              refine s_val hF rfl rfl rfl (e_move hF rfl) ?_; intro a hF
              refine s_val hF rfl rfl rfl (e_move hF rfl) ?_; intro a hF
              refine s_val hF rfl rfl rfl (e_move hF rfl) ?_; intro a hF
              refine s_val hF rfl rfl rfl (e_ias cd62 hF rfl rfl (q0.frm hM.frm).toF Try.underlying37 Try.sizeOf62 c57.1 c57.2) ?_; intro a hF
              refine s_val hF rfl rfl rfl (e_ia hF rfl rfl Try.underlying62 Try.sizeOf3 c58.1 c58.2) ?_; intro a hF
              refine s_val hF rfl rfl rfl (e_ldsi (m := x43) (p := x55) (o := 0) (k := 0) hF rfl (q0.frm hM.frm) (getD_some (z := (Ar.zero 6)) c57.1 c57.2) rfl rfl Try.isAgg3 c58.1 c58.2) ?_; intro a hF
              refine s_val hF rfl rfl rfl (e_move hF rfl) ?_; intro a hF
              refine s_val hF rfl rfl rfl (e_neq hF rfl rfl) ?_; intro a hF
              refine s_nil ?_
              refine then_n ?_
              rcases ite_cases H with ⟨c59, H⟩ | ⟨c59, H⟩
              ·
                refine s_cond_f hF rfl (congrArg Bool.not (decide_eq_true c59)) ?_
                refine wp_skip ?_
                refine then_n ?_
                refine s_region ?_
                refine s_val hF rfl rfl rfl (e_move hF rfl) ?_; intro a hF
                refine s_val hF rfl rfl rfl (e_add hF rfl rfl) ?_; intro a hF
                refine s_val hF rfl rfl rfl (e_assign hF rfl) ?_; intro a hF
                refine s_nil ?_
                refine blk_n ?_
                refine then_n ?_
                refine s_region ?_
                refine s_val hF rfl rfl rfl (e_move hF rfl) ?_; intro a hF
                refine s_val hF rfl rfl rfl (e_add hF rfl rfl) ?_; intro a hF
                refine s_val hF rfl rfl rfl (e_assign hF rfl) ?_; intro a hF
                refine s_nil ?_
                refine then_n ?_
                exact ⟨(wrap64 (x54 + 1)), (wrap64 (x55 + 1)), H, hF.sub _ ⟨rfl, rfl, rfl, rfl, trivial⟩, hM.pick [] rfl rfl⟩
              ·
                refine s_cond_t hF rfl (congrArg Bool.not (decide_eq_false c59)) ?_
                refine wp_seq ?_
                refine s_region ?_
                refine s_val hF rfl rfl rfl (e_assign hF rfl) ?_; intro a hF
                refine s_nil ?_
                refine then_n ?_
                refine wp_ret ?_
                refine then_r ?_
                refine blk_r ?_
                refine then_r ?_
                refine then_r ?_
                exact Or.inr (⟨rfl, (-1), some_some H, hF.sub _ ⟨rfl, trivial⟩, hM.pick [] rfl rfl⟩)
            ·
              refine s_cond_f hF rfl (decide_eq_false c56) ?_
              refine wp_exit ?_
              refine then_x ?_
              refine then_x ?_
              exact Or.inl (⟨rfl, x54, some_some H, hF.sub _ ⟨rfl, rfl, rfl, trivial⟩, hM.pick [] rfl rfl⟩)
        · rintro e a w (⟨rfl, x53, rfl, hF, hM⟩ | ⟨rfl, r62, rfl, hF, hM⟩)
          ·
            dsimp only at H
            refine blk_x ?_
            refine blk_n ?_
            refine then_n ?_
            refine s_region ?_
            refine s_val hF rfl rfl rfl (e_move hF rfl) ?_; intro a hF
            refine s_val hF rfl rfl rfl (e_add hF rfl rfl) ?_; intro a hF
            refine s_val hF rfl rfl rfl (e_assign hF rfl) ?_; intro a hF
            refine s_nil ?_
            refine then_n ?_
            exact ⟨x53, (wrap64 (x43 + 1)), H, hF.sub _ ⟨rfl, rfl, rfl, trivial⟩, hM.pick [] rfl rfl⟩
          ·
            dsimp only at H
            refine blk_r ?_
            refine blk_r ?_
            refine then_r ?_
            refine then_r ?_
            exact Or.inr (⟨rfl, r62, some_some H, hF.sub _ ⟨rfl, trivial⟩, hM.pick [] rfl rfl⟩)
      ·
        refine s_cond_f hF rfl (decide_eq_false c44) ?_
        refine wp_exit ?_
        refine then_x ?_
        refine then_x ?_
        exact Or.inl (⟨rfl, x42, some_some H, hF.sub _ ⟨rfl, trivial⟩, hM.pick [] rfl rfl⟩)
  · rintro e a w (⟨rfl, x41, rfl, hF, hM⟩ | ⟨rfl, r65, rfl, hF, hM⟩)
    ·
      dsimp only at H
      refine blk_x ?_
      refine then_n ?_
      refine wp_seq ?_
      refine s_region ?_
      refine s_val hF rfl rfl rfl (e_move hF rfl) ?_; intro a hF
      refine s_val hF rfl rfl rfl (e_assign hF rfl) ?_; intro a hF
      refine s_nil ?_
      refine then_n ?_
      refine wp_ret ?_
      obtain rfl := some_some H
      refine s_ret [Value.int .i64 x41] hF Try.results29 ⟨rfl, trivial⟩ ?_
      exact ⟨_, rfl, hM.frm, rfl⟩
    ·
      dsimp only at H
      refine blk_r ?_
      refine then_r ?_
      obtain rfl := some_some H
      refine s_ret [Value.int .i64 r65] hF Try.results29 ⟨rfl, trivial⟩ ?_
      exact ⟨_, rfl, hM.frm, rfl⟩

end Go.Proofs.Ytfiabgkolhpbkaa.WLettersOf

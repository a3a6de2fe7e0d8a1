/- The walk through the code that the statement reaches: what each function computes. Conditions: none but those in each line. -/
import Derived.Test.YtlcogkfjjlclmaaWCompanionOfc
namespace Go.Proofs.Ytlcogkfjjlclmaa.WCompanionOf
open Go.K Go.RowKit
set_option linter.unusedVariables false
set_option linter.unusedSimpArgs false

/-! ### loop.example/g01210/impl.CompanionOf: function 16 -/
def impl_CompanionOf.l0 (K : Nat) (a0 : (Ar 6)) (t9 : (List ((Ar 6) × (Ar 6)))) : Nat → Int → Option (Sum Unit ((Ar 6) × Bool))
  | 0, _ => none
  | k + 1, x23 => if x23 < (t9.length : Int) then (if (0 : Int) ≤ x23 ∧ x23 < (t9.length : Int) then (if a0 = (t9.getD (x23 : Int).toNat ((Ar.zero 6), (Ar.zero 6))).1 then (some (Sum.inr ((t9.getD (x23 : Int).toNat ((Ar.zero 6), (Ar.zero 6))).2, true))) else (if a0 = (t9.getD (x23 : Int).toNat ((Ar.zero 6), (Ar.zero 6))).2 then (some (Sum.inr ((t9.getD (x23 : Int).toNat ((Ar.zero 6), (Ar.zero 6))).1, true))) else (impl_CompanionOf.l0 K a0 t9 k (wrap64 (x23 + 1))))) else none) else (some (Sum.inl ()))
def impl_CompanionOf.f (K : Nat) (a0 : (Ar 6)) (l1 : (List (Ar 6))) : Option ((Ar 6) × Bool) := (impl_IsDie.f K a0).bind fun t3 => if t3 = true then ((impl_isTwo.f K l1).bind fun t6 => if t6 = true then ((impl_pairsLike.f K l1).bind fun t9 => (impl_CompanionOf.l0 K a0 t9 K 0).bind fun o29 => (match o29 with | .inl () => some ((⟨[0, 0, 0, 0, 0, 0], rfl⟩ : Ar 6), false) | .inr r31 => some (r31.1, r31.2))) else (some ((⟨[0, 0, 0, 0, 0, 0], rfl⟩ : Ar 6), false))) else (some ((⟨[0, 0, 0, 0, 0, 0], rfl⟩ : Ar 6), false))
set_option maxRecDepth 100000 in
set_option maxHeartbeats 4000000 in
theorem impl_CompanionOf.calls {w0 : World} (K : Nat) (a0 : (Ar 6)) (l1 : (List (Ar 6))) (u1 : Value) (q1 : SlR cd31 w0 u1 l1) (r : ((Ar 6) × Bool)) (H : impl_CompanionOf.f K a0 l1 = some r) : Calls Try.prog 16 [ag [Pt.ar a0], u1].toArray w0 (Post w0 fun w v => v = Value.tuple #[ag [Pt.ar r.1], Value.bool r.2]) := by
  rw [impl_CompanionOf.f] at H
  refine s_start Try.func16 rfl Try.ntmps16 rfl ?_
  intro a hF
  have hM := Ms.start w0
  skip
  refine wp_seq ?_
  refine s_region ?_
  refine s_box (ps := [Pt.ar a0]) hF hM rfl rfl rfl rfl ?_; intro a w b1 hF hM
  refine s_alloc (ps := [Pt.ar (Ar.zero 6)]) hF hM rfl rfl zv31 rfl ?_; intro a w b2 hF hM
  refine s_val hF rfl rfl rfl (e_assign hF rfl) ?_; intro a hF
  refine s_nil ?_
  refine then_n ?_
  refine wp_seq ?_
  refine wp_seq ?_
  obtain ⟨t3, h4, H⟩ := bind_some H
  rcases ite_cases H with ⟨c5, H⟩ | ⟨c5, H⟩
  ·
    obtain ⟨t6, h7, H⟩ := bind_some H
    refine s_region ?_
    refine s_val hF rfl rfl rfl (e_lda (i := 1) 0 1 hF hM rfl rfl rfl rfl Try.isAgg31 Try.sizeOf31 rfl) ?_; intro a hF
    refine s_call hF rfl rfl rfl Try.call39 (impl_IsDie.calls K a0 t3 h4) ?_; intro a w v hF hf hR
    subst hR; have hM := hM.grow hf
    refine s_val hF rfl rfl rfl (e_not hF rfl) ?_; intro a hF
    refine s_val hF rfl rfl rfl (e_move hF rfl) ?_; intro a hF
    have hF := hF.topb (congrArg Bool.not c5)
    refine s_val hF rfl rfl rfl (e_move hF rfl) ?_; intro a hF
    refine s_call hF rfl rfl rfl Try.call40 (impl_isTwo.calls K l1 u1 (q1.frm hM.frm) t6 h7) ?_; intro a w v hF hf hR
    subst hR; have hM := hM.grow hf
    refine s_val hF rfl rfl rfl (e_not hF rfl) ?_; intro a hF
    refine s_val hF rfl rfl rfl (e_pick_f hF rfl rfl) ?_; intro a hF
    refine s_nil ?_
    refine then_n ?_
    rcases ite_cases H with ⟨c8, H⟩ | ⟨c8, H⟩
    ·
      refine s_cond_f hF rfl (congrArg Bool.not c8) ?_
      refine wp_skip ?_
      refine then_n ?_
      refine wp_seq ?_
      refine wp_seq ?_
      obtain ⟨t9, h10, H⟩ := bind_some H
      refine s_region ?_
      refine s_val hF rfl rfl rfl (e_move hF rfl) ?_; intro a hF
      refine s_call hF rfl rfl rfl Try.call41 (impl_pairsLike.calls K l1 u1 (q1.frm hM.frm) t9 h10) ?_; intro a w v11 hF hf hR
      have hM := hM.fresh hf hR
      refine s_val hF rfl rfl rfl (e_len hF rfl (hM.sl 0 rfl).toF Try.underlying37) ?_; intro a hF
      refine s_val hF rfl rfl rfl (e_move hF rfl) ?_; intro a hF
      refine s_nil ?_
      refine then_n ?_
      refine wp_block ?_
      obtain ⟨o29, h30, H⟩ := bind_some H
      refine wp_mono (Q := fun e a w => (e = Exit.exit 0 ∧ Sum.inl () = o29 ∧ Fr 39 a [(4, pt b2 0)] ∧ Ms [] w0 w [boxR b2 [Pt.ar (Ar.zero 6)] 31]) ∨ (e = Exit.ret ∧ ∃ b32 : Nat, ∃ r31 : ((Ar 6) × Bool), Sum.inr r31 = o29 ∧ Fr 39 a [(4, pt b32 0), (5, Value.bool r31.2)] ∧ Ms [] w0 w [boxR b32 [Pt.ar r31.1] 31])) ?_ ?_
      · refine s_loop (fun kq a w => ∃ x23 : Int, impl_CompanionOf.l0 K a0 t9 kq x23 = some o29 ∧ Fr 39 a [(2, pt b1 0), (4, pt b2 0), (18, v11), (19, Value.int .i64 (t9.length : Int)), (20, Value.int .i64 x23)] ∧ Ms [] w0 w [boxR b1 [Pt.ar a0] 31, boxR b2 [Pt.ar (Ar.zero 6)] 31, rowR cd50 v11 t9]) K ⟨0, h30, hF.sub _ ⟨rfl, rfl, rfl, rfl, rfl, trivial⟩, hM.pick [2, 1, 0] rfl rfl⟩ ?_ ?_
        · rintro a w ⟨_, H, _⟩; exact none_some H
        · rintro k a w ⟨x23, H, hF, hM⟩; rw [impl_CompanionOf.l0] at H
          refine wp_seq ?_
          refine s_region ?_
          refine s_val hF rfl rfl rfl (e_lss hF rfl rfl) ?_; intro a hF
          refine s_nil ?_
          refine then_n ?_
          refine wp_seq ?_
          rcases ite_cases H with ⟨c24, H⟩ | ⟨c24, H⟩
          ·
            refine s_cond_t hF rfl (decide_eq_true c24) ?_
            refine wp_skip ?_
            refine then_n ?_
            refine wp_seq ?_
            refine wp_block ?_
            refine wp_seq ?_
            obtain ⟨c25, H⟩ := ite_some H
            refine s_region ?_
            refine s_val hF rfl rfl rfl (e_ias cd50 hF rfl rfl (hM.sl 2 rfl).toF Try.underlying37 Try.sizeOf50 c25.1 c25.2) ?_; intro a hF
            refine s_val hF rfl rfl rfl (e_ldsa (m := x23) hF rfl (hM.sl 2 rfl) (getD_some (z := ((Ar.zero 6), (Ar.zero 6))) c25.1 c25.2) Try.isAgg50 Try.sizeOf50) ?_; intro a hF
            refine s_alloc (ps := [Pt.ar (((Ar.zero 6), (Ar.zero 6)).1), Pt.ar (((Ar.zero 6), (Ar.zero 6)).2)]) hF hM rfl rfl zv50 rfl ?_; intro a w b26 hF hM
            refine s_stw (i := 0) (ps' := [Pt.ar ((t9.getD (x23 : Int).toNat ((Ar.zero 6), (Ar.zero 6))).1), Pt.ar ((t9.getD (x23 : Int).toNat ((Ar.zero 6), (Ar.zero 6))).2)]) hF hM rfl rfl rfl rfl rfl rfl Try.sizeOf50 rfl ?_; intro a w hF hM
            refine s_nil ?_
            refine then_n ?_
            refine wp_seq ?_
            refine s_region ?_
            refine s_val hF rfl rfl rfl (e_lda (i := 1) 0 1 hF hM rfl rfl rfl rfl Try.isAgg31 Try.sizeOf31 rfl) ?_; intro a hF
            refine s_nil ?_
            refine then_n ?_
            refine wp_block ?_
            refine wp_seq ?_
            refine s_region ?_
            refine s_val hF rfl rfl rfl (e_fa hF rfl Try.underlying50 rfl Try.sizeOf31 rfl rfl) ?_; intro a hF
            refine s_val hF rfl rfl rfl (e_lda (i := 0) 0 1 hF hM rfl rfl rfl rfl Try.isAgg31 Try.sizeOf31 rfl) ?_; intro a hF
            refine s_val hF rfl rfl rfl (e_aeql _ _ Try.underlying31 Try.underlying3 Try.sizeOf3 Try.isAgg3 Try.eqGuardType31 hF rfl rfl) ?_; intro a hF
            refine s_val hF rfl rfl rfl (e_assign hF rfl) ?_; intro a hF
            refine s_nil ?_
            refine then_n ?_
            rcases ite_cases H with ⟨c27, H⟩ | ⟨c27, H⟩
            ·
              refine s_cond_t hF rfl (decide_eq_true c27) ?_
              refine wp_seq ?_
              refine s_region ?_
              refine s_val hF rfl rfl rfl (e_fa hF rfl Try.underlying50 rfl Try.sizeOf31 rfl rfl) ?_; intro a hF
              refine s_val hF rfl rfl rfl (e_lda (i := 0) 1 1 hF hM rfl rfl rfl rfl Try.isAgg31 Try.sizeOf31 rfl) ?_; intro a hF
              refine s_stw (i := 2) (ps' := [Pt.ar ((t9.getD (x23 : Int).toNat ((Ar.zero 6), (Ar.zero 6))).2)]) hF hM rfl rfl rfl rfl rfl rfl Try.sizeOf31 rfl ?_; intro a w hF hM
              refine s_val hF rfl rfl rfl (e_assign hF rfl) ?_; intro a hF
              refine s_nil ?_
              refine then_n ?_
              refine wp_ret ?_
              refine blk_r ?_
              refine blk_r ?_
              refine then_r ?_
              refine then_r ?_
              exact Or.inr (⟨rfl, b2, ((t9.getD (x23 : Int).toNat ((Ar.zero 6), (Ar.zero 6))).2, true), some_some H, hF.sub _ ⟨rfl, rfl, trivial⟩, hM.pick [2] rfl rfl⟩)
            ·
              refine s_cond_f hF rfl (decide_eq_false c27) ?_
              refine wp_seq ?_
              refine s_region ?_
              refine s_val hF rfl rfl rfl (e_fa hF rfl Try.underlying50 rfl Try.sizeOf31 rfl rfl) ?_; intro a hF
              refine s_val hF rfl rfl rfl (e_lda (i := 0) 1 1 hF hM rfl rfl rfl rfl Try.isAgg31 Try.sizeOf31 rfl) ?_; intro a hF
              refine s_val hF rfl rfl rfl (e_aeql _ _ Try.underlying31 Try.underlying3 Try.sizeOf3 Try.isAgg3 Try.eqGuardType31 hF rfl rfl) ?_; intro a hF
              refine s_val hF rfl rfl rfl (e_assign hF rfl) ?_; intro a hF
              refine s_nil ?_
              refine then_n ?_
              rcases ite_cases H with ⟨c28, H⟩ | ⟨c28, H⟩
              ·
                refine s_cond_t hF rfl (decide_eq_true c28) ?_
                refine wp_seq ?_
                refine s_region ?_
                refine s_val hF rfl rfl rfl (e_fa hF rfl Try.underlying50 rfl Try.sizeOf31 rfl rfl) ?_; intro a hF
                refine s_val hF rfl rfl rfl (e_lda (i := 0) 0 1 hF hM rfl rfl rfl rfl Try.isAgg31 Try.sizeOf31 rfl) ?_; intro a hF
                refine s_stw (i := 2) (ps' := [Pt.ar ((t9.getD (x23 : Int).toNat ((Ar.zero 6), (Ar.zero 6))).1)]) hF hM rfl rfl rfl rfl rfl rfl Try.sizeOf31 rfl ?_; intro a w hF hM
                refine s_val hF rfl rfl rfl (e_assign hF rfl) ?_; intro a hF
                refine s_nil ?_
                refine then_n ?_
                refine wp_ret ?_
                refine blk_r ?_
                refine blk_r ?_
                refine then_r ?_
                refine then_r ?_
                exact Or.inr (⟨rfl, b2, ((t9.getD (x23 : Int).toNat ((Ar.zero 6), (Ar.zero 6))).1, true), some_some H, hF.sub _ ⟨rfl, rfl, trivial⟩, hM.pick [2] rfl rfl⟩)
              ·
                refine s_cond_f hF rfl (decide_eq_false c28) ?_
                refine wp_skip ?_
                refine blk_n ?_
                refine blk_n ?_
                refine then_n ?_
                refine s_region ?_
                refine s_val hF rfl rfl rfl (e_add hF rfl rfl) ?_; intro a hF
                refine s_val hF rfl rfl rfl (e_move hF rfl) ?_; intro a hF
                refine s_nil ?_
                refine then_n ?_
                exact ⟨(wrap64 (x23 + 1)), H, hF.sub _ ⟨rfl, rfl, rfl, rfl, rfl, trivial⟩, hM.pick [1, 2, 3] rfl rfl⟩
          ·
            refine s_cond_f hF rfl (decide_eq_false c24) ?_
            refine wp_exit ?_
            refine then_x ?_
            refine then_x ?_
            exact Or.inl (⟨rfl, some_some H, hF.sub _ ⟨rfl, trivial⟩, hM.pick [1] rfl rfl⟩)
      · rintro e a w (⟨rfl, rfl, hF, hM⟩ | ⟨rfl, b32, r31, rfl, hF, hM⟩)
        ·
          dsimp only at H
          refine blk_x ?_
          refine then_n ?_
          refine wp_seq ?_
          refine s_region ?_
          refine s_val hF rfl rfl rfl (e_build' (cells := cat [Pt.ar (⟨[0, 0, 0, 0, 0, 0], rfl⟩ : Ar 6)]) hF rfl (by kernel_rfl)) ?_; intro a hF
          refine s_stw (i := 0) (ps' := [Pt.ar (⟨[0, 0, 0, 0, 0, 0], rfl⟩ : Ar 6)]) hF hM rfl rfl rfl rfl rfl rfl Try.sizeOf31 rfl ?_; intro a w hF hM
          refine s_val hF rfl rfl rfl (e_assign hF rfl) ?_; intro a hF
          refine s_nil ?_
          refine then_n ?_
          refine wp_ret ?_
          obtain rfl := some_some H
          refine s_ret [ag [Pt.ar (⟨[0, 0, 0, 0, 0, 0], rfl⟩ : Ar 6)], Value.bool false] hF Try.results16 ⟨⟨_, rfl, rv_box hM (i := 0) rfl Try.isAgg31 Try.sizeOf31 rfl⟩, rfl, trivial⟩ ?_
          exact ⟨_, rfl, hM.frm, rfl⟩
        ·
          dsimp only at H
          refine blk_r ?_
          refine then_r ?_
          obtain rfl := some_some H
          refine s_ret [ag [Pt.ar r31.1], Value.bool r31.2] hF Try.results16 ⟨⟨_, rfl, rv_box hM (i := 0) rfl Try.isAgg31 Try.sizeOf31 rfl⟩, rfl, trivial⟩ ?_
          exact ⟨_, rfl, hM.frm, rfl⟩
    ·
      refine s_cond_t hF rfl (congrArg Bool.not (bf c8)) ?_
      refine wp_seq ?_
      refine s_region ?_
      refine s_val hF rfl rfl rfl (e_build' (cells := cat [Pt.ar (⟨[0, 0, 0, 0, 0, 0], rfl⟩ : Ar 6)]) hF rfl (by kernel_rfl)) ?_; intro a hF
      refine s_stw (i := 0) (ps' := [Pt.ar (⟨[0, 0, 0, 0, 0, 0], rfl⟩ : Ar 6)]) hF hM rfl rfl rfl rfl rfl rfl Try.sizeOf31 rfl ?_; intro a w hF hM
      refine s_val hF rfl rfl rfl (e_assign hF rfl) ?_; intro a hF
      refine s_nil ?_
      refine then_n ?_
      refine wp_ret ?_
      refine then_r ?_
      obtain rfl := some_some H
      refine s_ret [ag [Pt.ar (⟨[0, 0, 0, 0, 0, 0], rfl⟩ : Ar 6)], Value.bool false] hF Try.results16 ⟨⟨_, rfl, rv_box hM (i := 0) rfl Try.isAgg31 Try.sizeOf31 rfl⟩, rfl, trivial⟩ ?_
      exact ⟨_, rfl, hM.frm, rfl⟩
  ·
    refine s_region ?_
    refine s_val hF rfl rfl rfl (e_lda (i := 1) 0 1 hF hM rfl rfl rfl rfl Try.isAgg31 Try.sizeOf31 rfl) ?_; intro a hF
    refine s_call hF rfl rfl rfl Try.call39 (impl_IsDie.calls K a0 t3 h4) ?_; intro a w v hF hf hR
    subst hR; have hM := hM.grow hf
    refine s_val hF rfl rfl rfl (e_not hF rfl) ?_; intro a hF
    refine s_val hF rfl rfl rfl (e_move hF rfl) ?_; intro a hF
    have hF := hF.topb (congrArg Bool.not (bf c5))
    refine s_skip hF rfl rfl rfl ?_; intro a hF
    refine s_skip hF rfl rfl rfl ?_; intro a hF
    refine s_skip hF rfl rfl rfl ?_; intro a hF
    refine s_val hF rfl rfl rfl (e_pick_t hF rfl rfl) ?_; intro a hF
    refine s_nil ?_
    refine then_n ?_
    refine s_cond_t hF rfl rfl ?_
    refine wp_seq ?_
    refine s_region ?_
    refine s_val hF rfl rfl rfl (e_build' (cells := cat [Pt.ar (⟨[0, 0, 0, 0, 0, 0], rfl⟩ : Ar 6)]) hF rfl (by kernel_rfl)) ?_; intro a hF
    refine s_stw (i := 0) (ps' := [Pt.ar (⟨[0, 0, 0, 0, 0, 0], rfl⟩ : Ar 6)]) hF hM rfl rfl rfl rfl rfl rfl Try.sizeOf31 rfl ?_; intro a w hF hM
    refine s_val hF rfl rfl rfl (e_assign hF rfl) ?_; intro a hF
    refine s_nil ?_
    refine then_n ?_
    refine wp_ret ?_
    refine then_r ?_
    obtain rfl := some_some H
    refine s_ret [ag [Pt.ar (⟨[0, 0, 0, 0, 0, 0], rfl⟩ : Ar 6)], Value.bool false] hF Try.results16 ⟨⟨_, rfl, rv_box hM (i := 0) rfl Try.isAgg31 Try.sizeOf31 rfl⟩, rfl, trivial⟩ ?_
    exact ⟨_, rfl, hM.frm, rfl⟩

/-! ### loop.example/g01210/laws.eqIntA6: function 17 -/
def laws_eqIntA6.l0 (K : Nat) (a0 : (Ar 6)) (a1 : (Ar 6)) : Nat → Int → Option (Sum Unit Bool)
  | 0, _ => none
  | k + 1, x8 => if x8 < 6 then (if (0 : Int) ≤ x8 ∧ x8 < 6 then (if (a0.get x8) = (a1.get x8) then (laws_eqIntA6.l0 K a0 a1 k (wrap64 (x8 + 1))) else (some (Sum.inr false))) else none) else (some (Sum.inl ()))
def laws_eqIntA6.f (K : Nat) (a0 : (Ar 6)) (a1 : (Ar 6)) : Option Bool := (laws_eqIntA6.l0 K a0 a1 K 0).bind fun o12 => (match o12 with | .inl () => some true | .inr r14 => some r14)
set_option maxRecDepth 100000 in
set_option maxHeartbeats 4000000 in
theorem laws_eqIntA6.calls {w0 : World} (K : Nat) (a0 : (Ar 6)) (a1 : (Ar 6)) (r : Bool) (H : laws_eqIntA6.f K a0 a1 = some r) : Calls Try.prog 17 [ag [Pt.ar a0], ag [Pt.ar a1]].toArray w0 (Post w0 fun w v => v = Value.bool r) := by
  rw [laws_eqIntA6.f] at H
  refine s_start Try.func17 rfl Try.ntmps17 rfl ?_
  intro a hF
  have hM := Ms.start w0
  skip
  refine wp_seq ?_
  refine s_region ?_
  refine s_box (ps := [Pt.ar a0]) hF hM rfl rfl rfl rfl ?_; intro a w b1 hF hM
  refine s_box (ps := [Pt.ar a1]) hF hM rfl rfl rfl rfl ?_; intro a w b2 hF hM
  refine s_val hF rfl rfl rfl (e_assign hF rfl) ?_; intro a hF
  refine s_nil ?_
  refine then_n ?_
  refine wp_seq ?_
  refine wp_seq ?_
  refine s_region ?_
  refine s_val hF rfl rfl rfl (e_assign hF rfl) ?_; intro a hF
  refine s_nil ?_
  refine then_n ?_
  refine wp_block ?_
  obtain ⟨o12, h13, H⟩ := bind_some H
  refine wp_mono (Q := fun e a w => (e = Exit.exit 0 ∧ Sum.inl () = o12 ∧ Fr 17 a [] ∧ Ms [] w0 w []) ∨ (e = Exit.ret ∧ ∃ r14 : Bool, Sum.inr r14 = o12 ∧ Fr 17 a [(4, Value.bool r14)] ∧ Ms [] w0 w [])) ?_ ?_
  · refine s_loop (fun kq a w => ∃ x8 : Int, laws_eqIntA6.l0 K a0 a1 kq x8 = some o12 ∧ Fr 17 a [(2, pt b1 0), (3, pt b2 0), (5, Value.int .i64 x8)] ∧ Ms [] w0 w [boxR b1 [Pt.ar a0] 31, boxR b2 [Pt.ar a1] 31]) K ⟨0, h13, hF.sub _ ⟨rfl, rfl, rfl, trivial⟩, hM.pick [1, 0] rfl rfl⟩ ?_ ?_
    · rintro a w ⟨_, H, _⟩; exact none_some H
    · rintro k a w ⟨x8, H, hF, hM⟩; rw [laws_eqIntA6.l0] at H
      refine wp_seq ?_
      refine wp_seq ?_
      refine s_region ?_
      refine s_val hF rfl rfl rfl (e_move hF rfl) ?_; intro a hF
      refine s_val hF rfl rfl rfl (e_lss hF rfl rfl) ?_; intro a hF
      refine s_nil ?_
      refine then_n ?_
      rcases ite_cases H with ⟨c9, H⟩ | ⟨c9, H⟩
      ·
        refine s_cond_t hF rfl (decide_eq_true c9) ?_
        refine wp_skip ?_
        refine then_n ?_
        refine wp_seq ?_
        refine wp_block ?_
        refine wp_seq ?_
        obtain ⟨c10, H⟩ := ite_some H
        refine s_held (fun w => Ms [] w0 w [boxR b1 [Pt.ar a0] 31, boxR b2 [Pt.ar a1] 31]) #[false, false, false, false, false, false, false] mixed rfl rfl hM ?_; intro w hf hM; clear hf
        refine h_val 0 #[true, false, false, false, false, false, false] rfl (by kernel_rfl) hF rfl rfl rfl (fun w hS => e_move hF rfl) (hM.pick [0, 1] rfl rfl) ?_; intro a hF
        refine h_val 1 #[true, true, false, false, false, false, false] rfl (by kernel_rfl) hF rfl rfl rfl (fun w hS => e_ia hF rfl rfl Try.underlying31 Try.sizeOf3 c10.1 c10.2) (hM.pick [0, 1] rfl rfl) ?_; intro a hF
        refine h_val 2 #[true, true, true, false, false, false, false] rfl (by kernel_rfl) hF rfl rfl rfl (fun w hS => e_ldi (i := 0) (k := 0) hF hS rfl rfl rfl rfl rfl Try.isAgg3 c10.1 c10.2) (hM.pick [0, 1] rfl rfl) ?_; intro a hF
        refine h_val 3 #[true, true, true, true, false, false, false] rfl (by kernel_rfl) hF rfl rfl rfl (fun w hS => e_move hF rfl) (hM.pick [0, 1] rfl rfl) ?_; intro a hF
        refine h_val 4 #[true, true, true, true, true, false, false] rfl (by kernel_rfl) hF rfl rfl rfl (fun w hS => e_ia hF rfl rfl Try.underlying31 Try.sizeOf3 c10.1 c10.2) (hM.pick [0, 1] rfl rfl) ?_; intro a hF
        refine h_val 5 #[true, true, true, true, true, true, false] rfl (by kernel_rfl) hF rfl rfl rfl (fun w hS => e_ldi (i := 1) (k := 0) hF hS rfl rfl rfl rfl rfl Try.isAgg3 c10.1 c10.2) (hM.pick [0, 1] rfl rfl) ?_; intro a hF
        refine h_val 6 #[true, true, true, true, true, true, true] rfl (by kernel_rfl) hF rfl rfl rfl (fun w hS => e_neq hF rfl rfl) (hM.pick [0, 1] rfl rfl) ?_; intro a hF
        refine h_done rfl ?_
        refine then_n ?_
        rcases ite_cases H with ⟨c11, H⟩ | ⟨c11, H⟩
        ·
          refine s_cond_f hF rfl (congrArg Bool.not (decide_eq_true c11)) ?_
          refine wp_skip ?_
          refine blk_n ?_
          refine then_n ?_
          refine s_region ?_
          refine s_val hF rfl rfl rfl (e_move hF rfl) ?_; intro a hF
          refine s_val hF rfl rfl rfl (e_add hF rfl rfl) ?_; intro a hF
          refine s_val hF rfl rfl rfl (e_assign hF rfl) ?_; intro a hF
          refine s_nil ?_
          refine then_n ?_
          exact ⟨(wrap64 (x8 + 1)), H, hF.sub _ ⟨rfl, rfl, rfl, trivial⟩, hM.pick [0, 1] rfl rfl⟩
        ·
          refine s_cond_t hF rfl (congrArg Bool.not (decide_eq_false c11)) ?_
          refine wp_seq ?_
          refine s_region ?_
          refine s_val hF rfl rfl rfl (e_assign hF rfl) ?_; intro a hF
          refine s_nil ?_
          refine then_n ?_
          refine wp_ret ?_
          refine blk_r ?_
          refine then_r ?_
          refine then_r ?_
          exact Or.inr (⟨rfl, false, some_some H, hF.sub _ ⟨rfl, trivial⟩, hM.pick [] rfl rfl⟩)
      ·
        refine s_cond_f hF rfl (decide_eq_false c9) ?_
        refine wp_exit ?_
        refine then_x ?_
        refine then_x ?_
        exact Or.inl (⟨rfl, some_some H, hF.sub _ trivial, hM.pick [] rfl rfl⟩)
  · rintro e a w (⟨rfl, rfl, hF, hM⟩ | ⟨rfl, r14, rfl, hF, hM⟩)
    ·
      dsimp only at H
      refine blk_x ?_
      refine then_n ?_
      refine wp_seq ?_
      refine s_region ?_
      refine s_val hF rfl rfl rfl (e_assign hF rfl) ?_; intro a hF
      refine s_nil ?_
      refine then_n ?_
      refine wp_ret ?_
      obtain rfl := some_some H
      refine s_ret [Value.bool true] hF Try.results17 ⟨rfl, trivial⟩ ?_
      exact ⟨_, rfl, hM.frm, rfl⟩
    ·
      dsimp only at H
      refine blk_r ?_
      refine then_r ?_
      obtain rfl := some_some H
      refine s_ret [Value.bool r14] hF Try.results17 ⟨rfl, trivial⟩ ?_
      exact ⟨_, rfl, hM.frm, rfl⟩

/-! ### loop.example/g01210/laws.eqIntA6S: function 13 -/
def laws_eqIntA6S.l0 (K : Nat) (l0 : (List (Ar 6))) (l1 : (List (Ar 6))) : Nat → Int → Option (Sum Unit Bool)
  | 0, _ => none
  | k + 1, x15 => if x15 < (l0.length : Int) then (if (0 : Int) ≤ x15 ∧ x15 < (l0.length : Int) then (if (0 : Int) ≤ x15 ∧ x15 < (l1.length : Int) then ((laws_eqIntA6.f K (l0.getD (x15 : Int).toNat (Ar.zero 6)) (l1.getD (x15 : Int).toNat (Ar.zero 6))).bind fun t19 => if t19 = true then (laws_eqIntA6S.l0 K l0 l1 k (wrap64 (x15 + 1))) else (some (Sum.inr false))) else none) else none) else (some (Sum.inl ()))
def laws_eqIntA6S.f (K : Nat) (l0 : (List (Ar 6))) (l1 : (List (Ar 6))) : Option Bool := if (l0.length : Int) = (l1.length : Int) then ((laws_eqIntA6S.l0 K l0 l1 K 0).bind fun o24 => (match o24 with | .inl () => some true | .inr r26 => some r26)) else (some false)
set_option maxRecDepth 100000 in
set_option maxHeartbeats 4000000 in
theorem laws_eqIntA6S.calls {w0 : World} (K : Nat) (l0 : (List (Ar 6))) (u0 : Value) (q0 : SlR cd31 w0 u0 l0) (l1 : (List (Ar 6))) (u1 : Value) (q1 : SlR cd31 w0 u1 l1) (r : Bool) (H : laws_eqIntA6S.f K l0 l1 = some r) : Calls Try.prog 13 [u0, u1].toArray w0 (Post w0 fun w v => v = Value.bool r) := by
  rw [laws_eqIntA6S.f] at H
  refine s_start Try.func13 rfl Try.ntmps13 rfl ?_
  intro a hF
  have hM := Ms.start w0
  skip
  refine wp_seq ?_
  refine s_region ?_
  refine s_val hF rfl rfl rfl (e_assign hF rfl) ?_; intro a hF
  refine s_nil ?_
  refine then_n ?_
  refine wp_seq ?_
  refine wp_seq ?_
  refine s_region ?_
  refine s_val hF rfl rfl rfl (e_move hF rfl) ?_; intro a hF
  refine s_val hF rfl rfl rfl (e_len hF rfl (q0.frm hM.frm).toF Try.underlying22) ?_; intro a hF
  refine s_val hF rfl rfl rfl (e_move hF rfl) ?_; intro a hF
  refine s_val hF rfl rfl rfl (e_len hF rfl (q1.frm hM.frm).toF Try.underlying22) ?_; intro a hF
  refine s_val hF rfl rfl rfl (e_neq hF rfl rfl) ?_; intro a hF
  refine s_nil ?_
  refine then_n ?_
  rcases ite_cases H with ⟨c1, H⟩ | ⟨c1, H⟩
  ·
    refine s_cond_f hF rfl (congrArg Bool.not (decide_eq_true c1)) ?_
    refine wp_skip ?_
    refine then_n ?_
    refine wp_seq ?_
    refine wp_seq ?_
    refine s_region ?_
    refine s_val hF rfl rfl rfl (e_assign hF rfl) ?_; intro a hF
    refine s_nil ?_
    refine then_n ?_
    refine wp_block ?_
    obtain ⟨o24, h25, H⟩ := bind_some H
    refine wp_mono (Q := fun e a w => (e = Exit.exit 0 ∧ Sum.inl () = o24 ∧ Fr 27 a [] ∧ Ms [] w0 w []) ∨ (e = Exit.ret ∧ ∃ r26 : Bool, Sum.inr r26 = o24 ∧ Fr 27 a [(4, Value.bool r26)] ∧ Ms [] w0 w [])) ?_ ?_
    · refine s_loop (fun kq a w => ∃ x15 : Int, laws_eqIntA6S.l0 K l0 l1 kq x15 = some o24 ∧ Fr 27 a [(0, u0), (1, u1), (5, Value.int .i64 x15)] ∧ Ms [] w0 w []) K ⟨0, h25, hF.sub _ ⟨rfl, rfl, rfl, trivial⟩, hM.pick [] rfl rfl⟩ ?_ ?_
      · rintro a w ⟨_, H, _⟩; exact none_some H
      · rintro k a w ⟨x15, H, hF, hM⟩; rw [laws_eqIntA6S.l0] at H
        refine wp_seq ?_
        refine wp_seq ?_
        refine s_region ?_
        refine s_val hF rfl rfl rfl (e_move hF rfl) ?_; intro a hF
        refine s_val hF rfl rfl rfl (e_move hF rfl) ?_; intro a hF
        refine s_val hF rfl rfl rfl (e_len hF rfl (q0.frm hM.frm).toF Try.underlying22) ?_; intro a hF
        refine s_val hF rfl rfl rfl (e_lss hF rfl rfl) ?_; intro a hF
        refine s_nil ?_
        refine then_n ?_
        rcases ite_cases H with ⟨c16, H⟩ | ⟨c16, H⟩
        ·
          refine s_cond_t hF rfl (decide_eq_true c16) ?_
          refine wp_skip ?_
          refine then_n ?_
          refine wp_seq ?_
          refine wp_block ?_
          refine wp_seq ?_
          obtain ⟨c17, H⟩ := ite_some H
          obtain ⟨c18, H⟩ := ite_some H
          obtain ⟨t19, h20, H⟩ := bind_some H
          refine s_held (fun w => Ms [] w0 w []) #[false, false, false, false, false, false, false, false, false, false] mixed rfl rfl hM ?_; intro w hf hM; clear hf
          refine h_val 0 #[true, false, false, false, false, false, false, false, false, false] rfl (by kernel_rfl) hF rfl rfl rfl (fun w hS => e_move hF rfl) (hM.pick [] rfl rfl) ?_; intro a hF
          refine h_val 1 #[true, true, false, false, false, false, false, false, false, false] rfl (by kernel_rfl) hF rfl rfl rfl (fun w hS => e_move hF rfl) (hM.pick [] rfl rfl) ?_; intro a hF
          have f21 := (q0.frm hM.frm).toF
          refine h_val 2 #[true, true, true, false, false, false, false, false, false, false] rfl (by kernel_rfl) hF rfl rfl rfl (fun w hS => e_ias cd31 hF rfl rfl f21 Try.underlying22 Try.sizeOf31 c17.1 c17.2) (hM.pick [] rfl rfl) ?_; intro a hF
          refine h_val 3 #[true, true, true, true, false, false, false, false, false, false] rfl (by kernel_rfl) hF rfl rfl rfl (fun w hS => e_ldsa (m := x15) hF rfl (q0.frm hS.frm) (getD_some (z := (Ar.zero 6)) c17.1 c17.2) Try.isAgg31 Try.sizeOf31) (hM.pick [] rfl rfl) ?_; intro a hF
          refine h_val 4 #[true, true, true, true, true, false, false, false, false, false] rfl (by kernel_rfl) hF rfl rfl rfl (fun w hS => e_move hF rfl) (hM.pick [] rfl rfl) ?_; intro a hF
          refine h_val 5 #[true, true, true, true, true, true, false, false, false, false] rfl (by kernel_rfl) hF rfl rfl rfl (fun w hS => e_move hF rfl) (hM.pick [] rfl rfl) ?_; intro a hF
          have f22 := (q1.frm hM.frm).toF
          refine h_val 6 #[true, true, true, true, true, true, true, false, false, false] rfl (by kernel_rfl) hF rfl rfl rfl (fun w hS => e_ias cd31 hF rfl rfl f22 Try.underlying22 Try.sizeOf31 c18.1 c18.2) (hM.pick [] rfl rfl) ?_; intro a hF
          refine h_val 7 #[true, true, true, true, true, true, true, true, false, false] rfl (by kernel_rfl) hF rfl rfl rfl (fun w hS => e_ldsa (m := x15) hF rfl (q1.frm hS.frm) (getD_some (z := (Ar.zero 6)) c18.1 c18.2) Try.isAgg31 Try.sizeOf31) (hM.pick [] rfl rfl) ?_; intro a hF
          refine h_one 8 #[true, true, true, true, true, true, true, true, true, false] rfl (by kernel_rfl) ?_
          refine s_call hF rfl rfl rfl Try.call17 (laws_eqIntA6.calls K (l0.getD (x15 : Int).toNat (Ar.zero 6)) (l1.getD (x15 : Int).toNat (Ar.zero 6)) t19 h20) ?_; intro a w v hF hf hR
          subst hR; have hM := hM.grow hf
          refine s_nil ⟨rfl, (hM.pick [] rfl rfl), ?_⟩
          refine h_val 9 #[true, true, true, true, true, true, true, true, true, true] rfl (by kernel_rfl) hF rfl rfl rfl (fun w hS => e_not hF rfl) (hM.pick [] rfl rfl) ?_; intro a hF
          refine h_done rfl ?_
          refine then_n ?_
          rcases ite_cases H with ⟨c23, H⟩ | ⟨c23, H⟩
          ·
            refine s_cond_f hF rfl (congrArg Bool.not c23) ?_
            refine wp_skip ?_
            refine blk_n ?_
            refine then_n ?_
            refine s_region ?_
            refine s_val hF rfl rfl rfl (e_move hF rfl) ?_; intro a hF
            refine s_val hF rfl rfl rfl (e_add hF rfl rfl) ?_; intro a hF
            refine s_val hF rfl rfl rfl (e_assign hF rfl) ?_; intro a hF
            refine s_nil ?_
            refine then_n ?_
            exact ⟨(wrap64 (x15 + 1)), H, hF.sub _ ⟨rfl, rfl, rfl, trivial⟩, hM.pick [] rfl rfl⟩
          ·
            refine s_cond_t hF rfl (congrArg Bool.not (bf c23)) ?_
            refine wp_seq ?_
            refine s_region ?_
            refine s_val hF rfl rfl rfl (e_assign hF rfl) ?_; intro a hF
            refine s_nil ?_
            refine then_n ?_
            refine wp_ret ?_
            refine blk_r ?_
            refine then_r ?_
            refine then_r ?_
            exact Or.inr (⟨rfl, false, some_some H, hF.sub _ ⟨rfl, trivial⟩, hM.pick [] rfl rfl⟩)
        ·
          refine s_cond_f hF rfl (decide_eq_false c16) ?_
          refine wp_exit ?_
          refine then_x ?_
          refine then_x ?_
          exact Or.inl (⟨rfl, some_some H, hF.sub _ trivial, hM.pick [] rfl rfl⟩)
    · rintro e a w (⟨rfl, rfl, hF, hM⟩ | ⟨rfl, r26, rfl, hF, hM⟩)
      ·
        dsimp only at H
        refine blk_x ?_
        refine then_n ?_
        refine wp_seq ?_
        refine s_region ?_
        refine s_val hF rfl rfl rfl (e_assign hF rfl) ?_; intro a hF
        refine s_nil ?_
        refine then_n ?_
        refine wp_ret ?_
        obtain rfl := some_some H
        refine s_ret [Value.bool true] hF Try.results13 ⟨rfl, trivial⟩ ?_
        exact ⟨_, rfl, hM.frm, rfl⟩
      ·
        dsimp only at H
        refine blk_r ?_
        refine then_r ?_
        obtain rfl := some_some H
        refine s_ret [Value.bool r26] hF Try.results13 ⟨rfl, trivial⟩ ?_
        exact ⟨_, rfl, hM.frm, rfl⟩
  ·
    refine s_cond_t hF rfl (congrArg Bool.not (decide_eq_false c1)) ?_
    refine wp_seq ?_
    refine s_region ?_
    refine s_val hF rfl rfl rfl (e_assign hF rfl) ?_; intro a hF
    refine s_nil ?_
    refine then_n ?_
    refine wp_ret ?_
    refine then_r ?_
    obtain rfl := some_some H
    refine s_ret [Value.bool false] hF Try.results13 ⟨rfl, trivial⟩ ?_
    exact ⟨_, rfl, hM.frm, rfl⟩

/-! ### loop.example/g01210/laws.FnExactCompanionOf: function 4 -/
def laws_FnExactCompanionOf.f (K : Nat) (a0 : (Ar 6)) (l1 : (List (Ar 6))) : Option Bool := (laws_szIntA6S.f K l1 1048576).bind fun t2 => if t2 < 0 then (some true) else ((laws_toIntA6.f K a0).bind fun t5 => (laws_toIntA6S.f K l1).bind fun t7 => (spec_CompanionOf.f K t5 t7).bind fun t10 => (laws_toIntA6S.f K l1).bind fun t13 => (laws_toIntA6.f K a0).bind fun t16 => (impl_CompanionOf.f K t16 t13).bind fun t18 => (laws_eqIntA6.f K t18.1 t10.1).bind fun t21 => if t21 = true then (if (t18.2 == t10.2) = true then ((laws_toIntA6S.f K l1).bind fun t25 => (laws_eqIntA6S.f K t13 t25).bind fun t28 => if t28 = true then (some true) else (some false)) else (some false)) else (some false))
set_option maxRecDepth 100000 in
set_option maxHeartbeats 4000000 in
theorem laws_FnExactCompanionOf.calls {w0 : World} (K : Nat) (a0 : (Ar 6)) (l1 : (List (Ar 6))) (u1 : Value) (q1 : SlR cd31 w0 u1 l1) (r : Bool) (H : laws_FnExactCompanionOf.f K a0 l1 = some r) : Calls Try.prog 4 [ag [Pt.ar a0], u1].toArray w0 (Post w0 fun w v => v = Value.bool r) := by
  rw [laws_FnExactCompanionOf.f] at H
  refine s_start Try.func4 rfl Try.ntmps4 rfl ?_
  intro a hF
  have hM := Ms.start w0
  skip
  refine wp_seq ?_
  refine s_region ?_
  refine s_box (ps := [Pt.ar a0]) hF hM rfl rfl rfl rfl ?_; intro a w b1 hF hM
  refine s_val hF rfl rfl rfl (e_assign hF rfl) ?_; intro a hF
  refine s_nil ?_
  refine then_n ?_
  refine wp_seq ?_
  refine s_region ?_
  refine s_val hF rfl rfl rfl (e_assign hF rfl) ?_; intro a hF
  refine s_nil ?_
  refine then_n ?_
  refine wp_seq ?_
  obtain ⟨t2, h3, H⟩ := bind_some H
  refine s_region ?_
  refine s_val hF rfl rfl rfl (e_move hF rfl) ?_; intro a hF
  refine s_val hF rfl rfl rfl (e_move hF rfl) ?_; intro a hF
  refine s_call hF rfl rfl rfl Try.call8 (laws_szIntA6S.calls K l1 u1 (q1.frm hM.frm) 1048576 t2 h3) ?_; intro a w v hF hf hR
  subst hR; have hM := hM.grow hf
  refine s_val hF rfl rfl rfl (e_assign hF rfl) ?_; intro a hF
  refine s_nil ?_
  refine then_n ?_
  refine wp_seq ?_
  refine wp_seq ?_
  refine s_region ?_
  refine s_val hF rfl rfl rfl (e_move hF rfl) ?_; intro a hF
  refine s_val hF rfl rfl rfl (e_lss hF rfl rfl) ?_; intro a hF
  refine s_nil ?_
  refine then_n ?_
  rcases ite_cases H with ⟨c4, H⟩ | ⟨c4, H⟩
  ·
    refine s_cond_t hF rfl (decide_eq_true c4) ?_
    refine wp_seq ?_
    refine s_region ?_
    refine s_val hF rfl rfl rfl (e_assign hF rfl) ?_; intro a hF
    refine s_nil ?_
    refine then_n ?_
    refine wp_ret ?_
    refine then_r ?_
    obtain rfl := some_some H
    refine s_ret [Value.bool true] hF Try.results4 ⟨rfl, trivial⟩ ?_
    exact ⟨_, rfl, hM.frm, rfl⟩
  ·
    refine s_cond_f hF rfl (decide_eq_false c4) ?_
    refine wp_skip ?_
    refine then_n ?_
    refine wp_seq ?_
    obtain ⟨t5, h6, H⟩ := bind_some H
    obtain ⟨t7, h8, H⟩ := bind_some H
    obtain ⟨t10, h11, H⟩ := bind_some H
    refine s_region ?_
    refine s_val hF rfl rfl rfl (e_lda (i := 0) 0 1 hF hM rfl rfl rfl rfl Try.isAgg31 Try.sizeOf31 rfl) ?_; intro a hF
    refine s_call hF rfl rfl rfl Try.call15 (laws_toIntA6.calls K a0 t5 h6) ?_; intro a w v hF hf hR
    subst hR; have hM := hM.grow hf
    refine s_val hF rfl rfl rfl (e_move hF rfl) ?_; intro a hF
    refine s_call hF rfl rfl rfl Try.call10 (laws_toIntA6S.calls K l1 u1 (q1.frm hM.frm) t7 h8) ?_; intro a w v9 hF hf hR
    have hM := hM.fresh hf hR
    refine s_call hF rfl rfl rfl Try.call14 (spec_CompanionOf.calls K t5 t7 v9 (hM.sl 0 rfl) t10 h11) ?_; intro a w v hF hf hR
    subst hR; have hM := hM.grow hf
    refine s_val hF rfl rfl rfl (e_move hF rfl) ?_; intro a hF
    refine s_val hF rfl rfl rfl (e_extract hF rfl rfl) ?_; intro a hF
    refine s_val hF rfl rfl rfl (e_extract hF rfl rfl) ?_; intro a hF
    refine s_alloc (ps := [Pt.ar (Ar.zero 6)]) hF hM rfl rfl zv31 rfl ?_; intro a w b12 hF hM
    refine s_stw (i := 0) (ps' := [Pt.ar t10.1]) hF hM rfl rfl rfl rfl rfl rfl Try.sizeOf31 rfl ?_; intro a w hF hM
    refine s_val hF rfl rfl rfl (e_assign hF rfl) ?_; intro a hF
    refine s_nil ?_
    refine then_n ?_
    refine wp_seq ?_
    obtain ⟨t13, h14, H⟩ := bind_some H
    refine s_region ?_
    refine s_val hF rfl rfl rfl (e_move hF rfl) ?_; intro a hF
    refine s_call hF rfl rfl rfl Try.call10 (laws_toIntA6S.calls K l1 u1 (q1.frm hM.frm) t13 h14) ?_; intro a w v15 hF hf hR
    have hM := hM.fresh hf hR
    refine s_val hF rfl rfl rfl (e_assign hF rfl) ?_; intro a hF
    refine s_nil ?_
    refine then_n ?_
    refine wp_seq ?_
    obtain ⟨t16, h17, H⟩ := bind_some H
    obtain ⟨t18, h19, H⟩ := bind_some H
    refine s_region ?_
    refine s_val hF rfl rfl rfl (e_lda (i := 3) 0 1 hF hM rfl rfl rfl rfl Try.isAgg31 Try.sizeOf31 rfl) ?_; intro a hF
    refine s_call hF rfl rfl rfl Try.call15 (laws_toIntA6.calls K a0 t16 h17) ?_; intro a w v hF hf hR
    subst hR; have hM := hM.grow hf
    refine s_val hF rfl rfl rfl (e_move hF rfl) ?_; intro a hF
    refine s_call hF rfl rfl rfl Try.call16 (impl_CompanionOf.calls K t16 t13 v15 (hM.sl 0 rfl) t18 h19) ?_; intro a w v hF hf hR
    subst hR; have hM := hM.grow hf
    refine s_val hF rfl rfl rfl (e_move hF rfl) ?_; intro a hF
    refine s_val hF rfl rfl rfl (e_extract hF rfl rfl) ?_; intro a hF
    refine s_val hF rfl rfl rfl (e_extract hF rfl rfl) ?_; intro a hF
    refine s_alloc (ps := [Pt.ar (Ar.zero 6)]) hF hM rfl rfl zv31 rfl ?_; intro a w b20 hF hM
    refine s_stw (i := 0) (ps' := [Pt.ar t18.1]) hF hM rfl rfl rfl rfl rfl rfl Try.sizeOf31 rfl ?_; intro a w hF hM
    refine s_val hF rfl rfl rfl (e_assign hF rfl) ?_; intro a hF
    refine s_nil ?_
    refine then_n ?_
    refine wp_seq ?_
    refine wp_seq ?_
    obtain ⟨t21, h22, H⟩ := bind_some H
    rcases ite_cases H with ⟨c23, H⟩ | ⟨c23, H⟩
    ·
      refine s_region ?_
      refine s_val hF rfl rfl rfl (e_lda (i := 0) 0 1 hF hM rfl rfl rfl rfl Try.isAgg31 Try.sizeOf31 rfl) ?_; intro a hF
      refine s_val hF rfl rfl rfl (e_lda (i := 2) 0 1 hF hM rfl rfl rfl rfl Try.isAgg31 Try.sizeOf31 rfl) ?_; intro a hF
      refine s_call hF rfl rfl rfl Try.call17 (laws_eqIntA6.calls K t18.1 t10.1 t21 h22) ?_; intro a w v hF hf hR
      subst hR; have hM := hM.grow hf
      refine s_val hF rfl rfl rfl (e_not hF rfl) ?_; intro a hF
      refine s_val hF rfl rfl rfl (e_move hF rfl) ?_; intro a hF
      have hF := hF.topb (congrArg Bool.not c23)
      refine s_val hF rfl rfl rfl (e_move hF rfl) ?_; intro a hF
      refine s_val hF rfl rfl rfl (e_move hF rfl) ?_; intro a hF
      refine s_val hF rfl rfl rfl (e_bneq hF rfl rfl Try.underlying4) ?_; intro a hF
      refine s_val hF rfl rfl rfl (e_pick_f hF rfl rfl) ?_; intro a hF
      refine s_nil ?_
      refine then_n ?_
      rcases ite_cases H with ⟨c24, H⟩ | ⟨c24, H⟩
      ·
        refine s_cond_f hF rfl (congrArg Bool.not c24) ?_
        refine wp_skip ?_
        refine then_n ?_
        refine wp_seq ?_
        refine wp_seq ?_
        obtain ⟨t25, h26, H⟩ := bind_some H
        obtain ⟨t28, h29, H⟩ := bind_some H
        refine s_region ?_
        refine s_val hF rfl rfl rfl (e_move hF rfl) ?_; intro a hF
        refine s_val hF rfl rfl rfl (e_move hF rfl) ?_; intro a hF
        refine s_call hF rfl rfl rfl Try.call10 (laws_toIntA6S.calls K l1 u1 (q1.frm hM.frm) t25 h26) ?_; intro a w v27 hF hf hR
        have hM := hM.fresh hf hR
        refine s_call hF rfl rfl rfl Try.call13 (laws_eqIntA6S.calls K t13 v15 (hM.sl 2 rfl) t25 v27 (hM.sl 0 rfl) t28 h29) ?_; intro a w v hF hf hR
        subst hR; have hM := hM.grow hf
        refine s_val hF rfl rfl rfl (e_not hF rfl) ?_; intro a hF
        refine s_nil ?_
        refine then_n ?_
        rcases ite_cases H with ⟨c30, H⟩ | ⟨c30, H⟩
        ·
          refine s_cond_f hF rfl (congrArg Bool.not c30) ?_
          refine wp_skip ?_
          refine then_n ?_
          refine wp_seq ?_
          refine s_region ?_
          refine s_val hF rfl rfl rfl (e_assign hF rfl) ?_; intro a hF
          refine s_nil ?_
          refine then_n ?_
          refine wp_ret ?_
          obtain rfl := some_some H
          refine s_ret [Value.bool true] hF Try.results4 ⟨rfl, trivial⟩ ?_
          exact ⟨_, rfl, hM.frm, rfl⟩
        ·
          refine s_cond_t hF rfl (congrArg Bool.not (bf c30)) ?_
          refine wp_seq ?_
          refine s_region ?_
          refine s_val hF rfl rfl rfl (e_assign hF rfl) ?_; intro a hF
          refine s_nil ?_
          refine then_n ?_
          refine wp_ret ?_
          refine then_r ?_
          obtain rfl := some_some H
          refine s_ret [Value.bool false] hF Try.results4 ⟨rfl, trivial⟩ ?_
          exact ⟨_, rfl, hM.frm, rfl⟩
      ·
        refine s_cond_t hF rfl (congrArg Bool.not (bf c24)) ?_
        refine wp_seq ?_
        refine s_region ?_
        refine s_val hF rfl rfl rfl (e_assign hF rfl) ?_; intro a hF
        refine s_nil ?_
        refine then_n ?_
        refine wp_ret ?_
        refine then_r ?_
        obtain rfl := some_some H
        refine s_ret [Value.bool false] hF Try.results4 ⟨rfl, trivial⟩ ?_
        exact ⟨_, rfl, hM.frm, rfl⟩
    ·
      refine s_region ?_
      refine s_val hF rfl rfl rfl (e_lda (i := 0) 0 1 hF hM rfl rfl rfl rfl Try.isAgg31 Try.sizeOf31 rfl) ?_; intro a hF
      refine s_val hF rfl rfl rfl (e_lda (i := 2) 0 1 hF hM rfl rfl rfl rfl Try.isAgg31 Try.sizeOf31 rfl) ?_; intro a hF
      refine s_call hF rfl rfl rfl Try.call17 (laws_eqIntA6.calls K t18.1 t10.1 t21 h22) ?_; intro a w v hF hf hR
      subst hR; have hM := hM.grow hf
      refine s_val hF rfl rfl rfl (e_not hF rfl) ?_; intro a hF
      refine s_val hF rfl rfl rfl (e_move hF rfl) ?_; intro a hF
      have hF := hF.topb (congrArg Bool.not (bf c23))
      refine s_skip hF rfl rfl rfl ?_; intro a hF
      refine s_skip hF rfl rfl rfl ?_; intro a hF
      refine s_skip hF rfl rfl rfl ?_; intro a hF
      refine s_val hF rfl rfl rfl (e_pick_t hF rfl rfl) ?_; intro a hF
      refine s_nil ?_
      refine then_n ?_
      refine s_cond_t hF rfl rfl ?_
      refine wp_seq ?_
      refine s_region ?_
      refine s_val hF rfl rfl rfl (e_assign hF rfl) ?_; intro a hF
      refine s_nil ?_
      refine then_n ?_
      refine wp_ret ?_
      refine then_r ?_
      obtain rfl := some_some H
      refine s_ret [Value.bool false] hF Try.results4 ⟨rfl, trivial⟩ ?_
      exact ⟨_, rfl, hM.frm, rfl⟩

end Go.Proofs.Ytlcogkfjjlclmaa.WCompanionOf
